/- Contracts: impl.square; a number of a row is stored. -/
import Derived.Test.YtglghdkjppcedaaGreatDoorPart6
import Derived.Test.YtglghdkjppcedaaGreatDoorPart2
import Derived.Test.YtglghdkjppcedaaGreatDoorPart4
import Derived.Test.YtglghdkjppcedaaGreatDoorPart3
import Derived.Test.YtglghdkjppcedaaGreatDoorPart5
namespace Go.Proofs.YtglghdkjppcedaaGreatDoor
open Go.RowKit

/-- A number of a row is stored. -/
theorem Rows.setRow {e : TypeId} {w : World} {base g n i gi cap : Nat} {V : Nat → Value} {R : Nat → List Int} (h : Rows e w base g n V R) (hi : i < n) (hV : V i = .slice (some ⟨gi, 0, none⟩) (R i).length cap) (j : Nat) (x : Int) :
    Rows e (w.setCell ⟨gi, j, none⟩ (.int .i64 x)) base g n V (upd R i ((R i).set j x)) := by
  have hob : (V i).ownBlock = some gi := by rw [hV]; rfl
  have hne : gi ≠ g := fun e1 => h.self i hi (by rw [hob, e1])
  have hrow : Own e w base (.slice (some ⟨gi, 0, none⟩) (R i).length cap) (R i) := hV ▸ h.row i hi
  refine ⟨h.lo, by simpa using h.lt, fun a ha => ?_, fun a => ?_, fun a ha => ?_, h.apart, h.self⟩
  · rw [World.cell?_setCell_other _ _ _ _ (by intro e1; injection e1 with e2; exact hne e2)]; exact h.cell a ha
  · rw [World.frozen?_setCell]; exact h.free a
  · by_cases e1 : a = i
    · subst e1
      rw [upd_at]
      have := hrow.set j x
      rw [← hV] at this
      exact this
    · rw [upd_ne _ _ e1]
      exact (h.row a ha).other (fun k hk e2 => h.apart a i ha hi e1 k hk (by rw [hob, e2])) j _
/-- Where a row that is not empty lies. -/
theorem Rows.pos {e : TypeId} {w : World} {base g n i : Nat} {V : Nat → Value} {R : Nat → List Int} (h : Rows e w base g n V R) (hi : i < n) (hp : 0 < (R i).length) :
    ∃ gi cap, V i = .slice (some ⟨gi, 0, none⟩) (R i).length cap ∧ base ≤ gi ∧ gi < w.heap.size ∧ (R i).length ≤ cap ∧ cap ≤ 9223372036854775807 := Own.pos (h.row i hi) hp

def zeroL (n : Nat) : List Int := List.replicate n 0
@[simp] theorem zeroL_len (n : Nat) : (zeroL n).length = n := by simp [zeroL]
theorem gI_zeroL (n i : Nat) : gI (zeroL n) i = 0 := by
  by_cases h : i < n
  · exact gI_rep h
  · simp [zeroL, gI, List.getD, List.getElem?_eq_none (show (List.replicate n (0 : Int)).length ≤ i by simp; omega)]
theorem own_made {e : TypeId} {w : World} {base n g : Nat} (h : w.ownsRow base e 1 (.slice (some ⟨g, 0, none⟩) n n) n (List.replicate n (.int .i64 0))) : Own e w base (.slice (some ⟨g, 0, none⟩) n n) (zeroL n) := by
  unfold Own zeroL
  rw [List.length_replicate, List.map_replicate]
  exact h

set_option maxHeartbeats 1000000 in
theorem square_c (n : Nat) (w : World) (h0 : 0 < n) (hn : n ≤ 1000) :
    Calls Tryz.prog 72 #[.int .i64 (n : Int)] w (RetR w n (fun _ => zeroL n)) := by
  obtain ⟨i0, hi, hz0, hz1, hz2⟩ := info_parts Tryz.infoI
  obtain ⟨j0, ji, jz0, jz1, jz2⟩ := info_parts Tryz.infoII
  go_enter Tryz.func72, Tryz.ntmps72
  go_wp2_with (at_make; refine wpList_make_full _ rfl (.tmp 5) (.tmp 5) 35 rfl w.heap.size 24 j0 (.slice none 0 0) 1 Tryz.underlying35 ji jz0 jz1 _ _ _ _ n rfl rfl rfl rfl ?c1 ?c2 ?c3 ?_)
  case c1 => rw [jz2]; omega
  case c2 => unfold maxLen; omega
  case c3 => simp
  intro w1 hown hgrow
  have hb1 : Below w.heap.size w w1 := (Below.refl _ _).grown hgrow (Nat.le_refl _) (by simp)
  have hR : Rows 2 w1 w.heap.size w.heap.size n (fun _ => .slice none 0 0) (fun _ => []) := by
    rw [toList_madeCells_one] at hown
    exact Rows.made hown (Nat.le_refl _) ((World.ownsRow.lt hown) _ rfl).2
  clear hown hgrow
  go_wp2
  go_loopw [4, 9] (fun _ i wr => ∃ k : Nat, ∃ V, k ≤ n ∧ i = .int .i64 k ∧ Rows 2 wr w.heap.size w.heap.size n V (fun i => if i < k then zeroL n else []) ∧ Below w.heap.size w wr) (fun _ i _ => n - (intOf i).toNat)
  case atStart => exact ⟨0, _, Nat.zero_le _, rfl, hR.congr (fun i _ => by simp), hb1⟩
  case round =>
    obtain ⟨k, V, hk, rfl, hrow, hbl⟩ := hrel
    clear hR hb1
    obtain ⟨wo, rfl⟩ : ∃ wo : World, wo = wr := ⟨_, rfl⟩
    by_cases hlt : k < n
    · have hgl := hrow.lt
      go_wp2_with (at_make; refine wpList_make_full _ rfl (.tmp 14) (.tmp 14) 24 rfl w.heap.size 2 i0 (.int .i64 0) 1 Tryz.underlying24 hi hz0 hz1 _ _ _ _ n rfl rfl rfl rfl ?c1 ?c2 ?c3 ?_)
      case c1 => rw [hz2]; omega
      case c2 => unfold maxLen; omega
      case c3 => exact hbl.size
      intro w2 hown2 hgrow2
      have hk2 : Keeps (fun b => (V k).ownBlock = some b) wo w2 := (Keeps.of_grown hgrow2).mono (fun b hb => by simp at hb)
      have hb2 : Below wo.heap.size wo w2 := (Below.refl _ _).grown hgrow2 (Nat.le_refl _) (by simp)
      rw [toList_madeCells_one] at hown2
      have ho2 := own_made hown2
      have hput := hrow.put hlt ho2 hk2 (.inr (Nat.le_refl _))
      have hfin := hput.congr (R' := fun i => if i < k + 1 then zeroL n else []) (fun i _ => by
        unfold upd
        by_cases e : i = k
        · subst e; simp
        · simp only [e, if_false]
          by_cases e2 : i < k
          · rw [if_pos e2, if_pos (by omega)]
          · rw [if_neg e2, if_neg (by omega)])
      have dc := (hrow.below hb2).cell k hlt
      have df := (hrow.below hb2).free k
      have hbl2 := (below_step hbl hb2).setCell (p := ⟨w.heap.size, k, none⟩) (Nat.le_refl _) (.slice (some ⟨wo.heap.size, 0, none⟩) n n)
      clear hown2 hgrow2 hput ho2 hk2 hb2
      go_wp2
      go_roundw
      case rel => exact ⟨k + 1, _, by omega, by go_num, hfin, hbl2⟩
      case measure => simp [intOf]; omega
    · go_wp2
      have hk' : k = n := by omega
      subst hk'
      go_ret
      exact ⟨_, _, rfl, hrow.congr (fun i hi => by simp [hi]), hbl⟩
end Go.Proofs.YtglghdkjppcedaaGreatDoor

/- Contracts of the laws' own helpers on lists of lists: comparison, marks. -/
namespace Go.Proofs.YtglghdkjppcedaaGreatDoor
open Go.RowKit

/-- What the marks have turned: the first j rows are marked. -/
def markTo (k : Int) (R : List (List Int)) (j : Nat) : List (List Int) := (List.range R.length).map fun i => if i < j then iotaI (k + totR R i) (gR R i).length else gR R i
@[simp] theorem markTo_len (k : Int) (R : List (List Int)) (j : Nat) : (markTo k R j).length = R.length := by simp [markTo]
end Go.Proofs.YtglghdkjppcedaaGreatDoor

/- Contracts: the proximity matrix. -/
namespace Go.Proofs.YtglghdkjppcedaaGreatDoor
open Go.RowKit

/-- The row i of the proximity matrix. -/
def pmRow (P S : List Int) (n i : Nat) : List Int := (List.range n).map fun j => if j = i then 1 else if nearB P S i (j : Int) then -1 else 0
@[simp] theorem pmRow_len (P S : List Int) (n i : Nat) : (pmRow P S n i).length = n := by simp [pmRow]
theorem gI_pmRow {P S : List Int} {n i j : Nat} (h : j < n) : gI (pmRow P S n i) j = if j = i then 1 else if nearB P S i (j : Int) then -1 else 0 := by rw [gI_lt (by simpa using h)]; simp [pmRow]
/-- y put at the first m places of a row. -/
def putTo (row : List Int) (y : Int) (L : List Int) : Nat → List Int
  | 0 => L
  | m + 1 => (putTo row y L m).set (gI row m).toNat y
theorem putTo_succ (row : List Int) (y : Int) (L : List Int) (m : Nat) : putTo row y L (m + 1) = (putTo row y L m).set (gI row m).toNat y := rfl
@[simp] theorem putTo_len (row : List Int) (y : Int) (L : List Int) (m : Nat) : (putTo row y L m).length = L.length := by
  induction m with
  | zero => rfl
  | succ m ih => rw [putTo_succ, List.length_set, ih]
theorem pm_all {P S W : List Int} (hc : CluOk P S W) {k : Nat} (hk : k < P.length) : putTo (proxOf P S k) (-1) ((zeroL P.length).set k 1) (proxOf P S k).length = pmRow P S P.length k := by
  apply gI_ext (by simp)
  intro j hj
  have hj' : j < P.length := by simpa using hj
  rw [gI_pmRow hj']
  by_cases h0 : k = 0
  · subst h0
    have hz := clu_zero hc
    have hn : ¬ nearB P S 0 (j : Int) = true := by rw [nearB_iff]; omega
    rw [if_neg hn]
    simp only [proxOf, if_pos, List.length_nil, putTo]
    rw [gI_set, zeroL_len, gI_zeroL]
    by_cases e : j = 0
    · subst e; rw [if_pos ⟨rfl, hk⟩]; simp
    · rw [if_neg (fun h => e h.1.symm), if_neg e]
  · obtain ⟨h1, h2, h3⟩ := clu_place hc hk (by omega)
    have e : proxOf P S k = secL S k ++ [gI P k] := by unfold proxOf; rw [if_neg h0]
    rw [e]
    by_cases hs : 0 ≤ gI S k
    · rw [secL_yes hs]
      show gI ((((zeroL P.length).set k 1).set (gI S k).toNat (-1)).set (gI P k).toNat (-1)) j = _
      rw [gI_set, gI_set, gI_set, List.length_set, List.length_set, zeroL_len, gI_zeroL]
      by_cases e1 : j = k
      · rw [if_pos e1, if_neg (by omega), if_neg (by omega), if_pos (by omega)]
      · rw [if_neg e1]
        by_cases e2 : nearB P S k (j : Int) = true
        · rw [if_pos e2]
          have := (nearB_iff.1 e2).2
          by_cases e3 : (gI P k).toNat = j
          · rw [if_pos (by omega)]
          · rw [if_neg (by omega), if_pos (by omega)]
        · rw [if_neg e2]
          rw [nearB_iff] at e2
          rw [if_neg (by omega), if_neg (by omega), if_neg (by omega)]
    · rw [secL_no hs]
      show gI (((zeroL P.length).set k 1).set (gI P k).toNat (-1)) j = _
      rw [gI_set, gI_set, List.length_set, zeroL_len, gI_zeroL]
      by_cases e1 : j = k
      · rw [if_pos e1, if_neg (by omega), if_pos (by omega)]
      · rw [if_neg e1]
        by_cases e2 : nearB P S k (j : Int) = true
        · rw [if_pos e2]
          have := (nearB_iff.1 e2).2
          rw [if_pos (by omega)]
        · rw [if_neg e2]
          rw [nearB_iff] at e2
          rw [if_neg (by omega), if_neg (by omega)]

theorem Rows.keeps {e : TypeId} {w w' : World} {base g n : Nat} {V : Nat → Value} {R : Nat → List Int} {M : Nat → Prop} (h : Rows e w base g n V R) (hk : Keeps M w w') (hn : ∀ b, base ≤ b → ¬ M b) : Rows e w' base g n V R :=
  ⟨h.lo, Nat.lt_of_lt_of_le h.lt hk.size, fun i hi => by rw [hk.cell (p := ⟨g, i, none⟩) h.lt (hn g h.lo)]; exact h.cell i hi, fun i => by rw [hk.frozen (p := ⟨g, i, none⟩) h.lt (hn g h.lo)]; exact h.free i,
    fun i hi => (h.row i hi).keeps hk (fun k hk' => hn k ((h.row i hi).block k hk').1), h.apart, h.self⟩

set_option maxRecDepth 100000 in
set_option maxHeartbeats 2000000 in
theorem proximityMatrix_c (p s q : Value) (P S W : List Int) (w : World) (hp : Rd w p P) (hs : Rd w s S) (hq : Rd w q W) (hc : CluOk P S W) :
    Calls Tryz.prog 71 #[.agg #[p, s, q]] w (RetR w P.length (pmRow P S P.length)) := by
  have hx := Boxed.start w 26 #[p, s, q]
  obtain ⟨a1, k1, rfl⟩ := hp.len0
  have h0 := hc.1.1
  have h24 := hc.1.2.1
  have hcl1 := Lib.hid (show S.length = P.length from hc.1.2.2.1)
  have HC := Lib.hid hc
  clear hc
  have c0 := hx.cell 0
  go_enter Tryz.func71, Tryz.ntmps71
  go_wp2_with fail
  refine (square_c P.length _ h0 (by omega)).mono ?_
  rintro e w1 ⟨g, V, rfl, hR, hb⟩
  have hx1 := hx.trans hb
  have hs1 : w.heap.size + 1 ≤ w1.heap.size := hx1.size
  have hR := hR.base_le (base' := w.heap.size + 1) (Nat.le_of_eq (by simp))
  clear c0
  have c0 := hx1.cell 0
  have c1 := hx1.cell 1
  have c2 := hx1.cell 2
  go_wp2_with fail
  refine (clusterProximates_c _ _ _ P S W _ (hx1.rd hp) (hx1.rd hs) (hx1.rd hq) hcl1.out h0 h24).mono ?_
  rintro e w2 ⟨g2, V2, rfl, hR2, hb2⟩
  have hx2 := hx1.trans hb2
  have hR3 := hR.below hb2
  have hs2 : w1.heap.size ≤ w2.heap.size := hb2.size
  have hlt1 := hR.lt
  have hub : ∀ i, i < P.length → ∀ k, (V i).ownBlock = some k → w.heap.size + 1 ≤ k ∧ k < w1.heap.size := fun i hi k hk => (hR.row i hi).block k hk
  have hpos : ∀ i, i < P.length → ∃ gi cap, V i = .slice (some ⟨gi, 0, none⟩) P.length cap := fun i hi => by
    obtain ⟨gi, cap, e1, _⟩ := hR.pos hi (by simp; omega)
    exact ⟨gi, cap, by simpa using e1⟩
  clear c0 c1 c2 hR
  go_wp2_with fail
  go_loopw [4, 5, 7, 15, 28] (fun _ _ _ i _ wr => ∃ k : Nat, k ≤ P.length ∧ i = .int .i64 k ∧ Rows 2 wr (w.heap.size + 1) g P.length V (fun i => if i < k then pmRow P S P.length i else zeroL P.length) ∧ Keeps (fun b => w.heap.size + 1 ≤ b ∧ b < w1.heap.size) w2 wr) (fun _ _ _ i _ _ => P.length - (intOf i).toNat)
  case atStart => exact ⟨0, Nat.zero_le _, rfl, hR3.congr (fun i _ => by simp), Keeps.refl _ _⟩
  case round =>
    obtain ⟨k, hk, rfl, hrow, hkp⟩ := hrel
    clear hR3
    obtain ⟨wo, rfl⟩ : ∃ wo : World, wo = wr := ⟨_, rfl⟩
    have hR4 := hR2.keeps hkp (fun b hb h => by omega)
    by_cases hlt : k < P.length
    · have d13 := hR4.cell k hlt
      have d3 := hrow.cell k hlt
      obtain ⟨gk, ck, hVk⟩ := hpos k hlt
      have hV' : V k = .slice (some ⟨gk, 0, none⟩) ((fun i => if i < k then pmRow P S P.length i else zeroL P.length) k).length ck := by simpa using hVk
      have hset := hrow.setRow hlt hV' k 1
      have hrk := hrow.row k hlt
      rw [if_neg (by omega), hVk] at hrk
      have hrk' : OwnI wo (w.heap.size + 1) (.slice (some ⟨gk, 0, none⟩) (zeroL P.length).length ck) (zeroL P.length) := by simpa using hrk
      have cz := hrk'.cell k (by simpa using hlt)
      rw [gI_zeroL] at cz
      have fz := hrk'.free k
      have hgk := hub k hlt gk (by rw [hVk]; rfl)
      have hkp2 := hkp.setCell (p := ⟨gk, k, none⟩) hgk (.int .i64 1)
      have hrowp := (hR4.row k hlt).rd
      have hkl : (k : Int) < (P.length : Int) := by omega
      rw [hVk] at d3
      obtain ⟨ar, kr, hV2, hr1, hr2, hrr⟩ := hrowp
      have hbnd : ∀ m, m < (proxOf P S k).length → 0 ≤ gI (proxOf P S k) m ∧ gI (proxOf P S k) m < (P.length : Int) := by
        have ha := exOk_clu HC.out (show (zeroL P.length).length = P.length by simp) (fun i hi => by rw [gI_zeroL]; omega)
        intro m hm
        have := ha.row k (by rw [prox_len]; exact hlt) m (by rw [prox_row hlt]; exact hm)
        rw [prox_row hlt] at this
        simpa using this
      have hin : Rows 2 (wo.setCell ⟨gk, k, none⟩ (.int .i64 1)) (w.heap.size + 1) g P.length V (upd (fun i => if i < k then pmRow P S P.length i else zeroL P.length) k (putTo (proxOf P S k) (-1) ((zeroL P.length).set k 1) 0)) := by
        refine hset.congr (fun i _ => ?_)
        unfold upd
        split
        · simp [putTo]
        · rfl
      rw [hV2] at d13
      clear hset hrk hrk' hV' hR4
      have HI := Lib.hid hin
      clear hin
      go_wp2_with fail
      go_loopw [7, 28] (fun _ i wr => ∃ m : Nat, m ≤ (proxOf P S k).length ∧ i = .int .i64 m ∧ Rows 2 wr (w.heap.size + 1) g P.length V (upd (fun i => if i < k then pmRow P S P.length i else zeroL P.length) k (putTo (proxOf P S k) (-1) ((zeroL P.length).set k 1) m)) ∧ Keeps (fun b => w.heap.size + 1 ≤ b ∧ b < w1.heap.size) w2 wr) (fun _ i _ => (proxOf P S k).length - (intOf i).toNat)
      case atStart => exact ⟨0, Nat.zero_le _, rfl, HI.out, hkp2⟩
      case round =>
        obtain ⟨m, hm, rfl, hrow3, hkp3⟩ := hrel
        clear HI hkp2 cz fz d13 d3
        obtain ⟨wq, rfl⟩ : ∃ wq : World, wq = wr := ⟨_, rfl⟩
        by_cases hmt : m < (proxOf P S k).length
        · have hR5 := hR2.keeps hkp3 (fun b hb h => by omega)
          obtain ⟨gp, cp, hV3, hgp0, hgp1, _, _⟩ := hR2.pos hlt (by omega)
          rw [hV2] at hV3
          injection hV3 with hV4 hV5 hV6
          subst hV4 hV6
          clear hV5
          have hrow5 := hR5.row k hlt
          rw [hV2] at hrow5
          have hc2 := Own.cell hrow5 m hmt
          have d3 := hrow3.cell k hlt
          rw [hVk] at d3
          have hxr := hbnd m hmt
          have hV' : V k = .slice (some ⟨gk, 0, none⟩) ((upd (fun i => if i < k then pmRow P S P.length i else zeroL P.length) k (putTo (proxOf P S k) (-1) ((zeroL P.length).set k 1) m)) k).length ck := by rw [upd_at]; simpa using hVk
          have hset := hrow3.setRow hlt hV' (gI (proxOf P S k) m).toNat (-1)
          have hrk := hrow3.row k hlt
          rw [upd_at, hVk] at hrk
          have hrk' : OwnI wq (w.heap.size + 1) (.slice (some ⟨gk, 0, none⟩) (putTo (proxOf P S k) (-1) ((zeroL P.length).set k 1) m).length ck) (putTo (proxOf P S k) (-1) ((zeroL P.length).set k 1) m) := by simpa using hrk
          have cz := hrk'.cell (gI (proxOf P S k) m).toNat (by simp; omega)
          have fz := hrk'.free (gI (proxOf P S k) m).toNat
          have hkp4 := hkp3.setCell (p := ⟨gk, (gI (proxOf P S k) m).toNat, none⟩) hgk (.int .i64 (-1))
          have hin := hset.congr (R' := upd (fun i => if i < k then pmRow P S P.length i else zeroL P.length) k (putTo (proxOf P S k) (-1) ((zeroL P.length).set k 1) (m + 1))) (fun i _ => by
            unfold upd
            split
            · simp [putTo]
            · rfl)
          have HI := Lib.hid hin
          have HK := Lib.hid hkp4
          clear hset hrk hrk' hV' hR5 hin hkp4 hrow5 hrow3 hkp3 hrr
          generalize gI (proxOf P S k) m = x at hc2 hxr cz fz HI HK
          generalize gI (putTo (proxOf P S k) (-1) ((zeroL P.length).set k 1) m) x.toNat = y at cz
          obtain ⟨hx0, hx1'⟩ := hxr
          go_wp2
          go_roundw
          case rel => exact ⟨m + 1, by omega, by go_num, HI.out, HK.out⟩
          case measure => simp [intOf]; omega
        · have hm' : m = (proxOf P S k).length := by omega
          subst hm'
          have hfin := hrow3.congr (R' := fun i => if i < k + 1 then pmRow P S P.length i else zeroL P.length) (fun i hi => by
            unfold upd
            by_cases e : i = k
            · subst e; rw [if_pos rfl, if_pos (by omega)]; exact pm_all HC.out hi
            · rw [if_neg e]
              show (if i < k then pmRow P S P.length i else zeroL P.length) = _
              by_cases e2 : i < k
              · rw [if_pos e2, if_pos (by omega)]
              · rw [if_neg e2, if_neg (by omega)])
          go_wp2
          go_roundw
          case rel => exact ⟨k + 1, by omega, by go_num, hfin, hkp3⟩
          case measure => simp [intOf]; omega
    · go_wp2
      have hk' : k = P.length := by omega
      subst hk'
      go_ret
      exact ⟨_, _, rfl, (hrow.congr (fun i hi => by simp [hi])).base_le (by omega), hx2.below.trans (hkp.below (by omega) (fun k hk => by omega))⟩
end Go.Proofs.YtglghdkjppcedaaGreatDoor

/- Contracts: spec.l07Prox: the reference's proximity matrix. -/
namespace Go.Proofs.YtglghdkjppcedaaGreatDoor
open Go.RowKit

/-- A row of the reference: the first k places are done. -/
def prTo (P S : List Int) (n i k : Nat) : List Int := (List.range n).map fun j => if j < k ∧ nearB P S i (j : Int) = true then -1 else 0
@[simp] theorem prTo_len (P S : List Int) (n i k : Nat) : (prTo P S n i k).length = n := by simp [prTo]
end Go.Proofs.YtglghdkjppcedaaGreatDoor

/- Contracts: ProximityMatrix. -/
namespace Go.Proofs.YtglghdkjppcedaaGreatDoor
open Go.RowKit

theorem retM_of_rows {w w' : World} {n : Nat} {R : Nat → List Int} {e : Ending} (hn : n ≤ 1000000) (h : RetR w n R e w') : RetM 2 w ((List.range n).map R) e w' := by
  obtain ⟨g, V, rfl, hr, hb⟩ := h
  have := OwnM.of_rows (cap := n) hr (Nat.le_refl _) (by omega)
  exact retM_mk this hb
/-- The proximity matrix. -/
def pmL (P S : List Int) : List (List Int) := (List.range P.length).map (pmRow P S P.length)
end Go.Proofs.YtglghdkjppcedaaGreatDoor

/- What the laws on clusters say of the proximity matrix, its inverse, excesses and orders. No program in sight. -/
namespace Go.Proofs.YtglghdkjppcedaaGreatDoor
open Go.RowKit

/-- A number of the proximity matrix. -/
theorem pm_nB {P S W : List Int} (hc : CluOk P S W) {i j : Nat} (hi : i < P.length) (hj : j < P.length) : gI (pmRow P S P.length i) j = (if j = i then 1 else 0) - nB P S i j := by
  rw [gI_pmRow hj]
  by_cases e : j = i
  · subst e
    rw [nB_ge hc hi (Nat.le_refl j), if_pos rfl, if_pos rfl]; rfl
  · rw [if_neg e, if_neg e]
    unfold nB
    split <;> rfl
/-- A row of the proximity matrix times a list. -/
theorem pm_row {P S W : List Int} (hc : CluOk P S W) {i : Nat} (hi : i < P.length) (f : Nat → Int) : sumTo (fun j => gI (pmRow P S P.length i) j * f j) P.length = f i - sumTo (fun q => nB P S i q * f q) P.length := by
  rw [sumTo_congr (g := fun j => (if j = i then 1 else 0) * f j - nB P S i j * f j) (fun j hj => by rw [pm_nB hc hi hj, Int.sub_mul]), sumTo_sub, sumTo_unit, if_pos hi]
/-- A column. -/
theorem pm_col {P S W : List Int} (hc : CluOk P S W) {i : Nat} (hi : i < P.length) (f : Nat → Int) : sumTo (fun j => gI (pmRow P S P.length j) i * f j) P.length = exF P S f i := by
  rw [sumTo_congr (g := fun j => (if j = i then 1 else 0) * f j - nB P S j i * f j) (fun j hj => by
    rw [pm_nB hc hj hi, Int.sub_mul]
    by_cases e : j = i
    · subst e; rfl
    · rw [if_neg e, if_neg (fun h => e h.symm)]), sumTo_sub, sumTo_unit, if_pos hi]
  rfl
theorem mI_eq {P S W : List Int} (hc : CluOk P S W) {i : Nat} (hi : i < P.length) (k : Nat) : mI P S i k = (if i = k then 1 else 0) + sumTo (fun q => nB P S i q * mI P S q k) P.length := ordF_eq hc _ hi
/-- Orders are led back to weights. -/
theorem pm_ord {P S W : List Int} (hc : CluOk P S W) {i : Nat} (hi : i < P.length) (A : Nat → Int) : sumTo (fun k => gI (pmRow P S P.length i) k * gI (ordTo A P S P.length) k) P.length = A i := by
  have h := ordF_eq hc A hi
  rw [pm_row hc hi]
  show ordF P S A i - _ = _
  rw [h]
  show A i + sumTo (fun q => nB P S i q * ordF P S A q) P.length - sumTo (fun q => nB P S i q * ordF P S A q) P.length = A i
  omega
theorem exF_add (P S : List Int) (A B : Nat → Int) (p : Nat) : exF P S (fun j => A j + B j) p = exF P S A p + exF P S B p := by
  unfold exF
  show A p + B p - _ = _
  rw [sumTo_congr (g := fun j => nB P S j p * A j + nB P S j p * B j) (fun j _ => by rw [Int.mul_add]), sumTo_add]
  omega
theorem exF_sum (P S : List Int) (G : Nat → Nat → Int) (p m : Nat) : exF P S (fun j => sumTo (fun x => G x j) m) p = sumTo (fun x => exF P S (G x) p) m := by
  induction m with
  | zero => simp [exF, sumTo, sumTo_const_zero]
  | succ m ih => rw [sumTo_succ, ← ih]; exact exF_add P S (fun j => sumTo (fun x => G x j) m) (G m) p
theorem exF_mul (P S : List Int) (c : Int) (A : Nat → Int) (p : Nat) : exF P S (fun j => c * A j) p = c * exF P S A p := by
  unfold exF
  show c * A p - _ = _
  rw [sumTo_congr (g := fun j => c * (nB P S j p * A j)) (fun j _ => by rw [Int.mul_left_comm]), sumTo_mul, Int.mul_sub]
theorem exF_unit {P S W : List Int} (_ : CluOk P S W) {i : Nat} (hi : i < P.length) (p : Nat) : exF P S (fun j => if j = i then 1 else 0) p = (if p = i then 1 else 0) - nB P S i p := by
  unfold exF
  rw [sumTo_congr (g := fun j => (if j = i then 1 else 0) * nB P S j p) (fun j _ => Int.mul_comm _ _), sumTo_unit, if_pos hi]
/-- A row of the inverse has one excess. -/
theorem ex_mI {P S W : List Int} (hc : CluOk P S W) {p : Nat} (hp : p < P.length) : ∀ i, i < P.length → exF P S (mI P S i) p = if p = i then 1 else 0 := by
  refine clu_induct hc fun i hi ih => ?_
  have e1 : exF P S (mI P S i) p = exF P S (fun j => (if j = i then 1 else 0) + sumTo (fun q => nB P S i q * mI P S q j) P.length) p := exF_congr (fun j _ => by
    rw [mI_eq hc hi]
    by_cases e : i = j
    · rw [if_pos e, if_pos e.symm]
    · rw [if_neg e, if_neg (fun h => e h.symm)]) hp
  rw [e1, exF_add, exF_unit hc hi, exF_sum]
  have e2 : sumTo (fun x => exF P S (fun j => nB P S i x * mI P S x j) p) P.length = nB P S i p := by
    rw [sumTo_congr (g := fun x => (if x = p then 1 else 0) * nB P S i x) (fun x hx => by
      rw [exF_mul]
      by_cases e : nB P S i x = 0
      · rw [e]; simp
      · have hxi : x < i := by
          by_cases h : x < i
          · exact h
          · exact absurd (nB_ge hc hi (by omega)) e
        rw [ih x hxi e, Int.mul_comm]
        by_cases e3 : p = x
        · rw [if_pos e3, if_pos e3.symm]
        · rw [if_neg e3, if_neg (fun h => e3 h.symm)]), sumTo_unit, if_pos hp]
  rw [e2]; omega
/-- The weights with some excesses have these. -/
theorem exL_lin {P S W E : List Int} (hc : CluOk P S W) (hl : E.length = P.length) : exTo (proxL P S) (linTo P S E P.length) P.length = E := by
  show exL P S (linTo P S E P.length) = _
  apply gI_ext (by rw [exL_len]; simp [hl])
  intro p hp
  have hp' : p < P.length := by rw [exL_len] at hp; simpa using hp
  rw [exL_at hc (by simp) hp', exF_congr (B := fun k => sumTo (fun x => gI E x * mI P S x k) P.length) (fun j hj => gI_linTo hj) hp', exF_sum,
    sumTo_congr (g := fun x => (if x = p then 1 else 0) * gI E x) (fun x hx => by
      rw [exF_mul, ex_mI hc hp' x hx, Int.mul_comm]
      by_cases e3 : p = x
      · rw [if_pos e3, if_pos e3.symm]
      · rw [if_neg e3, if_neg (fun h => e3 h.symm)]), sumTo_unit, if_pos hp']
/-- An order is a product with the simple cluster's weights. -/
theorem ord_dot {P S W : List Int} (hc : CluOk P S W) (A : Nat → Int) : ∀ i, i < P.length → ordF P S A i = sumTo (fun j => A j * mI P S i j) P.length := by
  refine clu_induct hc fun i hi ih => ?_
  have e1 : sumTo (fun j => A j * mI P S i j) P.length = A i + sumTo (fun j => A j * sumTo (fun q => nB P S i q * mI P S q j) P.length) P.length := by
    rw [sumTo_congr (g := fun j => (if j = i then 1 else 0) * A j + A j * sumTo (fun q => nB P S i q * mI P S q j) P.length) (fun j _ => by
      show A j * mI P S i j = (if j = i then 1 else 0) * A j + A j * sumTo (fun q => nB P S i q * mI P S q j) P.length
      rw [mI_eq hc hi, Int.mul_add]
      by_cases e : i = j
      · rw [if_pos e, if_pos e.symm]; omega
      · rw [if_neg e, if_neg (fun h => e h.symm)]; omega), sumTo_add, sumTo_unit, if_pos hi]
  have e2 : sumTo (fun q => nB P S i q * ordF P S A q) P.length = sumTo (fun q => sumTo (fun j => A j * (nB P S i q * mI P S q j)) P.length) P.length := sumTo_congr fun q hq => by
    by_cases e : nB P S i q = 0
    · rw [e, sumTo_const_zero (fun j _ => by simp)]; simp
    · have hxi : q < i := by
        by_cases h : q < i
        · exact h
        · exact absurd (nB_ge hc hi (by omega)) e
      rw [ih q hxi e, ← sumTo_mul]
      exact sumTo_congr fun j _ => by rw [Int.mul_left_comm]
  have e3 : sumTo (fun j => A j * sumTo (fun q => nB P S i q * mI P S q j) P.length) P.length = sumTo (fun j => sumTo (fun q => A j * (nB P S i q * mI P S q j)) P.length) P.length := sumTo_congr fun j _ => by rw [sumTo_mul]
  rw [ordF_eq hc A hi, e1, e2, e3, sumTo_swap]
end Go.Proofs.YtglghdkjppcedaaGreatDoor
