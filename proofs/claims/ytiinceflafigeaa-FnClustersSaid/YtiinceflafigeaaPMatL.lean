/- Contracts of the laws' own helpers on lists of lists: comparison, marks. -/
import Derived.Test.YtiinceflafigeaaMatL
import Derived.Test.YtiinceflafigeaaHelpB
import Derived.Test.YtiinceflafigeaaSq
import Derived.Test.YtiinceflafigeaaNear
import Derived.Test.YtiinceflafigeaaSimPure
namespace Go.Proofs.Ytiinceflafigeaa
open Go.RowKit

/-- What the marks have turned: the first j rows are marked. -/
def markTo (k : Int) (R : List (List Int)) (j : Nat) : List (List Int) := (List.range R.length).map fun i => if i < j then iotaI (k + totR R i) (gR R i).length else gR R i
@[simp] theorem markTo_len (k : Int) (R : List (List Int)) (j : Nat) : (markTo k R j).length = R.length := by simp [markTo]
theorem gR_markTo {k : Int} {R : List (List Int)} {j i : Nat} (h : i < R.length) : gR (markTo k R j) i = if i < j then iotaI (k + totR R i) (gR R i).length else gR R i := gR_map h
theorem markTo_zero (k : Int) (R : List (List Int)) : markTo k R 0 = R := gR_ext (by simp) (fun i hi => by rw [gR_markTo (by simpa using hi), if_neg (by omega)])
theorem markTo_all (k : Int) (R : List (List Int)) : markTo k R R.length = iotaR k R := gR_ext (by simp) (fun i hi => by rw [gR_markTo (by simpa using hi), if_pos (by simpa using hi), gR_iotaR (by simpa using hi)])

/-- A row is marked. -/
theorem OwnM.mark {e : TypeId} {w w' : World} {base : Nat} {v : Value} {V : Nat → Value} {k : Int} {R : List (List Int)} {j : Nat} (h : OwnM e w base v V (markTo k R j)) (hj : j < R.length)
    (ho : Own e w' base (V j) (iotaI (k + totR R j) (gR R j).length)) (hk : Keeps (fun b => (V j).ownBlock = some b) w w') : OwnM e w' base v V (markTo k R (j + 1)) := by
  refine ⟨?_, fun i hi => ?_, fun i i' hi hi' => h.apart i i' (by simpa using hi) (by simpa using hi'), fun i hi => h.self i (by simpa using hi)⟩
  · rcases h.shape with ⟨h1, h2⟩ | ⟨g, cap, h1, h2, h3, h4, h5, h6⟩
    · have := congrArg List.length h2; rw [markTo_len, List.length_nil] at this; omega
    · refine .inr ⟨g, cap, by rw [h1]; simp, h2, Nat.lt_of_lt_of_le h3 hk.size, by simpa using h4, h5, fun i hi => ?_⟩
      rw [hk.cell (p := ⟨g, i, none⟩) h3 (fun hb => by have := h.self j (by simpa using hj) g hb; rw [h1] at this; exact this rfl)]
      exact h6 i (by simpa using hi)
  · have hi' : i < R.length := by simpa using hi
    by_cases e1 : i = j
    · subst e1
      rw [gR_markTo hi', if_pos (by omega)]
      exact ho
    · have := (h.row i (by simpa using hi')).keeps hk (fun g h1 h2 => h.apart i j (by simpa using hi') (by simpa using hj) e1 g h1 h2)
      rw [gR_markTo hi'] at this ⊢
      by_cases e2 : i < j
      · rw [if_pos e2] at this; rw [if_pos (by omega)]; exact this
      · rw [if_neg e2] at this; rw [if_neg (by omega)]; exact this

end Go.Proofs.Ytiinceflafigeaa

/- Contracts: the proximity matrix. -/
namespace Go.Proofs.Ytiinceflafigeaa
open Go.RowKit

/-- The row i of the proximity matrix. -/
def pmRow (P S : List Int) (n i : Nat) : List Int := (List.range n).map fun j => if j = i then 1 else if nearB P S i (j : Int) then -1 else 0
@[simp] theorem pmRow_len (P S : List Int) (n i : Nat) : (pmRow P S n i).length = n := by simp [pmRow]
theorem gI_pmRow {P S : List Int} {n i j : Nat} (h : j < n) : gI (pmRow P S n i) j = if j = i then 1 else if nearB P S i (j : Int) then -1 else 0 := by rw [gI_lt (by simpa using h)]; simp [pmRow]
/-- y put at the first m places of a row. -/
def putTo (row : List Int) (y : Int) (L : List Int) : Nat → List Int
  | 0 => L
  | m + 1 => (putTo row y L m).set (gI row m).toNat y
theorem putTo_succ (row : List Int) (y : Int) (L : List Int) (m : Nat) : putTo row y L (m + 1) = (putTo row y L m).set (gI row m).toNat y := rfl
@[simp] theorem putTo_len (row : List Int) (y : Int) (L : List Int) (m : Nat) : (putTo row y L m).length = L.length := by
  induction m with
  | zero => rfl
  | succ m ih => rw [putTo_succ, List.length_set, ih]
theorem pm_all {P S W : List Int} (hc : CluOk P S W) {k : Nat} (hk : k < P.length) : putTo (proxOf P S k) (-1) ((zeroL P.length).set k 1) (proxOf P S k).length = pmRow P S P.length k := by
  apply gI_ext (by simp)
  intro j hj
  have hj' : j < P.length := by simpa using hj
  rw [gI_pmRow hj']
  by_cases h0 : k = 0
  · subst h0
    have hz := clu_zero hc
    have hn : ¬ nearB P S 0 (j : Int) = true := by rw [nearB_iff]; omega
    rw [if_neg hn]
    simp only [proxOf, if_pos, List.length_nil, putTo]
    rw [gI_set, zeroL_len, gI_zeroL]
    by_cases e : j = 0
    · subst e; rw [if_pos ⟨rfl, hk⟩]; simp
    · rw [if_neg (fun h => e h.1.symm), if_neg e]
  · obtain ⟨h1, h2, h3⟩ := clu_place hc hk (by omega)
    have e : proxOf P S k = secL S k ++ [gI P k] := by unfold proxOf; rw [if_neg h0]
    rw [e]
    by_cases hs : 0 ≤ gI S k
    · rw [secL_yes hs]
      show gI ((((zeroL P.length).set k 1).set (gI S k).toNat (-1)).set (gI P k).toNat (-1)) j = _
      rw [gI_set, gI_set, gI_set, List.length_set, List.length_set, zeroL_len, gI_zeroL]
      by_cases e1 : j = k
      · rw [if_pos e1, if_neg (by omega), if_neg (by omega), if_pos (by omega)]
      · rw [if_neg e1]
        by_cases e2 : nearB P S k (j : Int) = true
        · rw [if_pos e2]
          have := (nearB_iff.1 e2).2
          by_cases e3 : (gI P k).toNat = j
          · rw [if_pos (by omega)]
          · rw [if_neg (by omega), if_pos (by omega)]
        · rw [if_neg e2]
          rw [nearB_iff] at e2
          rw [if_neg (by omega), if_neg (by omega), if_neg (by omega)]
    · rw [secL_no hs]
      show gI (((zeroL P.length).set k 1).set (gI P k).toNat (-1)) j = _
      rw [gI_set, gI_set, List.length_set, zeroL_len, gI_zeroL]
      by_cases e1 : j = k
      · rw [if_pos e1, if_neg (by omega), if_pos (by omega)]
      · rw [if_neg e1]
        by_cases e2 : nearB P S k (j : Int) = true
        · rw [if_pos e2]
          have := (nearB_iff.1 e2).2
          rw [if_pos (by omega)]
        · rw [if_neg e2]
          rw [nearB_iff] at e2
          rw [if_neg (by omega), if_neg (by omega)]

theorem Rows.keeps {e : TypeId} {w w' : World} {base g n : Nat} {V : Nat → Value} {R : Nat → List Int} {M : Nat → Prop} (h : Rows e w base g n V R) (hk : Keeps M w w') (hn : ∀ b, base ≤ b → ¬ M b) : Rows e w' base g n V R :=
  ⟨h.lo, Nat.lt_of_lt_of_le h.lt hk.size, fun i hi => by rw [hk.cell (p := ⟨g, i, none⟩) h.lt (hn g h.lo)]; exact h.cell i hi, fun i => by rw [hk.frozen (p := ⟨g, i, none⟩) h.lt (hn g h.lo)]; exact h.free i,
    fun i hi => (h.row i hi).keeps hk (fun k hk' => hn k ((h.row i hi).block k hk').1), h.apart, h.self⟩

set_option maxRecDepth 100000 in
set_option maxHeartbeats 2000000 in
theorem proximityMatrix_c (p s q : Value) (P S W : List Int) (w : World) (hp : Rd w p P) (hs : Rd w s S) (hq : Rd w q W) (hc : CluOk P S W) :
    Calls Try.prog 177 #[.agg #[p, s, q]] w (RetR w P.length (pmRow P S P.length)) := by
  have hx := Boxed.start w 40 #[p, s, q]
  obtain ⟨a1, k1, rfl⟩ := hp.len0
  have h0 := hc.1.1
  have h24 := hc.1.2.1
  have hcl1 := Lib.hid (show S.length = P.length from hc.1.2.2.1)
  have HC := Lib.hid hc
  clear hc
  have c0 := hx.cell 0
  go_enter Try.func177, Try.ntmps177
  go_wp2_with fail
  refine (square_c P.length _ h0 (by omega)).mono ?_
  rintro e w1 ⟨g, V, rfl, hR, hb⟩
  have hx1 := hx.trans hb
  have hs1 : w.heap.size + 1 ≤ w1.heap.size := hx1.size
  have hR := hR.base_le (base' := w.heap.size + 1) (Nat.le_of_eq (by simp))
  clear c0
  have c0 := hx1.cell 0
  have c1 := hx1.cell 1
  have c2 := hx1.cell 2
  go_wp2_with fail
  refine (clusterProximates_c _ _ _ P S W _ (hx1.rd hp) (hx1.rd hs) (hx1.rd hq) hcl1.out h0 h24).mono ?_
  rintro e w2 ⟨g2, V2, rfl, hR2, hb2⟩
  have hx2 := hx1.trans hb2
  have hR3 := hR.below hb2
  have hs2 : w1.heap.size ≤ w2.heap.size := hb2.size
  have hlt1 := hR.lt
  have hub : ∀ i, i < P.length → ∀ k, (V i).ownBlock = some k → w.heap.size + 1 ≤ k ∧ k < w1.heap.size := fun i hi k hk => (hR.row i hi).block k hk
  have hpos : ∀ i, i < P.length → ∃ gi cap, V i = .slice (some ⟨gi, 0, none⟩) P.length cap := fun i hi => by
    obtain ⟨gi, cap, e1, _⟩ := hR.pos hi (by simp; omega)
    exact ⟨gi, cap, by simpa using e1⟩
  clear c0 c1 c2 hR
  go_wp2_with fail
  go_loopw [4, 5, 7, 15, 28] (fun _ _ _ i _ wr => ∃ k : Nat, k ≤ P.length ∧ i = .int .i64 k ∧ Rows 2 wr (w.heap.size + 1) g P.length V (fun i => if i < k then pmRow P S P.length i else zeroL P.length) ∧ Keeps (fun b => w.heap.size + 1 ≤ b ∧ b < w1.heap.size) w2 wr) (fun _ _ _ i _ _ => P.length - (intOf i).toNat)
  case atStart => exact ⟨0, Nat.zero_le _, rfl, hR3.congr (fun i _ => by simp), Keeps.refl _ _⟩
  case round =>
    obtain ⟨k, hk, rfl, hrow, hkp⟩ := hrel
    clear hR3
    obtain ⟨wo, rfl⟩ : ∃ wo : World, wo = wr := ⟨_, rfl⟩
    have hR4 := hR2.keeps hkp (fun b hb h => by omega)
    by_cases hlt : k < P.length
    · have d13 := hR4.cell k hlt
      have d3 := hrow.cell k hlt
      obtain ⟨gk, ck, hVk⟩ := hpos k hlt
      have hV' : V k = .slice (some ⟨gk, 0, none⟩) ((fun i => if i < k then pmRow P S P.length i else zeroL P.length) k).length ck := by simpa using hVk
      have hset := hrow.setRow hlt hV' k 1
      have hrk := hrow.row k hlt
      rw [if_neg (by omega), hVk] at hrk
      have hrk' : OwnI wo (w.heap.size + 1) (.slice (some ⟨gk, 0, none⟩) (zeroL P.length).length ck) (zeroL P.length) := by simpa using hrk
      have cz := hrk'.cell k (by simpa using hlt)
      rw [gI_zeroL] at cz
      have fz := hrk'.free k
      have hgk := hub k hlt gk (by rw [hVk]; rfl)
      have hkp2 := hkp.setCell (p := ⟨gk, k, none⟩) hgk (.int .i64 1)
      have hrowp := (hR4.row k hlt).rd
      have hkl : (k : Int) < (P.length : Int) := by omega
      rw [hVk] at d3
      obtain ⟨ar, kr, hV2, hr1, hr2, hrr⟩ := hrowp
      have hbnd : ∀ m, m < (proxOf P S k).length → 0 ≤ gI (proxOf P S k) m ∧ gI (proxOf P S k) m < (P.length : Int) := by
        have ha := exOk_clu HC.out (show (zeroL P.length).length = P.length by simp) (fun i hi => by rw [gI_zeroL]; omega)
        intro m hm
        have := ha.row k (by rw [prox_len]; exact hlt) m (by rw [prox_row hlt]; exact hm)
        rw [prox_row hlt] at this
        simpa using this
      have hin : Rows 2 (wo.setCell ⟨gk, k, none⟩ (.int .i64 1)) (w.heap.size + 1) g P.length V (upd (fun i => if i < k then pmRow P S P.length i else zeroL P.length) k (putTo (proxOf P S k) (-1) ((zeroL P.length).set k 1) 0)) := by
        refine hset.congr (fun i _ => ?_)
        unfold upd
        split
        · simp [putTo]
        · rfl
      rw [hV2] at d13
      clear hset hrk hrk' hV' hR4
      have HI := Lib.hid hin
      clear hin
      go_wp2_with fail
      go_loopw [7, 28] (fun _ i wr => ∃ m : Nat, m ≤ (proxOf P S k).length ∧ i = .int .i64 m ∧ Rows 2 wr (w.heap.size + 1) g P.length V (upd (fun i => if i < k then pmRow P S P.length i else zeroL P.length) k (putTo (proxOf P S k) (-1) ((zeroL P.length).set k 1) m)) ∧ Keeps (fun b => w.heap.size + 1 ≤ b ∧ b < w1.heap.size) w2 wr) (fun _ i _ => (proxOf P S k).length - (intOf i).toNat)
      case atStart => exact ⟨0, Nat.zero_le _, rfl, HI.out, hkp2⟩
      case round =>
        obtain ⟨m, hm, rfl, hrow3, hkp3⟩ := hrel
        clear HI hkp2 cz fz d13 d3
        obtain ⟨wq, rfl⟩ : ∃ wq : World, wq = wr := ⟨_, rfl⟩
        by_cases hmt : m < (proxOf P S k).length
        · have hR5 := hR2.keeps hkp3 (fun b hb h => by omega)
          obtain ⟨gp, cp, hV3, hgp0, hgp1, _, _⟩ := hR2.pos hlt (by omega)
          rw [hV2] at hV3
          injection hV3 with hV4 hV5 hV6
          subst hV4 hV6
          clear hV5
          have hrow5 := hR5.row k hlt
          rw [hV2] at hrow5
          have hc2 := Own.cell hrow5 m hmt
          have d3 := hrow3.cell k hlt
          rw [hVk] at d3
          have hxr := hbnd m hmt
          have hV' : V k = .slice (some ⟨gk, 0, none⟩) ((upd (fun i => if i < k then pmRow P S P.length i else zeroL P.length) k (putTo (proxOf P S k) (-1) ((zeroL P.length).set k 1) m)) k).length ck := by rw [upd_at]; simpa using hVk
          have hset := hrow3.setRow hlt hV' (gI (proxOf P S k) m).toNat (-1)
          have hrk := hrow3.row k hlt
          rw [upd_at, hVk] at hrk
          have hrk' : OwnI wq (w.heap.size + 1) (.slice (some ⟨gk, 0, none⟩) (putTo (proxOf P S k) (-1) ((zeroL P.length).set k 1) m).length ck) (putTo (proxOf P S k) (-1) ((zeroL P.length).set k 1) m) := by simpa using hrk
          have cz := hrk'.cell (gI (proxOf P S k) m).toNat (by simp; omega)
          have fz := hrk'.free (gI (proxOf P S k) m).toNat
          have hkp4 := hkp3.setCell (p := ⟨gk, (gI (proxOf P S k) m).toNat, none⟩) hgk (.int .i64 (-1))
          have hin := hset.congr (R' := upd (fun i => if i < k then pmRow P S P.length i else zeroL P.length) k (putTo (proxOf P S k) (-1) ((zeroL P.length).set k 1) (m + 1))) (fun i _ => by
            unfold upd
            split
            · simp [putTo]
            · rfl)
          have HI := Lib.hid hin
          have HK := Lib.hid hkp4
          clear hset hrk hrk' hV' hR5 hin hkp4 hrow5 hrow3 hkp3 hrr
          generalize gI (proxOf P S k) m = x at hc2 hxr cz fz HI HK
          generalize gI (putTo (proxOf P S k) (-1) ((zeroL P.length).set k 1) m) x.toNat = y at cz
          obtain ⟨hx0, hx1'⟩ := hxr
          go_wp2
          go_roundw
          case rel => exact ⟨m + 1, by omega, by go_num, HI.out, HK.out⟩
          case measure => simp [intOf]; omega
        · have hm' : m = (proxOf P S k).length := by omega
          subst hm'
          have hfin := hrow3.congr (R' := fun i => if i < k + 1 then pmRow P S P.length i else zeroL P.length) (fun i hi => by
            unfold upd
            by_cases e : i = k
            · subst e; rw [if_pos rfl, if_pos (by omega)]; exact pm_all HC.out hi
            · rw [if_neg e]
              show (if i < k then pmRow P S P.length i else zeroL P.length) = _
              by_cases e2 : i < k
              · rw [if_pos e2, if_pos (by omega)]
              · rw [if_neg e2, if_neg (by omega)])
          go_wp2
          go_roundw
          case rel => exact ⟨k + 1, by omega, by go_num, hfin, hkp3⟩
          case measure => simp [intOf]; omega
    · go_wp2
      have hk' : k = P.length := by omega
      subst hk'
      go_ret
      exact ⟨_, _, rfl, (hrow.congr (fun i hi => by simp [hi])).base_le (by omega), hx2.below.trans (hkp.below (by omega) (fun k hk => by omega))⟩
end Go.Proofs.Ytiinceflafigeaa

/- Contracts: spec.l07Prox: the reference's proximity matrix. -/
namespace Go.Proofs.Ytiinceflafigeaa
open Go.RowKit

/-- A row of the reference: the first k places are done. -/
def prTo (P S : List Int) (n i k : Nat) : List Int := (List.range n).map fun j => if j < k ∧ nearB P S i (j : Int) = true then -1 else 0
@[simp] theorem prTo_len (P S : List Int) (n i k : Nat) : (prTo P S n i k).length = n := by simp [prTo]
theorem gI_prTo {P S : List Int} {n i k j : Nat} (h : j < n) : gI (prTo P S n i k) j = if j < k ∧ nearB P S i (j : Int) = true then -1 else 0 := by rw [gI_lt (by simpa using h)]; simp [prTo]
theorem prTo_zero (P S : List Int) (n i : Nat) : prTo P S n i 0 = zeroL n := by
  apply gI_ext (by simp)
  intro j hj
  rw [gI_prTo (by simpa using hj), gI_zeroL, if_neg (by omega)]
theorem prTo_yes {P S : List Int} {n i k : Nat} (hk : k < n) (h : nearB P S i (k : Int) = true) : (prTo P S n i k).set k (-1) = prTo P S n i (k + 1) := by
  apply gI_ext (by simp)
  intro j hj
  have hj' : j < n := by simpa using hj
  rw [gI_set, gI_prTo hj', gI_prTo hj', prTo_len]
  by_cases e : j = k
  · subst e; rw [if_pos ⟨rfl, hk⟩, if_pos ⟨by omega, h⟩]
  · rw [if_neg (fun h' => e h'.1.symm)]
    by_cases e2 : j < k ∧ nearB P S i (j : Int) = true
    · rw [if_pos e2, if_pos ⟨by omega, e2.2⟩]
    · rw [if_neg e2, if_neg (fun h' => e2 ⟨by omega, h'.2⟩)]
theorem prTo_no {P S : List Int} {n i k : Nat} (h : nearB P S i (k : Int) = false) : prTo P S n i k = prTo P S n i (k + 1) := by
  apply gI_ext (by simp)
  intro j hj
  have hj' : j < n := by simpa using hj
  rw [gI_prTo hj', gI_prTo hj']
  by_cases e : j = k
  · subst e; rw [if_neg (by simp [h]), if_neg (by simp [h])]
  · by_cases e2 : j < k ∧ nearB P S i (j : Int) = true
    · rw [if_pos e2, if_pos ⟨by omega, e2.2⟩]
    · rw [if_neg e2, if_neg (fun h' => e2 ⟨by omega, h'.2⟩)]
theorem nearLt {P S W : List Int} (hc : CluOk P S W) {i q : Nat} (hi : i < P.length) (h : nearB P S i (q : Int) = true) : q < i := by
  have h1 := (nearB_iff.1 h).2
  by_cases h0 : i = 0
  · subst h0; have := clu_zero hc; omega
  · have := clu_place hc hi (by omega); omega
theorem prTo_all {P S W : List Int} (hc : CluOk P S W) {i : Nat} (hi : i < P.length) : (prTo P S P.length i i).set i 1 = pmRow P S P.length i := by
  apply gI_ext (by simp)
  intro j hj
  have hj' : j < P.length := by simpa using hj
  rw [gI_set, gI_prTo hj', gI_pmRow hj', prTo_len]
  by_cases e : j = i
  · subst e; rw [if_pos ⟨rfl, hi⟩, if_pos rfl]
  · rw [if_neg (fun h' => e h'.1.symm), if_neg e]
    by_cases e2 : nearB P S i (j : Int) = true
    · rw [if_pos ⟨nearLt hc hi e2, e2⟩, if_pos e2]
    · rw [if_neg (fun h => e2 h.2), if_neg e2]

set_option maxRecDepth 100000 in
set_option maxHeartbeats 2000000 in
theorem l07Prox_c (p s q : Value) (P S W : List Int) (w : World) (hp : Rd w p P) (hs : Rd w s S) (_ : Rd w q W) (hc : CluOk P S W) :
    Calls Try.prog 178 #[.agg #[p, s, q]] w (RetM 2 w ((List.range P.length).map (pmRow P S P.length))) := by
  obtain ⟨i0, hi, hz0, hz1, hz2⟩ := info_parts Try.infoI
  obtain ⟨j0, ji, jz0, jz1, jz2⟩ := info_parts Try.infoII
  obtain ⟨a1, k1, rfl⟩ := hp.len0
  have hx := Boxed.start w 40 #[.slice a1 P.length k1, s, q]
  have h0 := hc.1.1
  have h24 := hc.1.2.1
  have hcl1 := Lib.hid (show S.length = P.length from hc.1.2.2.1)
  have HC := Lib.hid hc
  clear hc
  go_enter Try.func178, Try.ntmps178
  go_wp2
  go_loopw [3, 4, 5, 6] (fun v i _ _ wr => ∃ k : Nat, ∃ vs, k ≤ P.length ∧ i = .int .i64 k ∧ GrowM 2 24 wr (w.heap.size + 1) v vs ((List.range k).map (pmRow P S P.length)) ∧ Boxed w wr 40 #[.slice a1 P.length k1, s, q]) (fun _ i _ _ _ => P.length - (intOf i).toNat)
  case atStart => exact ⟨0, _, Nat.zero_le _, rfl, GrowM.empty _ _ (w.alloc _) _ _ (by simp) (Nat.le_refl _), hx.alloc _⟩
  case round =>
    obtain ⟨k, vs, hk, rfl, hown, hbx⟩ := hrel
    obtain ⟨wo, rfl⟩ : ∃ wo : World, wo = wr := ⟨_, rfl⟩
    have c0 := hbx.cell 0
    by_cases hlt : k < P.length
    · have hki : (k : Int) < (P.length : Int) := by omega
      go_wp2_with (at_make; refine wpList_make_full _ rfl (.tmp 17) (.tmp 17) 24 rfl wo.heap.size 2 i0 (.int .i64 0) 1 Try.underlying24 hi hz0 hz1 _ _ _ _ P.length rfl rfl rfl rfl ?c1 ?c2 ?c3 ?_)
      case c1 => rw [hz2]; omega
      case c2 => unfold maxLen; omega
      case c3 => exact Nat.le_refl _
      intro w2 hown2 hgrow2
      have hb2 : Below wo.heap.size wo w2 := (Below.refl _ _).grown hgrow2 (Nat.le_refl _) (by simp)
      rw [toList_madeCells_one] at hown2
      have ho2 := own_made hown2
      have hg2 := (ho2.block _ rfl).2
      clear hown2 hgrow2 c0
      have hsz := hbx.size
      have hblk : ∀ b, OwnM.mine u3 (fun i => vs.getD i (.slice none 0 0)) ((List.range k).map (pmRow P S P.length)) b → w.heap.size + 1 ≤ b ∧ b < wo.heap.size := hown.own.block
      have hown1 := hown.below hb2
      have hbx1 := hbx.trans hb2
      rw [← prTo_zero P S P.length k] at ho2
      clear hown hbx hb2
      go_wp2_with fail
      go_loopw [6] (fun i wr => ∃ m : Nat, m ≤ k ∧ i = .int .i64 m ∧ OwnI wr wo.heap.size (.slice (some ⟨wo.heap.size, 0, none⟩) P.length P.length) (prTo P S P.length k m) ∧ GrowM 2 24 wr (w.heap.size + 1) u3 vs ((List.range k).map (pmRow P S P.length)) ∧ Boxed w wr 40 #[.slice a1 P.length k1, s, q]) (fun i _ => k - (intOf i).toNat)
      case atStart => exact ⟨0, Nat.zero_le _, rfl, ho2, hown1, hbx1⟩
      case round =>
        obtain ⟨m, hm, rfl, ho, hgr, hbx⟩ := hrel
        clear ho2 hown1 hbx1 hg2
        obtain ⟨wq, rfl⟩ : ∃ wq : World, wq = wr := ⟨_, rfl⟩
        by_cases hmt : m < k
        · have c0 := hbx.cell 0
          have c1 := hbx.cell 1
          have c2 := hbx.cell 2
          have hmi : (m : Int) < (k : Int) := by omega
          go_wp2_with fail
          refine (l07Near_c _ _ _ P S (k : Int) (m : Int) _ (hbx.rd hp) (hbx.rd hs) hcl1.out (by omega) (by omega)).mono ?_
          rintro e w3 ⟨rfl, hb3⟩
          have ho3 := ho.below hb3 (Nat.le_refl _)
          have hgr3 := hgr.below hb3
          have hbx3 := hbx.trans hb3
          clear c0 c1 c2 ho hgr hbx
          cases hnb : nearB P S (k : Int).toNat (m : Int)
          · have hn2 := Lib.hid (prTo_no (n := P.length) (show nearB P S k (m : Int) = false by simpa using hnb))
            go_wp2
            go_roundw
            case rel => exact ⟨m + 1, by omega, by go_num, by rw [← hn2.out]; exact ho3, hgr3, hbx3⟩
            case measure => simp [intOf]; omega
          · have hn2 := Lib.hid (prTo_yes (n := P.length) (by omega) (show nearB P S k (m : Int) = true by simpa using hnb))
            have ho4 : OwnI w3 wo.heap.size (.slice (some ⟨wo.heap.size, 0, none⟩) (prTo P S P.length k m).length P.length) (prTo P S P.length k m) := by simpa using ho3
            have cz := ho4.cell m (by simp; omega)
            have fz := ho4.free m
            have hset := ho4.set m (-1)
            rw [hn2.out, prTo_len] at hset
            have hg3 := (ho3.block wo.heap.size rfl)
            have hk3 : Keeps (fun b => b = wo.heap.size) w3 (w3.setCell ⟨wo.heap.size, m, none⟩ (.int .i64 (-1))) := (Keeps.refl (fun b => b = wo.heap.size) _).setCell (p := ⟨wo.heap.size, m, none⟩) rfl _
            have hgr4 := hgr3.keeps hk3 (fun b hb e => by have := (hblk b hb).2; omega)
            have hbx4 := hbx3.wrote (hk3.mono (fun b hb => by omega))
            have HS := Lib.hid hset
            have HG := Lib.hid hgr4
            have HB := Lib.hid hbx4
            have hmn : (m : Int) < (P.length : Int) := by omega
            clear ho3 ho4 hgr3 hbx3 hset hgr4 hbx4 hk3
            generalize gI (prTo P S P.length k m) m = y at cz
            go_wp2
            go_roundw
            case rel => exact ⟨m + 1, by omega, by go_num, HS.out, HG.out, HB.out⟩
            case measure => simp [intOf]; omega
        · have hm' : m = k := by omega
          subst hm'
          have ho4 : OwnI wq wo.heap.size (.slice (some ⟨wo.heap.size, 0, none⟩) (prTo P S P.length m m).length P.length) (prTo P S P.length m m) := by simpa using ho
          have cz := ho4.cell m (by simp; omega)
          have fz := ho4.free m
          have hset := ho4.set m 1
          rw [prTo_all HC.out hlt, prTo_len] at hset
          have hg3 := (ho.block wo.heap.size rfl)
          have hk3 : Keeps (fun b => b = wo.heap.size) wq (wq.setCell ⟨wo.heap.size, m, none⟩ (.int .i64 1)) := (Keeps.refl (fun b => b = wo.heap.size) _).setCell (p := ⟨wo.heap.size, m, none⟩) rfl _
          have hgr4 := hgr.keeps hk3 (fun b hb e => by have := (hblk b hb).2; omega)
          have hbx4 := hbx.wrote (hk3.mono (fun b hb => by omega))
          clear ho ho4 hgr hbx hk3
          generalize gI (prTo P S P.length m m) m = y at cz
          have hsz4 : (wq.setCell ⟨wo.heap.size, m, none⟩ (.int .i64 1)).heap.size = wq.heap.size := by simp
          have hown5 := hset.base_le (base' := w.heap.size + 1) (by omega)
          have hl5 : ((List.range m).map (pmRow P S P.length)).length = m := by simp
          have q1 : Apart (.slice (some ⟨wo.heap.size, 0, none⟩) P.length P.length) u3 := by intro b h1 h2; have := (hblk b (.inl h2)).2; simp [Value.ownBlock] at h1; omega
          have q2 : ∀ i, i < ((List.range m).map (pmRow P S P.length)).length → Apart (vs.getD i (.slice none 0 0)) (.slice (some ⟨wo.heap.size, 0, none⟩) P.length P.length) := by intro i hi b h1 h2; have := (hblk b (.inr ⟨i, hi, h1⟩)).2; simp [Value.ownBlock] at h2; omega
          have q3 : ((List.range m).map (pmRow P S P.length)).length ≤ 1000000000 := by rw [hl5]; omega
          have q4 : w.heap.size + 1 ≤ (wq.setCell ⟨wo.heap.size, m, none⟩ (.int .i64 1)).heap.size := by omega
          have HY := Lib.hid (show (List.range m).map (pmRow P S P.length) ++ [pmRow P S P.length m] = (List.range (m + 1)).map (pmRow P S P.length) by rw [List.range_succ, List.map_append]; rfl)
          have HL5 := Lib.hid hl5
          clear hl5
          go_wp2_with (at_builtin; refine wpList_pushR rfl (.tmp 34) (.tmp 36) 64 rfl (w.heap.size + 1) 2 24 j0 Try.underlying64 ji jz0 jz1 jz2 u3 vs ((List.range m).map (pmRow P S P.length)) (.slice (some ⟨wo.heap.size, 0, none⟩) P.length P.length) (pmRow P S P.length m) rfl hgr4 _ (by simp) rfl hown5 q1 q2 q3 q4 ?_; intro g5 cap5 w5 hgr5 hk5 hg5)
          have hbx5 := hbx4.wrote (hk5.mono (fun b hb => (hblk b (.inl hb)).1))
          rw [HY.out, HL5.out] at hgr5
          go_roundw
          case rel => exact ⟨m + 1, _, by omega, by go_num, hgr5, hbx5⟩
          case measure => simp [intOf]; omega
    · go_wp2
      have hk' : k = P.length := by omega
      subst hk'
      go_ret
      exact retM_mk (hown.own.base_le (by omega)) hbx.below
end Go.Proofs.Ytiinceflafigeaa

/- Contracts: ProximityMatrix. -/
namespace Go.Proofs.Ytiinceflafigeaa
open Go.RowKit

theorem retM_of_rows {w w' : World} {n : Nat} {R : Nat → List Int} {e : Ending} (hn : n ≤ 1000000) (h : RetR w n R e w') : RetM 2 w ((List.range n).map R) e w' := by
  obtain ⟨g, V, rfl, hr, hb⟩ := h
  have := OwnM.of_rows (cap := n) hr (Nat.le_refl _) (by omega)
  exact retM_mk this hb
/-- The proximity matrix. -/
def pmL (P S : List Int) : List (List Int) := (List.range P.length).map (pmRow P S P.length)
theorem pmL_len (P S : List Int) : (pmL P S).length = P.length := by simp [pmL]
theorem pmL_row {P S : List Int} {j : Nat} (h : j < (pmL P S).length) : (gR (pmL P S) j).length = P.length := by rw [pmL_len] at h; unfold pmL; rw [gR_map h, pmRow_len]
theorem l07Prox_m (p s q : Value) (P S W : List Int) (w : World) (hp : Rd w p P) (hs : Rd w s S) (hq : Rd w q W) (hc : CluOk P S W) :
    Calls Try.prog 178 #[.agg #[p, s, q]] w (RetM 2 w (pmL P S)) := l07Prox_c p s q P S W w hp hs hq hc
theorem proximityMatrix_m (p s q : Value) (P S W : List Int) (w : World) (hp : Rd w p P) (hs : Rd w s S) (hq : Rd w q W) (hc : CluOk P S W) :
    Calls Try.prog 177 #[.agg #[p, s, q]] w (RetM 2 w (pmL P S)) :=
  (proximityMatrix_c p s q P S W w hp hs hq hc).mono fun e w' h => retM_of_rows (by have := hc.1; omega) h

set_option maxHeartbeats 1000000 in
theorem implProximityMatrix_yes (p s q : Value) (P S W : List Int) (w : World) (hp : Rd w p P) (hs : Rd w s S) (hq : Rd w q W) (hc : cluB P S W = true) :
    Calls Try.prog 71 #[.agg #[p, s, q]] w (RetMC 2 w (pmL P S) 0) := by
  have hx := Boxed.start w 40 #[p, s, q]
  have hcl := cluB_iff.1 hc
  obtain ⟨a1, k1, rfl⟩ := hp.len0
  obtain ⟨a2, k2, rfl⟩ := hs.len0
  obtain ⟨a3, k3, rfl⟩ := hq.len0
  have HC := Lib.hid hcl
  clear hcl
  go_enter Try.func71, Try.ntmps71
  go_wp2_with fail
  refine (implIsCluster_c _ _ _ P S W _ (hx.rd hp) (hx.rd hs) (hx.rd hq)).mono ?_
  rintro e w1 ⟨rfl, hb⟩
  have hx1 := hx.trans hb
  have c0 := hx1.cell 0
  have c1 := hx1.cell 1
  have c2 := hx1.cell 2
  go_wp2_with fail
  refine (proximityMatrix_m _ _ _ P S W _ (hx1.rd hp) (hx1.rd hs) (hx1.rd hq) HC.out).mono ?_
  rintro e w2 ⟨a, k, V, rfl, ho, hb2⟩
  go_wp2
  go_ret2
  exact retMC_mk (ho.base_le (Nat.le_of_lt hx1.size)) (hx1.trans hb2).below

theorem implProximityMatrix_no (p s q : Value) (P S W : List Int) (w : World) (hp : Rd w p P) (hs : Rd w s S) (hq : Rd w q W) (hc : cluB P S W = false) :
    Calls Try.prog 71 #[.agg #[p, s, q]] w (RetMC 2 w [] 1) := by
  have hx := Boxed.start w 40 #[p, s, q]
  obtain ⟨a1, k1, rfl⟩ := hp.len0
  obtain ⟨a2, k2, rfl⟩ := hs.len0
  obtain ⟨a3, k3, rfl⟩ := hq.len0
  go_enter Try.func71, Try.ntmps71
  go_wp2_with fail
  refine (implIsCluster_c _ _ _ P S W _ (hx.rd hp) (hx.rd hs) (hx.rd hq)).mono ?_
  rintro e w1 ⟨rfl, hb⟩
  go_wp2
  go_ret2
  exact retMC_nil (hx.trans hb).below

theorem implProximityMatrix_c (p s q : Value) (P S W : List Int) (w : World) (hp : Rd w p P) (hs : Rd w s S) (hq : Rd w q W) :
    Calls Try.prog 71 #[.agg #[p, s, q]] w (RetMC 2 w (okR (cluB P S W) (pmL P S)) (okC (cluB P S W) 1)) := by
  cases hc : cluB P S W
  · rw [okR_false rfl, okC_false rfl]; exact implProximityMatrix_no p s q P S W w hp hs hq hc
  · rw [okR_true rfl, okC_true rfl]; exact implProximityMatrix_yes p s q P S W w hp hs hq hc

set_option maxHeartbeats 1000000 in
theorem specProximityMatrix_yes (p s q : Value) (P S W : List Int) (w : World) (hp : Rd w p P) (hs : Rd w s S) (hq : Rd w q W) (hc : cluB P S W = true) :
    Calls Try.prog 72 #[.agg #[p, s, q]] w (RetMC 2 w (pmL P S) 0) := by
  have hx := Boxed.start w 40 #[p, s, q]
  have hcl := cluB_iff.1 hc
  obtain ⟨a1, k1, rfl⟩ := hp.len0
  obtain ⟨a2, k2, rfl⟩ := hs.len0
  obtain ⟨a3, k3, rfl⟩ := hq.len0
  have HC := Lib.hid hcl
  clear hcl
  go_enter Try.func72, Try.ntmps72
  go_wp2_with fail
  refine (l07Is_c _ _ _ P S W _ (hx.rd hp) (hx.rd hs) (hx.rd hq)).mono ?_
  rintro e w1 ⟨rfl, hb⟩
  have hx1 := hx.trans hb
  have c0 := hx1.cell 0
  have c1 := hx1.cell 1
  have c2 := hx1.cell 2
  go_wp2_with fail
  refine (l07Prox_m _ _ _ P S W _ (hx1.rd hp) (hx1.rd hs) (hx1.rd hq) HC.out).mono ?_
  rintro e w2 ⟨a, k, V, rfl, ho, hb2⟩
  go_wp2
  go_ret2
  exact retMC_mk (ho.base_le (Nat.le_of_lt hx1.size)) (hx1.trans hb2).below

theorem specProximityMatrix_no (p s q : Value) (P S W : List Int) (w : World) (hp : Rd w p P) (hs : Rd w s S) (hq : Rd w q W) (hc : cluB P S W = false) :
    Calls Try.prog 72 #[.agg #[p, s, q]] w (RetMC 2 w [] 1) := by
  have hx := Boxed.start w 40 #[p, s, q]
  obtain ⟨a1, k1, rfl⟩ := hp.len0
  obtain ⟨a2, k2, rfl⟩ := hs.len0
  obtain ⟨a3, k3, rfl⟩ := hq.len0
  go_enter Try.func72, Try.ntmps72
  go_wp2_with fail
  refine (l07Is_c _ _ _ P S W _ (hx.rd hp) (hx.rd hs) (hx.rd hq)).mono ?_
  rintro e w1 ⟨rfl, hb⟩
  go_wp2
  go_ret2
  exact retMC_nil (hx.trans hb).below

theorem specProximityMatrix_c (p s q : Value) (P S W : List Int) (w : World) (hp : Rd w p P) (hs : Rd w s S) (hq : Rd w q W) :
    Calls Try.prog 72 #[.agg #[p, s, q]] w (RetMC 2 w (okR (cluB P S W) (pmL P S)) (okC (cluB P S W) 1)) := by
  cases hc : cluB P S W
  · rw [okR_false rfl, okC_false rfl]; exact specProximityMatrix_no p s q P S W w hp hs hq hc
  · rw [okR_true rfl, okC_true rfl]; exact specProximityMatrix_yes p s q P S W w hp hs hq hc

end Go.Proofs.Ytiinceflafigeaa
