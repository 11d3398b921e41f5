/- Contracts: the proximity matrix. -/
import Derived.Test.YthfdkigljbdogaaSq
import Derived.Test.YthfdkigljbdogaaNear
import Derived.Test.YthfdkigljbdogaaSimPure
namespace Go.Proofs.Ythfdkigljbdogaa
open Go.RowKit

/-- The row i of the proximity matrix. -/
def pmRow (P S : List Int) (n i : Nat) : List Int := (List.range n).map fun j => if j = i then 1 else if nearB P S i (j : Int) then -1 else 0
@[simp] theorem pmRow_len (P S : List Int) (n i : Nat) : (pmRow P S n i).length = n := by simp [pmRow]
theorem gI_pmRow {P S : List Int} {n i j : Nat} (h : j < n) : gI (pmRow P S n i) j = if j = i then 1 else if nearB P S i (j : Int) then -1 else 0 := by rw [gI_lt (by simpa using h)]; simp [pmRow]
/-- y put at the first m places of a row. -/
def putTo (row : List Int) (y : Int) (L : List Int) : Nat → List Int
  | 0 => L
  | m + 1 => (putTo row y L m).set (gI row m).toNat y
theorem putTo_succ (row : List Int) (y : Int) (L : List Int) (m : Nat) : putTo row y L (m + 1) = (putTo row y L m).set (gI row m).toNat y := rfl
@[simp] theorem putTo_len (row : List Int) (y : Int) (L : List Int) (m : Nat) : (putTo row y L m).length = L.length := by
  induction m with
  | zero => rfl
  | succ m ih => rw [putTo_succ, List.length_set, ih]
theorem pm_all {P S W : List Int} (hc : CluOk P S W) {k : Nat} (hk : k < P.length) : putTo (proxOf P S k) (-1) ((zeroL P.length).set k 1) (proxOf P S k).length = pmRow P S P.length k := by
  apply gI_ext (by simp)
  intro j hj
  have hj' : j < P.length := by simpa using hj
  rw [gI_pmRow hj']
  by_cases h0 : k = 0
  · subst h0
    have hz := clu_zero hc
    have hn : ¬ nearB P S 0 (j : Int) = true := by rw [nearB_iff]; omega
    rw [if_neg hn]
    simp only [proxOf, if_pos, List.length_nil, putTo]
    rw [gI_set, zeroL_len, gI_zeroL]
    by_cases e : j = 0
    · subst e; rw [if_pos ⟨rfl, hk⟩]; simp
    · rw [if_neg (fun h => e h.1.symm), if_neg e]
  · obtain ⟨h1, h2, h3⟩ := clu_place hc hk (by omega)
    have e : proxOf P S k = secL S k ++ [gI P k] := by unfold proxOf; rw [if_neg h0]
    rw [e]
    by_cases hs : 0 ≤ gI S k
    · rw [secL_yes hs]
      show gI ((((zeroL P.length).set k 1).set (gI S k).toNat (-1)).set (gI P k).toNat (-1)) j = _
      rw [gI_set, gI_set, gI_set, List.length_set, List.length_set, zeroL_len, gI_zeroL]
      by_cases e1 : j = k
      · rw [if_pos e1, if_neg (by omega), if_neg (by omega), if_pos (by omega)]
      · rw [if_neg e1]
        by_cases e2 : nearB P S k (j : Int) = true
        · rw [if_pos e2]
          have := (nearB_iff.1 e2).2
          by_cases e3 : (gI P k).toNat = j
          · rw [if_pos (by omega)]
          · rw [if_neg (by omega), if_pos (by omega)]
        · rw [if_neg e2]
          rw [nearB_iff] at e2
          rw [if_neg (by omega), if_neg (by omega), if_neg (by omega)]
    · rw [secL_no hs]
      show gI (((zeroL P.length).set k 1).set (gI P k).toNat (-1)) j = _
      rw [gI_set, gI_set, List.length_set, zeroL_len, gI_zeroL]
      by_cases e1 : j = k
      · rw [if_pos e1, if_neg (by omega), if_pos (by omega)]
      · rw [if_neg e1]
        by_cases e2 : nearB P S k (j : Int) = true
        · rw [if_pos e2]
          have := (nearB_iff.1 e2).2
          rw [if_pos (by omega)]
        · rw [if_neg e2]
          rw [nearB_iff] at e2
          rw [if_neg (by omega), if_neg (by omega)]

theorem Rows.keeps {e : TypeId} {w w' : World} {base g n : Nat} {V : Nat → Value} {R : Nat → List Int} {M : Nat → Prop} (h : Rows e w base g n V R) (hk : Keeps M w w') (hn : ∀ b, base ≤ b → ¬ M b) : Rows e w' base g n V R :=
  ⟨h.lo, Nat.lt_of_lt_of_le h.lt hk.size, fun i hi => by rw [hk.cell (p := ⟨g, i, none⟩) h.lt (hn g h.lo)]; exact h.cell i hi, fun i => by rw [hk.frozen (p := ⟨g, i, none⟩) h.lt (hn g h.lo)]; exact h.free i,
    fun i hi => (h.row i hi).keeps hk (fun k hk' => hn k ((h.row i hi).block k hk').1), h.apart, h.self⟩

set_option maxRecDepth 100000 in
set_option maxHeartbeats 2000000 in
theorem proximityMatrix_c (p s q : Value) (P S W : List Int) (w : World) (hp : Rd w p P) (hs : Rd w s S) (hq : Rd w q W) (hc : CluOk P S W) :
    Calls Try.prog 101 #[.agg #[p, s, q]] w (RetR w P.length (pmRow P S P.length)) := by
  have hx := Boxed.start w 47 #[p, s, q]
  obtain ⟨a1, k1, rfl⟩ := hp.len0
  have h0 := hc.1.1
  have h24 := hc.1.2.1
  have hcl1 := Lib.hid (show S.length = P.length from hc.1.2.2.1)
  have HC := Lib.hid hc
  clear hc
  have c0 := hx.cell 0
  go_enter Try.func101, Try.ntmps101
  go_wp2_with fail
  refine (square_c P.length _ h0 (by omega)).mono ?_
  rintro e w1 ⟨g, V, rfl, hR, hb⟩
  have hx1 := hx.trans hb
  have hs1 : w.heap.size + 1 ≤ w1.heap.size := hx1.size
  have hR := hR.base_le (base' := w.heap.size + 1) (Nat.le_of_eq (by simp))
  clear c0
  have c0 := hx1.cell 0
  have c1 := hx1.cell 1
  have c2 := hx1.cell 2
  go_wp2_with fail
  refine (clusterProximates_c _ _ _ P S W _ (hx1.rd hp) (hx1.rd hs) (hx1.rd hq) hcl1.out h0 h24).mono ?_
  rintro e w2 ⟨g2, V2, rfl, hR2, hb2⟩
  have hx2 := hx1.trans hb2
  have hR3 := hR.below hb2
  have hs2 : w1.heap.size ≤ w2.heap.size := hb2.size
  have hlt1 := hR.lt
  have hub : ∀ i, i < P.length → ∀ k, (V i).ownBlock = some k → w.heap.size + 1 ≤ k ∧ k < w1.heap.size := fun i hi k hk => (hR.row i hi).block k hk
  have hpos : ∀ i, i < P.length → ∃ gi cap, V i = .slice (some ⟨gi, 0, none⟩) P.length cap := fun i hi => by
    obtain ⟨gi, cap, e1, _⟩ := hR.pos hi (by simp; omega)
    exact ⟨gi, cap, by simpa using e1⟩
  clear c0 c1 c2 hR
  go_wp2_with fail
  go_loopw [4, 5, 7, 15, 28] (fun _ _ _ i _ wr => ∃ k : Nat, k ≤ P.length ∧ i = .int .i64 k ∧ Rows 2 wr (w.heap.size + 1) g P.length V (fun i => if i < k then pmRow P S P.length i else zeroL P.length) ∧ Keeps (fun b => w.heap.size + 1 ≤ b ∧ b < w1.heap.size) w2 wr) (fun _ _ _ i _ _ => P.length - (intOf i).toNat)
  case atStart => exact ⟨0, Nat.zero_le _, rfl, hR3.congr (fun i _ => by simp), Keeps.refl _ _⟩
  case round =>
    obtain ⟨k, hk, rfl, hrow, hkp⟩ := hrel
    clear hR3
    obtain ⟨wo, rfl⟩ : ∃ wo : World, wo = wr := ⟨_, rfl⟩
    have hR4 := hR2.keeps hkp (fun b hb h => by omega)
    by_cases hlt : k < P.length
    · have d13 := hR4.cell k hlt
      have d3 := hrow.cell k hlt
      obtain ⟨gk, ck, hVk⟩ := hpos k hlt
      have hV' : V k = .slice (some ⟨gk, 0, none⟩) ((fun i => if i < k then pmRow P S P.length i else zeroL P.length) k).length ck := by simpa using hVk
      have hset := hrow.setRow hlt hV' k 1
      have hrk := hrow.row k hlt
      rw [if_neg (by omega), hVk] at hrk
      have hrk' : OwnI wo (w.heap.size + 1) (.slice (some ⟨gk, 0, none⟩) (zeroL P.length).length ck) (zeroL P.length) := by simpa using hrk
      have cz := hrk'.cell k (by simpa using hlt)
      rw [gI_zeroL] at cz
      have fz := hrk'.free k
      have hgk := hub k hlt gk (by rw [hVk]; rfl)
      have hkp2 := hkp.setCell (p := ⟨gk, k, none⟩) hgk (.int .i64 1)
      have hrowp := (hR4.row k hlt).rd
      have hkl : (k : Int) < (P.length : Int) := by omega
      rw [hVk] at d3
      obtain ⟨ar, kr, hV2, hr1, hr2, hrr⟩ := hrowp
      have hbnd : ∀ m, m < (proxOf P S k).length → 0 ≤ gI (proxOf P S k) m ∧ gI (proxOf P S k) m < (P.length : Int) := by
        have ha := exOk_clu HC.out (show (zeroL P.length).length = P.length by simp) (fun i hi => by rw [gI_zeroL]; omega)
        intro m hm
        have := ha.row k (by rw [prox_len]; exact hlt) m (by rw [prox_row hlt]; exact hm)
        rw [prox_row hlt] at this
        simpa using this
      have hin : Rows 2 (wo.setCell ⟨gk, k, none⟩ (.int .i64 1)) (w.heap.size + 1) g P.length V (upd (fun i => if i < k then pmRow P S P.length i else zeroL P.length) k (putTo (proxOf P S k) (-1) ((zeroL P.length).set k 1) 0)) := by
        refine hset.congr (fun i _ => ?_)
        unfold upd
        split
        · simp [putTo]
        · rfl
      rw [hV2] at d13
      clear hset hrk hrk' hV' hR4
      have HI := Lib.hid hin
      clear hin
      go_wp2_with fail
      go_loopw [7, 28] (fun _ i wr => ∃ m : Nat, m ≤ (proxOf P S k).length ∧ i = .int .i64 m ∧ Rows 2 wr (w.heap.size + 1) g P.length V (upd (fun i => if i < k then pmRow P S P.length i else zeroL P.length) k (putTo (proxOf P S k) (-1) ((zeroL P.length).set k 1) m)) ∧ Keeps (fun b => w.heap.size + 1 ≤ b ∧ b < w1.heap.size) w2 wr) (fun _ i _ => (proxOf P S k).length - (intOf i).toNat)
      case atStart => exact ⟨0, Nat.zero_le _, rfl, HI.out, hkp2⟩
      case round =>
        obtain ⟨m, hm, rfl, hrow3, hkp3⟩ := hrel
        clear HI hkp2 cz fz d13 d3
        obtain ⟨wq, rfl⟩ : ∃ wq : World, wq = wr := ⟨_, rfl⟩
        by_cases hmt : m < (proxOf P S k).length
        · have hR5 := hR2.keeps hkp3 (fun b hb h => by omega)
          obtain ⟨gp, cp, hV3, hgp0, hgp1, _, _⟩ := hR2.pos hlt (by omega)
          rw [hV2] at hV3
          injection hV3 with hV4 hV5 hV6
          subst hV4 hV6
          clear hV5
          have hrow5 := hR5.row k hlt
          rw [hV2] at hrow5
          have hc2 := Own.cell hrow5 m hmt
          have d3 := hrow3.cell k hlt
          rw [hVk] at d3
          have hxr := hbnd m hmt
          have hV' : V k = .slice (some ⟨gk, 0, none⟩) ((upd (fun i => if i < k then pmRow P S P.length i else zeroL P.length) k (putTo (proxOf P S k) (-1) ((zeroL P.length).set k 1) m)) k).length ck := by rw [upd_at]; simpa using hVk
          have hset := hrow3.setRow hlt hV' (gI (proxOf P S k) m).toNat (-1)
          have hrk := hrow3.row k hlt
          rw [upd_at, hVk] at hrk
          have hrk' : OwnI wq (w.heap.size + 1) (.slice (some ⟨gk, 0, none⟩) (putTo (proxOf P S k) (-1) ((zeroL P.length).set k 1) m).length ck) (putTo (proxOf P S k) (-1) ((zeroL P.length).set k 1) m) := by simpa using hrk
          have cz := hrk'.cell (gI (proxOf P S k) m).toNat (by simp; omega)
          have fz := hrk'.free (gI (proxOf P S k) m).toNat
          have hkp4 := hkp3.setCell (p := ⟨gk, (gI (proxOf P S k) m).toNat, none⟩) hgk (.int .i64 (-1))
          have hin := hset.congr (R' := upd (fun i => if i < k then pmRow P S P.length i else zeroL P.length) k (putTo (proxOf P S k) (-1) ((zeroL P.length).set k 1) (m + 1))) (fun i _ => by
            unfold upd
            split
            · simp [putTo]
            · rfl)
          have HI := Lib.hid hin
          have HK := Lib.hid hkp4
          clear hset hrk hrk' hV' hR5 hin hkp4 hrow5 hrow3 hkp3 hrr
          generalize gI (proxOf P S k) m = x at hc2 hxr cz fz HI HK
          generalize gI (putTo (proxOf P S k) (-1) ((zeroL P.length).set k 1) m) x.toNat = y at cz
          obtain ⟨hx0, hx1'⟩ := hxr
          go_wp2
          go_roundw
          case rel => exact ⟨m + 1, by omega, by go_num, HI.out, HK.out⟩
          case measure => simp [intOf]; omega
        · have hm' : m = (proxOf P S k).length := by omega
          subst hm'
          have hfin := hrow3.congr (R' := fun i => if i < k + 1 then pmRow P S P.length i else zeroL P.length) (fun i hi => by
            unfold upd
            by_cases e : i = k
            · subst e; rw [if_pos rfl, if_pos (by omega)]; exact pm_all HC.out hi
            · rw [if_neg e]
              show (if i < k then pmRow P S P.length i else zeroL P.length) = _
              by_cases e2 : i < k
              · rw [if_pos e2, if_pos (by omega)]
              · rw [if_neg e2, if_neg (by omega)])
          go_wp2
          go_roundw
          case rel => exact ⟨k + 1, by omega, by go_num, hfin, hkp3⟩
          case measure => simp [intOf]; omega
    · go_wp2
      have hk' : k = P.length := by omega
      subst hk'
      go_ret
      exact ⟨_, _, rfl, (hrow.congr (fun i hi => by simp [hi])).base_le (by omega), hx2.below.trans (hkp.below (by omega) (fun k hk => by omega))⟩
end Go.Proofs.Ythfdkigljbdogaa
