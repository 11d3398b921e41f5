/- The multiplier cluster: its orders, the weights that lead to them, and why these may be unloaded. No program in sight. -/
import Derived.Test.YthpnmkghjnipoaaUnlBd
import Derived.Test.YthpnmkghjnipoaaLtPure
import Derived.Test.YthpnmkghjnipoaaOfOrd
namespace Go.Proofs.Ythpnmkghjnipoaa

/-- A row's sum. -/
theorem sum_row {P S W : List Int} (hc : CluOk P S W) {j : Nat} (hj : j < P.length) (f : Nat → Int) : sumTo (fun x => f (gI (proxOf P S j) x).toNat) (proxOf P S j).length = (if j = 0 then 0 else f (gI P j).toNat) + (if 0 ≤ gI S j then f (gI S j).toNat else 0) := by
  unfold proxOf
  by_cases h0 : j = 0
  · subst h0
    have hz := clu_zero hc
    rw [if_pos rfl, if_pos rfl, if_neg (by omega)]
    rfl
  · rw [if_neg h0, if_neg h0]
    by_cases hs : 0 ≤ gI S j
    · rw [secL_yes hs, if_pos hs]
      show 0 + f (gI S j).toNat + f (gI P j).toNat = _
      omega
    · rw [secL_no hs, if_neg hs]
      show 0 + f (gI P j).toNat = _
      omega
/-- The weights of orders have these orders. -/
theorem ord_wo {P S W L : List Int} (hc : CluOk P S W) (hl : L.length = P.length) : ∀ i, i < P.length → ordF P S (fun j => gI (woTo (proxL P S) L P.length) j) i = gI L i := by
  intro i
  induction i using Nat.strongRecOn with
  | _ i ih =>
    intro hi
    rw [ordF_eq hc _ hi, sum_nB hc hi, gI_woTo (by omega), if_pos hi, prox_row hi, sum_row hc hi]
    by_cases h0 : i = 0
    · subst h0
      have hz := clu_zero hc
      rw [if_pos rfl, if_pos rfl, if_neg (by omega), if_neg (by omega)]; omega
    · obtain ⟨p1, p2, p3⟩ := clu_place hc hi (by omega)
      rw [if_neg h0, if_neg h0, ih (gI P i).toNat (by omega) (by omega)]
      by_cases hs : 0 ≤ gI S i
      · rw [if_pos hs, if_pos hs, ih (gI S i).toNat (by omega) (by omega)]; omega
      · rw [if_neg hs, if_neg hs]; omega

/-- The orders that are asked of the first k points. -/
def muTo (V D : List Int) (t b : Int) (k : Nat) : List Int := (List.range k).map fun i => t * gI V i / b - gI D i
@[simp] theorem muTo_len (V D : List Int) (t b : Int) (k : Nat) : (muTo V D t b k).length = k := by simp [muTo]
theorem muTo_succ (V D : List Int) (t b : Int) (k : Nat) : muTo V D t b (k + 1) = muTo V D t b k ++ [t * gI V k / b - gI D k] := by simp [muTo, List.range_succ]
theorem gI_muTo {V D : List Int} {t b : Int} {k i : Nat} (h : i < k) : gI (muTo V D t b k) i = t * gI V i / b - gI D i := by rw [gI_lt (by simpa using h)]; simp [muTo]

/-- The bounds on a cluster with small weights. -/
theorem mu_num {P S W : List Int} (hc : CluOk P S W) (he : nonNeg (exTo (proxL P S) W P.length) = true) (hm : ∀ i, i < P.length → gI W i ≤ 1000) : (∀ i, i < P.length → 0 ≤ gI (ordTo (fun j => gI W j) P S P.length) i ∧ gI (ordTo (fun j => gI W j) P S P.length) i ≤ 24000 * mI P S i 0) ∧ ∀ i, i < P.length → 0 ≤ gI (discTo P S P.length) i ∧ gI (discTo P S P.length) i ≤ 24 * mI P S i 0 := by
  have hl : W.length = P.length := hc.1.2.2.2
  have h24 := hc.1.2.1
  have hex : ∀ i, i < P.length → 0 ≤ exF P S (fun j => gI W j) i := by
    intro i hi
    rw [← exL_at hc hl hi]
    have h1 : ∀ i, i < (exTo (proxL P S) W P.length).length → 0 ≤ gI (exTo (proxL P S) W P.length) i := by simpa [nonNeg] using he
    exact h1 i (by rw [exTo_len]; omega)
  have hA : ∀ i, i < P.length → 0 ≤ gI W i := fun i hi => con_nn hc hex (P.length - i) i (by omega) (by omega)
  refine ⟨fun i hi => ⟨ordF_nn hc hA i hi, ?_⟩, fun i hi => ⟨ordF_nn hc (A := fun _ => 1) (fun _ _ => by omega) i hi, ?_⟩⟩
  · have h1 := (ord_m0 hc (A := fun j => gI W j) (b := 1000) (by omega) (fun i hi => by have := hA i hi; have := hm i hi; show -1000 ≤ gI W i ∧ gI W i ≤ 1000; omega) i hi).2
    have hm := m0_bd hc hi
    have h2 : 1000 * ((i : Int) + 1) * mI P S i 0 ≤ 24000 * mI P S i 0 := Int.mul_le_mul_of_nonneg_right (by omega) (by omega)
    have h3 : gI (ordTo (fun j => gI W j) P S P.length) i = ordF P S (fun j => gI W j) i := rfl
    omega
  · have h1 := (ord_m0 hc (A := fun _ => (1 : Int)) (b := 1) (by omega) (fun i hi => by omega) i hi).2
    have hm := m0_bd hc hi
    have h2 : 1 * ((i : Int) + 1) * mI P S i 0 ≤ 24 * mI P S i 0 := Int.mul_le_mul_of_nonneg_right (by omega) (by omega)
    have h3 : gI (discTo P S P.length) i = ordF P S (fun _ => 1) i := rfl
    omega
theorem mu_one {v d m t b : Int} (hv : 0 ≤ v ∧ v ≤ 24000 * m) (hd : 0 ≤ d ∧ d ≤ 24 * m) (hb : 1 ≤ b) (ht : 0 ≤ t ∧ t ≤ 10 * b) : -(24 * m) ≤ t * v / b - d ∧ t * v / b - d ≤ 240000 * m ∧ 0 ≤ t * v ∧ 0 ≤ t * v / b ∧ t * v / b ≤ 240000 * m := by
  have h1 : t * v ≤ (10 * b) * v := Int.mul_le_mul_of_nonneg_right ht.2 hv.1
  have h2 : t * v / b ≤ 10 * v := by
    have e : (10 * b) * v = b * (10 * v) := by rw [Int.mul_assoc, Int.mul_left_comm]
    have h3 : t * v / b ≤ b * (10 * v) / b := Int.ediv_le_ediv (by omega) (by omega)
    rwa [Int.mul_ediv_cancel_left _ (by omega)] at h3
  have h4 : 0 ≤ t * v := Int.mul_nonneg ht.1 hv.1
  have h5 : 0 ≤ t * v / b := Int.ediv_nonneg h4 (by omega)
  omega
theorem mu_unlOk {P S W : List Int} (hc : CluOk P S W) (he : nonNeg (exTo (proxL P S) W P.length) = true) (hm : ∀ i, i < P.length → gI W i ≤ 1000) {t b : Int} (hb : 1 ≤ b) (ht : 0 ≤ t ∧ t ≤ 10 * b) :
    UnlOk P S fun i => gI (woTo (proxL P S) (muTo (ordTo (fun j => gI W j) P S P.length) (discTo P S P.length) t b P.length) P.length) i := by
  obtain ⟨h1, h2⟩ := mu_num hc he hm
  intro i hi
  rw [ord_wo hc (by simp) i hi, gI_muTo hi]
  have hm0 := m0_bd hc hi
  have := mu_one (h1 i hi) (h2 i hi) hb ht
  omega
theorem mu_small {P S W : List Int} (hc : CluOk P S W) (he : nonNeg (exTo (proxL P S) W P.length) = true) (hm : ∀ i, i < P.length → gI W i ≤ 1000) {t b : Int} (hb : 1 ≤ b) (ht : 0 ≤ t ∧ t ≤ 10 * b) :
    ∀ i, i < (muTo (ordTo (fun j => gI W j) P S P.length) (discTo P S P.length) t b P.length).length → -1000000000000 ≤ gI (muTo (ordTo (fun j => gI W j) P S P.length) (discTo P S P.length) t b P.length) i ∧ gI (muTo (ordTo (fun j => gI W j) P S P.length) (discTo P S P.length) t b P.length) i ≤ 1000000000000 := by
  obtain ⟨h1, h2⟩ := mu_num hc he hm
  intro i hi
  have hi' : i < P.length := by simpa using hi
  rw [gI_muTo hi']
  have hm0 := m0_bd hc hi'
  have := mu_one (h1 i hi') (h2 i hi') hb ht
  omega
end Go.Proofs.Ythpnmkghjnipoaa
