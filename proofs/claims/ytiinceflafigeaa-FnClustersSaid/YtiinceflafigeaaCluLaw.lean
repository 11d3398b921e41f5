/- What the laws on clusters say of the proximity matrix, its inverse, excesses and orders. No program in sight. -/
import Derived.Test.YtiinceflafigeaaUnlBd
import Derived.Test.YtiinceflafigeaaPMatL
namespace Go.Proofs.Ytiinceflafigeaa
open Go.RowKit

/-- A number of the proximity matrix. -/
theorem pm_nB {P S W : List Int} (hc : CluOk P S W) {i j : Nat} (hi : i < P.length) (hj : j < P.length) : gI (pmRow P S P.length i) j = (if j = i then 1 else 0) - nB P S i j := by
  rw [gI_pmRow hj]
  by_cases e : j = i
  · subst e
    rw [nB_ge hc hi (Nat.le_refl j), if_pos rfl, if_pos rfl]; rfl
  · rw [if_neg e, if_neg e]
    unfold nB
    split <;> rfl
/-- A row of the proximity matrix times a list. -/
theorem pm_row {P S W : List Int} (hc : CluOk P S W) {i : Nat} (hi : i < P.length) (f : Nat → Int) : sumTo (fun j => gI (pmRow P S P.length i) j * f j) P.length = f i - sumTo (fun q => nB P S i q * f q) P.length := by
  rw [sumTo_congr (g := fun j => (if j = i then 1 else 0) * f j - nB P S i j * f j) (fun j hj => by rw [pm_nB hc hi hj, Int.sub_mul]), sumTo_sub, sumTo_unit, if_pos hi]
/-- A column. -/
theorem pm_col {P S W : List Int} (hc : CluOk P S W) {i : Nat} (hi : i < P.length) (f : Nat → Int) : sumTo (fun j => gI (pmRow P S P.length j) i * f j) P.length = exF P S f i := by
  rw [sumTo_congr (g := fun j => (if j = i then 1 else 0) * f j - nB P S j i * f j) (fun j hj => by
    rw [pm_nB hc hj hi, Int.sub_mul]
    by_cases e : j = i
    · subst e; rfl
    · rw [if_neg e, if_neg (fun h => e h.symm)]), sumTo_sub, sumTo_unit, if_pos hi]
  rfl
theorem mI_ord (P S : List Int) (i k : Nat) : mI P S i k = ordF P S (fun j => if j = k then 1 else 0) i := rfl
theorem mI_eq {P S W : List Int} (hc : CluOk P S W) {i : Nat} (hi : i < P.length) (k : Nat) : mI P S i k = (if i = k then 1 else 0) + sumTo (fun q => nB P S i q * mI P S q k) P.length := ordF_eq hc _ hi
/-- The proximity matrix times its inverse. -/
theorem pm_inv {P S W : List Int} (hc : CluOk P S W) {i : Nat} (hi : i < P.length) (j : Nat) : sumTo (fun k => gI (pmRow P S P.length i) k * mI P S k j) P.length = if i = j then 1 else 0 := by
  rw [pm_row hc hi, mI_eq hc hi]; omega
/-- Orders are led back to weights. -/
theorem pm_ord {P S W : List Int} (hc : CluOk P S W) {i : Nat} (hi : i < P.length) (A : Nat → Int) : sumTo (fun k => gI (pmRow P S P.length i) k * gI (ordTo A P S P.length) k) P.length = A i := by
  have h := ordF_eq hc A hi
  rw [pm_row hc hi]
  show ordF P S A i - _ = _
  rw [h]
  show A i + sumTo (fun q => nB P S i q * ordF P S A q) P.length - sumTo (fun q => nB P S i q * ordF P S A q) P.length = A i
  omega
theorem exF_add (P S : List Int) (A B : Nat → Int) (p : Nat) : exF P S (fun j => A j + B j) p = exF P S A p + exF P S B p := by
  unfold exF
  show A p + B p - _ = _
  rw [sumTo_congr (g := fun j => nB P S j p * A j + nB P S j p * B j) (fun j _ => by rw [Int.mul_add]), sumTo_add]
  omega
theorem exF_sum (P S : List Int) (G : Nat → Nat → Int) (p m : Nat) : exF P S (fun j => sumTo (fun x => G x j) m) p = sumTo (fun x => exF P S (G x) p) m := by
  induction m with
  | zero => simp [exF, sumTo, sumTo_const_zero]
  | succ m ih => rw [sumTo_succ, ← ih]; exact exF_add P S (fun j => sumTo (fun x => G x j) m) (G m) p
theorem exF_mul (P S : List Int) (c : Int) (A : Nat → Int) (p : Nat) : exF P S (fun j => c * A j) p = c * exF P S A p := by
  unfold exF
  show c * A p - _ = _
  rw [sumTo_congr (g := fun j => c * (nB P S j p * A j)) (fun j _ => by rw [Int.mul_left_comm]), sumTo_mul, Int.mul_sub]
theorem exF_unit {P S W : List Int} (_ : CluOk P S W) {i : Nat} (hi : i < P.length) (p : Nat) : exF P S (fun j => if j = i then 1 else 0) p = (if p = i then 1 else 0) - nB P S i p := by
  unfold exF
  rw [sumTo_congr (g := fun j => (if j = i then 1 else 0) * nB P S j p) (fun j _ => Int.mul_comm _ _), sumTo_unit, if_pos hi]
/-- A row of the inverse has one excess. -/
theorem ex_mI {P S W : List Int} (hc : CluOk P S W) {p : Nat} (hp : p < P.length) : ∀ i, i < P.length → exF P S (mI P S i) p = if p = i then 1 else 0 := by
  refine clu_induct hc fun i hi ih => ?_
  have e1 : exF P S (mI P S i) p = exF P S (fun j => (if j = i then 1 else 0) + sumTo (fun q => nB P S i q * mI P S q j) P.length) p := exF_congr (fun j _ => by
    rw [mI_eq hc hi]
    by_cases e : i = j
    · rw [if_pos e, if_pos e.symm]
    · rw [if_neg e, if_neg (fun h => e h.symm)]) hp
  rw [e1, exF_add, exF_unit hc hi, exF_sum]
  have e2 : sumTo (fun x => exF P S (fun j => nB P S i x * mI P S x j) p) P.length = nB P S i p := by
    rw [sumTo_congr (g := fun x => (if x = p then 1 else 0) * nB P S i x) (fun x hx => by
      rw [exF_mul]
      by_cases e : nB P S i x = 0
      · rw [e]; simp
      · have hxi : x < i := by
          by_cases h : x < i
          · exact h
          · exact absurd (nB_ge hc hi (by omega)) e
        rw [ih x hxi e, Int.mul_comm]
        by_cases e3 : p = x
        · rw [if_pos e3, if_pos e3.symm]
        · rw [if_neg e3, if_neg (fun h => e3 h.symm)]), sumTo_unit, if_pos hp]
  rw [e2]; omega
theorem exL_mRow {P S W : List Int} (hc : CluOk P S W) {i : Nat} (hi : i < P.length) : exTo (proxL P S) (mRow P S i) P.length = unitL P.length i := by
  show exL P S (mRow P S i) = _
  apply gI_ext (by rw [exL_len]; simp)
  intro p hp
  have hp' : p < P.length := by rw [exL_len] at hp; simpa using hp
  rw [exL_at hc (by simp) hp', gI_unit hi, exF_congr (B := mI P S i) (fun j hj => gI_mRow hj) hp', ex_mI hc hp' i hi]
/-- The weights with some excesses have these. -/
theorem exL_lin {P S W E : List Int} (hc : CluOk P S W) (hl : E.length = P.length) : exTo (proxL P S) (linTo P S E P.length) P.length = E := by
  show exL P S (linTo P S E P.length) = _
  apply gI_ext (by rw [exL_len]; simp [hl])
  intro p hp
  have hp' : p < P.length := by rw [exL_len] at hp; simpa using hp
  rw [exL_at hc (by simp) hp', exF_congr (B := fun k => sumTo (fun x => gI E x * mI P S x k) P.length) (fun j hj => gI_linTo hj) hp', exF_sum,
    sumTo_congr (g := fun x => (if x = p then 1 else 0) * gI E x) (fun x hx => by
      rw [exF_mul, ex_mI hc hp' x hx, Int.mul_comm]
      by_cases e3 : p = x
      · rw [if_pos e3, if_pos e3.symm]
      · rw [if_neg e3, if_neg (fun h => e3 h.symm)]), sumTo_unit, if_pos hp']
/-- An order is a product with the simple cluster's weights. -/
theorem ord_dot {P S W : List Int} (hc : CluOk P S W) (A : Nat → Int) : ∀ i, i < P.length → ordF P S A i = sumTo (fun j => A j * mI P S i j) P.length := by
  refine clu_induct hc fun i hi ih => ?_
  have e1 : sumTo (fun j => A j * mI P S i j) P.length = A i + sumTo (fun j => A j * sumTo (fun q => nB P S i q * mI P S q j) P.length) P.length := by
    rw [sumTo_congr (g := fun j => (if j = i then 1 else 0) * A j + A j * sumTo (fun q => nB P S i q * mI P S q j) P.length) (fun j _ => by
      show A j * mI P S i j = (if j = i then 1 else 0) * A j + A j * sumTo (fun q => nB P S i q * mI P S q j) P.length
      rw [mI_eq hc hi, Int.mul_add]
      by_cases e : i = j
      · rw [if_pos e, if_pos e.symm]; omega
      · rw [if_neg e, if_neg (fun h => e h.symm)]; omega), sumTo_add, sumTo_unit, if_pos hi]
  have e2 : sumTo (fun q => nB P S i q * ordF P S A q) P.length = sumTo (fun q => sumTo (fun j => A j * (nB P S i q * mI P S q j)) P.length) P.length := sumTo_congr fun q hq => by
    by_cases e : nB P S i q = 0
    · rw [e, sumTo_const_zero (fun j _ => by simp)]; simp
    · have hxi : q < i := by
        by_cases h : q < i
        · exact h
        · exact absurd (nB_ge hc hi (by omega)) e
      rw [ih q hxi e, ← sumTo_mul]
      exact sumTo_congr fun j _ => by rw [Int.mul_left_comm]
  have e3 : sumTo (fun j => A j * sumTo (fun q => nB P S i q * mI P S q j) P.length) P.length = sumTo (fun j => sumTo (fun q => A j * (nB P S i q * mI P S q j)) P.length) P.length := sumTo_congr fun j _ => by rw [sumTo_mul]
  rw [ordF_eq hc A hi, e1, e2, e3, sumTo_swap]
end Go.Proofs.Ytiinceflafigeaa
