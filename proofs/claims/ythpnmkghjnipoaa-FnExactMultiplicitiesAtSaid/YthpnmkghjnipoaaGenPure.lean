/- Generators of the semigroup of a branch. No program in sight. -/
import Derived.Test.YthpnmkghjnipoaaRat
namespace Go.Proofs.Ythpnmkghjnipoaa

/-- The generator at i. -/
def vI (T : List Int) : Nat → Int
  | 0 => gI T 0
  | 1 => gI T 1
  | i + 2 => rI T (i + 1) * vI T (i + 1) + gI T (i + 2) - gI T (i + 1)
theorem vI_zero (T : List Int) : vI T 0 = gI T 0 := rfl
theorem vI_one (T : List Int) : vI T 1 = gI T 1 := rfl
theorem vI_two (T : List Int) (i : Nat) : vI T (i + 2) = rI T (i + 1) * vI T (i + 1) + gI T (i + 2) - gI T (i + 1) := rfl
def vTo (T : List Int) (k : Nat) : List Int := (List.range k).map (vI T)
@[simp] theorem vTo_len (T : List Int) (k : Nat) : (vTo T k).length = k := by simp [vTo]
theorem vTo_succ (T : List Int) (k : Nat) : vTo T (k + 1) = vTo T k ++ [vI T k] := by simp [vTo, List.range_succ]
theorem gI_vTo {T : List Int} {k i : Nat} (h : i < k) : gI (vTo T k) i = vI T i := by rw [gI_lt (by simpa using h)]; simp [vTo]

theorem rI_bd {T : List Int} (h : BraOk T) (i : Nat) : 0 ≤ rI T i ∧ rI T i ≤ 64 := by
  cases i with
  | zero => simp [rI]
  | succ i =>
    rw [rI_succ]
    have h1 := eI_bd h i
    have h2 := eI_bd h (i + 1)
    have h3 : 0 ≤ eI T i / eI T (i + 1) := Int.ediv_nonneg (by omega) (by omega)
    have h4 : eI T i / eI T (i + 1) ≤ eI T i := Int.ediv_le_self _ (by omega)
    omega
theorem rI_mul (T : List Int) (i : Nat) : rI T (i + 1) * eI T (i + 1) = eI T i := by
  rw [rI_succ]
  exact Int.ediv_mul_cancel (eI_dvd_step T i)
theorem rI_two {T : List Int} (h : BraOk T) {i : Nat} (hi : i + 1 < T.length) : 2 ≤ rI T (i + 1) := by
  have h1 := rI_mul T i
  have h2 := eI_half h hi
  have h3 := eI_bd h (i + 1)
  apply Int.not_lt.1
  intro hlt
  have h4 := Int.mul_le_mul_of_nonneg_right (show rI T (i + 1) ≤ 1 by omega) (show 0 ≤ eI T (i + 1) by omega)
  omega

theorem mul_bd {a b A B : Int} (h1 : 0 ≤ a) (h2 : a ≤ A) (h3 : 0 ≤ b) (h4 : b ≤ B) : 0 ≤ a * b ∧ a * b ≤ A * B := by
  refine ⟨Int.mul_nonneg h1 h3, ?_⟩
  exact Int.mul_le_mul h2 h4 h3 (by omega)

theorem vI_bd1 {T : List Int} (h : BraOk T) (i : Nat) (hi : i < T.length) : 1 ≤ vI T i ∧ vI T i ≤ 3000 * 64 ^ i - 2000 := by
  induction i using Nat.strongRecOn with
  | _ i ih =>
    match i, hi with
    | 0, hi => have := h.num 0 hi; have := h.first; simp only [vI]; omega
    | 1, hi => have := h.num 1 hi; simp only [vI]; omega
    | i + 2, hi =>
      have h1 := ih (i + 1) (by omega) (by omega)
      have h2 := rI_bd h (i + 1)
      have h3 := rI_two h (i := i) (by omega)
      have h4 := mul_bd (a := rI T (i + 1)) (A := 64) (b := vI T (i + 1)) (B := 3000 * 64 ^ (i + 1) - 2000) (by omega) (by omega) (by omega) (by omega)
      have h5 : gI T (i + 1) < gI T (i + 2) := h.asc (i + 1) (by omega)
      have h6 := h.num (i + 2) hi
      have h7 := h.num (i + 1) (by omega)
      have h8 : (64 : Int) ^ (i + 2) = 64 ^ (i + 1) * 64 := Int.pow_succ _ _
      rw [vI_two, h8]
      omega
theorem pow64 : ∀ i, i < 7 → (64 : Int) ^ i ≤ 68719476736 := by decide +kernel
theorem vI_bd {T : List Int} (h : BraOk T) {i : Nat} (hi : i < T.length) : 1 ≤ vI T i ∧ vI T i ≤ 1000000000000000 := by
  have h1 := vI_bd1 h i hi
  have h2 := bra_len h
  have h3 := pow64 i (by omega)
  omega
end Go.Proofs.Ythpnmkghjnipoaa
