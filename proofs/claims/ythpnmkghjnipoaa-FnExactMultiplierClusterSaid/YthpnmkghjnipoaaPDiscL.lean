/- Orders go by the numbers that are asked. No program in sight. -/
import Derived.Test.YthpnmkghjnipoaaDisc
namespace Go.Proofs.Ythpnmkghjnipoaa
theorem ord_own_congrL_to {own own' : Nat → Int} {P S : List Int} {n : Nat} (h : ∀ j, j < n → own j = own' j) (k : Nat) (hk : k ≤ n) : ordTo own P S k = ordTo own' P S k := by
  induction k with
  | zero => rfl
  | succ k ih => rw [ordTo_succ, ordTo_succ, ih (by omega), h k (by omega)]
theorem ord_own_congrL {own own' : Nat → Int} {P S : List Int} {n : Nat} (h : ∀ j, j < n → own j = own' j) : ordTo own P S n = ordTo own' P S n := ord_own_congrL_to h n (Nat.le_refl _)
end Go.Proofs.Ythpnmkghjnipoaa
