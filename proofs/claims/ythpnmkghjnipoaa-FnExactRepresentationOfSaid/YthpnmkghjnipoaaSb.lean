/- Contracts: SemigroupBinomials, the program. -/
import Derived.Test.YthpnmkghjnipoaaPush2
import Derived.Test.YthpnmkghjnipoaaBogS
import Derived.Test.YthpnmkghjnipoaaGen
import Derived.Test.YthpnmkghjnipoaaProx
namespace Go.Proofs.Ythpnmkghjnipoaa
open Go.RowKit

/-- The rows of the first k generators behind the first. -/
def sbTo (T : List Int) : Nat → List (List Int)
  | 0 => []
  | k + 1 => sbTo T k ++ [[rI T (k + 1) * vI T (k + 1), 1], [vI T (k + 1), -1]]
theorem sbTo_zero (T : List Int) : sbTo T 0 = [] := rfl
theorem sbTo_succ (T : List Int) (k : Nat) : sbTo T (k + 1) = sbTo T k ++ [[rI T (k + 1) * vI T (k + 1), 1], [vI T (k + 1), -1]] := rfl
theorem sbTo_len (T : List Int) (k : Nat) : (sbTo T k).length = 2 * k := by
  induction k with
  | zero => rfl
  | succ k ih => rw [sbTo_succ, List.length_append, ih]; simp; omega
/-- The binomials. -/
def sbL (T : List Int) : List (List Int) := if T.length = 1 then [] else sbTo T (T.length - 1) ++ [[vI T 0, -1], [1, 1]]
theorem sbL_one {T : List Int} (h : T.length = 1) : sbL T = [] := by simp [sbL, h]
theorem sbL_more {T : List Int} (h : T.length ≠ 1) : sbL T = sbTo T (T.length - 1) ++ [[vI T 0, -1], [1, 1]] := by simp [sbL, h]
theorem below1 (w : World) (o1 : Obj) : Below w.heap.size w (w.alloc o1).drew := ((Below.refl _ _).alloc (Nat.le_refl _) o1).drew
theorem below2 (w : World) (o1 o2 : Obj) : Below w.heap.size w ((w.alloc o1).alloc o2).drew := (((Below.refl _ _).alloc (Nat.le_refl _) o1).alloc (by simp) o2).drew
theorem below3n (w : World) (o1 o2 o3 : Obj) : Below w.heap.size w (((w.alloc o1).alloc o2).alloc o3) := (((Below.refl _ _).alloc (Nat.le_refl _) o1).alloc (by simp) o2).alloc (by simp; omega) o3

end Go.Proofs.Ythpnmkghjnipoaa
