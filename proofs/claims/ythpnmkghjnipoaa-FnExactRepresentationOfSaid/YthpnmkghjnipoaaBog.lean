/- Contracts: BranchOfGenerators, the program. -/
import Derived.Test.YthpnmkghjnipoaaBogPure
import Derived.Test.YthpnmkghjnipoaaIsBra
import Derived.Test.YthpnmkghjnipoaaPushL
import Derived.Test.YthpnmkghjnipoaaRet
import Derived.Deep.DeepCutAuto
namespace Go.Proofs.Ythpnmkghjnipoaa
open Go.RowKit

theorem mul_bdB {a b A B : Int} (h1 : 0 ≤ a) (h2 : a ≤ A) (h3 : 0 ≤ b) (h4 : b ≤ B) : 0 ≤ a * b ∧ a * b ≤ A * B := ⟨Int.mul_nonneg h1 h3, Int.mul_le_mul h2 h4 h3 (by omega)⟩
/-- The variable that is handed back holds no terms. -/
theorem bog_zero {w w' : World} {c : Int} (_ : Blk w' w.heap.size 28 #[.slice none 0 0]) (fr : Below w.heap.size w w') : RetBC w [] c (.returned (.tuple #[.agg #[.slice none 0 0], .int .i64 c])) (w'.setCell ⟨w.heap.size, 0, none⟩ (.slice none 0 0)) :=
  ⟨none, 0, rfl, own_nil _ _ _, fr.setCell (p := ⟨w.heap.size, 0, none⟩) (Nat.le_refl _) _⟩

end Go.Proofs.Ythpnmkghjnipoaa
