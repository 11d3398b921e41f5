/- Contracts: LeastThreshold, the program. -/
import Derived.Test.YthpnmkghjnipoaaLtPure
import Derived.Test.YthpnmkghjnipoaaFrac
import Derived.Test.YthpnmkghjnipoaaCons
import Derived.Test.YthpnmkghjnipoaaOrd
namespace Go.Proofs.Ythpnmkghjnipoaa
open Go.RowKit

theorem isInteger_c (n : Int) (w : World) : Calls Try.prog 150 #[.int .i64 n] w fun e w' => e = .returned (.bool (inB n (-1000000000) 1000000000)) ∧ w = w' := by
  go_enter Try.func150, Try.ntmps150
  go_wp2_with fail
  refine (inRange_c _ _ _ _).mono ?_
  rintro e w1 ⟨rfl, rfl⟩
  go_wp2
  go_ret
  exact ⟨rfl, rfl⟩
theorem isNatural_c (n : Int) (w : World) : Calls Try.prog 151 #[.int .i64 n] w fun e w' => e = .returned (.bool (inB n 1 1000000000)) ∧ w = w' := by
  go_enter Try.func151, Try.ntmps151
  go_wp2_with fail
  refine (inRange_c _ _ _ _).mono ?_
  rintro e w1 ⟨rfl, rfl⟩
  go_wp2
  go_ret
  exact ⟨rfl, rfl⟩
theorem l01Integer_c (n : Int) (w : World) : Calls Try.prog 142 #[.int .i64 n] w fun e w' => e = .returned (.bool (inB n (-1000000000) 1000000000)) ∧ w = w' := by
  go_enter Try.func142, Try.ntmps142
  go_wp2_with fail
  refine (l01In_c _ _ _ _).mono ?_
  rintro e w1 ⟨rfl, rfl⟩
  go_wp2
  go_ret
  exact ⟨rfl, rfl⟩
theorem l01Natural_c (n : Int) (w : World) : Calls Try.prog 143 #[.int .i64 n] w fun e w' => e = .returned (.bool (inB n 1 1000000000)) ∧ w = w' := by
  go_enter Try.func143, Try.ntmps143
  go_wp2_with fail
  refine (l01In_c _ _ _ _).mono ?_
  rintro e w1 ⟨rfl, rfl⟩
  go_wp2
  go_ret
  exact ⟨rfl, rfl⟩

/-- A pair of numbers that is handed back lies in the variable; what is stored ahead of the return. -/
theorem lt_zero {w w' : World} {c : Int} (fr : Below w.heap.size w w') : (.returned (.tuple #[.agg #[.int .i64 0, .int .i64 0], .int .i64 c]) : Ending) = .returned (.tuple #[.agg #[.int .i64 0, .int .i64 0], .int .i64 c]) ∧ Below w.heap.size w ((w'.setCell ⟨w.heap.size + 1, 0, none⟩ (.int .i64 0)).setCell ⟨w.heap.size + 1, 1, none⟩ (.int .i64 0)) :=
  ⟨rfl, (fr.setCell (p := ⟨w.heap.size + 1, 0, none⟩) (Nat.le_succ _) _).setCell (p := ⟨w.heap.size + 1, 1, none⟩) (Nat.le_succ _) _⟩

end Go.Proofs.Ythpnmkghjnipoaa
