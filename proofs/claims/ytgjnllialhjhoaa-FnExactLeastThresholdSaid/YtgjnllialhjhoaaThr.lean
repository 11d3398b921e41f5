/- Contracts: eqFraction, pairsOf. -/
import Derived.Test.YtgjnllialhjhoaaFrac
import Derived.Test.YtgjnllialhjhoaaGenPure
namespace Go.Proofs.Ytgjnllialhjhoaa
open Go.RowKit

theorem eqFraction_c (a b : Int) (w : World) :
    Calls Try.prog 64 #[.agg #[.int .i64 a, .int .i64 b], .agg #[.int .i64 a, .int .i64 b]] w fun e w' => e = .returned (.bool true) ∧ Below w.heap.size w w' := by
  have hb : Below w.heap.size w ((w.alloc (.cells #[.int .i64 a, .int .i64 b] 63)).alloc (.cells #[.int .i64 a, .int .i64 b] 63)) := ((Below.refl _ _).alloc (Nat.le_refl _) _).alloc (by simp) _
  go_enter Try.func64, Try.ntmps64
  go_wp2
  go_ret
  exact ⟨rfl, hb⟩

/-- A fraction and a code. -/
def okF (c b : Bool) (x y : Int) : Int := if c then (if b then x else y) else 0
def thTop (T : List Int) : Int := if T.length = 1 then 2 else (gI T 0 + gI T 1) / gcdI (gI T 0 + gI T 1) (gI T 0 * gI T 1)
def thBot (T : List Int) : Int := if T.length = 1 then 1 else (gI T 0 * gI T 1) / gcdI (gI T 0 + gI T 1) (gI T 0 * gI T 1)

end Go.Proofs.Ytgjnllialhjhoaa
