/- Contracts of the laws' own helpers on branches: marks. -/
import Derived.Test.YthpnmkghjnipoaaHelpB
namespace Go.Proofs.Ythpnmkghjnipoaa
open Go.RowKit

theorem markBranch_c (p : Value) (P : List Int) (k : Int) (base : Nat) (w : World) (h : OwnI w base p P) (h0 : 0 ≤ k) (h1 : k ≤ 1000000) (hn : P.length ≤ 1048576) :
    Calls Try.prog 29 #[.agg #[p], .int .i64 k] w fun e w' => e = .returned (.int .i64 (k + P.length)) ∧ OwnI w' base p (iotaI k P.length) ∧ Keeps (fun b => p.ownBlock = some b) w w' := by
  obtain ⟨a1, k1, rfl⟩ := h.rd.len0
  have hx := Boxed.start w 28 #[.slice a1 P.length k1]
  go_enter Try.func29, Try.ntmps29
  go_wp2_with fail
  refine (mark_c _ P _ base _ (h.below hx.below (Nat.le_refl _)) h0 (by omega) (by omega)).mono ?_
  rintro e w1 ⟨rfl, ho1, hk1⟩
  go_wp2
  go_ret
  exact ⟨rfl, ho1, (Keeps.of_below hx.below).trans hk1⟩

theorem heldBranch_c (p : Value) (n : Nat) (k : Int) (w : World) (h : Rd w p (iotaI k n)) (h0 : 0 ≤ k) (h1 : k ≤ 1000000) (hn : n ≤ 1048576) :
    Calls Try.prog 65 #[.agg #[p], .int .i64 k] w fun e w' => e = .returned (.int .i64 (k + n)) ∧ Below w.heap.size w w' := by
  have hl := h.len0
  rw [iotaI_length] at hl
  obtain ⟨a1, k1, rfl⟩ := hl
  have hx := Boxed.start w 28 #[.slice a1 n k1]
  go_enter Try.func65, Try.ntmps65
  go_wp2_with fail
  refine (held_c _ n _ _ (hx.rd h) h0 (by omega) (by omega)).mono ?_
  rintro e w1 ⟨rfl, rfl⟩
  go_wp2
  go_ret
  exact ⟨rfl, hx.below⟩
end Go.Proofs.Ythpnmkghjnipoaa
