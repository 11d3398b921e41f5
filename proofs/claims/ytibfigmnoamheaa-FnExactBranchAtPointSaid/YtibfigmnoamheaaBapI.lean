/- Contracts: where a number stands in a list; impl.branchAt, spec.l08Code. -/
import Derived.Test.YtibfigmnoamheaaBap
import Derived.Test.YtibfigmnoamheaaCoc
import Derived.BigQuiet
namespace Go.Proofs.Ytibfigmnoamheaa
open Go.RowKit

set_option maxHeartbeats 1000000 in
theorem slicesIndex_at (v : Value) (xs : List Int) (y : Int) (q : Nat) (w : World) (h : Rd w v xs) (hq : q < xs.length) (hy : gI xs q = y) (hn : ∀ i, i < q → gI xs i ≠ y) :
    Calls Try.prog 240 #[v, .int .i64 y] w fun e w' => e = .returned (.int .i64 (q : Int)) ∧ w = w' := by
  obtain ⟨b, off, cap, rfl, hc1, hc2, hb, hc⟩ := h.cells (by omega)
  have HN := Lib.hid hn
  have HC := Lib.hid hc
  have HY := Lib.hid hy
  clear hn hc hy
  go_enter Try.func240, Try.ntmps240
  go_wp2_with fail
  go_loop [5, 8] (fun _ iv => ∃ i : Nat, i ≤ q ∧ iv = .int .i64 i) (fun _ iv => q + 1 - (intOf iv).toNat)
  case atStart => exact ⟨0, Nat.zero_le _, rfl⟩
  case round =>
    obtain ⟨i, hi, rfl⟩ := hrel
    have hii : (i : Int) < (xs.length : Int) := by omega
    have hi0 : (0 : Int) ≤ (i : Int) := by omega
    have d := HC.out i (by omega)
    by_cases hlt : i < q
    · have hne := HN.out i hlt
      generalize gI xs i = x at *
      have g1 : (y == x) = false := by simpa using fun e => hne e.symm
      have g2 : (x == y) = false := by simpa using hne
      have g3 : ¬ y = x := fun e => hne e.symm
      go_wp2
      go_round
      case rel => exact ⟨i + 1, by omega, by go_num⟩
      case measure => simp [intOf]; omega
    · have he : i = q := by omega
      subst he
      rw [HY.out] at d
      go_wp2
      go_ret
      exact ⟨rfl, rfl⟩
set_option maxHeartbeats 1000000 in
theorem l01Index_at (v : Value) (xs : List Int) (y : Int) (q : Nat) (w : World) (h : Rd w v xs) (hq : q < xs.length) (hy : gI xs q = y) (hn : ∀ i, i < q → gI xs i ≠ y) :
    Calls Try.prog 232 #[v, .int .i64 y] w fun e w' => e = .returned (.int .i64 (q : Int)) ∧ w = w' := by
  obtain ⟨b, off, cap, rfl, hc1, hc2, hb, hc⟩ := h.cells (by omega)
  have HN := Lib.hid hn
  have HC := Lib.hid hc
  have HY := Lib.hid hy
  clear hn hc hy
  go_enter Try.func232, Try.ntmps232
  go_wp2_with fail
  go_loop [5] (fun iv => ∃ i : Nat, i ≤ q ∧ iv = .int .i64 i) (fun iv => q + 1 - (intOf iv).toNat)
  case atStart => exact ⟨0, Nat.zero_le _, rfl⟩
  case round =>
    obtain ⟨i, hi, rfl⟩ := hrel
    have hii : (i : Int) < (xs.length : Int) := by omega
    have hi0 : (0 : Int) ≤ (i : Int) := by omega
    have d := HC.out i (by omega)
    by_cases hlt : i < q
    · have hne := HN.out i hlt
      generalize gI xs i = x at *
      have g1 : (y == x) = false := by simpa using fun e => hne e.symm
      have g2 : (x == y) = false := by simpa using hne
      have g3 : ¬ y = x := fun e => hne e.symm
      go_wp2
      go_round
      case rel => exact ⟨i + 1, by omega, by go_num⟩
      case measure => simp [intOf]; omega
    · have he : i = q := by omega
      subst he
      rw [HY.out] at d
      go_wp2
      go_ret
      exact ⟨rfl, rfl⟩
end Go.Proofs.Ytibfigmnoamheaa
