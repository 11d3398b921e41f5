/- Contracts: DeltaOfCluster. -/
import Derived.Test.YtiinceflafigeaaPath
import Derived.Test.YtiinceflafigeaaOrdPure
namespace Go.Proofs.Ytiinceflafigeaa
open Go.RowKit

/-- x (x - 1) / 2 -/
def tri (x : Int) : Int := x * (x - 1) / 2
theorem tri_nn (x : Int) : 0 ≤ x * (x - 1) := by
  rcases Int.lt_or_le 0 x with h | h
  · exact Int.mul_nonneg (by omega) (by omega)
  · exact Int.mul_nonneg_of_nonpos_of_nonpos (by omega) (by omega)
theorem tri_prod (x : Int) (h : -100000 ≤ x ∧ x ≤ 100000) : 0 ≤ x * (x - 1) ∧ x * (x - 1) ≤ 10000100000 := by
  have h1 := tri_nn x
  have h2 := mul_abs_le (x := x) (y := x - 1) (B := 100000) (C := 100001) (by omega) (by omega)
  omega
theorem tri_bd (x : Int) (h : -100000 ≤ x ∧ x ≤ 100000) : 0 ≤ tri x ∧ tri x ≤ 10000100000 := by
  have h1 := tri_prod x h
  unfold tri
  omega
/-- The sum of all x (x - 1) / 2. -/
def deltaL (xs : List Int) : Int := sumTo (fun i => tri (gI xs i)) xs.length

set_option maxHeartbeats 1000000 in
theorem deltaOf_c (v : Value) (xs : List Int) (w : World) (h : Rd w v xs) (hb : ∀ i, i < xs.length → -100000 ≤ gI xs i ∧ gI xs i ≤ 100000) (hn : xs.length ≤ 10000) :
    Calls Try.prog 210 #[v] w fun e w' => e = .returned (.int .i64 (deltaL xs)) ∧ w = w' := by
  obtain ⟨a, cap, rfl, hcap1, hcap2, hrd⟩ := h
  go_enter Try.func210, Try.ntmps210
  go_wp2
  go_loop [3, 5, 8] (fun n _ i => ∃ k : Nat, k ≤ xs.length ∧ i = .int .i64 k ∧ n = .int .i64 (sumTo (fun i => tri (gI xs i)) k)) (fun _ _ i => xs.length - (intOf i).toNat)
  case atStart => exact ⟨0, Nat.zero_le _, rfl, rfl⟩
  case round =>
    obtain ⟨k, hk, rfl, rfl⟩ := hrel
    by_cases hlt : k < xs.length
    · obtain ⟨b, off, rfl, hbl, hcs⟩ := hrd (ne_of_lt_len hlt)
      have hc := hcs k hlt
      have hx := tri_prod _ (hb k hlt)
      have hs := sumTo_bound (f := fun i => tri (gI xs i)) (n := k) 0 10000100000 (fun i hi => tri_bd _ (hb i (by omega)))
      have HS := Lib.hid (sumTo_succ (fun i => tri (gI xs i)) k)
      have hbk := hb k hlt
      clear hcs hrd hb
      generalize sumTo (fun i => tri (gI xs i)) k = s at hs HS
      generalize gI xs k = x at hc hx HS hbk
      have hs1 : 0 ≤ s := by omega
      have hs2 : s ≤ 100001000000000 := by omega
      clear hs
      obtain ⟨hx1, hx2⟩ := hx
      obtain ⟨hb1, hb2⟩ := hbk
      go_wp2
      go_round
      case rel => exact ⟨k + 1, by omega, by go_num, by rw [HS.out]; rfl⟩
      case measure => simp [intOf]; omega
    · go_wp2
      have hk' : k = xs.length := by omega
      subst hk'
      go_ret
      exact ⟨rfl, rfl⟩

end Go.Proofs.Ytiinceflafigeaa
