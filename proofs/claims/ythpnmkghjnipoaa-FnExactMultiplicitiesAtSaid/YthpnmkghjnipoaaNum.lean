/- Contracts of the functions on single numbers: ranges, absolute values, greatest common divisors. -/
import Derived.Test.YthpnmkghjnipoaaProg
import Derived.Test.YthpnmkghjnipoaaLib
import Derived.Deep.QuietTactic
import Derived.BigQuiet
import Derived.Deep.DeepCutAuto
namespace Go.Proofs.Ythpnmkghjnipoaa
open Go.RowKit

/-- n lies from a to b. -/
def inB (n a b : Int) : Bool := decide (a ≤ n ∧ n ≤ b)
theorem inB_iff {n a b : Int} : inB n a b = true ↔ a ≤ n ∧ n ≤ b := by simp [inB]
theorem inB_not {n a b : Int} : inB n a b = false ↔ ¬ (a ≤ n ∧ n ≤ b) := by simp only [inB, decide_eq_false_iff_not]

theorem inRange_c (n a b : Int) (w : World) :
    Calls Try.prog 80 #[.int .i64 n, .int .i64 a, .int .i64 b] w fun e w' => e = .returned (.bool (inB n a b)) ∧ w = w' := by
  go_enter Try.func80, Try.ntmps80
  go_wp2
  · have h : a ≤ n := by assumption
    go_ret
    exact ⟨ret_bool (by simp [inB, h]), rfl⟩
  · have h : n < a := by assumption
    go_ret
    exact ⟨ret_bool (by simp [inB]; omega), rfl⟩

theorem l01In_c (n a b : Int) (w : World) :
    Calls Try.prog 77 #[.int .i64 n, .int .i64 a, .int .i64 b] w fun e w' => e = .returned (.bool (inB n a b)) ∧ w = w' := by
  go_enter Try.func77, Try.ntmps77
  go_wp2
  · have h : a ≤ n := by assumption
    go_ret
    exact ⟨ret_bool (by simp [inB, h]), rfl⟩
  · have h : n < a := by assumption
    go_ret
    exact ⟨ret_bool (by simp [inB]; omega), rfl⟩

def absI (n : Int) : Int := if n < 0 then -n else n
theorem absI_nn (n : Int) : 0 ≤ absI n := by unfold absI; split <;> omega
theorem absI_le (n b : Int) (h : -b ≤ n) (h' : n ≤ b) : absI n ≤ b := by unfold absI; split <;> omega
theorem absI_nat (n : Int) : (absI n).toNat = n.natAbs := by unfold absI; split <;> omega

theorem abs_c (n : Int) (w : World) (h1 : -9000000000000000000 ≤ n) (h2 : n ≤ 9000000000000000000) :
    Calls Try.prog 170 #[.int .i64 n] w fun e w' => e = .returned (.int .i64 (absI n)) ∧ w = w' := by
  go_enter Try.func170, Try.ntmps170
  go_wp2
  · have h : n < 0 := by assumption
    go_ret
    exact ⟨ret_int (by simp [absI, h]), rfl⟩
  · have h : 0 ≤ n := by assumption
    go_ret
    exact ⟨ret_int (by unfold absI; rw [if_neg (by omega)]), rfl⟩

/-- The greatest common divisor as an integer. -/
def gcdI (a b : Int) : Int := (Nat.gcd a.natAbs b.natAbs : Nat)

theorem gcd_step (p q : Nat) : Nat.gcd p q = Nat.gcd q (p % q) := by
  rw [Nat.gcd_comm p q, Nat.gcd_rec q p, Nat.gcd_comm]

theorem gcdI_step (g p q : Int) (hp : 0 ≤ p) (hq : 0 < q) (h : gcdI p q = g) : gcdI q (p % q) = g := by
  rw [← h]
  unfold gcdI
  obtain ⟨m, rfl⟩ := Int.eq_ofNat_of_zero_le hp
  obtain ⟨n, rfl⟩ := Int.eq_ofNat_of_zero_le (Int.le_of_lt hq)
  rw [gcd_step (Int.natAbs m) (Int.natAbs n)]
  rfl
theorem gcdI_zero (g p q : Int) (hp : 0 ≤ p) (hq : q = 0) (h : gcdI p q = g) : p = g := by
  rw [← h, hq]
  unfold gcdI
  simp; omega
theorem gcdI_abs (a b : Int) : gcdI (absI a) (absI b) = gcdI a b := by
  unfold gcdI
  have e : ∀ n : Int, (absI n).natAbs = n.natAbs := fun n => by unfold absI; split <;> simp
  rw [e, e]

theorem divisor_c (a b : Int) (w : World) (h1 : -9000000000000000000 ≤ a) (h2 : a ≤ 9000000000000000000) (h3 : -9000000000000000000 ≤ b) (h4 : b ≤ 9000000000000000000) :
    Calls Try.prog 152 #[.int .i64 a, .int .i64 b] w fun e w' => e = .returned (.int .i64 (gcdI a b)) ∧ Drew w w' := by
  have ea := absI_nn a
  have eb := absI_nn b
  have fa := absI_le a _ h1 h2
  have fb := absI_le b _ h3 h4
  go_enter Try.func152, Try.ntmps152
  go_wp2_with (go_at_call 170; refine (abs_c _ _ (by assumption) (by assumption)).mono ?_; rintro e w' ⟨rfl, rfl⟩)
  go_loopw [0, 1] (fun s t wr => ∃ p q : Int, 0 ≤ p ∧ p ≤ 9000000000000000000 ∧ 0 ≤ q ∧ q ≤ 9000000000000000000 ∧ s = .int .i64 p ∧ t = .int .i64 q ∧ gcdI p q = gcdI a b ∧ Drew w wr) (fun _ t _ => (intOf t).toNat)
  case atStart => exact ⟨_, _, ea, fa, eb, fb, rfl, rfl, gcdI_abs a b, Drew.refl _⟩
  case round =>
    clear ea eb fa fb
    obtain ⟨p, q, hp0, hp1, hq0, hq1, rfl, rfl, hg, n, rfl⟩ := hrel
    have HG := Lib.hid hg
    clear hg
    by_cases hq : 0 < q
    · have hr0 : 0 ≤ p % q := Int.emod_nonneg _ (by omega)
      have hr1 : p % q < q := Int.emod_lt_of_pos _ hq
      go_wp2
      go_quiet (fail)
      go_wp2
      go_roundw
      case rel => exact ⟨_, _, by omega, by omega, by omega, by omega, rfl, rfl, gcdI_step _ _ _ hp0 hq HG.out, by first | exact Drew.one _ _ | exact Drew.two _ _ _ | exact Drew.refl _⟩
      case measure => simp [intOf]; omega
    · go_wp2
      go_ret
      exact ⟨ret_int (gcdI_zero _ _ _ hp0 (by omega) HG.out), Drew.one _ _⟩

theorem l01Gcd_c (a b : Int) (w : World) (h1 : -9000000000000000000 ≤ a) (h2 : a ≤ 9000000000000000000) (h3 : -9000000000000000000 ≤ b) (h4 : b ≤ 9000000000000000000) :
    Calls Try.prog 129 #[.int .i64 a, .int .i64 b] w fun e w' => e = .returned (.int .i64 (gcdI a b)) ∧ w = w' := by
  have ea := absI_nn a
  have eb := absI_nn b
  have fa := absI_le a _ h1 h2
  have fb := absI_le b _ h3 h4
  go_enter Try.func129, Try.ntmps129
  go_upto_if 7 with (fail)
  go_cut [0] from 8 to 9 (fun s wc => s = .int .i64 (absI a) ∧ w = wc)
  case first =>
    go_wp2
    · have h : a < 0 := by assumption
      go_meet
      exact ⟨by simp [absI, h], rfl⟩
    · have h : 0 ≤ a := by assumption
      go_meet
      exact ⟨by unfold absI; rw [if_neg (by omega)], rfl⟩
  case rest =>
    obtain ⟨rfl, rfl⟩ := hcut
    go_upto_if 11 with (fail)
    go_cut [1] from 12 to 13 (fun s wc => s = .int .i64 (absI b) ∧ w = wc)
    case first =>
      go_wp2
      · have h : b < 0 := by assumption
        go_meet
        exact ⟨by simp [absI, h], rfl⟩
      · have h : 0 ≤ b := by assumption
        go_meet
        exact ⟨by unfold absI; rw [if_neg (by omega)], rfl⟩
    case rest =>
      obtain ⟨rfl, rfl⟩ := hcut
      go_wp2
      go_loop [0, 1, 5] (fun s t _ => ∃ p q : Int, 0 ≤ p ∧ p ≤ 9000000000000000000 ∧ 0 ≤ q ∧ q ≤ 9000000000000000000 ∧ s = .int .i64 p ∧ t = .int .i64 q ∧ gcdI p q = gcdI a b) (fun _ t _ => (intOf t).toNat)
      case atStart => exact ⟨_, _, ea, fa, eb, fb, rfl, rfl, gcdI_abs a b⟩
      case round =>
        clear ea eb fa fb
        obtain ⟨p, q, hp0, hp1, hq0, hq1, rfl, rfl, hg⟩ := hrel
        have HG := Lib.hid hg
        clear hg
        by_cases hq : 0 < q
        · have hr0 : 0 ≤ p % q := Int.emod_nonneg _ (by omega)
          have hr1 : p % q < q := Int.emod_lt_of_pos _ hq
          go_wp2
          go_round
          case rel => exact ⟨_, _, by omega, by omega, by omega, by omega, rfl, rfl, gcdI_step _ _ _ hp0 hq HG.out⟩
          case measure => simp [intOf]; omega
        · go_wp2
          go_ret
          exact ⟨ret_int (gcdI_zero _ _ _ hp0 (by omega) HG.out), rfl⟩
end Go.Proofs.Ythpnmkghjnipoaa
