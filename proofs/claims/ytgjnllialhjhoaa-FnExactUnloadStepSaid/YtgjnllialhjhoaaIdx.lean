/- Contracts: slices.IndexFunc for a negative number, slices.Index, slices.Contains. -/
import Derived.Test.YtgjnllialhjhoaaUnlBd
import Derived.Test.YtgjnllialhjhoaaSlc
namespace Go.Proofs.Ytgjnllialhjhoaa
open Go.RowKit

theorem isNeg_c (n : Int) (w : World) : Calls Try.prog 101 #[.int .i64 n] w fun e w' => e = .returned (.bool (decide (n < 0))) ∧ w = w' := by
  go_enter Try.func101, Try.ntmps101
  go_wp2
  go_ret
  exact ⟨rfl, rfl⟩

set_option maxHeartbeats 1000000 in
theorem indexNeg_c (v : Value) (xs : List Int) (w : World) (h : Rd w v xs) (_ : xs.length ≤ 1000000) :
    Calls Try.prog 99 #[v, .func (.func 101) #[] #[]] w fun e w' => e = .returned (.int .i64 (leastTo xs xs.length)) ∧ w = w' := by
  obtain ⟨a, cap, rfl, h1, h2, hrd⟩ := h
  go_enter Try.func99, Try.ntmps99
  go_wp2
  go_loop [5, 8] (fun _ i => ∃ j : Nat, j ≤ xs.length ∧ i = .int .i64 j ∧ ∀ t, t < j → 0 ≤ gI xs t) (fun _ i => xs.length - (intOf i).toNat)
  case atStart => exact ⟨0, Nat.zero_le _, rfl, fun t ht => absurd ht (by omega)⟩
  case round =>
    obtain ⟨j, hj, rfl, hg⟩ := hrel
    by_cases hlt : j < xs.length
    · obtain ⟨b, off, rfl, hb, hcs⟩ := hrd (ne_of_lt_len hlt)
      have hc := hcs j hlt
      have HR := Lib.hid (@leastTo_at xs j xs.length hlt)
      have hji : (j : Int) < (xs.length : Int) := by omega
      by_cases hneg : gI xs j < 0
      · have HF := Lib.hid (HR.out hneg hg)
        have hd : decide (gI xs j < 0) = true := by simp [hneg]
        clear hg hcs hrd HR
        generalize gI xs j = x at hc hneg hd
        go_wp2_with fail
        refine (isNeg_c x _).mono ?_
        rintro e w1 ⟨rfl, rfl⟩
        rw [hd]
        go_wp2
        go_ret
        exact ⟨ret_int HF.out.symm, rfl⟩
      · have HF : Hid (∀ t, t < j + 1 → 0 ≤ gI xs t) := Lib.hid (fun t ht => by
          by_cases e : t = j
          · subst e; omega
          · exact hg t (by omega))
        have hd : decide (gI xs j < 0) = false := by simp; omega
        clear hg hcs hrd HR
        generalize gI xs j = x at hc hneg hd
        go_wp2_with fail
        refine (isNeg_c x _).mono ?_
        rintro e w1 ⟨rfl, rfl⟩
        rw [hd]
        go_wp2
        go_round
        case rel => exact ⟨j + 1, by omega, by go_num, HF.out⟩
        case measure => simp [intOf]; omega
    · have hj' : j = xs.length := by omega
      subst hj'
      have HF := Lib.hid (leastTo_none hg)
      clear hg
      go_wp2
      go_ret
      exact ⟨ret_int HF.out.symm, rfl⟩

/-- The first place before k at which x stands, or -1. -/
def idxTo (xs : List Int) (x : Int) : Nat → Int
  | 0 => -1
  | k + 1 => if 0 ≤ idxTo xs x k then idxTo xs x k else if gI xs k = x then k else -1
theorem idxTo_none {xs : List Int} {x : Int} {k : Nat} : (∀ i, i < k → gI xs i ≠ x) → idxTo xs x k = -1 := by
  induction k with
  | zero => intro _; rfl
  | succ k ih => intro h; unfold idxTo; rw [ih (fun i hi => h i (by omega)), if_neg (by omega), if_neg (h k (by omega))]
theorem idxTo_at {xs : List Int} {x : Int} {j k : Nat} (hj : j < k) (h1 : gI xs j = x) (h2 : ∀ i, i < j → gI xs i ≠ x) : idxTo xs x k = j := by
  induction k with
  | zero => omega
  | succ k ih =>
    unfold idxTo
    by_cases e : j = k
    · subst e; rw [idxTo_none h2, if_neg (by omega), if_pos h1]
    · rw [ih (by omega), if_pos (by omega)]

set_option maxHeartbeats 1000000 in
theorem slicesIndex_c (v : Value) (xs : List Int) (x : Int) (w : World) (h : Rd w v xs) (_ : xs.length ≤ 1000000) :
    Calls Try.prog 133 #[v, .int .i64 x] w fun e w' => e = .returned (.int .i64 (idxTo xs x xs.length)) ∧ w = w' := by
  obtain ⟨a, cap, rfl, h1, h2, hrd⟩ := h
  go_enter Try.func133, Try.ntmps133
  go_wp2
  go_loop [5, 8] (fun _ i => ∃ j : Nat, j ≤ xs.length ∧ i = .int .i64 j ∧ ∀ t, t < j → gI xs t ≠ x) (fun _ i => xs.length - (intOf i).toNat)
  case atStart => exact ⟨0, Nat.zero_le _, rfl, fun t ht => absurd ht (by omega)⟩
  case round =>
    obtain ⟨j, hj, rfl, hg⟩ := hrel
    by_cases hlt : j < xs.length
    · obtain ⟨b, off, rfl, hb, hcs⟩ := hrd (ne_of_lt_len hlt)
      have hc := hcs j hlt
      have HR := Lib.hid (@idxTo_at xs x j xs.length hlt)
      have hji : (j : Int) < (xs.length : Int) := by omega
      by_cases he : gI xs j = x
      · have HF := Lib.hid (HR.out he hg)
        rw [he] at hc
        have hbt : (x == x) = true := by simp
        clear hg hcs hrd HR he
        go_wp2
        go_ret
        exact ⟨ret_int HF.out.symm, rfl⟩
      · have HF : Hid (∀ t, t < j + 1 → gI xs t ≠ x) := Lib.hid (fun t ht => by
          by_cases e : t = j
          · subst e; exact he
          · exact hg t (by omega))
        have hbf : (x == gI xs j) = false := beq_false_of_ne (fun e => he e.symm)
        clear hg hcs hrd HR
        generalize gI xs j = y at hc hbf he
        go_wp2
        go_round
        case rel => exact ⟨j + 1, by omega, by go_num, HF.out⟩
        case measure => simp [intOf]; omega
    · have hj' : j = xs.length := by omega
      subst hj'
      have HF := Lib.hid (idxTo_none hg)
      clear hg
      go_wp2
      go_ret
      exact ⟨ret_int HF.out.symm, rfl⟩

theorem contains_c (v : Value) (xs : List Int) (x : Int) (w : World) (h : Rd w v xs) (hn : xs.length ≤ 1000000) :
    Calls Try.prog 102 #[v, .int .i64 x] w fun e w' => e = .returned (.bool (decide (0 ≤ idxTo xs x xs.length))) ∧ w = w' := by
  obtain ⟨a, cap, rfl⟩ := h.len0
  go_enter Try.func102, Try.ntmps102
  go_wp2_with fail
  refine (slicesIndex_c _ xs x _ h hn).mono ?_
  rintro e w1 ⟨rfl, rfl⟩
  go_wp2
  go_ret
  exact ⟨ret_bool (by first | rfl | simp), rfl⟩
end Go.Proofs.Ytgjnllialhjhoaa
