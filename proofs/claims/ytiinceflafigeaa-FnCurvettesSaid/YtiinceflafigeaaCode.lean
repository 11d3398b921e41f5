/- Contracts of impl.IsCode and spec.IsCode: both tell whether a list is a code. -/
import Derived.Test.YtiinceflafigeaaLib
namespace Go.Proofs.Ytiinceflafigeaa
open Go.RowKit (wrap64)
open Go.RowKit

/-- May c stand at place j of a code behind p? -/
def codeStep (j : Nat) (p c : Int) : Bool := c == 0 || (decide (0 < j) && (c == 2 || (p != 0 && c == wrap64 (p + 1))))
/-- Is xs a code? -/
def isCodeB (xs : List Int) : Bool := decide (xs.length ≤ 399 ∧ ∀ j, j < xs.length → codeStep j (gI xs (j - 1)) (gI xs j) = true)

theorem isCode_long {xs : List Int} (h : 399 < xs.length) : isCodeB xs = false := by simp only [isCodeB, decide_eq_false_iff_not]; intro h'; omega
theorem isCode_bad {xs : List Int} {k : Nat} (h : k < xs.length) (hb : codeStep k (gI xs (k - 1)) (gI xs k) = false) : isCodeB xs = false := by
  simp only [isCodeB, decide_eq_false_iff_not]; intro h'; rw [h'.2 k h] at hb; cases hb
theorem isCode_good {xs : List Int} (h : xs.length ≤ 399) (hb : ∀ j, j < xs.length → codeStep j (gI xs (j - 1)) (gI xs j) = true) : isCodeB xs = true := by
  simp only [isCodeB, decide_eq_true_eq]; exact ⟨h, hb⟩

/-- The first k places are good. -/
def goodTo (xs : List Int) (k : Nat) : Prop := ∀ j, j < k → codeStep j (gI xs (j - 1)) (gI xs j) = true
theorem goodTo_step {xs : List Int} {k : Nat} (h : goodTo xs k) (hs : codeStep k (gI xs (k - 1)) (gI xs k) = true) : goodTo xs (k + 1) := by
  intro j hj
  by_cases e : j = k
  · rw [e]; exact hs
  · exact h j (by omega)

set_option maxHeartbeats 400000 in
theorem implIsCode_c (v : Value) (xs : List Int) (w : World) (h : Rd w v xs) :
    Calls Try.prog 25 #[v] w fun e w' => e = .returned (.bool (isCodeB xs)) ∧ Drew w w' := by
  obtain ⟨a, cap, rfl, hcap1, hcap2, hrd⟩ := h
  by_cases hlen : 399 < xs.length
  · have HF := Lib.hid (isCode_long hlen)
    go_enter Try.func25, Try.ntmps25
    go_wp2
    go_ret
    exact ⟨ret_bool HF.out.symm, Drew.refl _⟩
  have hlen' : xs.length ≤ 399 := by omega
  clear hlen
  go_enter Try.func25, Try.ntmps25
  go_wp2
  go_loop [3, 4, 10] (fun _ _ i => ∃ k : Nat, k ≤ xs.length ∧ i = .int .i64 k ∧ goodTo xs k) (fun _ _ i => xs.length - (intOf i).toNat)
  case atStart => exact ⟨0, Nat.zero_le _, rfl, fun j hj => absurd hj (by omega)⟩
  case round =>
    obtain ⟨k, hk, rfl, hg⟩ := hrel
    by_cases hlt : k < xs.length
    · obtain ⟨b, off, rfl, hbl, hcs⟩ := hrd (ne_of_lt_len hlt)
      have hc := hcs k hlt
      have hcp : 0 < k → w.cell? ⟨b, off + (k - 1), none⟩ = some (.int .i64 (gI xs (k - 1))) := fun _ => hcs (k - 1) (by omega)
      have HG : Hid (codeStep k (gI xs (k - 1)) (gI xs k) = true → goodTo xs (k + 1)) := Lib.hid (goodTo_step hg)
      have HB : Hid (codeStep k (gI xs (k - 1)) (gI xs k) = false → isCodeB xs = false) := Lib.hid (isCode_bad hlt)
      clear hg hcs hrd
      generalize gI xs k = c at hc HG HB
      generalize gI xs (k - 1) = p at hcp HG HB
      go_wp2
      all_goals first
        | (go_round
           case rel => exact ⟨k + 1, by omega, by go_num, HG.out (by clear HB HG; simp_all [codeStep])⟩
           case measure => simp [intOf]; omega)
        | (go_ret; exact ⟨ret_bool (HB.out (by clear HB HG; simp_all [codeStep])).symm, Drew.refl _⟩)
    · go_wp2
      have hk' : k = xs.length := by omega
      subst hk'
      go_ret
      exact ⟨ret_bool (isCode_good hlen' hg).symm, Drew.refl _⟩


set_option maxHeartbeats 400000 in
theorem l06Is_c (v : Value) (xs : List Int) (w : World) (h : Rd w v xs) :
    Calls Try.prog 122 #[v] w fun e w' => e = .returned (.bool (isCodeB xs)) ∧ Drew w w' := by
  obtain ⟨a, cap, rfl, hcap1, hcap2, hrd⟩ := h
  go_enter Try.func122, Try.ntmps122
  go_wp2
  go_loopw [3] (fun i wr => ∃ k : Nat, k ≤ xs.length ∧ i = .int .i64 k ∧ goodTo xs k ∧ Drew w wr) (fun i _ => xs.length - (intOf i).toNat)
  case atStart => exact ⟨0, Nat.zero_le _, rfl, fun j hj => absurd hj (by omega), Drew.refl _⟩
  case round =>
    obtain ⟨k, hk, rfl, hg, n, rfl⟩ := hrel
    by_cases hlt : k < xs.length
    · obtain ⟨b, off, rfl, hbl, hcs⟩ := hrd (ne_of_lt_len hlt)
      have hc := hcs k hlt
      have hcp : 0 < k → w.cell? ⟨b, off + (k - 1), none⟩ = some (.int .i64 (gI xs (k - 1))) := fun _ => hcs (k - 1) (by omega)
      have HG : Hid (codeStep k (gI xs (k - 1)) (gI xs k) = true → goodTo xs (k + 1)) := Lib.hid (goodTo_step hg)
      have HB : Hid (codeStep k (gI xs (k - 1)) (gI xs k) = false → isCodeB xs = false) := Lib.hid (isCode_bad hlt)
      clear hg hcs hrd
      generalize gI xs k = c at hc HG HB
      generalize gI xs (k - 1) = p at hcp HG HB
      go_wp2
      · go_roundw
        case rel => exact ⟨k + 1, by omega, by go_num, HG.out (by clear HB HG; simp_all [codeStep]), Drew.one _ _⟩
        case measure => simp [intOf]; omega
      · go_ret
        exact ⟨ret_bool (HB.out (by clear HB HG; simp_all [codeStep])).symm, Drew.one _ _⟩
      · go_roundw
        case rel => exact ⟨k + 1, by omega, by go_num, HG.out (by clear HB HG; simp_all [codeStep]; omega), Drew.one _ _⟩
        case measure => simp [intOf]; omega
      · have hk0 : 0 < k := by
          have hh : ((k : Int) == 0) = false := by assumption
          simp at hh; omega
        have hcp' := hcp hk0
        have hi1 : (0 : Int) ≤ (k : Int) - 1 := by omega
        have hi2 : (k : Int) - 1 < (xs.length : Int) := by omega
        have hi3 : ((k : Int) - 1).toNat = k - 1 := by omega
        clear hcp
        by_cases hp : (p == 0) = true
        · go_quiet (fail)
          go_wp2
          go_ret
          exact ⟨ret_bool (HB.out (by clear HB HG; simp_all [codeStep])).symm, by first | exact Drew.one _ _ | exact Drew.two _ _ _⟩
        · have hp' : (p == 0) = false := by simpa using hp
          clear hp
          by_cases hcw : (c != wrap64 (p + 1)) = true
          · go_quiet (fail)
            go_wp2
            go_ret
            exact ⟨ret_bool (HB.out (by clear HB HG; simp_all [codeStep])).symm, by first | exact Drew.one _ _ | exact Drew.two _ _ _⟩
          · have hcw' : (c != wrap64 (p + 1)) = false := by simpa using hcw
            clear hcw
            go_quiet (fail)
            go_wp2
            go_roundw
            case rel => exact ⟨k + 1, by omega, by go_num, HG.out (by clear HB HG; simp_all [codeStep]), by first | exact Drew.one _ _ | exact Drew.two _ _ _⟩
            case measure => simp [intOf]; omega
    · go_wp2
      have hk' : k = xs.length := by omega
      subst hk'
      go_ret
      refine ⟨ret_bool ?_, Drew.one _ _⟩
      by_cases hl : xs.length ≤ 399
      · rw [isCode_good hl hg]; simp; omega
      · rw [isCode_long (by omega)]; simp; omega

theorem specIsCode_c (v : Value) (xs : List Int) (w : World) (h : Rd w v xs) :
    Calls Try.prog 26 #[v] w fun e w' => e = .returned (.bool (isCodeB xs)) ∧ Drew w w' := by
  go_enter Try.func26, Try.ntmps26
  go_wp2_with (go_at_call 122; refine (l06Is_c _ xs _ h).mono ?_; rintro e w' ⟨rfl, hd⟩)
  go_ret
  exact ⟨rfl, hd⟩

end Go.Proofs.Ytiinceflafigeaa
