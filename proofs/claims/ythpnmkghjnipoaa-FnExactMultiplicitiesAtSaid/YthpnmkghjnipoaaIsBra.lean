/- Contracts: impl.IsBranch, spec.l03Is. -/
import Derived.Test.YthpnmkghjnipoaaBra
namespace Go.Proofs.Ythpnmkghjnipoaa
open Go.RowKit

theorem braB_eq {T : List Int} {b1 b2 b3 b4 b5 : Bool} (h1 : decide (0 < T.length) = b1) (h2 : inB (gI T 0) 1 64 = b2) (h3 : ascB T = b3) (h4 : allIn T 1 2000 = b4) (h5 : fallB T = b5) : braB T = (b1 && (b2 && (b3 && (b4 && b5)))) := by
  rw [← h1, ← h2, ← h3, ← h4, ← h5]; rfl
theorem braB_nil {T : List Int} (h : ¬ 0 < T.length) : braB T = false := by rw [braB_eq (decide_eq_false h) rfl rfl rfl rfl, Bool.false_and]

/-- A list that rises within 1 .. 2000 has at most 2000 numbers. -/
theorem asc_len {T : List Int} (h : ∀ i, i + 1 < T.length → gI T i < gI T (i + 1)) (h2 : ∀ i, i < T.length → 1 ≤ gI T i ∧ gI T i ≤ 2000) : T.length ≤ 2000 := by
  have h3 : ∀ i, i < T.length → (i : Int) + 1 ≤ gI T i := by
    intro i
    induction i with
    | zero => intro hi; have := h2 0 hi; omega
    | succ i ih => intro hi; have := h i hi; have := ih (by omega); omega
  apply Nat.le_of_not_lt
  intro hlt
  have h4 := h3 2000 hlt
  have h5 := h2 2000 hlt
  omega

set_option maxHeartbeats 2000000 in
theorem implIsBranch_c (v : Value) (T : List Int) (w : World) (h : Rd w v T) :
    Calls Try.prog 79 #[.agg #[v]] w fun e w' => e = .returned (.bool (braB T)) ∧ Below w.heap.size w w' := by
  have hx := Boxed.start w 28 #[v]
  by_cases hp : 0 < T.length
  · have h1 : decide (0 < T.length) = true := decide_eq_true hp
    obtain ⟨b, off, cap, rfl, hc1, hc2, hb, hc⟩ := h.cells hp
    have c0 := hc 0 hp
    have d0 : (w.alloc (.cells #[.slice (some ⟨b, off, none⟩) T.length cap] 28)).cell? ⟨b, off, none⟩ = some (.int .i64 (gI T 0)) := by
      rw [hx.below.cell (p := ⟨b, off, none⟩) hb]; exact c0
    have hlen : (0 : Int) < (T.length : Int) := by omega
    clear hc
    cases h2 : inB (gI T 0) 1 64
    · rw [braB_eq h1 h2 rfl rfl rfl, Bool.false_and, Bool.and_false]
      go_enter Try.func79, Try.ntmps79
      have q0 := hx.cell 0
      go_wp2_with fail
      refine (inRange_c _ _ _ _).mono ?_
      rintro e w1 ⟨rfl, rfl⟩
      rw [h2]
      go_wp2
      go_ret
      exact ⟨rfl, hx.below⟩
    · cases h3 : ascB T
      · rw [braB_eq h1 h2 h3 rfl rfl, Bool.false_and, Bool.and_false, Bool.and_false]
        go_enter Try.func79, Try.ntmps79
        have q0 := hx.cell 0
        go_wp2_with fail
        refine (inRange_c _ _ _ _).mono ?_
        rintro e w1 ⟨rfl, rfl⟩
        rw [h2]
        clear q0 d0 c0
        go_wp2_with fail
        refine (ascends_c _ T _ (hx.rd h)).mono ?_
        rintro e w2 ⟨rfl, hd⟩
        have hx2 := hx.trans (hd.below _)
        rw [h3]
        go_wp2
        go_ret
        exact ⟨rfl, hx2.below⟩
      · cases h4 : allIn T 1 2000
        · rw [braB_eq h1 h2 h3 h4 rfl, Bool.false_and, Bool.and_false, Bool.and_false, Bool.and_false]
          go_enter Try.func79, Try.ntmps79
          have q0 := hx.cell 0
          go_wp2_with fail
          refine (inRange_c _ _ _ _).mono ?_
          rintro e w1 ⟨rfl, rfl⟩
          rw [h2]
          clear q0 d0 c0
          go_wp2_with fail
          refine (ascends_c _ T _ (hx.rd h)).mono ?_
          rintro e w2 ⟨rfl, hd⟩
          have hx2 := hx.trans (hd.below _)
          rw [h3]
          go_wp2_with fail
          refine (within_c _ T _ _ _ (hx2.rd h)).mono ?_
          rintro e w3 ⟨rfl, rfl⟩
          rw [h4]
          go_wp2
          go_ret
          exact ⟨rfl, hx2.below⟩
        · have hasc := ascB_iff.1 h3
          have hall := allIn_iff.1 h4
          have hn1 : T.length ≤ 2000 := asc_len hasc hall
          have hn2 : ∀ i, i < T.length → 1 ≤ gI T i ∧ gI T i ≤ 1000000000000 := fun i hi => by have := hall i hi; omega
          rw [braB_eq h1 h2 h3 h4 rfl, Bool.true_and, Bool.true_and, Bool.true_and, Bool.true_and]
          go_enter Try.func79, Try.ntmps79
          have q0 := hx.cell 0
          go_wp2_with fail
          refine (inRange_c _ _ _ _).mono ?_
          rintro e w1 ⟨rfl, rfl⟩
          rw [h2]
          clear q0 d0 c0
          go_wp2_with fail
          refine (ascends_c _ T _ (hx.rd h)).mono ?_
          rintro e w2 ⟨rfl, hd⟩
          have hx2 := hx.trans (hd.below _)
          rw [h3]
          go_wp2_with fail
          refine (within_c _ T _ _ _ (hx2.rd h)).mono ?_
          rintro e w3 ⟨rfl, rfl⟩
          rw [h4]
          go_wp2_with fail
          refine (falls_c _ T _ (hx2.rd h) hp hn1 hn2).mono ?_
          rintro e w4 ⟨rfl, hd4⟩
          have hx4 := hx2.trans hd4
          go_wp2
          go_ret
          exact ⟨rfl, hx4.below⟩
  · obtain ⟨a, k, rfl⟩ := h.len0
    have hlen : (T.length : Int) ≤ 0 := by omega
    rw [braB_nil hp]
    go_enter Try.func79, Try.ntmps79
    have q0 := hx.cell 0
    go_wp2
    go_ret
    exact ⟨rfl, hx.below⟩
end Go.Proofs.Ythpnmkghjnipoaa
