/- The walk of 'FnExactIsCode': both functions tell the same of each list. -/
import Derived.Test.YtlbnnbncikeecaaCode
namespace Go.Proofs.Ytlbnnbncikeecaa.fnExactIsCode
open Go.RowKit

set_option maxHeartbeats 400000 in
theorem walk (w : World) (v : Value) (xs : List Int) (h : Rd w v xs) (_ : ∀ x ∈ xs, (Lit.int .i64 x).wf = true) :
    Calls Try.prog 3 #[v] w fun e w' => e = .returned (.bool true) ∧ Below w.heap.size w w' := by
  have hv := h
  obtain ⟨a, cap, rfl, hcap1, hcap2, _⟩ := hv
  by_cases hn : xs.length ≤ 1048576
  · go_enter Try.func3, Try.ntmps3
    go_wp2_with fail
    refine (toInt64S_c _ xs _ h hn).mono ?_
    rintro e w1 ⟨u1, rfl, ho1, hb1⟩
    go_wp2_with fail
    refine (specIsCode_c _ xs _ ho1.rd).mono ?_
    rintro e w2 ⟨rfl, hd2⟩
    have hb2 := hb1.trans (hd2.below _)
    clear hb1 hd2 ho1
    go_wp2_with fail
    refine (toInt64S_c _ xs _ (h.below hb2 (Nat.le_refl _)) hn).mono ?_
    rintro e w3 ⟨u3, rfl, ho3, hb3⟩
    have hb3' := hb2.trans (hb3.mono hb2.size)
    go_wp2_with fail
    refine (implIsCode_c _ xs _ ho3.rd).mono ?_
    rintro e w4 ⟨rfl, hd4⟩
    have hb4 := hb3'.trans (hd4.below _)
    have ho4 := ho3.below (hd4.below w3.heap.size) (Nat.le_refl _)
    clear hb3 hb3' hd4 ho3
    go_wp2_with fail
    refine (toInt64S_c _ xs _ (h.below hb4 (Nat.le_refl _)) hn).mono ?_
    rintro e w5 ⟨u5, rfl, ho5, hb5⟩
    have ho4' := ho4.below hb5 (Nat.le_refl _)
    have hb5' := hb4.trans (hb5.mono hb4.size)
    clear hb5
    go_wp2_with fail
    refine (eqInt64S_c _ _ xs xs _ ho4'.rd ho5.rd).mono ?_
    rintro e w6 ⟨rfl, hd6⟩
    have hb6 := hb5'.trans (hd6.below _)
    have he := eqB_self xs
    go_wp2
    go_ret
    exact ⟨rfl, hb6⟩
  · go_enter Try.func3, Try.ntmps3
    go_wp2
    go_ret
    exact ⟨rfl, Below.refl _ _⟩
end Go.Proofs.Ytlbnnbncikeecaa.fnExactIsCode
