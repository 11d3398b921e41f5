/- Contracts: GeneratorsOf. -/
import Derived.Test.YtiinceflafigeaaGenI
import Derived.Test.YtiinceflafigeaaGenS
namespace Go.Proofs.Ytiinceflafigeaa
open Go.RowKit

set_option maxHeartbeats 1000000 in
theorem implGeneratorsOf_c (v : Value) (T : List Int) (w : World) (h : Rd w v T) :
    Calls Try.prog 39 #[.agg #[v]] w (RetIC w (okL (braB T) (vTo T T.length)) (okC (braB T) 1)) := by
  have hx := Boxed.start w 26 #[v]
  obtain ⟨a1, k1, rfl⟩ := h.len0
  cases hc : braB T
  · go_enter Try.func39, Try.ntmps39
    go_wp2_with fail
    refine (implIsBranch_c _ T _ (hx.rd h)).mono ?_
    rintro e w1 ⟨rfl, hb⟩
    rw [hc]
    go_wp2
    go_ret2
    rw [okL_false rfl, okC_false rfl]
    exact retIC_nil (hx.trans hb).below
  · have hok := braB_iff.1 hc
    go_enter Try.func39, Try.ntmps39
    go_wp2_with fail
    refine (implIsBranch_c _ T _ (hx.rd h)).mono ?_
    rintro e w1 ⟨rfl, hb⟩
    rw [hc]
    have hx1 := hx.trans hb
    have c0 := hx1.cell 0
    go_wp2_with fail
    refine (generators_c _ T _ (hx1.rd h) hok).mono ?_
    rintro e w2 ⟨a, k, rfl, ho, hb2⟩
    go_wp2
    go_ret2
    rw [okL_true rfl, okC_true rfl]
    exact retIC_mk (by first | exact ho.base_le (Nat.le_of_lt hx1.size) | (rw [vTo_len] at ho; exact ho.base_le (Nat.le_of_lt hx1.size))) (hx1.trans hb2).below

end Go.Proofs.Ytiinceflafigeaa
