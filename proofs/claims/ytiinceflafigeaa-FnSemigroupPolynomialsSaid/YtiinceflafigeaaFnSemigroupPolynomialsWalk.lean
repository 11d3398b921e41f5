/- The walk of 'FnSemigroupPolynomials': the polynomial of a semigroup is its binomial product, is symmetric, has the value 1 at 1 and the conductor as degree. -/
import Derived.Test.YtiinceflafigeaaPolD
import Derived.Test.YtiinceflafigeaaSemgC
namespace Go.Proofs.Ytiinceflafigeaa.fnSemigroupPolynomials
open Go.RowKit

set_option maxRecDepth 100000 in
set_option maxHeartbeats 8000000 in
theorem walk (w : World) (a0 : Value) (C : List Int) (h : Rd8 w a0 C) :
    Calls Try.prog 11 #[a0] w fun e w' => e = .returned (.bool true) ∧ Below w.heap.size w w' := by
  by_cases hC : C.length ≤ 4096
  · skip
    obtain ⟨a, cap, he, _⟩ := id h
    subst he
    go_enter Try.func11, Try.ntmps11
    go_wp2_with fail
    refine (big_no _ C _ h hC).mono ?_
    rintro e w' ⟨rfl, rfl⟩
    go_wp2_with fail
    refine (drawSemigroupPolynomial_w _ C _ h).mono ?_
    rintro e w1 ⟨u, T, rfl, hr, hnw, hx8, hq⟩
    obtain ⟨ua, uk, rfl⟩ := hr.len0
    clear hnw hx8
    replace h := h.below hq (Nat.le_refl _)
    have fr : Below w.heap.size w _ := hq
    clear h
    have B0 := Blk.new w1 26 #[.slice ua T.length uk]
    have hal : Below w1.heap.size w1 (w1.alloc (.cells #[.slice ua T.length uk] 26)) := (Below.refl _ _).alloc (Nat.le_refl _) _
    replace hr := hr.below hal (Nat.le_refl _)
    replace fr := below_step fr hal
    clear hal
    have q_B0_0 := B0.cell 0
    go_wp2_with fail
    clear q_B0_0
    refine (implSemigroupPolynomial_c _ T _ hr).mono ?_
    rintro e w2 ⟨aL, kL, rfl, oL, hq⟩
    replace B0 := B0.stays hq
    replace hr := hr.below hq (Nat.le_refl _)
    replace fr := below_step fr hq
    have q_B0_0 := B0.cell 0
    go_wp2_with fail
    clear q_B0_0
    refine (specSemigroupPolynomial_c _ T _ hr).mono ?_
    rintro e w3 ⟨aM, kM, rfl, oM, hq⟩
    replace B0 := B0.stays hq
    replace hr := hr.below hq (Nat.le_refl _)
    replace oL := oL.below hq (Nat.le_refl _)
    replace fr := below_step fr hq
    have q_B0_0 := B0.cell 0
    go_wp2_with fail
    clear q_B0_0
    refine (implSb_c _ T _ hr).mono ?_
    rintro e w4 ⟨aP, kP, VP, rfl, oP, hq⟩
    have rP := oP.rd
    clear oP
    replace B0 := B0.stays hq
    replace hr := hr.below hq (Nat.le_refl _)
    replace oL := oL.below hq (Nat.le_refl _)
    replace oM := oM.below hq (Nat.le_refl _)
    replace fr := below_step fr hq
    have q_B0_0 := B0.cell 0
    go_wp2_with fail
    clear q_B0_0
    refine (specSb_c _ T _ hr).mono ?_
    rintro e w5 ⟨aQ, kQ, VQ, rfl, oQ, hq⟩
    have rQ := oQ.rd
    clear oQ
    replace B0 := B0.stays hq
    replace hr := hr.below hq (Nat.le_refl _)
    replace oL := oL.below hq (Nat.le_refl _)
    replace oM := oM.below hq (Nat.le_refl _)
    replace rP := rP.below hq (Nat.le_refl _)
    replace fr := below_step fr hq
    have se := eqB_self (ppL T)
    have q_B0_0 := B0.cell 0
    go_wp2_with fail
    clear q_B0_0
    refine (likeInts_c _ _ (ppL T) (ppL T) _ oL.rd oM.rd).mono ?_
    rintro e w6 ⟨rfl, hq0⟩
    have hq := hq0.below (w5).heap.size
    clear hq0
    replace B0 := B0.stays hq
    replace hr := hr.below hq (Nat.le_refl _)
    replace oL := oL.below hq (Nat.le_refl _)
    replace oM := oM.below hq (Nat.le_refl _)
    replace rP := rP.below hq (Nat.le_refl _)
    replace rQ := rQ.below hq (Nat.le_refl _)
    replace fr := below_step fr hq
    rw [se]
    clear se oM
    have q_B0_0 := B0.cell 0
    go_wp2_with fail
    clear q_B0_0
    refine (likeRows5_c _ _ (okR (braB T) (sbL T)) _ rP rQ).mono ?_
    rintro e w7 ⟨rfl, hq⟩
    replace B0 := B0.stays hq
    replace hr := hr.below hq (Nat.le_refl _)
    replace oL := oL.below hq (Nat.le_refl _)
    replace rP := rP.below hq (Nat.le_refl _)
    replace rQ := rQ.below hq (Nat.le_refl _)
    replace fr := below_step fr hq
    clear rQ
    by_cases h0 : poC T = 0
    · skip
      have hc0 : (poC T != 0) = false := by simp [h0]
      have hok := (poC_zero h0).1
      have hbt := braB_iff.2 hok
      have hcn := conI_nn hok
      have hcb : ¬ 2000 < conI T := (poC_zero h0).2
      have hlen : (((ppL T).length : Int) != conI T + 1) = false := by rw [(pp_len h0).1]; simp
      have H0 := Lib.hid h0
      have HB := Lib.hid hbt
      have HOK := Lib.hid hok
      clear h0 hbt hok
      have q_B0_0 := B0.cell 0
      go_wp2_with fail
      clear q_B0_0
      refine (conductor_ok _ T _ hr HOK.out).mono ?_
      rintro e w8 ⟨rfl, hq⟩
      replace B0 := B0.stays hq
      replace hr := hr.below hq (Nat.le_refl _)
      replace oL := oL.below hq (Nat.le_refl _)
      replace rP := rP.below hq (Nat.le_refl _)
      replace fr := below_step fr hq
      clear hc0
      have q_B0_0 := B0.cell 0
      go_wp2_with fail
      clear q_B0_0
      refine (isSym_c _ (ppL T) _ oL.rd (pp_pol H0.out) (pp_last H0.out) (pp_rev H0.out)).mono ?_
      rintro e w9 ⟨rfl, hq⟩
      replace B0 := B0.stays hq
      replace hr := hr.below hq (Nat.le_refl _)
      replace oL := oL.below hq (Nat.le_refl _)
      replace rP := rP.below hq (Nat.le_refl _)
      replace fr := below_step fr hq
      have q_B0_0 := B0.cell 0
      go_wp2_with fail
      clear q_B0_0
      refine (evalOne_c _ (ppL T) (sfx T) _ oL.rd (pp_pol H0.out) (pp_last H0.out) (sfx_end H0.out) (fun k hk => sfx_step H0.out hk) (sfx_bd T)).mono ?_
      rintro e w' ⟨rfl, rfl⟩
      rw [sfx_zero H0.out]
      have q_B0_0 := B0.cell 0
      go_wp2_with fail
      clear q_B0_0
      refine (binProd_c _ (okR (braB T) (sbL T)) _ rP (fun i hi => by rw [okR_true HB.out] at hi ⊢; exact ((sb_rows HOK.out).2 i hi).1) (by rw [okR_true HB.out]; exact (sb_rows HOK.out).1) (fun i hi => by rw [okR_true HB.out] at hi ⊢; exact ((sb_rows HOK.out).2 i hi).2)).mono ?_
      rintro e w10 ⟨aB, nB, kB, qs, cB, rfl, hql, rB, hq, hQ⟩
      have HQ := Lib.hid hQ
      clear hQ hlen
      replace B0 := B0.stays hq
      replace hr := hr.below hq (Nat.le_refl _)
      replace oL := oL.below hq (Nat.le_refl _)
      replace rP := rP.below hq (Nat.le_refl _)
      replace fr := below_step fr hq
      by_cases hcB : cB = 0
      · skip
        subst hcB
        have hqp : qs = ppL T := by
          have := (HQ.out rfl).2
          rw [okR_true HB.out] at this
          rw [binP_sp HOK.out this, ppL_ok H0.out]
        have se : eqB qs (ppL T) = true := by rw [hqp]; exact eqB_self _
        clear hqp HQ hql
        have q_B0_0 := B0.cell 0
        go_wp2_with fail
        clear q_B0_0
        refine (likeInts_c _ _ qs (ppL T) _ rB oL.rd).mono ?_
        rintro e w11 ⟨rfl, hq0⟩
        have hq := hq0.below (w10).heap.size
        clear hq0
        replace B0 := B0.stays hq
        replace hr := hr.below hq (Nat.le_refl _)
        replace oL := oL.below hq (Nat.le_refl _)
        replace rP := rP.below hq (Nat.le_refl _)
        replace rB := rB.below hq (Nat.le_refl _)
        replace fr := below_step fr hq
        rw [se]
        have q_B0_0 := B0.cell 0
        go_wp2
        clear q_B0_0
        go_ret
        exact ⟨rfl, fr⟩
      · skip
        have hcz : (cB != 0) = true := by simpa using hcB
        clear HQ hql hcB
        have q_B0_0 := B0.cell 0
        go_wp2
        clear q_B0_0
        go_ret
        exact ⟨rfl, fr⟩
    · skip
      have hc0 : (poC T != 0) = true := by simp [h0]
      have q_B0_0 := B0.cell 0
      go_wp2
      clear q_B0_0
      go_ret
      exact ⟨rfl, fr⟩
  · go_enter Try.func11, Try.ntmps11
    go_wp2_with fail
    refine (big_yes _ C _ h hC).mono ?_
    rintro e w' ⟨rfl, rfl⟩
    go_wp2
    go_ret
    exact ⟨rfl, Below.refl _ _⟩
end Go.Proofs.Ytiinceflafigeaa.fnSemigroupPolynomials
