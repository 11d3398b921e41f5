/- The walk of 'FnCurvettes': codes and curvettes lead to each other. -/
import Derived.Test.YtiinceflafigeaaCuvC
namespace Go.Proofs.Ytiinceflafigeaa.fnCurvettes
open Go.RowKit

set_option maxRecDepth 100000 in
set_option maxHeartbeats 16000000 in
theorem walk (w : World) (a0 : Value) (C : List Int) (h : Rd8 w a0 C) :
    Calls Try.prog 3 #[a0] w fun e w' => e = .returned (.bool true) ∧ Below w.heap.size w w' := by
  by_cases hC : C.length ≤ 4096
  · skip
    obtain ⟨a, cap, he, _⟩ := id h
    subst he
    go_enter Try.func3, Try.ntmps3
    go_wp2_with fail
    refine (big_no _ C _ h hC).mono ?_
    rintro e w' ⟨rfl, rfl⟩
    go_wp2_with fail
    refine (drawCurvetteAt_w _ C _ h).mono ?_
    rintro e w1 ⟨vT, T, j, rfl, hr, _, _, hj0, hj1, hq⟩
    obtain ⟨aT, cT, rfl⟩ := hr.len0
    obtain ⟨t, ht⟩ : ∃ t, T.length = t := ⟨_, rfl⟩
    rw [ht] at hr
    rw [ht]
    clear ht
    obtain ⟨xs, c, hR, _⟩ := catR_ex T j
    obtain ⟨n, hn⟩ : ∃ n, xs.length = n := ⟨_, rfl⟩
    have HR := Lib.hid hR
    have HN := Lib.hid hn
    clear hR hn
    have hcc : (c != c) = false := by simp
    obtain ⟨mv, hmv⟩ : ∃ z, meetV T j = z := ⟨_, rfl⟩
    obtain ⟨mc, hmc⟩ : ∃ z, ckC T (j + 1) = z := ⟨_, rfl⟩
    have HMV := Lib.hid hmv
    have HMC := Lib.hid hmc
    clear hmv hmc
    have hmm : (mv != mv) = false := by simp
    have hmm2 : (mc != mc) = false := by simp
    replace h := h.below hq (Nat.le_refl _)
    have fr : Below w.heap.size w _ := hq
    have Bc := Blk.new w1 26 #[.slice aT t cT]
    have hal : Below w1.heap.size w1 (w1.alloc (.cells #[.slice aT t cT] 26)) := (Below.refl _ _).alloc (Nat.le_refl _) _
    replace h := h.below hal (Nat.le_refl _)
    replace hr := hr.below hal (Nat.le_refl _)
    replace fr := below_step fr hal
    clear hal
    have q_Bc_0 := Bc.cell 0
    go_wp2_with fail
    clear q_Bc_0
    refine (implCat_v _ T j xs c n _ hr (by omega) (by omega) HR.out HN.out).mono ?_
    rintro e w2 ⟨a2, k2, rfl, r1, hq⟩
    replace Bc := Bc.stays hq
    replace h := h.below hq (Nat.le_refl _)
    replace hr := hr.below hq (Nat.le_refl _)
    replace fr := below_step fr hq
    have Bx := Blk.new w2 26 #[.slice a2 n k2]
    have hal : Below w2.heap.size w2 (w2.alloc (.cells #[.slice a2 n k2] 26)) := (Below.refl _ _).alloc (Nat.le_refl _) _
    replace Bc := Bc.alloc (.cells #[.slice a2 n k2] 26)
    replace h := h.below hal (Nat.le_refl _)
    replace hr := hr.below hal (Nat.le_refl _)
    replace r1 := r1.below hal (Nat.le_refl _)
    replace fr := below_step fr hal
    clear hal
    have q_Bc_0 := Bc.cell 0
    have q_Bx_0 := Bx.cell 0
    go_wp2_with fail
    clear q_Bc_0 q_Bx_0
    refine (specCat_v _ T j xs c n _ hr (by omega) (by omega) HR.out HN.out).mono ?_
    rintro e w3 ⟨a3, k3, rfl, r2, hq⟩
    replace Bc := Bc.stays hq
    replace Bx := Bx.stays hq
    replace h := h.below hq (Nat.le_refl _)
    replace hr := hr.below hq (Nat.le_refl _)
    replace r1 := r1.below hq (Nat.le_refl _)
    replace fr := below_step fr hq
    have By := Blk.new w3 26 #[.slice a3 n k3]
    have hal : Below w3.heap.size w3 (w3.alloc (.cells #[.slice a3 n k3] 26)) := (Below.refl _ _).alloc (Nat.le_refl _) _
    replace Bc := Bc.alloc (.cells #[.slice a3 n k3] 26)
    replace Bx := Bx.alloc (.cells #[.slice a3 n k3] 26)
    replace h := h.below hal (Nat.le_refl _)
    replace hr := hr.below hal (Nat.le_refl _)
    replace r1 := r1.below hal (Nat.le_refl _)
    replace r2 := r2.below hal (Nat.le_refl _)
    replace fr := below_step fr hal
    clear hal
    have q_Bc_0 := Bc.cell 0
    have q_Bx_0 := Bx.cell 0
    have q_By_0 := By.cell 0
    go_wp2_with fail
    clear q_Bc_0 q_Bx_0 q_By_0
    refine (implMeetCurvette_c _ T j _ hr (by omega) (by omega)).mono ?_
    rintro e w4 ⟨rfl, hq⟩
    rw [HMV.out, HMC.out]
    replace Bc := Bc.stays hq
    replace Bx := Bx.stays hq
    replace By := By.stays hq
    replace h := h.below hq (Nat.le_refl _)
    replace hr := hr.below hq (Nat.le_refl _)
    replace r1 := r1.below hq (Nat.le_refl _)
    replace r2 := r2.below hq (Nat.le_refl _)
    replace fr := below_step fr hq
    have q_Bc_0 := Bc.cell 0
    have q_Bx_0 := Bx.cell 0
    have q_By_0 := By.cell 0
    go_wp2_with fail
    clear q_Bc_0 q_Bx_0 q_By_0
    refine (specMeetCurvette_c _ T j _ hr (by omega) (by omega)).mono ?_
    rintro e w5 ⟨rfl, hq⟩
    rw [HMV.out, HMC.out]
    replace Bc := Bc.stays hq
    replace Bx := Bx.stays hq
    replace By := By.stays hq
    replace h := h.below hq (Nat.le_refl _)
    replace hr := hr.below hq (Nat.le_refl _)
    replace r1 := r1.below hq (Nat.le_refl _)
    replace r2 := r2.below hq (Nat.le_refl _)
    replace fr := below_step fr hq
    have hse := eqB_self xs
    have HSE := Lib.hid hse
    clear hse
    have q_Bc_0 := Bc.cell 0
    have q_Bx_0 := Bx.cell 0
    have q_By_0 := By.cell 0
    go_wp2_with fail
    clear q_Bc_0 q_Bx_0 q_By_0
    refine (likeInts_c _ _ xs xs _ r1 r2).mono ?_
    rintro e w6 ⟨rfl, hq0⟩
    have hq := hq0.below (w5).heap.size
    clear hq0
    replace Bc := Bc.stays hq
    replace Bx := Bx.stays hq
    replace By := By.stays hq
    replace h := h.below hq (Nat.le_refl _)
    replace hr := hr.below hq (Nat.le_refl _)
    replace r1 := r1.below hq (Nat.le_refl _)
    replace r2 := r2.below hq (Nat.le_refl _)
    replace fr := below_step fr hq
    rw [HSE.out]
    clear HSE
    clear r2 By
    skip
    have q_Bc_0 := Bc.cell 0
    have q_Bx_0 := Bx.cell 0
    go_upto_if 83 with fail
    clear q_Bc_0 q_Bx_0
    go_cut [] from 13 to 161 (fun wd => Below w6.heap.size w6 wd)
    case first =>
      clear h
      clear fr
      by_cases hz : c = 0
      · skip
        subst hz
        obtain ⟨q, hf⟩ := caF HR.out
        obtain rfl := hf.num
        have HF := Lib.hid hf
        have hq0 : q ≤ 400 := by omega
        obtain ⟨K, hK⟩ : ∃ K, codeL (seqL T (q + 1)) = K := ⟨_, rfl⟩
        have HK := Lib.hid hK
        have HKL := Lib.hid (show K.length = q by rw [← hK]; exact hf.clen)
        have HX := Lib.hid (show codeL (seqL xs (q + 1)) = K by rw [← hK]; exact hf.code)
        have HME := Lib.hid (show gI (orL T (q + 1)) q = mv by rw [← HMV.out]; exact hf.meet)
        clear hf hK
        have q_Bc_0 := Bc.cell 0
        have q_Bx_0 := Bx.cell 0
        go_wp2_with fail
        clear q_Bc_0 q_Bx_0
        refine (ordersOf_v _ T _ (q + 1) _ hr (by simp) HF.out.ok).mono ?_
        rintro e w7 ⟨aO, kO, rfl, rO, hq⟩
        replace Bc := Bc.stays hq
        replace Bx := Bx.stays hq
        replace hr := hr.below hq (Nat.le_refl _)
        replace r1 := r1.below hq (Nat.le_refl _)
        have fr : Below w6.heap.size w6 _ := hq
        have q_Bc_0 := Bc.cell 0
        have q_Bx_0 := Bx.cell 0
        go_wp2_with fail
        clear q_Bc_0 q_Bx_0
        refine (codeOf_v _ T K _ (q + 1) q _ hr (by simp) HF.out.ok HK.out HKL.out).mono ?_
        rintro e w8 ⟨aA, kA, rfl, rA, hq⟩
        replace Bc := Bc.stays hq
        replace Bx := Bx.stays hq
        replace hr := hr.below hq (Nat.le_refl _)
        replace r1 := r1.below hq (Nat.le_refl _)
        replace rO := rO.below hq (Nat.le_refl _)
        replace fr := below_step fr hq
        have q_Bc_0 := Bc.cell 0
        have q_Bx_0 := Bx.cell 0
        go_wp2_with fail
        clear q_Bc_0 q_Bx_0
        refine (codeOf_v _ xs K _ (q + 1) q _ r1 (by simp) HF.out.okx HX.out HKL.out).mono ?_
        rintro e w9 ⟨aB, kB, rfl, rB, hq⟩
        replace Bc := Bc.stays hq
        replace Bx := Bx.stays hq
        replace hr := hr.below hq (Nat.le_refl _)
        replace r1 := r1.below hq (Nat.le_refl _)
        replace rO := rO.below hq (Nat.le_refl _)
        replace rA := rA.below hq (Nat.le_refl _)
        replace fr := below_step fr hq
        obtain ⟨bO, oO, rfl, hbO, hcO⟩ := rO.atC (orL_len T (q + 1)) (by omega)
        have d := hcO q (by omega)
        rw [HME.out] at d
        clear hcO
        have hq1 : (q : Int) < ((q + 1 : Nat) : Int) := by omega
        have hq2 : (0 : Int) ≤ (q : Int) := by omega
        have hq3 : (((q + 1 : Nat) : Int) != (q : Int) + 1) = false := by simp
        have hq4 : (((q : Int) + 1) != (q : Int) + 1) = false := by simp
        have hse := eqB_self K
        have HSE := Lib.hid hse
        clear hse
        have q_Bc_0 := Bc.cell 0
        have q_Bx_0 := Bx.cell 0
        go_wp2_with fail
        clear q_Bc_0 q_Bx_0
        refine (likeInts_c _ _ K K _ rA rB).mono ?_
        rintro e w10 ⟨rfl, hq0'⟩
        have hq := hq0'.below (w9).heap.size
        clear hq0'
        replace Bc := Bc.stays hq
        replace Bx := Bx.stays hq
        replace hr := hr.below hq (Nat.le_refl _)
        replace r1 := r1.below hq (Nat.le_refl _)
        replace rO := rO.below hq (Nat.le_refl _)
        replace rA := rA.below hq (Nat.le_refl _)
        replace rB := rB.below hq (Nat.le_refl _)
        replace fr := below_step fr hq
        rw [HSE.out]
        clear HSE d rO rA rB
        have q_Bc_0 := Bc.cell 0
        have q_Bx_0 := Bx.cell 0
        go_wp2_with fail
        clear q_Bc_0 q_Bx_0
        refine (countPoints_c _ T _ hr HF.out.bra).mono ?_
        rintro e w11 ⟨rfl, hq⟩
        have hcb := cnt_bd HF.out.bra
        replace Bc := Bc.stays hq
        replace Bx := Bx.stays hq
        replace hr := hr.below hq (Nat.le_refl _)
        replace r1 := r1.below hq (Nat.le_refl _)
        replace fr := below_step fr hq
        by_cases hct : cntT T ≤ 400
        · skip
          have HL := Lib.hid (cat_last HF.out.bra hct)
          obtain ⟨cn, hcn⟩ : ∃ cn, cntT T = cn := ⟨_, rfl⟩
          rw [hcn] at HL hcb hct
          rw [hcn]
          clear hcn
          have hct2 : (cn : Int) ≤ 400 := by omega
          obtain ⟨tl, htl⟩ : ∃ tl, T.length = tl := ⟨_, rfl⟩
          have HTL := Lib.hid htl
          clear htl
          have q_Bc_0 := Bc.cell 0
          have q_Bx_0 := Bx.cell 0
          go_wp2_with fail
          clear q_Bc_0 q_Bx_0
          refine (implCat_v _ T ((cn : Int) - 1) T 0 tl _ hr (by omega) (by omega) HL.out HTL.out).mono ?_
          rintro e w12 ⟨aL, kL, rfl, rL, hq⟩
          replace Bc := Bc.stays hq
          replace Bx := Bx.stays hq
          replace hr := hr.below hq (Nat.le_refl _)
          replace r1 := r1.below hq (Nat.le_refl _)
          replace fr := below_step fr hq
          have Bl := Blk.new w12 26 #[.slice aL tl kL]
          have hal : Below w12.heap.size w12 (w12.alloc (.cells #[.slice aL tl kL] 26)) := (Below.refl _ _).alloc (Nat.le_refl _) _
          replace Bc := Bc.alloc (.cells #[.slice aL tl kL] 26)
          replace Bx := Bx.alloc (.cells #[.slice aL tl kL] 26)
          replace hr := hr.below hal (Nat.le_refl _)
          replace r1 := r1.below hal (Nat.le_refl _)
          replace rL := rL.below hal (Nat.le_refl _)
          replace fr := below_step fr hal
          clear hal
          have hse := eqB_self T
          have HSE := Lib.hid hse
          clear hse
          have q_Bc_0 := Bc.cell 0
          have q_Bx_0 := Bx.cell 0
          have q_Bl_0 := Bl.cell 0
          go_wp2_with fail
          clear q_Bc_0 q_Bx_0 q_Bl_0
          refine (likeInts_c _ _ T T _ rL hr).mono ?_
          rintro e w13 ⟨rfl, hq0⟩
          have hq := hq0.below ((w12.alloc (.cells #[.slice aL tl kL] 26))).heap.size
          clear hq0
          replace Bc := Bc.stays hq
          replace Bx := Bx.stays hq
          replace Bl := Bl.stays hq
          replace hr := hr.below hq (Nat.le_refl _)
          replace r1 := r1.below hq (Nat.le_refl _)
          replace rL := rL.below hq (Nat.le_refl _)
          replace fr := below_step fr hq
          rw [HSE.out]
          clear HSE
          have q_Bc_0 := Bc.cell 0
          have q_Bx_0 := Bx.cell 0
          have q_Bl_0 := Bl.cell 0
          go_wp2
          clear q_Bc_0 q_Bx_0 q_Bl_0
          go_meet
          exact fr
        · skip
          have hct2 : ¬ (cntT T : Int) ≤ 400 := by omega
          generalize cntT T = cn at *
          have q_Bc_0 := Bc.cell 0
          have q_Bx_0 := Bx.cell 0
          go_wp2
          clear q_Bc_0 q_Bx_0
          go_meet
          exact fr
      · skip
        have hcz : (c == 0) = false := by simpa using hz
        clear hz
        have q_Bc_0 := Bc.cell 0
        have q_Bx_0 := Bx.cell 0
        go_wp2
        clear q_Bc_0 q_Bx_0
        go_meet
        exact Below.refl _ _
    case rest =>
      have hq := hcut
      clear hcut hr r1 Bc Bx HR HN hcc HMV HMC hmm hmm2 hj0 hj1
      replace h := h.below hq (Nat.le_refl _)
      replace fr := below_step fr hq
      go_wp2_with fail
      refine (drawCurvetteOfCode_w _ C _ h).mono ?_
      rintro e w7 ⟨aK, cK, K, rfl, rK, hKl, hq⟩
      have HKL := Lib.hid hKl
      clear hKl
      replace h := h.below hq (Nat.le_refl _)
      replace fr := below_step fr hq
      clear h
      obtain ⟨xs, c, hR, _⟩ := cocR_ex K
      obtain ⟨n, hn⟩ : ∃ n, xs.length = n := ⟨_, rfl⟩
      have HR := Lib.hid hR
      have HN := Lib.hid hn
      clear hR hn
      have hcc : (c != c) = false := by simp
      obtain ⟨m, hm⟩ : ∃ m, K.length = m := ⟨_, rfl⟩
      rw [hm] at rK
      rw [hm]
      have HM := Lib.hid hm
      have hmb : m ≤ 1000 := by rw [← hm]; exact HKL.out
      clear hm
      go_wp2_with fail
      refine (implCoc_v _ K xs c n _ rK HR.out HN.out).mono ?_
      rintro e w8 ⟨aX, cX, rfl, rX, hq⟩
      replace rK := rK.below hq (Nat.le_refl _)
      replace fr := below_step fr hq
      have Bd := Blk.new w8 26 #[.slice aX n cX]
      have hal : Below w8.heap.size w8 (w8.alloc (.cells #[.slice aX n cX] 26)) := (Below.refl _ _).alloc (Nat.le_refl _) _
      replace rK := rK.below hal (Nat.le_refl _)
      replace rX := rX.below hal (Nat.le_refl _)
      replace fr := below_step fr hal
      clear hal
      have q_Bd_0 := Bd.cell 0
      go_wp2_with fail
      clear q_Bd_0
      refine (specCoc_v _ K xs c n _ rK HR.out HN.out).mono ?_
      rintro e w9 ⟨aY, cY, rfl, rY, hq⟩
      replace Bd := Bd.stays hq
      replace rK := rK.below hq (Nat.le_refl _)
      replace rX := rX.below hq (Nat.le_refl _)
      replace fr := below_step fr hq
      have Be := Blk.new w9 26 #[.slice aY n cY]
      have hal : Below w9.heap.size w9 (w9.alloc (.cells #[.slice aY n cY] 26)) := (Below.refl _ _).alloc (Nat.le_refl _) _
      replace Bd := Bd.alloc (.cells #[.slice aY n cY] 26)
      replace rK := rK.below hal (Nat.le_refl _)
      replace rX := rX.below hal (Nat.le_refl _)
      replace rY := rY.below hal (Nat.le_refl _)
      replace fr := below_step fr hal
      clear hal
      have hse := eqB_self xs
      have HSE := Lib.hid hse
      clear hse
      have q_Bd_0 := Bd.cell 0
      have q_Be_0 := Be.cell 0
      go_wp2_with fail
      clear q_Bd_0 q_Be_0
      refine (likeInts_c _ _ xs xs _ rX rY).mono ?_
      rintro e w10 ⟨rfl, hq0⟩
      have hq := hq0.below ((w9.alloc (.cells #[.slice aY n cY] 26))).heap.size
      clear hq0
      replace Bd := Bd.stays hq
      replace Be := Be.stays hq
      replace rK := rK.below hq (Nat.le_refl _)
      replace rX := rX.below hq (Nat.le_refl _)
      replace rY := rY.below hq (Nat.le_refl _)
      replace fr := below_step fr hq
      rw [HSE.out]
      clear HSE
      obtain ⟨bK, hbK⟩ : ∃ b, isCodeB K = b := ⟨_, rfl⟩
      have HB := Lib.hid hbK
      clear hbK
      have hbb : (bK != bK) = false := by simp
      have q_Bd_0 := Bd.cell 0
      have q_Be_0 := Be.cell 0
      go_wp2_with fail
      clear q_Bd_0 q_Be_0
      refine (implIsCode_c _ K _ rK).mono ?_
      rintro e w11 ⟨rfl, hq0⟩
      have hq := hq0.below (w10).heap.size
      clear hq0
      replace Bd := Bd.stays hq
      replace Be := Be.stays hq
      replace rK := rK.below hq (Nat.le_refl _)
      replace rX := rX.below hq (Nat.le_refl _)
      replace rY := rY.below hq (Nat.le_refl _)
      replace fr := below_step fr hq
      rw [HB.out]
      have q_Bd_0 := Bd.cell 0
      have q_Be_0 := Be.cell 0
      go_wp2_with fail
      clear q_Bd_0 q_Be_0
      refine (specIsCode_c _ K _ rK).mono ?_
      rintro e w12 ⟨rfl, hq0⟩
      have hq := hq0.below (w11).heap.size
      clear hq0
      replace Bd := Bd.stays hq
      replace Be := Be.stays hq
      replace rK := rK.below hq (Nat.le_refl _)
      replace rX := rX.below hq (Nat.le_refl _)
      replace rY := rY.below hq (Nat.le_refl _)
      replace fr := below_step fr hq
      rw [HB.out]
      by_cases hz : c = 0
      · skip
        subst hz
        obtain ⟨h1, h2⟩ := coF HR.out
        rw [HM.out] at h1 h2
        have H1 := Lib.hid h1
        have H2 := Lib.hid h2
        clear h1 h2
        have q_Bd_0 := Bd.cell 0
        have q_Be_0 := Be.cell 0
        go_wp2_with fail
        clear q_Bd_0 q_Be_0
        refine (codeOf_v _ xs K _ (m + 1) m _ rX (by simp) H1.out H2.out HM.out).mono ?_
        rintro e w13 ⟨aZ, cZ, rfl, rZ, hq⟩
        replace Bd := Bd.stays hq
        replace Be := Be.stays hq
        replace rK := rK.below hq (Nat.le_refl _)
        replace rX := rX.below hq (Nat.le_refl _)
        replace rY := rY.below hq (Nat.le_refl _)
        replace fr := below_step fr hq
        have hse := eqB_self K
        have HSE := Lib.hid hse
        clear hse
        have q_Bd_0 := Bd.cell 0
        have q_Be_0 := Be.cell 0
        go_wp2_with fail
        clear q_Bd_0 q_Be_0
        refine (likeInts_c _ _ K K _ rZ rK).mono ?_
        rintro e w14 ⟨rfl, hq0⟩
        have hq := hq0.below (w13).heap.size
        clear hq0
        replace Bd := Bd.stays hq
        replace Be := Be.stays hq
        replace rK := rK.below hq (Nat.le_refl _)
        replace rX := rX.below hq (Nat.le_refl _)
        replace rY := rY.below hq (Nat.le_refl _)
        replace rZ := rZ.below hq (Nat.le_refl _)
        replace fr := below_step fr hq
        rw [HSE.out]
        clear HSE
        have q_Bd_0 := Bd.cell 0
        have q_Be_0 := Be.cell 0
        go_wp2
        clear q_Bd_0 q_Be_0
        go_ret
        exact ⟨rfl, fr⟩
      · skip
        have hcz : (c != 0) = true := by simpa using hz
        clear hz
        have q_Bd_0 := Bd.cell 0
        have q_Be_0 := Be.cell 0
        go_wp2
        clear q_Bd_0 q_Be_0
        go_ret
        exact ⟨rfl, fr⟩
  · go_enter Try.func3, Try.ntmps3
    go_wp2_with fail
    refine (big_yes _ C _ h hC).mono ?_
    rintro e w' ⟨rfl, rfl⟩
    go_wp2
    go_ret
    exact ⟨rfl, Below.refl _ _⟩
end Go.Proofs.Ytiinceflafigeaa.fnCurvettes
