/- The walk of 'FnPoints': points are proximate to the one before and at most one more, multiplicities and orders are sums, codes tell the satellites. -/
import Derived.Test.YtiinceflafigeaaPtsC
import Derived.Test.YtiinceflafigeaaPtsLaw
import Derived.Test.YtiinceflafigeaaDrwB
import Derived.Test.YtiinceflafigeaaCat
namespace Go.Proofs.Ytiinceflafigeaa.fnPoints
open Go.RowKit

set_option maxRecDepth 100000 in
set_option maxHeartbeats 8000000 in
theorem walk (w : World) (a0 : Value) (C : List Int) (h : Rd8 w a0 C) :
    Calls Try.prog 10 #[a0] w fun e w' => e = .returned (.bool true) ∧ Below w.heap.size w w' := by
  by_cases hC : C.length ≤ 4096
  · skip
    obtain ⟨a, cap, he, _⟩ := id h
    subst he
    go_enter Try.func10, Try.ntmps10
    go_wp2_with fail
    refine (big_no _ C _ h hC).mono ?_
    rintro e w' ⟨rfl, rfl⟩
    go_wp2_with fail
    refine (drawOrdersOf_w _ C _ h).mono ?_
    rintro e w1 ⟨u, T, k, rfl, hr, hnw, hx8, hk0, hk1, hq⟩
    obtain ⟨ua, uk, rfl⟩ := hr.len0
    clear hnw
    replace h := h.below hq (Nat.le_refl _)
    have fr : Below w.heap.size w _ := hq
    have B0 := Blk.new w1 26 #[.slice ua T.length uk]
    have hal : Below w1.heap.size w1 (w1.alloc (.cells #[.slice ua T.length uk] 26)) := (Below.refl _ _).alloc (Nat.le_refl _) _
    replace h := h.below hal (Nat.le_refl _)
    replace hr := hr.below hal (Nat.le_refl _)
    replace fr := below_step fr hal
    clear hal
    by_cases h0 : ckC T k = 0
    · skip
      obtain ⟨hok, hk1', hk2'⟩ := ckC_zero h0
      obtain ⟨n, rfl⟩ := Int.eq_ofNat_of_zero_le (show 0 ≤ k by omega)
      have q_B0_0 := B0.cell 0
      go_wp2_with fail
      clear q_B0_0
      refine (implOrdersOf_ok _ T n _ hr h0).mono ?_
      rintro e w2 ⟨aOi, kOi, rfl, rOi, hq⟩
      replace B0 := B0.stays hq
      replace h := h.below hq (Nat.le_refl _)
      replace hr := hr.below hq (Nat.le_refl _)
      replace fr := below_step fr hq
      have q_B0_0 := B0.cell 0
      go_wp2_with fail
      clear q_B0_0
      refine (specOrdersOf_ok _ T n _ hr h0).mono ?_
      rintro e w3 ⟨aOs, kOs, rfl, rOs, hq⟩
      replace B0 := B0.stays hq
      replace h := h.below hq (Nat.le_refl _)
      replace hr := hr.below hq (Nat.le_refl _)
      replace rOi := rOi.below hq (Nat.le_refl _)
      replace fr := below_step fr hq
      have q_B0_0 := B0.cell 0
      go_wp2_with fail
      clear q_B0_0
      refine (implProximatesOf_ok _ T n _ hr h0).mono ?_
      rintro e w4 ⟨aNi, kNi, rfl, rNi, hq⟩
      replace B0 := B0.stays hq
      replace h := h.below hq (Nat.le_refl _)
      replace hr := hr.below hq (Nat.le_refl _)
      replace rOi := rOi.below hq (Nat.le_refl _)
      replace rOs := rOs.below hq (Nat.le_refl _)
      replace fr := below_step fr hq
      have q_B0_0 := B0.cell 0
      go_wp2_with fail
      clear q_B0_0
      refine (specProximatesOf_ok _ T n _ hr h0).mono ?_
      rintro e w5 ⟨aNs, kNs, rfl, rNs, hq⟩
      replace B0 := B0.stays hq
      replace h := h.below hq (Nat.le_refl _)
      replace hr := hr.below hq (Nat.le_refl _)
      replace rOi := rOi.below hq (Nat.le_refl _)
      replace rOs := rOs.below hq (Nat.le_refl _)
      replace rNi := rNi.below hq (Nat.le_refl _)
      replace fr := below_step fr hq
      have q_B0_0 := B0.cell 0
      go_wp2_with fail
      clear q_B0_0
      refine (implCodeOf_ok _ T n _ hr h0).mono ?_
      rintro e w6 ⟨aKi, kKi, rfl, rKi, hq⟩
      replace B0 := B0.stays hq
      replace h := h.below hq (Nat.le_refl _)
      replace hr := hr.below hq (Nat.le_refl _)
      replace rOi := rOi.below hq (Nat.le_refl _)
      replace rOs := rOs.below hq (Nat.le_refl _)
      replace rNi := rNi.below hq (Nat.le_refl _)
      replace rNs := rNs.below hq (Nat.le_refl _)
      replace fr := below_step fr hq
      have q_B0_0 := B0.cell 0
      go_wp2_with fail
      clear q_B0_0
      refine (specCodeOf_ok _ T n _ hr h0).mono ?_
      rintro e w7 ⟨aKs, kKs, rfl, rKs, hq⟩
      replace B0 := B0.stays hq
      replace h := h.below hq (Nat.le_refl _)
      replace hr := hr.below hq (Nat.le_refl _)
      replace rOi := rOi.below hq (Nat.le_refl _)
      replace rOs := rOs.below hq (Nat.le_refl _)
      replace rNi := rNi.below hq (Nat.le_refl _)
      replace rNs := rNs.below hq (Nat.le_refl _)
      replace rKi := rKi.below hq (Nat.le_refl _)
      replace fr := below_step fr hq
      have q_B0_0 := B0.cell 0
      go_wp2_with fail
      clear q_B0_0
      refine (implMultiplicitiesAt_ok _ T n _ hr h0).mono ?_
      rintro e w8 ⟨aMi, kMi, rfl, rMi, hq⟩
      replace B0 := B0.stays hq
      replace h := h.below hq (Nat.le_refl _)
      replace hr := hr.below hq (Nat.le_refl _)
      replace rOi := rOi.below hq (Nat.le_refl _)
      replace rOs := rOs.below hq (Nat.le_refl _)
      replace rNi := rNi.below hq (Nat.le_refl _)
      replace rNs := rNs.below hq (Nat.le_refl _)
      replace rKi := rKi.below hq (Nat.le_refl _)
      replace rKs := rKs.below hq (Nat.le_refl _)
      replace fr := below_step fr hq
      have q_B0_0 := B0.cell 0
      go_wp2_with fail
      clear q_B0_0
      refine (specMultiplicitiesAt_ok _ T n _ hr h0).mono ?_
      rintro e w9 ⟨aMs, kMs, rfl, rMs, hq⟩
      replace B0 := B0.stays hq
      replace h := h.below hq (Nat.le_refl _)
      replace hr := hr.below hq (Nat.le_refl _)
      replace rOi := rOi.below hq (Nat.le_refl _)
      replace rOs := rOs.below hq (Nat.le_refl _)
      replace rNi := rNi.below hq (Nat.le_refl _)
      replace rNs := rNs.below hq (Nat.le_refl _)
      replace rKi := rKi.below hq (Nat.le_refl _)
      replace rKs := rKs.below hq (Nat.le_refl _)
      replace rMi := rMi.below hq (Nat.le_refl _)
      replace fr := below_step fr hq
      have q_B0_0 := B0.cell 0
      go_wp2_with fail
      clear q_B0_0
      refine (implCountSatellites_c _ T _ _ hr).mono ?_
      rintro e w10 ⟨rfl, hq⟩
      replace B0 := B0.stays hq
      replace h := h.below hq (Nat.le_refl _)
      replace hr := hr.below hq (Nat.le_refl _)
      replace rOi := rOi.below hq (Nat.le_refl _)
      replace rOs := rOs.below hq (Nat.le_refl _)
      replace rNi := rNi.below hq (Nat.le_refl _)
      replace rNs := rNs.below hq (Nat.le_refl _)
      replace rKi := rKi.below hq (Nat.le_refl _)
      replace rKs := rKs.below hq (Nat.le_refl _)
      replace rMi := rMi.below hq (Nat.le_refl _)
      replace rMs := rMs.below hq (Nat.le_refl _)
      replace fr := below_step fr hq
      rw [h0]
      have q_B0_0 := B0.cell 0
      go_wp2_with fail
      clear q_B0_0
      refine (specCountSatellites_c _ T _ _ hr).mono ?_
      rintro e w11 ⟨rfl, hq⟩
      replace B0 := B0.stays hq
      replace h := h.below hq (Nat.le_refl _)
      replace hr := hr.below hq (Nat.le_refl _)
      replace rOi := rOi.below hq (Nat.le_refl _)
      replace rOs := rOs.below hq (Nat.le_refl _)
      replace rNi := rNi.below hq (Nat.le_refl _)
      replace rNs := rNs.below hq (Nat.le_refl _)
      replace rKi := rKi.below hq (Nat.le_refl _)
      replace rKs := rKs.below hq (Nat.le_refl _)
      replace rMi := rMi.below hq (Nat.le_refl _)
      replace rMs := rMs.below hq (Nat.le_refl _)
      replace fr := below_step fr hq
      rw [h0]
      have se := eqB_self (orL T n)
      have q_B0_0 := B0.cell 0
      go_wp2_with fail
      clear q_B0_0
      refine (likeInts_c _ _ (orL T n) (orL T n) _ rOi rOs).mono ?_
      rintro e w12 ⟨rfl, hq0⟩
      have hq := hq0.below w11.heap.size
      replace B0 := B0.stays hq
      replace h := h.below hq (Nat.le_refl _)
      replace hr := hr.below hq (Nat.le_refl _)
      replace rOi := rOi.below hq (Nat.le_refl _)
      replace rOs := rOs.below hq (Nat.le_refl _)
      replace rNi := rNi.below hq (Nat.le_refl _)
      replace rNs := rNs.below hq (Nat.le_refl _)
      replace rKi := rKi.below hq (Nat.le_refl _)
      replace rKs := rKs.below hq (Nat.le_refl _)
      replace rMi := rMi.below hq (Nat.le_refl _)
      replace rMs := rMs.below hq (Nat.le_refl _)
      replace fr := below_step fr hq
      rw [se]
      have q_B0_0 := B0.cell 0
      go_wp2_with fail
      clear q_B0_0
      refine (likeRows5_c _ _ (rwL T n) _ rNi rNs).mono ?_
      rintro e w13 ⟨rfl, hq⟩
      replace B0 := B0.stays hq
      replace h := h.below hq (Nat.le_refl _)
      replace hr := hr.below hq (Nat.le_refl _)
      replace rOi := rOi.below hq (Nat.le_refl _)
      replace rOs := rOs.below hq (Nat.le_refl _)
      replace rNi := rNi.below hq (Nat.le_refl _)
      replace rNs := rNs.below hq (Nat.le_refl _)
      replace rKi := rKi.below hq (Nat.le_refl _)
      replace rKs := rKs.below hq (Nat.le_refl _)
      replace rMi := rMi.below hq (Nat.le_refl _)
      replace rMs := rMs.below hq (Nat.le_refl _)
      replace fr := below_step fr hq
      have se := eqB_self (codeL (seqL T n))
      have q_B0_0 := B0.cell 0
      go_wp2_with fail
      clear q_B0_0
      refine (likeInts_c _ _ (codeL (seqL T n)) (codeL (seqL T n)) _ rKi rKs).mono ?_
      rintro e w14 ⟨rfl, hq0⟩
      have hq := hq0.below w13.heap.size
      replace B0 := B0.stays hq
      replace h := h.below hq (Nat.le_refl _)
      replace hr := hr.below hq (Nat.le_refl _)
      replace rOi := rOi.below hq (Nat.le_refl _)
      replace rOs := rOs.below hq (Nat.le_refl _)
      replace rNi := rNi.below hq (Nat.le_refl _)
      replace rNs := rNs.below hq (Nat.le_refl _)
      replace rKi := rKi.below hq (Nat.le_refl _)
      replace rKs := rKs.below hq (Nat.le_refl _)
      replace rMi := rMi.below hq (Nat.le_refl _)
      replace rMs := rMs.below hq (Nat.le_refl _)
      replace fr := below_step fr hq
      rw [se]
      have se := eqB_self (seqL T n)
      have q_B0_0 := B0.cell 0
      go_wp2_with fail
      clear q_B0_0
      refine (likeInts_c _ _ (seqL T n) (seqL T n) _ rMi rMs).mono ?_
      rintro e w15 ⟨rfl, hq0⟩
      have hq := hq0.below w14.heap.size
      replace B0 := B0.stays hq
      replace h := h.below hq (Nat.le_refl _)
      replace hr := hr.below hq (Nat.le_refl _)
      replace rOi := rOi.below hq (Nat.le_refl _)
      replace rOs := rOs.below hq (Nat.le_refl _)
      replace rNi := rNi.below hq (Nat.le_refl _)
      replace rNs := rNs.below hq (Nat.le_refl _)
      replace rKi := rKi.below hq (Nat.le_refl _)
      replace rKs := rKs.below hq (Nat.le_refl _)
      replace rMi := rMi.below hq (Nat.le_refl _)
      replace rMs := rMs.below hq (Nat.le_refl _)
      replace fr := below_step fr hq
      rw [se]
      have hco := code_of_kco (kco_at h0)
      have q_B0_0 := B0.cell 0
      go_wp2_with fail
      clear q_B0_0
      refine (implIsCode_c _ (codeL (seqL T n)) _ rKi).mono ?_
      rintro e w16 ⟨rfl, hq0⟩
      have hq := hq0.below w15.heap.size
      replace B0 := B0.stays hq
      replace h := h.below hq (Nat.le_refl _)
      replace hr := hr.below hq (Nat.le_refl _)
      replace rOi := rOi.below hq (Nat.le_refl _)
      replace rOs := rOs.below hq (Nat.le_refl _)
      replace rNi := rNi.below hq (Nat.le_refl _)
      replace rNs := rNs.below hq (Nat.le_refl _)
      replace rKi := rKi.below hq (Nat.le_refl _)
      replace rKs := rKs.below hq (Nat.le_refl _)
      replace rMi := rMi.below hq (Nat.le_refl _)
      replace rMs := rMs.below hq (Nat.le_refl _)
      replace fr := below_step fr hq
      rw [hco]
      have hE := eu_seq hok n
      have hMl : (seqL T n).length = n := seqL_len T n
      have hcs := csN_sat h0
      have hO2 : ∀ i, i < n → gI (orL T n) i = oI (mOf (seqL T n)) (seqL T n) i := fun i hi => gI_orL hi
      have hN2 : ∀ i, i < n → gR (rwL T n) i = rowI (seqL T n) i := fun i hi => gR_rwL hi
      have hol : (orL T n).length = n := orL_len T n
      have hnl : (rwL T n).length = n := rwL_len T n
      have hkl : (codeL (seqL T n)).length = n - 1 := by rw [codeL_len, seqL_len]
      clear rOs rNs rKs rMs hr h B0 hco se hok h0 hk0 hk1
      rw [hcs]
      clear hcs
      generalize seqL T n = M at *
      generalize orL T n = O at *
      generalize rwL T n = N at *
      obtain ⟨bO, oO, cO, heO, _, _, hbO, hcO⟩ := rOi.cells (by omega)
      injection heO with heO1 heO2 heO3
      subst heO1 heO3
      obtain ⟨bM, oM, cM, heM, _, _, hbM, hcM⟩ := rMi.cells (by omega)
      injection heM with heM1 heM2 heM3
      subst heM1 heM3
      obtain ⟨bN, oN, cN, heN, _, _, hbN, hcN⟩ := rNi.cells (by omega)
      injection heN with heN1 heN2 heN3
      subst heN1 heN3
      clear heO2 heM2 heN2
      rw [hol] at hcO
      rw [hMl] at hcM
      rw [hnl] at hcN
      have HO : Hid (∀ i, i < n → w16.cell? ⟨bO, oO + i, none⟩ = some (.int .i64 (oI (mOf M) M i))) := Lib.hid (fun i hi => by rw [← hO2 i hi]; exact hcO i hi)
      have HM := Lib.hid hcM
      have HN : Hid (∀ i, i < n → ∃ u, w16.cell? ⟨bN, oN + i, none⟩ = some u ∧ Rd w16 u (rowI M i)) := Lib.hid (fun i hi => by rw [← hN2 i hi]; exact hcN i hi)
      have HML := Lib.hid hMl
      have HKL := Lib.hid hkl
      have FR := Lib.hid fr
      obtain ⟨i0, hi, hz0, hz1, hz2⟩ := info_parts Try.infoI
      obtain ⟨bK, oK, hbK, HK⟩ : ∃ bK oK, (0 < n - 1 → aKi = some ⟨bK, oK, none⟩ ∧ bK < w16.heap.size) ∧ Hid (∀ i, i < n - 1 → w16.cell? ⟨bK, oK + i, none⟩ = some (.int .i64 (cI M i))) := by
        by_cases hn : 0 < n - 1
        · obtain ⟨b, o, c, he, _, _, hb, hc⟩ := rKi.cells (by omega)
          injection he with he1 he2 he3
          refine ⟨b, o, fun _ => ⟨he1, hb⟩, Lib.hid (fun i hi => ?_)⟩
          rw [← gI_codeL (M := M) (j := i) (by omega)]
          exact hc i (by omega)
        · exact ⟨0, 0, fun h => absurd h hn, Lib.hid (fun i hi => by omega)⟩
      have HBK := Lib.hid hbK
      clear hcO hcM hcN hO2 hN2 hMl hol hnl hkl fr rOi rMi rNi hbK
      obtain ⟨q, hqn⟩ : ∃ q : Nat, q = n - 1 := ⟨_, rfl⟩
      rw [← hqn] at HK HBK ⊢
      have HQ := Lib.hid hqn
      clear hqn
      go_wp2_with (at_make; refine wpList_make_full _ rfl (.tmp 161) (.tmp 161) 24 rfl w16.heap.size 2 i0 (.int .i64 0) 1 Try.underlying24 hi hz0 hz1 _ _ _ _ n rfl rfl rfl rfl ?c1 ?c2 ?c3 ?_)
      case c1 => rw [hz2]; omega
      case c2 => unfold maxLen; omega
      case c3 => exact Nat.le_refl _
      intro wS hown hgrow
      have hown0 : OwnI wS w16.heap.size (.slice (some ⟨w16.heap.size, 0, none⟩) n n) (smL M 0) := by
        rw [smL_zero, HML.out]
        unfold OwnI Own
        rw [List.length_replicate, List.map_replicate]
        have := toList_madeCells_one (.int .i64 0) n
        rw [← this]; exact hown
      have hb0 : Below w16.heap.size w16 wS := (Below.refl _ _).grown hgrow (Nat.le_refl _) (by simp)
      clear hown hgrow
      go_wp2_with fail
      go_loopw [26, 27] (fun sv jv wr => ∃ j : Nat, j ≤ n ∧ jv = .int .i64 (j : Int) ∧ sv = .int .i64 (satN M j) ∧ OwnI wr w16.heap.size (.slice (some ⟨w16.heap.size, 0, none⟩) n n) (smL M j) ∧ Below w16.heap.size w16 wr) (fun _ jv _ => n - (intOf jv).toNat)
      case atStart => exact ⟨0, Nat.zero_le _, rfl, rfl, hown0, hb0⟩
      case round =>
        clear hown0 hb0
        obtain ⟨j, hj, rfl, rfl, hS, hb⟩ := hrel
        obtain ⟨wo, rfl⟩ : ∃ wo : World, wo = wr := ⟨_, rfl⟩
        by_cases hlt : j < n
        · have hjM : j < M.length := by have := HML.out; omega
          have hM400 : M.length ≤ 400 := by have := HML.out; omega
          obtain ⟨u, hu0, hru0⟩ := HN.out j hlt
          obtain ⟨au, cu, rfl⟩ := hru0.len0
          have dN : wo.cell? ⟨bN, oN + j, none⟩ = some (.slice au (rowI M j).length cu) := (hb.cell (p := ⟨bN, oN + j, none⟩) hbN).trans hu0
          have dM : wo.cell? ⟨bM, oM + j, none⟩ = some (.int .i64 (gI M j)) := (hb.cell (p := ⟨bM, oM + j, none⟩) hbM).trans (HM.out j hlt)
          have hrl := rowI_len hjM
          have hrb : ∃ b : Bool, (((rowI M j).length : Int) == 0) = b ∧ ((j : Int) == 0) = b := by
            by_cases e : j = 0
            · exact ⟨true, by simpa using hrl.2.2 e, by simpa using e⟩
            · exact ⟨false, by simp; intro h; exact e (hrl.2.1 (by rw [h]; rfl)), by simpa using e⟩
          obtain ⟨b, hb1, hb2⟩ := hrb
          have hr2 : decide (((rowI M j).length : Int) > 2) = false := decide_eq_false (by omega)
          have hMj := hE.pos j hjM
          have hl2 := hrl.1
          have HU := Lib.hid hu0
          have HRU := Lib.hid hru0
          clear hrl hu0 hru0
          go_wp2_with fail
          clear dM hb1 hb2 hr2
          go_loopw [28, 29] (fun ov iv wr => ∃ i : Nat, i ≤ (rowI M j).length ∧ iv = .int .i64 (i : Int) ∧ ov = .int .i64 (ordP M j i) ∧ OwnI wr w16.heap.size (.slice (some ⟨w16.heap.size, 0, none⟩) n n) (smP M j i) ∧ Below w16.heap.size w16 wr) (fun _ iv _ => (rowI M j).length - (intOf iv).toNat)
          case atStart => exact ⟨0, Nat.zero_le _, rfl, by rw [ordP_zero], by rw [smP_zero]; exact hS, hb⟩
          case round =>
            clear hS hb dN
            obtain ⟨i, hi', rfl, rfl, hS, hb⟩ := hrel
            obtain ⟨w2, rfl⟩ : ∃ wo : World, wo = wr := ⟨_, rfl⟩
            have dN : w2.cell? ⟨bN, oN + j, none⟩ = some (.slice au (rowI M j).length cu) := (hb.cell (p := ⟨bN, oN + j, none⟩) hbN).trans HU.out
            by_cases hil : i < (rowI M j).length
            · obtain ⟨br, orr, cr, he, _, _, hbr, hcr⟩ := HRU.out.cells (by omega)
              injection he with he1 he2 he3
              subst he1 he3
              clear he2
              have hrB := rowI_bd hjM hil
              have d := (hb.cell (p := ⟨br, orr + i, none⟩) hbr).trans (hcr i hil)
              have hos := ordP_succ M j i
              have hss := smP_succ hil
              have hob := ordP_bd hE hM400 hjM (i := i) (by omega)
              obtain ⟨r, hr⟩ := Int.eq_ofNat_of_zero_le hrB.1
              rw [hr] at d hrB hos hss
              clear hr hcr
              rw [Int.toNat_natCast] at hos hss
              have hrn : r < n := by omega
              have hrM : r < M.length := by omega
              have dO := (hb.cell (p := ⟨bO, oO + r, none⟩) hbO).trans (HO.out r hrn)
              have dM : w2.cell? ⟨bM, oM + j, none⟩ = some (.int .i64 (gI M j)) := (hb.cell (p := ⟨bM, oM + j, none⟩) hbM).trans (HM.out j hlt)
              have hoM := oM_bd hE hM400 hrM
              have hsl : (smP M j i).length = n := by rw [smP_len, HML.out]
              have dS := hS.cellN hsl hrn
              have fS := hS.freeN hsl r
              have hset := hS.setN hsl r (gI (smP M j i) r + gI M j)
              have hsb := smP_bd hE (i := i) hjM hrM
              have hbs := hb.setCell (p := ⟨w16.heap.size, r, none⟩) (Nat.le_refl _) (.int .i64 (gI (smP M j i) r + gI M j))
              have hset2 : OwnI (w2.setCell ⟨w16.heap.size, r, none⟩ (.int .i64 (gI (smP M j i) r + gI M j))) w16.heap.size (.slice (some ⟨w16.heap.size, 0, none⟩) n n) (smP M j (i + 1)) := by rw [hss]; exact hset
              have HR2 := Lib.hid hset2
              have HB2 := Lib.hid hbs
              have HOS := Lib.hid hos
              have hri : (r : Int) < (n : Int) := by omega
              have hrj : (r : Int) < (j : Int) := hrB.2
              have hr0 : (0 : Int) ≤ (r : Int) := by omega
              clear hset hset2 hbs hos hss hS hb hsl hrB
              generalize oI (mOf M) M r = x at *
              generalize gI (smP M j i) r = y at *
              generalize ordP M j i = z at *
              generalize gI M j = m at *
              have hwr : IntKind.i64.wrap (y + m) = y + m := IntWalk.i64_in _ (by omega)
              have hil2 : (i : Int) < ((rowI M j).length : Int) := by omega
              have hi0 : (0 : Int) ≤ (i : Int) := by omega
              go_wp2_with fail
              go_still_tail 24, (by kernel_rfl)
              change wpList _ _ _ _ _ w2.drew
              go_wp2
              go_roundw
              case rel => exact ⟨i + 1, by omega, by go_num, by rw [HOS.out], HR2.out.below (Below.refl _ _).drew (Nat.le_refl _), HB2.out.drew⟩
              case measure => simp [intOf]; omega
            · have hie : i = (rowI M j).length := by omega
              subst hie
              rw [ordP_all hjM]
              rw [smP_all hE hjM] at hS
              have dO := (hb.cell (p := ⟨bO, oO + j, none⟩) hbO).trans (HO.out j hlt)
              have hji : (j : Int) < (n : Int) := by omega
              have hj0 : (0 : Int) ≤ (j : Int) := by omega
              rcases rowI_cases hjM with ⟨h0, hrow, hs⟩ | ⟨h0, hrow, hs⟩ | ⟨s, h0, hs, hrow⟩
              · have hL : (rowI M j).length = 0 := by rw [hrow]; rfl
                have hj1 : decide ((j : Int) > 0) = false := decide_eq_false (by omega)
                have hj2 : decide (0 < j) = false := decide_eq_false (by omega)
                have hj3 : decide ((0 : Int) < (j : Int)) = false := decide_eq_false (by omega)
                rw [hL] at dN
                have HS := Lib.hid hs
                have HST := Lib.hid hS
                have HB := Lib.hid hb
                clear h0 hrow hs hL hS hb
                go_wp2_with fail
                go_quiet (fail)
                go_wp2_with fail
                go_roundw
                case rel => exact ⟨j + 1, by omega, by go_num, by rw [satN_succ, if_neg (by have := HS.out; omega), Int.add_zero], HST.out.below (below_drewN (Below.refl _ _) _) (Nat.le_refl _), below_drewN HB.out _⟩
                case measure => simp [intOf]; omega
              · have hL : (rowI M j).length = 1 := by rw [hrow]; rfl
                have hj1 : decide ((j : Int) > 0) = true := decide_eq_true (by omega)
                have hj2 : 0 < j := by omega
                have hj3 : (0 : Int) < (j : Int) := by omega
                obtain ⟨br, orr, cr, he, _, _, hbr, hcr⟩ := HRU.out.cells (by omega)
                injection he with he1 he2 he3
                subst he1 he3
                have d0 := (hb.cell (p := ⟨br, orr + 0, none⟩) hbr).trans (hcr 0 (by omega))
                have e0 : gI (rowI M j) 0 = (j : Int) - 1 := by rw [hrow]; show ((j - 1 : Nat) : Int) = _; omega
                rw [e0, Nat.add_zero] at d0
                rw [hL] at dN ⊢
                have hqq := HQ.out
                obtain ⟨ha, hbK⟩ := HBK.out (by omega)
                subst ha
                have dK := (hb.cell (p := ⟨bK, oK + (j - 1), none⟩) hbK).trans (HK.out (j - 1) (by omega))
                rw [cI_prev h0, if_neg hs] at dK
                have w1 : IntKind.i64.wrap ((j : Int) - 1) = (j : Int) - 1 := IntWalk.i64_in _ (by omega)
                have p1 : (1 : Int) ≤ (j : Int) := by omega
                have p2 : (0 : Int) ≤ (j : Int) - 1 := by omega
                have p3 : (j : Int) - 1 < (q : Int) := by omega
                have p4 : ((j : Int) - 1).toNat = j - 1 := by omega
                have HS := Lib.hid hs
                have HST := Lib.hid hS
                have HB := Lib.hid hb
                clear h0 hrow hs hL hS hb hcr e0 he2 hqq
                go_wp2_with fail
                go_quiet (fail)
                go_wp2_with fail
                go_roundw
                case rel => exact ⟨j + 1, by omega, by go_num, by rw [satN_succ, if_neg (by have := HS.out; omega), Int.add_zero], HST.out.below (below_drewN (Below.refl _ _) _) (Nat.le_refl _), below_drewN HB.out _⟩
                case measure => simp [intOf]; omega
              · have hL : (rowI M j).length = 2 := by rw [hrow]; rfl
                have hj1 : decide ((j : Int) > 0) = true := decide_eq_true (by omega)
                have hj2 : 0 < j := by omega
                have hj3 : (0 : Int) < (j : Int) := by omega
                obtain ⟨br, orr, cr, he, _, _, hbr, hcr⟩ := HRU.out.cells (by omega)
                injection he with he1 he2 he3
                subst he1 he3
                have d0 := (hb.cell (p := ⟨br, orr + 0, none⟩) hbr).trans (hcr 0 (by omega))
                have d1 := (hb.cell (p := ⟨br, orr + 1, none⟩) hbr).trans (hcr 1 (by omega))
                have e0 : gI (rowI M j) 0 = (s : Int) := by rw [hrow]; rfl
                have e1 : gI (rowI M j) 1 = (j : Int) - 1 := by rw [hrow]; show ((j - 1 : Nat) : Int) = _; omega
                rw [e0, Nat.add_zero] at d0
                rw [e1] at d1
                rw [hL] at dN ⊢
                have hqq := HQ.out
                obtain ⟨ha, hbK⟩ := HBK.out (by omega)
                subst ha
                have dK := (hb.cell (p := ⟨bK, oK + (j - 1), none⟩) hbK).trans (HK.out (j - 1) (by omega))
                have hs0 : 0 ≤ sI M j := by omega
                rw [cI_prev (by omega), if_pos hs0, hs] at dK
                have w1 : IntKind.i64.wrap ((j : Int) - 1) = (j : Int) - 1 := IntWalk.i64_in _ (by omega)
                have w2' : IntKind.i64.wrap ((j : Int) - (s : Int)) = (j : Int) - (s : Int) := IntWalk.i64_in _ (by omega)
                have p1 : (1 : Int) ≤ (j : Int) := by omega
                have p2 : (0 : Int) ≤ (j : Int) - 1 := by omega
                have p3 : (j : Int) - 1 < (q : Int) := by omega
                have p4 : ((j : Int) - 1).toNat = j - 1 := by omega
                have hsat := satN_bd M j
                have HS := Lib.hid hs0
                have HST := Lib.hid hS
                have HB := Lib.hid hb
                clear h0 hrow hs hL hS hb hcr e0 e1 he2 hqq hs0
                go_wp2_with fail
                go_quiet (fail)
                go_wp2_with fail
                have d0' : (w2.drewN nq).cell? ⟨br, orr, none⟩ = some (.int .i64 (s : Int)) := d0
                have dN' : (w2.drewN nq).cell? ⟨bN, oN + j, none⟩ = some (.slice (some ⟨br, orr, none⟩) 2 cu) := dN
                have dK' : (w2.drewN nq).cell? ⟨bK, oK + (j - 1), none⟩ = some (.int .i64 ((j : Int) - (s : Int))) := dK
                have HST' := Lib.hid (HST.out.below (below_drewN (Below.refl _ _) nq) (Nat.le_refl _))
                have HB' := Lib.hid (below_drewN HB.out nq)
                clear d0 d1 dN dK HST HB dO
                generalize w2.drewN nq = w3 at *
                go_quiet (fail)
                go_wp2_with fail
                go_roundw
                case rel => exact ⟨j + 1, by omega, by go_num, by rw [satN_succ, if_pos (by have := HS.out; omega)], HST'.out.below (below_drewN (Below.refl _ _) _) (Nat.le_refl _), below_drewN HB'.out _⟩
                case measure => simp [intOf]; omega
        · have hjn : j = n := by omega
          subst hjn
          go_wp2_with fail
          go_loopw [30] (fun tv wr => ∃ t : Nat, t ≤ j ∧ tv = .int .i64 (t : Int) ∧ OwnI wr w16.heap.size (.slice (some ⟨w16.heap.size, 0, none⟩) j j) (smL M j) ∧ Below w16.heap.size w16 wr) (fun tv _ => j - (intOf tv).toNat)
          case atStart => exact ⟨0, Nat.zero_le _, rfl, hS, hb⟩
          case round =>
            clear hS hb
            obtain ⟨t, ht, rfl, hS, hb⟩ := hrel
            obtain ⟨w2, rfl⟩ : ∃ wo : World, wo = wr := ⟨_, rfl⟩
            by_cases htl : t < j
            · have htM : t < M.length := by have := HML.out; omega
              have dM : w2.cell? ⟨bM, oM + t, none⟩ = some (.int .i64 (gI M t)) := (hb.cell (p := ⟨bM, oM + t, none⟩) hbM).trans (HM.out t htl)
              have hsl : (smL M j).length = j := by rw [smL_len, HML.out]
              have dS := hS.cellN hsl htl
              rw [gI_smL htM] at dS
              have hle : smI M j t ≤ gI M t := prox_le hE htM j (by have := HML.out; omega)
              have hd : decide (smI M j t > gI M t) = false := decide_eq_false (by omega)
              have HST := Lib.hid hS
              have HB := Lib.hid hb
              clear hsl hle hS hb
              go_wp2_with fail
              go_quiet (fail)
              go_wp2_with fail
              go_roundw
              case rel => exact ⟨t + 1, by omega, by go_num, HST.out.below (below_drewN (Below.refl _ _) _) (Nat.le_refl _), below_drewN HB.out _⟩
              case measure => simp [intOf]; omega
            · go_wp2
              go_ret
              exact ⟨by simp, FR.out.trans (hb.mono FR.out.size)⟩
    · skip
      have hne : (ckC T k != 0) = true := by simp [h0]
      have q_B0_0 := B0.cell 0
      go_wp2_with fail
      clear q_B0_0
      refine (implOrdersOf_no _ T k _ hr h0).mono ?_
      rintro e w2 ⟨aOi, kOi, rfl, rOi, hq⟩
      replace B0 := B0.stays hq
      replace h := h.below hq (Nat.le_refl _)
      replace hr := hr.below hq (Nat.le_refl _)
      replace fr := below_step fr hq
      have q_B0_0 := B0.cell 0
      go_wp2_with fail
      clear q_B0_0
      refine (specOrdersOf_no _ T k _ hr h0).mono ?_
      rintro e w3 ⟨aOs, kOs, rfl, rOs, hq⟩
      replace B0 := B0.stays hq
      replace h := h.below hq (Nat.le_refl _)
      replace hr := hr.below hq (Nat.le_refl _)
      replace rOi := rOi.below hq (Nat.le_refl _)
      replace fr := below_step fr hq
      have q_B0_0 := B0.cell 0
      go_wp2_with fail
      clear q_B0_0
      refine (implProximatesOf_no _ T k _ hr h0).mono ?_
      rintro e w4 ⟨aNi, kNi, rfl, rNi, hq⟩
      replace B0 := B0.stays hq
      replace h := h.below hq (Nat.le_refl _)
      replace hr := hr.below hq (Nat.le_refl _)
      replace rOi := rOi.below hq (Nat.le_refl _)
      replace rOs := rOs.below hq (Nat.le_refl _)
      replace fr := below_step fr hq
      have q_B0_0 := B0.cell 0
      go_wp2_with fail
      clear q_B0_0
      refine (specProximatesOf_no _ T k _ hr h0).mono ?_
      rintro e w5 ⟨aNs, kNs, rfl, rNs, hq⟩
      replace B0 := B0.stays hq
      replace h := h.below hq (Nat.le_refl _)
      replace hr := hr.below hq (Nat.le_refl _)
      replace rOi := rOi.below hq (Nat.le_refl _)
      replace rOs := rOs.below hq (Nat.le_refl _)
      replace rNi := rNi.below hq (Nat.le_refl _)
      replace fr := below_step fr hq
      have q_B0_0 := B0.cell 0
      go_wp2_with fail
      clear q_B0_0
      refine (implCodeOf_no _ T k _ hr h0).mono ?_
      rintro e w6 ⟨aKi, kKi, rfl, rKi, hq⟩
      replace B0 := B0.stays hq
      replace h := h.below hq (Nat.le_refl _)
      replace hr := hr.below hq (Nat.le_refl _)
      replace rOi := rOi.below hq (Nat.le_refl _)
      replace rOs := rOs.below hq (Nat.le_refl _)
      replace rNi := rNi.below hq (Nat.le_refl _)
      replace rNs := rNs.below hq (Nat.le_refl _)
      replace fr := below_step fr hq
      have q_B0_0 := B0.cell 0
      go_wp2_with fail
      clear q_B0_0
      refine (specCodeOf_no _ T k _ hr h0).mono ?_
      rintro e w7 ⟨aKs, kKs, rfl, rKs, hq⟩
      replace B0 := B0.stays hq
      replace h := h.below hq (Nat.le_refl _)
      replace hr := hr.below hq (Nat.le_refl _)
      replace rOi := rOi.below hq (Nat.le_refl _)
      replace rOs := rOs.below hq (Nat.le_refl _)
      replace rNi := rNi.below hq (Nat.le_refl _)
      replace rNs := rNs.below hq (Nat.le_refl _)
      replace rKi := rKi.below hq (Nat.le_refl _)
      replace fr := below_step fr hq
      have q_B0_0 := B0.cell 0
      go_wp2_with fail
      clear q_B0_0
      refine (implMultiplicitiesAt_no _ T k _ hr h0).mono ?_
      rintro e w8 ⟨aMi, kMi, rfl, rMi, hq⟩
      replace B0 := B0.stays hq
      replace h := h.below hq (Nat.le_refl _)
      replace hr := hr.below hq (Nat.le_refl _)
      replace rOi := rOi.below hq (Nat.le_refl _)
      replace rOs := rOs.below hq (Nat.le_refl _)
      replace rNi := rNi.below hq (Nat.le_refl _)
      replace rNs := rNs.below hq (Nat.le_refl _)
      replace rKi := rKi.below hq (Nat.le_refl _)
      replace rKs := rKs.below hq (Nat.le_refl _)
      replace fr := below_step fr hq
      have q_B0_0 := B0.cell 0
      go_wp2_with fail
      clear q_B0_0
      refine (specMultiplicitiesAt_no _ T k _ hr h0).mono ?_
      rintro e w9 ⟨aMs, kMs, rfl, rMs, hq⟩
      replace B0 := B0.stays hq
      replace h := h.below hq (Nat.le_refl _)
      replace hr := hr.below hq (Nat.le_refl _)
      replace rOi := rOi.below hq (Nat.le_refl _)
      replace rOs := rOs.below hq (Nat.le_refl _)
      replace rNi := rNi.below hq (Nat.le_refl _)
      replace rNs := rNs.below hq (Nat.le_refl _)
      replace rKi := rKi.below hq (Nat.le_refl _)
      replace rKs := rKs.below hq (Nat.le_refl _)
      replace rMi := rMi.below hq (Nat.le_refl _)
      replace fr := below_step fr hq
      have q_B0_0 := B0.cell 0
      go_wp2_with fail
      clear q_B0_0
      refine (implCountSatellites_c _ T _ _ hr).mono ?_
      rintro e w10 ⟨rfl, hq⟩
      replace B0 := B0.stays hq
      replace h := h.below hq (Nat.le_refl _)
      replace hr := hr.below hq (Nat.le_refl _)
      replace rOi := rOi.below hq (Nat.le_refl _)
      replace rOs := rOs.below hq (Nat.le_refl _)
      replace rNi := rNi.below hq (Nat.le_refl _)
      replace rNs := rNs.below hq (Nat.le_refl _)
      replace rKi := rKi.below hq (Nat.le_refl _)
      replace rKs := rKs.below hq (Nat.le_refl _)
      replace rMi := rMi.below hq (Nat.le_refl _)
      replace rMs := rMs.below hq (Nat.le_refl _)
      replace fr := below_step fr hq
      have q_B0_0 := B0.cell 0
      go_wp2_with fail
      clear q_B0_0
      refine (specCountSatellites_c _ T _ _ hr).mono ?_
      rintro e w11 ⟨rfl, hq⟩
      replace B0 := B0.stays hq
      replace h := h.below hq (Nat.le_refl _)
      replace hr := hr.below hq (Nat.le_refl _)
      replace rOi := rOi.below hq (Nat.le_refl _)
      replace rOs := rOs.below hq (Nat.le_refl _)
      replace rNi := rNi.below hq (Nat.le_refl _)
      replace rNs := rNs.below hq (Nat.le_refl _)
      replace rKi := rKi.below hq (Nat.le_refl _)
      replace rKs := rKs.below hq (Nat.le_refl _)
      replace rMi := rMi.below hq (Nat.le_refl _)
      replace rMs := rMs.below hq (Nat.le_refl _)
      replace fr := below_step fr hq
      have se := eqB_self ([] : List Int)
      have q_B0_0 := B0.cell 0
      go_wp2_with fail
      clear q_B0_0
      refine (likeInts_c _ _ [] [] _ rOi rOs).mono ?_
      rintro e w12 ⟨rfl, hq0⟩
      have hq := hq0.below w11.heap.size
      replace B0 := B0.stays hq
      replace h := h.below hq (Nat.le_refl _)
      replace hr := hr.below hq (Nat.le_refl _)
      replace rOi := rOi.below hq (Nat.le_refl _)
      replace rOs := rOs.below hq (Nat.le_refl _)
      replace rNi := rNi.below hq (Nat.le_refl _)
      replace rNs := rNs.below hq (Nat.le_refl _)
      replace rKi := rKi.below hq (Nat.le_refl _)
      replace rKs := rKs.below hq (Nat.le_refl _)
      replace rMi := rMi.below hq (Nat.le_refl _)
      replace rMs := rMs.below hq (Nat.le_refl _)
      replace fr := below_step fr hq
      rw [se]
      have q_B0_0 := B0.cell 0
      go_wp2_with fail
      clear q_B0_0
      refine (likeRows5_c _ _ [] _ rNi rNs).mono ?_
      rintro e w13 ⟨rfl, hq⟩
      replace B0 := B0.stays hq
      replace h := h.below hq (Nat.le_refl _)
      replace hr := hr.below hq (Nat.le_refl _)
      replace rOi := rOi.below hq (Nat.le_refl _)
      replace rOs := rOs.below hq (Nat.le_refl _)
      replace rNi := rNi.below hq (Nat.le_refl _)
      replace rNs := rNs.below hq (Nat.le_refl _)
      replace rKi := rKi.below hq (Nat.le_refl _)
      replace rKs := rKs.below hq (Nat.le_refl _)
      replace rMi := rMi.below hq (Nat.le_refl _)
      replace rMs := rMs.below hq (Nat.le_refl _)
      replace fr := below_step fr hq
      have se := eqB_self ([] : List Int)
      have q_B0_0 := B0.cell 0
      go_wp2_with fail
      clear q_B0_0
      refine (likeInts_c _ _ [] [] _ rKi rKs).mono ?_
      rintro e w14 ⟨rfl, hq0⟩
      have hq := hq0.below w13.heap.size
      replace B0 := B0.stays hq
      replace h := h.below hq (Nat.le_refl _)
      replace hr := hr.below hq (Nat.le_refl _)
      replace rOi := rOi.below hq (Nat.le_refl _)
      replace rOs := rOs.below hq (Nat.le_refl _)
      replace rNi := rNi.below hq (Nat.le_refl _)
      replace rNs := rNs.below hq (Nat.le_refl _)
      replace rKi := rKi.below hq (Nat.le_refl _)
      replace rKs := rKs.below hq (Nat.le_refl _)
      replace rMi := rMi.below hq (Nat.le_refl _)
      replace rMs := rMs.below hq (Nat.le_refl _)
      replace fr := below_step fr hq
      rw [se]
      have se := eqB_self ([] : List Int)
      have q_B0_0 := B0.cell 0
      go_wp2_with fail
      clear q_B0_0
      refine (likeInts_c _ _ [] [] _ rMi rMs).mono ?_
      rintro e w15 ⟨rfl, hq0⟩
      have hq := hq0.below w14.heap.size
      replace B0 := B0.stays hq
      replace h := h.below hq (Nat.le_refl _)
      replace hr := hr.below hq (Nat.le_refl _)
      replace rOi := rOi.below hq (Nat.le_refl _)
      replace rOs := rOs.below hq (Nat.le_refl _)
      replace rNi := rNi.below hq (Nat.le_refl _)
      replace rNs := rNs.below hq (Nat.le_refl _)
      replace rKi := rKi.below hq (Nat.le_refl _)
      replace rKs := rKs.below hq (Nat.le_refl _)
      replace rMi := rMi.below hq (Nat.le_refl _)
      replace rMs := rMs.below hq (Nat.le_refl _)
      replace fr := below_step fr hq
      rw [se]
      have q_B0_0 := B0.cell 0
      go_wp2
      clear q_B0_0
      go_ret
      exact ⟨rfl, fr⟩


  · go_enter Try.func10, Try.ntmps10
    go_wp2_with fail
    refine (big_yes _ C _ h hC).mono ?_
    rintro e w' ⟨rfl, rfl⟩
    go_wp2
    go_ret
    exact ⟨rfl, Below.refl _ _⟩
end Go.Proofs.Ytiinceflafigeaa.fnPoints
