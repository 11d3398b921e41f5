/- The walk of 'FnClusterProducts': excesses make their cluster, sums, products, delta invariants and texts of clusters agree. -/
import Derived.Test.YtglghdkjppcedaaGreatDoorPart35
import Derived.Test.YtglghdkjppcedaaGreatDoorPart33
namespace Go.Proofs.YtglghdkjppcedaaGreatDoor.fnClusterProducts
open Go.RowKit

set_option maxRecDepth 100000 in
set_option maxHeartbeats 16000000 in
theorem walk (w : World) (ht : Tab w) (a0 : Value) (C : List Int) (h0 : Rd8w w a0 C) :
    Calls Tryz.prog 3 #[a0] w fun e w' => e = .returned (.bool true) ∧ Below w.heap.size w w' := by
  by_cases hC : C.length ≤ 4096
  · skip
    obtain ⟨a, cap, he, _⟩ := id h0
    subst he
    have h : Rd8 w _ C := ⟨h0, hC⟩
    have HT := Lib.hid ht
    clear ht
    go_enter Tryz.func3, Tryz.ntmps3
    go_wp2_with fail
    refine (big_no _ C _ h.1 hC).mono ?_
    rintro e w' ⟨rfl, rfl⟩
    go_wp2_with fail
    refine (drawClusterOfExcesses_w _ C _ h).mono ?_
    rintro e w1 ⟨m, n3, n, a1, b1, d1, f1, i1, j1, k1, l1, P, S, W, O, rfl, hp, hs, hw, ho, lp, ls, lw, lo, hm, hn3, hn, hq⟩
    have HLO := Lib.hid lo
    clear lp ls lw lo
    replace h := h.below hq (Nat.le_refl _)
    have fr : Below w.heap.size w _ := hq
    obtain ⟨A, h_A⟩ : ∃ x, okL (oxB P S W O) P = x := ⟨_, rfl⟩
    have HA := Lib.hid h_A
    clear h_A
    obtain ⟨B, h_B⟩ : ∃ x, okL (oxB P S W O) S = x := ⟨_, rfl⟩
    have HB := Lib.hid h_B
    clear h_B
    obtain ⟨D, h_D⟩ : ∃ x, okL (oxB P S W O) (linTo P S O P.length) = x := ⟨_, rfl⟩
    have HD := Lib.hid h_D
    clear h_D
    obtain ⟨cc, h_cc⟩ : ∃ x, oxC P S W O = x := ⟨_, rfl⟩
    have HCC := Lib.hid h_cc
    clear h_cc
    obtain ⟨nA, h_nA⟩ : ∃ x, A.length = x := ⟨_, rfl⟩
    have HNA := Lib.hid h_nA
    clear h_nA
    obtain ⟨nB, h_nB⟩ : ∃ x, B.length = x := ⟨_, rfl⟩
    have HNB := Lib.hid h_nB
    clear h_nB
    obtain ⟨nD, h_nD⟩ : ∃ x, D.length = x := ⟨_, rfl⟩
    have HND := Lib.hid h_nD
    clear h_nD
    have hccb : (cc != cc) = false := by simp
    have Bc := Blk.new w1 26 #[.slice a1 m i1, .slice b1 m j1, .slice d1 n3 k1]
    have hal : Below w1.heap.size w1 (w1.alloc (.cells #[.slice a1 m i1, .slice b1 m j1, .slice d1 n3 k1] 26)) := (Below.refl _ _).alloc (Nat.le_refl _) _
    replace h := h.below hal (Nat.le_refl _)
    replace hp := hp.below hal (Nat.le_refl _)
    replace hs := hs.below hal (Nat.le_refl _)
    replace hw := hw.below hal (Nat.le_refl _)
    replace ho := ho.below hal (Nat.le_refl _)
    replace fr := below_step fr hal
    clear hal
    have q_Bc_0 := Bc.cell 0
    have q_Bc_1 := Bc.cell 1
    have q_Bc_2 := Bc.cell 2
    go_wp2_with fail
    clear q_Bc_0 q_Bc_1 q_Bc_2
    refine (implOx_v _ _ _ _ P S W O A B D nA nB nD cc _ hp hs hw ho HA.out HB.out HD.out HCC.out HNA.out HNB.out HND.out).mono ?_
    rintro e w2 ⟨a2, b2, d2, i2, j2, k2, rfl, rp, rs, rq, hq⟩
    replace Bc := Bc.stays hq
    replace h := h.below hq (Nat.le_refl _)
    replace hp := hp.below hq (Nat.le_refl _)
    replace hs := hs.below hq (Nat.le_refl _)
    replace hw := hw.below hq (Nat.le_refl _)
    replace ho := ho.below hq (Nat.le_refl _)
    replace fr := below_step fr hq
    have Bd := Blk.new w2 26 #[.slice a2 nA i2, .slice b2 nB j2, .slice d2 nD k2]
    have hal : Below w2.heap.size w2 (w2.alloc (.cells #[.slice a2 nA i2, .slice b2 nB j2, .slice d2 nD k2] 26)) := (Below.refl _ _).alloc (Nat.le_refl _) _
    replace Bc := Bc.alloc (.cells #[.slice a2 nA i2, .slice b2 nB j2, .slice d2 nD k2] 26)
    replace h := h.below hal (Nat.le_refl _)
    replace hp := hp.below hal (Nat.le_refl _)
    replace hs := hs.below hal (Nat.le_refl _)
    replace hw := hw.below hal (Nat.le_refl _)
    replace ho := ho.below hal (Nat.le_refl _)
    replace rp := rp.below hal (Nat.le_refl _)
    replace rs := rs.below hal (Nat.le_refl _)
    replace rq := rq.below hal (Nat.le_refl _)
    replace fr := below_step fr hal
    clear hal
    have q_Bc_0 := Bc.cell 0
    have q_Bc_1 := Bc.cell 1
    have q_Bc_2 := Bc.cell 2
    have q_Bd_0 := Bd.cell 0
    have q_Bd_1 := Bd.cell 1
    have q_Bd_2 := Bd.cell 2
    go_wp2_with fail
    clear q_Bc_0 q_Bc_1 q_Bc_2 q_Bd_0 q_Bd_1 q_Bd_2
    refine (specOx_v _ _ _ _ P S W O A B D nA nB nD cc _ hp hs hw ho HA.out HB.out HD.out HCC.out HNA.out HNB.out HND.out).mono ?_
    rintro e w3 ⟨a3, b3, d3, i3, j3, k3, rfl, sp, ss, sq, hq⟩
    replace Bc := Bc.stays hq
    replace Bd := Bd.stays hq
    replace h := h.below hq (Nat.le_refl _)
    replace hp := hp.below hq (Nat.le_refl _)
    replace hs := hs.below hq (Nat.le_refl _)
    replace hw := hw.below hq (Nat.le_refl _)
    replace ho := ho.below hq (Nat.le_refl _)
    replace rp := rp.below hq (Nat.le_refl _)
    replace rs := rs.below hq (Nat.le_refl _)
    replace rq := rq.below hq (Nat.le_refl _)
    replace fr := below_step fr hq
    have Be := Blk.new w3 26 #[.slice a3 nA i3, .slice b3 nB j3, .slice d3 nD k3]
    have hal : Below w3.heap.size w3 (w3.alloc (.cells #[.slice a3 nA i3, .slice b3 nB j3, .slice d3 nD k3] 26)) := (Below.refl _ _).alloc (Nat.le_refl _) _
    replace Bc := Bc.alloc (.cells #[.slice a3 nA i3, .slice b3 nB j3, .slice d3 nD k3] 26)
    replace Bd := Bd.alloc (.cells #[.slice a3 nA i3, .slice b3 nB j3, .slice d3 nD k3] 26)
    replace h := h.below hal (Nat.le_refl _)
    replace hp := hp.below hal (Nat.le_refl _)
    replace hs := hs.below hal (Nat.le_refl _)
    replace hw := hw.below hal (Nat.le_refl _)
    replace ho := ho.below hal (Nat.le_refl _)
    replace rp := rp.below hal (Nat.le_refl _)
    replace rs := rs.below hal (Nat.le_refl _)
    replace rq := rq.below hal (Nat.le_refl _)
    replace sp := sp.below hal (Nat.le_refl _)
    replace ss := ss.below hal (Nat.le_refl _)
    replace sq := sq.below hal (Nat.le_refl _)
    replace fr := below_step fr hal
    clear hal
    clear hp hs hw
    have q_Bc_0 := Bc.cell 0
    have q_Bc_1 := Bc.cell 1
    have q_Bc_2 := Bc.cell 2
    have q_Bd_0 := Bd.cell 0
    have q_Bd_1 := Bd.cell 1
    have q_Bd_2 := Bd.cell 2
    have q_Be_0 := Be.cell 0
    have q_Be_1 := Be.cell 1
    have q_Be_2 := Be.cell 2
    go_wp2_with fail
    clear q_Bc_0 q_Bc_1 q_Bc_2 q_Bd_0 q_Bd_1 q_Bd_2 q_Be_0 q_Be_1 q_Be_2
    refine (likeClu_c _ _ _ _ _ _ A B D _ rp rs rq sp ss sq).mono ?_
    rintro e w4 ⟨rfl, hq⟩
    replace Bc := Bc.stays hq
    replace Bd := Bd.stays hq
    replace Be := Be.stays hq
    replace h := h.below hq (Nat.le_refl _)
    replace ho := ho.below hq (Nat.le_refl _)
    replace rp := rp.below hq (Nat.le_refl _)
    replace rs := rs.below hq (Nat.le_refl _)
    replace rq := rq.below hq (Nat.le_refl _)
    replace sp := sp.below hq (Nat.le_refl _)
    replace ss := ss.below hq (Nat.le_refl _)
    replace sq := sq.below hq (Nat.le_refl _)
    replace fr := below_step fr hq
    clear Be Bc sp ss sq
    have q_Bd_0 := Bd.cell 0
    have q_Bd_1 := Bd.cell 1
    have q_Bd_2 := Bd.cell 2
    go_upto_if 81 with fail
    clear q_Bd_0 q_Bd_1 q_Bd_2
    go_cut [] from 3 to 168 (fun wc => Below w4.heap.size w4 wc)
    case first =>
      clear fr
      by_cases h00 : cc = 0
      · as_aux_lemma =>
          have hc1 : (cc == 0) = true := by rw [h00]; rfl
          obtain ⟨hok, eA, eB, eD, hE, hR⟩ := ox_yes HA.out HB.out HD.out HCC.out h00
          have e1 : n = nA := by have := HNA.out; have := HLO.out; omega
          subst e1
          have e1 : n = nB := by have := HNB.out; have := HLO.out; omega
          subst e1
          have e1 : n = nD := by have := HND.out; have := HLO.out; omega
          subst e1
          have HOK := Lib.hid hok
          have HE := Lib.hid hE
          have HR0 := Lib.hid hR
          have hp0 : 0 < n := by have := HLO.out; have := hok.1.1; omega
          have hn24 : n ≤ 24 := by have := HLO.out; have := hok.1.2.1; omega
          have hsf := eqB_self O
          have HSF := Lib.hid hsf
          have hnn : ((n : Int) != (n : Int)) = false := by simp
          clear hok eA eB eD hE hR hsf h
          have q_Bd_0 := Bd.cell 0
          have q_Bd_1 := Bd.cell 1
          have q_Bd_2 := Bd.cell 2
          go_wp2_with fail
          clear q_Bd_0 q_Bd_1 q_Bd_2
          refine (excess_ok _ _ _ A B D O n _ rp rs rq HOK.out HE.out HLO.out).mono ?_
          rintro e w5 ⟨aE, kE, rfl, rE, hq⟩
          replace Bd := Bd.stays hq
          replace ho := ho.below hq (Nat.le_refl _)
          replace rp := rp.below hq (Nat.le_refl _)
          replace rs := rs.below hq (Nat.le_refl _)
          replace rq := rq.below hq (Nat.le_refl _)
          have fr : Below w4.heap.size w4 _ := hq
          have q_Bd_0 := Bd.cell 0
          have q_Bd_1 := Bd.cell 1
          have q_Bd_2 := Bd.cell 2
          go_wp2_with fail
          clear q_Bd_0 q_Bd_1 q_Bd_2
          refine (likeInts_c _ _ O O _ rE ho).mono ?_
          rintro e w6 ⟨rfl, hq0⟩
          have hq := hq0.below (w5).heap.size
          clear hq0
          replace Bd := Bd.stays hq
          replace ho := ho.below hq (Nat.le_refl _)
          replace rp := rp.below hq (Nat.le_refl _)
          replace rs := rs.below hq (Nat.le_refl _)
          replace rq := rq.below hq (Nat.le_refl _)
          replace rE := rE.below hq (Nat.le_refl _)
          replace fr := below_step fr hq
          rw [HSF.out]
          clear rE
          clear HE
          obtain ⟨R, h_R⟩ : ∃ x, ordTo (fun j => gI D j) A B A.length = x := ⟨_, rfl⟩
          have HRR := Lib.hid h_R
          clear h_R
          have HLR := Lib.hid (show R.length = n by rw [← HRR.out, ordTo_len]; exact HNA.out)
          have q_Bd_0 := Bd.cell 0
          have q_Bd_1 := Bd.cell 1
          have q_Bd_2 := Bd.cell 2
          go_wp2_with fail
          clear q_Bd_0 q_Bd_1 q_Bd_2
          refine (orders_ok _ _ _ A B D n _ rp rs rq HOK.out HNA.out).mono ?_
          rintro e w7 ⟨aO, kO, rfl, rO, hq⟩
          rw [HRR.out] at rO
          replace Bd := Bd.stays hq
          replace ho := ho.below hq (Nat.le_refl _)
          replace rp := rp.below hq (Nat.le_refl _)
          replace rs := rs.below hq (Nat.le_refl _)
          replace rq := rq.below hq (Nat.le_refl _)
          replace fr := below_step fr hq
          have q_Bd_0 := Bd.cell 0
          have q_Bd_1 := Bd.cell 1
          have q_Bd_2 := Bd.cell 2
          go_wp2_with fail
          clear q_Bd_0 q_Bd_1 q_Bd_2
          refine (emat_v _ _ _ A B D n _ rp rs rq HOK.out HNA.out).mono ?_
          rintro e w8 ⟨aM, kM, rfl, rM, hq⟩
          replace Bd := Bd.stays hq
          replace ho := ho.below hq (Nat.le_refl _)
          replace rp := rp.below hq (Nat.le_refl _)
          replace rs := rs.below hq (Nat.le_refl _)
          replace rq := rq.below hq (Nat.le_refl _)
          replace rO := rO.below hq (Nat.le_refl _)
          replace fr := below_step fr hq
          have HLM := Lib.hid (show (emL A B).length = n by rw [emL_len]; exact HNA.out)
          have HRM := Lib.hid (show ∀ i, i < n → (gR (emL A B) i).length = n from fun i hi => by rw [emL_row (by rw [HLM.out]; exact hi)]; exact HNA.out)
          have q_Bd_0 := Bd.cell 0
          have q_Bd_1 := Bd.cell 1
          have q_Bd_2 := Bd.cell 2
          go_wp2_with fail
          clear q_Bd_0 q_Bd_1 q_Bd_2
          refine (square5_c _ n _ (emL A B) _ rM HLM.out HRM.out hp0 (by omega)).mono ?_
          rintro e w' ⟨rfl, rfl⟩
          obtain ⟨bM, oM, rfl, hbM, hcM⟩ := rM.atR HLM.out hp0 HRM.out
          have HCM := Lib.hid hcM
          clear hcM
          obtain ⟨bO, oO, rfl, hbO, hcO⟩ := rO.atN HLR.out hp0
          have HCO := Lib.hid hcO
          clear hcO
          obtain ⟨bL, oL, rfl, hbL, hcL⟩ := ho.atN HLO.out hp0
          have HCL := Lib.hid hcL
          clear hcL rM
          have HFR := Lib.hid fr
          clear fr
          have q_Bd_0 := Bd.cell 0
          have q_Bd_1 := Bd.cell 1
          have q_Bd_2 := Bd.cell 2
          go_wp2_with fail
          clear q_Bd_0 q_Bd_1 q_Bd_2
          go_loopw [15] (fun iv wr => ∃ i : Nat, i ≤ n ∧ iv = .int .i64 (i : Int) ∧ Below w8.heap.size w8 wr) (fun iv _ => n - (intOf iv).toNat)
          case atStart => exact ⟨0, Nat.zero_le _, rfl, Below.refl _ _⟩
          case round =>
            obtain ⟨i, hi, rfl, hB⟩ := hrel
            obtain ⟨wo, rfl⟩ : ∃ wo : World, wo = wr := ⟨_, rfl⟩
            have HB0 := Lib.hid hB
            by_cases hlt : i < n
            · obtain ⟨ar, kr, d1, rd1⟩ := HCM.out i hlt
              replace d1 := (hB.cell (p := ⟨bM, oM + i, none⟩) hbM).trans d1
              have dL := (hB.cell (p := ⟨bL, oL + i, none⟩) hbL).trans (HCL.out i hlt)
              have dO := (hB.cell (p := ⟨bO, oO + i, none⟩) hbO).trans (HCO.out i hlt)
              have hrow := rd1.below hB (Nat.le_refl _)
              have rOo := rO.below hB (Nat.le_refl _)
              have rpo := rp.below hB (Nat.le_refl _)
              have rso := rs.below hB (Nat.le_refl _)
              have rqo := rq.below hB (Nat.le_refl _)
              have Bdo := Bd.stays hB
              have hrw : gR (emL A B) i = emRow A B i := by unfold emL; exact gR_map (by have := HLM.out; rw [emL_len] at this; omega)
              rw [hrw] at hrow
              have hX := HR0.out i (by have := HLO.out; omega)
              rw [HLO.out, HRR.out] at hX
              have hiA : i < A.length := by have := HNA.out; omega
              obtain ⟨hpt, hcm, hdt⟩ := simp_yes HOK.out hiA
              rw [HRR.out] at hdt
              have HPT := Lib.hid hpt
              have HCMM := Lib.hid hcm
              have HDT := Lib.hid hdt
              have hbd : ∀ k, k < n → -100000000000000000 ≤ gI (emRow A B i) k * gI R k ∧ gI (emRow A B i) k * gI R k ≤ 100000000000000000 := fun k hk => by rw [← HRR.out]; exact em_small HOK.out (by have := HNA.out; omega)
              have hxb := dotP_bd hbd (Nat.le_refl _) hn24
              rw [hX] at hxb
              have hle : (emRow A B i).length = n := by rw [emRow_len]; exact HNA.out
              have HPC := Lib.hid hbd
              have HX := Lib.hid hX
              have HLE := Lib.hid hle
              clear hX hpt hcm hdt hbd hle hrw rd1 hB
              generalize gI O i = x at *
              have HYC := Lib.hid (HCO.out i hlt)
              generalize gI R i = y at *
              have e1 : IntKind.i64.wrap (-x) = -x := IntWalk.i64_in _ (by omega)
              have hxx : (-x != -x) = false := by simp
              have hyy : (y != y) = false := by simp
              have hki : (i : Int) < (n : Int) := by omega
              have hk0 : (0 : Int) ≤ (i : Int) := by omega
              go_wp2_with fail
              go_quiet ((go_at_call 14; exact quiet_drew ((product5_c _ _ n _ _ (emRow A B i) R _ (hrow.below (below_drewN (Below.refl _ _) _) (Nat.le_refl _)) (rOo.below (below_drewN (Below.refl _ _) _) (Nat.le_refl _)) HLE.out HLR.out hp0 hn24 HPC.out).mono fun e w' ⟨he, hw'⟩ => ⟨by rw [he, HX.out], hw'⟩)))
              clear hrow d1 dL
              have q0 := Bdo.cell 0
              have q1 := Bdo.cell 1
              have q2 := Bdo.cell 2
              go_wp2_with fail
              refine (implSim_ok _ _ _ A B D (i : Int) n _ (rpo.below (below_drewN (Below.refl _ _) _) (Nat.le_refl _)) (rso.below (below_drewN (Below.refl _ _) _) (Nat.le_refl _)) (rqo.below (below_drewN (Below.refl _ _) _) (Nat.le_refl _)) HPT.out HNA.out).mono ?_
              rintro e w5 ⟨a5, b5, d5, i5, j5, k5, rfl, up, us, uq, hq⟩
              clear q0 q1 q2 rpo rso rqo Bdo dO rOo
              rw [Int.toNat_natCast] at uq
              generalize mRow A B i = V at *
              have hB5 := below_step (below_drewN HB0.out _) hq
              have Bs := Blk.new w5 26 #[.slice a5 n i5, .slice b5 n j5, .slice d5 n k5]
              have hal : Below w5.heap.size w5 (w5.alloc (.cells #[.slice a5 n i5, .slice b5 n j5, .slice d5 n k5] 26)) := (Below.refl _ _).alloc (Nat.le_refl _) _
              have hB6 := below_step hB5 hal
              replace up := up.below hal (Nat.le_refl _)
              replace us := us.below hal (Nat.le_refl _)
              replace uq := uq.below hal (Nat.le_refl _)
              have Bd6 := Bd.stays hB6
              clear hal hq hB5
              have q0 := Bd6.cell 0
              have q1 := Bd6.cell 1
              have q2 := Bd6.cell 2
              have p0 := Bs.cell 0
              have p1 := Bs.cell 1
              have p2 := Bs.cell 2
              go_wp2_with fail
              refine (mult_ok _ _ _ _ _ _ A B D V y _ (rp.below hB6 (Nat.le_refl _)) (rs.below hB6 (Nat.le_refl _)) (rq.below hB6 (Nat.le_refl _)) up us uq HOK.out HCMM.out HDT.out).mono ?_
              rintro e w7 ⟨rfl, hq⟩
              clear q0 q1 q2 p0 p1 p2 up us uq Bs Bd6
              have hB7 := below_step hB6 hq
              have dO := (hB7.cell (p := ⟨bO, oO + i, none⟩) hbO).trans HYC.out
              clear hB6 hq
              have HB7 := Lib.hid hB7
              clear hB7
              go_wp2
              go_roundw
              case rel => exact ⟨i + 1, by omega, by go_num, HB7.out⟩
              case measure => simp [intOf]; omega
            · have hki : ¬ (i : Int) < (n : Int) := by omega
              have HFR2 := Lib.hid (below_step HFR.out hB)
              clear hB
              go_wp2
              go_meet
              exact HFR2.out
      · as_aux_lemma =>
          have hc1 : (cc == 0) = false := beq_eq_false_iff_ne.2 h00
          have q_Bd_0 := Bd.cell 0
          have q_Bd_1 := Bd.cell 1
          have q_Bd_2 := Bd.cell 2
          go_wp2
          clear q_Bd_0 q_Bd_1 q_Bd_2
          go_meet
          exact Below.refl _ _
    case rest =>
      have hq := hcut
      clear hcut Bd ho rp rs rq HA HB HD HCC HNA HNB HND HLO hccb hm hn3 hn
      as_aux_lemma =>
        replace h := h.below hq (Nat.le_refl _)
        replace fr := below_step fr hq
        obtain ⟨wA, rfl⟩ : ∃ x : World, x = wc := ⟨_, rfl⟩
        go_wp2_with fail
        refine (drawAddClusters_w _ C _ h).mono ?_
        rintro e w5 ⟨m, n3, m', n', a1, b1, d1, a2, b2, d2, i1, j1, k1, i2, j2, k2, P, S, W, P', S', W', rfl, hp, hs, hw, hp', hs', hw', hl, hm, hn, hq⟩
        clear hl hn
        replace h := h.below hq (Nat.le_refl _)
        replace fr := below_step fr hq
        obtain ⟨A, h_A⟩ : ∃ x, okL (adB P S W P' S' W') P = x := ⟨_, rfl⟩
        have HA := Lib.hid h_A
        clear h_A
        obtain ⟨B, h_B⟩ : ∃ x, okL (adB P S W P' S' W') S = x := ⟨_, rfl⟩
        have HB := Lib.hid h_B
        clear h_B
        obtain ⟨D, h_D⟩ : ∃ x, okL (adB P S W P' S' W') (adTo W W' W.length) = x := ⟨_, rfl⟩
        have HD := Lib.hid h_D
        clear h_D
        obtain ⟨cc, h_cc⟩ : ∃ x, adC P S W P' S' W' = x := ⟨_, rfl⟩
        have HCC := Lib.hid h_cc
        clear h_cc
        obtain ⟨nA, h_nA⟩ : ∃ x, A.length = x := ⟨_, rfl⟩
        have HNA := Lib.hid h_nA
        clear h_nA
        obtain ⟨nB, h_nB⟩ : ∃ x, B.length = x := ⟨_, rfl⟩
        have HNB := Lib.hid h_nB
        clear h_nB
        obtain ⟨nD, h_nD⟩ : ∃ x, D.length = x := ⟨_, rfl⟩
        have HND := Lib.hid h_nD
        clear h_nD
        obtain ⟨nn, h_nn⟩ : ∃ x, okN (pairB P S W P' S' W') (dotTo W W' W.length) = x := ⟨_, rfl⟩
        have HNN := Lib.hid h_nn
        clear h_nn
        obtain ⟨pc, h_pc⟩ : ∃ x, pairC P S W P' S' W' = x := ⟨_, rfl⟩
        have HPC := Lib.hid h_pc
        clear h_pc
        have hccb : (cc != cc) = false := by simp
        have hpcb : (pc != pc) = false := by simp
        have hnnb : (nn != nn) = false := by simp
        have Bx := (Blk.new w5 26 #[.slice a1 m i1, .slice b1 m j1, .slice d1 n3 k1]).alloc (.cells #[.slice a2 m' i2, .slice b2 m' j2, .slice d2 n' k2] 26)
        have By := Blk.new' (w := w5.alloc (.cells #[.slice a1 m i1, .slice b1 m j1, .slice d1 n3 k1] 26)) (t := 26) (cs := #[.slice a2 m' i2, .slice b2 m' j2, .slice d2 n' k2]) (g := w5.heap.size + 1) (by simp)
        have hal : Below w5.heap.size w5 ((w5.alloc (.cells #[.slice a1 m i1, .slice b1 m j1, .slice d1 n3 k1] 26)).alloc (.cells #[.slice a2 m' i2, .slice b2 m' j2, .slice d2 n' k2] 26)) := ((Below.refl _ _).alloc (Nat.le_refl _) _).alloc (by simp) _
        replace h := h.below hal (Nat.le_refl _)
        replace hp := hp.below hal (Nat.le_refl _)
        replace hs := hs.below hal (Nat.le_refl _)
        replace hw := hw.below hal (Nat.le_refl _)
        replace hp' := hp'.below hal (Nat.le_refl _)
        replace hs' := hs'.below hal (Nat.le_refl _)
        replace hw' := hw'.below hal (Nat.le_refl _)
        replace fr := below_step fr hal
        clear hal
        have q_Bx_0 := Bx.cell 0
        have q_Bx_1 := Bx.cell 1
        have q_Bx_2 := Bx.cell 2
        have q_By_0 := By.cell 0
        have q_By_1 := By.cell 1
        have q_By_2 := By.cell 2
        go_wp2_with fail
        clear q_Bx_0 q_Bx_1 q_Bx_2 q_By_0 q_By_1 q_By_2
        refine (implAd_v _ _ _ _ _ _ P S W P' S' W' A B D nA nB nD cc _ hp hs hw hp' hs' hw' HA.out HB.out HD.out HCC.out HNA.out HNB.out HND.out).mono ?_
        rintro e w6 ⟨a3, b3, d3, i3, j3, k3, rfl, rp, rs, rq, hq⟩
        replace Bx := Bx.stays hq
        replace By := By.stays hq
        replace h := h.below hq (Nat.le_refl _)
        replace hp := hp.below hq (Nat.le_refl _)
        replace hs := hs.below hq (Nat.le_refl _)
        replace hw := hw.below hq (Nat.le_refl _)
        replace hp' := hp'.below hq (Nat.le_refl _)
        replace hs' := hs'.below hq (Nat.le_refl _)
        replace hw' := hw'.below hq (Nat.le_refl _)
        replace fr := below_step fr hq
        have Bd := Blk.new w6 26 #[.slice a3 nA i3, .slice b3 nB j3, .slice d3 nD k3]
        have hal : Below w6.heap.size w6 (w6.alloc (.cells #[.slice a3 nA i3, .slice b3 nB j3, .slice d3 nD k3] 26)) := (Below.refl _ _).alloc (Nat.le_refl _) _
        replace Bx := Bx.alloc (.cells #[.slice a3 nA i3, .slice b3 nB j3, .slice d3 nD k3] 26)
        replace By := By.alloc (.cells #[.slice a3 nA i3, .slice b3 nB j3, .slice d3 nD k3] 26)
        replace h := h.below hal (Nat.le_refl _)
        replace hp := hp.below hal (Nat.le_refl _)
        replace hs := hs.below hal (Nat.le_refl _)
        replace hw := hw.below hal (Nat.le_refl _)
        replace hp' := hp'.below hal (Nat.le_refl _)
        replace hs' := hs'.below hal (Nat.le_refl _)
        replace hw' := hw'.below hal (Nat.le_refl _)
        replace rp := rp.below hal (Nat.le_refl _)
        replace rs := rs.below hal (Nat.le_refl _)
        replace rq := rq.below hal (Nat.le_refl _)
        replace fr := below_step fr hal
        clear hal
        have q_Bx_0 := Bx.cell 0
        have q_Bx_1 := Bx.cell 1
        have q_Bx_2 := Bx.cell 2
        have q_By_0 := By.cell 0
        have q_By_1 := By.cell 1
        have q_By_2 := By.cell 2
        have q_Bd_0 := Bd.cell 0
        have q_Bd_1 := Bd.cell 1
        have q_Bd_2 := Bd.cell 2
        go_wp2_with fail
        clear q_Bx_0 q_Bx_1 q_Bx_2 q_By_0 q_By_1 q_By_2 q_Bd_0 q_Bd_1 q_Bd_2
        refine (specAd_v _ _ _ _ _ _ P S W P' S' W' A B D nA nB nD cc _ hp hs hw hp' hs' hw' HA.out HB.out HD.out HCC.out HNA.out HNB.out HND.out).mono ?_
        rintro e w7 ⟨a4, b4, d4, i4, j4, k4, rfl, sp, ss, sq, hq⟩
        replace Bx := Bx.stays hq
        replace By := By.stays hq
        replace Bd := Bd.stays hq
        replace h := h.below hq (Nat.le_refl _)
        replace hp := hp.below hq (Nat.le_refl _)
        replace hs := hs.below hq (Nat.le_refl _)
        replace hw := hw.below hq (Nat.le_refl _)
        replace hp' := hp'.below hq (Nat.le_refl _)
        replace hs' := hs'.below hq (Nat.le_refl _)
        replace hw' := hw'.below hq (Nat.le_refl _)
        replace rp := rp.below hq (Nat.le_refl _)
        replace rs := rs.below hq (Nat.le_refl _)
        replace rq := rq.below hq (Nat.le_refl _)
        replace fr := below_step fr hq
        have Be := Blk.new w7 26 #[.slice a4 nA i4, .slice b4 nB j4, .slice d4 nD k4]
        have hal : Below w7.heap.size w7 (w7.alloc (.cells #[.slice a4 nA i4, .slice b4 nB j4, .slice d4 nD k4] 26)) := (Below.refl _ _).alloc (Nat.le_refl _) _
        replace Bx := Bx.alloc (.cells #[.slice a4 nA i4, .slice b4 nB j4, .slice d4 nD k4] 26)
        replace By := By.alloc (.cells #[.slice a4 nA i4, .slice b4 nB j4, .slice d4 nD k4] 26)
        replace Bd := Bd.alloc (.cells #[.slice a4 nA i4, .slice b4 nB j4, .slice d4 nD k4] 26)
        replace h := h.below hal (Nat.le_refl _)
        replace hp := hp.below hal (Nat.le_refl _)
        replace hs := hs.below hal (Nat.le_refl _)
        replace hw := hw.below hal (Nat.le_refl _)
        replace hp' := hp'.below hal (Nat.le_refl _)
        replace hs' := hs'.below hal (Nat.le_refl _)
        replace hw' := hw'.below hal (Nat.le_refl _)
        replace rp := rp.below hal (Nat.le_refl _)
        replace rs := rs.below hal (Nat.le_refl _)
        replace rq := rq.below hal (Nat.le_refl _)
        replace sp := sp.below hal (Nat.le_refl _)
        replace ss := ss.below hal (Nat.le_refl _)
        replace sq := sq.below hal (Nat.le_refl _)
        replace fr := below_step fr hal
        clear hal
        have q_Bx_0 := Bx.cell 0
        have q_Bx_1 := Bx.cell 1
        have q_Bx_2 := Bx.cell 2
        have q_By_0 := By.cell 0
        have q_By_1 := By.cell 1
        have q_By_2 := By.cell 2
        have q_Bd_0 := Bd.cell 0
        have q_Bd_1 := Bd.cell 1
        have q_Bd_2 := Bd.cell 2
        have q_Be_0 := Be.cell 0
        have q_Be_1 := Be.cell 1
        have q_Be_2 := Be.cell 2
        go_wp2_with fail
        clear q_Bx_0 q_Bx_1 q_Bx_2 q_By_0 q_By_1 q_By_2 q_Bd_0 q_Bd_1 q_Bd_2 q_Be_0 q_Be_1 q_Be_2
        refine (mult_v _ _ _ _ _ _ P S W P' S' W' nn pc _ hp hs hw hp' hs' hw' HNN.out HPC.out).mono ?_
        rintro e w8 ⟨rfl, hq⟩
        replace Bx := Bx.stays hq
        replace By := By.stays hq
        replace Bd := Bd.stays hq
        replace Be := Be.stays hq
        replace h := h.below hq (Nat.le_refl _)
        replace hp := hp.below hq (Nat.le_refl _)
        replace hs := hs.below hq (Nat.le_refl _)
        replace hw := hw.below hq (Nat.le_refl _)
        replace hp' := hp'.below hq (Nat.le_refl _)
        replace hs' := hs'.below hq (Nat.le_refl _)
        replace hw' := hw'.below hq (Nat.le_refl _)
        replace rp := rp.below hq (Nat.le_refl _)
        replace rs := rs.below hq (Nat.le_refl _)
        replace rq := rq.below hq (Nat.le_refl _)
        replace sp := sp.below hq (Nat.le_refl _)
        replace ss := ss.below hq (Nat.le_refl _)
        replace sq := sq.below hq (Nat.le_refl _)
        replace fr := below_step fr hq
        have q_Bx_0 := Bx.cell 0
        have q_Bx_1 := Bx.cell 1
        have q_Bx_2 := Bx.cell 2
        have q_By_0 := By.cell 0
        have q_By_1 := By.cell 1
        have q_By_2 := By.cell 2
        have q_Bd_0 := Bd.cell 0
        have q_Bd_1 := Bd.cell 1
        have q_Bd_2 := Bd.cell 2
        have q_Be_0 := Be.cell 0
        have q_Be_1 := Be.cell 1
        have q_Be_2 := Be.cell 2
        go_wp2_with fail
        clear q_Bx_0 q_Bx_1 q_Bx_2 q_By_0 q_By_1 q_By_2 q_Bd_0 q_Bd_1 q_Bd_2 q_Be_0 q_Be_1 q_Be_2
        refine (smult_v _ _ _ _ _ _ P S W P' S' W' nn pc _ hp hs hw hp' hs' hw' HNN.out HPC.out).mono ?_
        rintro e w9 ⟨rfl, hq⟩
        replace Bx := Bx.stays hq
        replace By := By.stays hq
        replace Bd := Bd.stays hq
        replace Be := Be.stays hq
        replace h := h.below hq (Nat.le_refl _)
        replace hp := hp.below hq (Nat.le_refl _)
        replace hs := hs.below hq (Nat.le_refl _)
        replace hw := hw.below hq (Nat.le_refl _)
        replace hp' := hp'.below hq (Nat.le_refl _)
        replace hs' := hs'.below hq (Nat.le_refl _)
        replace hw' := hw'.below hq (Nat.le_refl _)
        replace rp := rp.below hq (Nat.le_refl _)
        replace rs := rs.below hq (Nat.le_refl _)
        replace rq := rq.below hq (Nat.le_refl _)
        replace sp := sp.below hq (Nat.le_refl _)
        replace ss := ss.below hq (Nat.le_refl _)
        replace sq := sq.below hq (Nat.le_refl _)
        replace fr := below_step fr hq
        have q_Bx_0 := Bx.cell 0
        have q_Bx_1 := Bx.cell 1
        have q_Bx_2 := Bx.cell 2
        have q_By_0 := By.cell 0
        have q_By_1 := By.cell 1
        have q_By_2 := By.cell 2
        have q_Bd_0 := Bd.cell 0
        have q_Bd_1 := Bd.cell 1
        have q_Bd_2 := Bd.cell 2
        have q_Be_0 := Be.cell 0
        have q_Be_1 := Be.cell 1
        have q_Be_2 := Be.cell 2
        go_wp2_with fail
        clear q_Bx_0 q_Bx_1 q_Bx_2 q_By_0 q_By_1 q_By_2 q_Bd_0 q_Bd_1 q_Bd_2 q_Be_0 q_Be_1 q_Be_2
        refine (likeClu_c _ _ _ _ _ _ A B D _ rp rs rq sp ss sq).mono ?_
        rintro e w10 ⟨rfl, hq⟩
        replace Bx := Bx.stays hq
        replace By := By.stays hq
        replace Bd := Bd.stays hq
        replace Be := Be.stays hq
        replace h := h.below hq (Nat.le_refl _)
        replace hp := hp.below hq (Nat.le_refl _)
        replace hs := hs.below hq (Nat.le_refl _)
        replace hw := hw.below hq (Nat.le_refl _)
        replace hp' := hp'.below hq (Nat.le_refl _)
        replace hs' := hs'.below hq (Nat.le_refl _)
        replace hw' := hw'.below hq (Nat.le_refl _)
        replace rp := rp.below hq (Nat.le_refl _)
        replace rs := rs.below hq (Nat.le_refl _)
        replace rq := rq.below hq (Nat.le_refl _)
        replace sp := sp.below hq (Nat.le_refl _)
        replace ss := ss.below hq (Nat.le_refl _)
        replace sq := sq.below hq (Nat.le_refl _)
        replace fr := below_step fr hq
        clear Be sp ss sq
        have q_Bx_0 := Bx.cell 0
        have q_Bx_1 := Bx.cell 1
        have q_Bx_2 := Bx.cell 2
        have q_By_0 := By.cell 0
        have q_By_1 := By.cell 1
        have q_By_2 := By.cell 2
        have q_Bd_0 := Bd.cell 0
        have q_Bd_1 := Bd.cell 1
        have q_Bd_2 := Bd.cell 2
        go_upto_if 218 with fail
        clear q_Bx_0 q_Bx_1 q_Bx_2 q_By_0 q_By_1 q_By_2 q_Bd_0 q_Bd_1 q_Bd_2
        go_cut [] from 20 to 267 (fun wc => Below w10.heap.size w10 wc)
        case first =>
          clear fr
          by_cases h00 : cc = 0
          · as_aux_lemma =>
              have hc1 : (cc == 0) = true := by rw [h00]; rfl
              obtain ⟨h1, h2, e1, e2, h3, ⟨h4, h5⟩, h6, h7, h8, h9, h10⟩ := ad_yes2 HA.out HB.out HD.out HCC.out h00
              subst e1 e2
              have e3 : dotTo W W' W.length = nn := by rw [← HNN.out, okN_true h4]
              rw [e3] at h6 h7 h10
              have HK1 := Lib.hid h1
              have HK2 := Lib.hid h2
              have HK3 := Lib.hid h3
              have H6 := Lib.hid h6
              have H7 := Lib.hid h7
              obtain ⟨da, hda⟩ : ∃ x, deltaL W = x := ⟨_, rfl⟩
              obtain ⟨db, hdb⟩ : ∃ x, deltaL W' = x := ⟨_, rfl⟩
              rw [hda] at h8
              rw [hdb] at h9
              have hw1 : IntKind.i64.wrap (da + db) = da + db := IntWalk.i64_in _ (by omega)
              have hw2 : IntKind.i64.wrap (da + db + nn) = da + db + nn := IntWalk.i64_in _ (by omega)
              have hsum : (da + db + nn != da + db + nn) = false := by simp
              have HDA := Lib.hid hda
              have HDB := Lib.hid hdb
              have HDE := Lib.hid (show deltaL D = da + db + nn by rw [h6, hda, hdb])
              clear h1 h2 h3 h4 h5 h6 h7 h8 h9 h10 e3 hda hdb h
              have q_Bx_0 := Bx.cell 0
              have q_Bx_1 := Bx.cell 1
              have q_Bx_2 := Bx.cell 2
              have q_By_0 := By.cell 0
              have q_By_1 := By.cell 1
              have q_By_2 := By.cell 2
              have q_Bd_0 := Bd.cell 0
              have q_Bd_1 := Bd.cell 1
              have q_Bd_2 := Bd.cell 2
              go_wp2_with fail
              clear q_Bx_0 q_Bx_1 q_Bx_2 q_By_0 q_By_1 q_By_2 q_Bd_0 q_Bd_1 q_Bd_2
              refine (mult_ok _ _ _ _ _ _ P' S' W' W nn _ hp' hs' hw' hp hs hw HK2.out HK1.out H7.out).mono ?_
              rintro e w11 ⟨rfl, hq⟩
              replace Bx := Bx.stays hq
              replace By := By.stays hq
              replace Bd := Bd.stays hq
              replace hp := hp.below hq (Nat.le_refl _)
              replace hs := hs.below hq (Nat.le_refl _)
              replace hw := hw.below hq (Nat.le_refl _)
              replace hp' := hp'.below hq (Nat.le_refl _)
              replace hs' := hs'.below hq (Nat.le_refl _)
              replace hw' := hw'.below hq (Nat.le_refl _)
              replace rp := rp.below hq (Nat.le_refl _)
              replace rs := rs.below hq (Nat.le_refl _)
              replace rq := rq.below hq (Nat.le_refl _)
              have fr : Below w10.heap.size w10 _ := hq
              have q_Bx_0 := Bx.cell 0
              have q_Bx_1 := Bx.cell 1
              have q_Bx_2 := Bx.cell 2
              have q_By_0 := By.cell 0
              have q_By_1 := By.cell 1
              have q_By_2 := By.cell 2
              have q_Bd_0 := Bd.cell 0
              have q_Bd_1 := Bd.cell 1
              have q_Bd_2 := Bd.cell 2
              go_wp2_with fail
              clear q_Bx_0 q_Bx_1 q_Bx_2 q_By_0 q_By_1 q_By_2 q_Bd_0 q_Bd_1 q_Bd_2
              refine (delta_v _ _ _ P' S' W da _ hp hs hw HK1.out HDA.out).mono ?_
              rintro e w12 ⟨rfl, hq⟩
              replace Bx := Bx.stays hq
              replace By := By.stays hq
              replace Bd := Bd.stays hq
              replace hp := hp.below hq (Nat.le_refl _)
              replace hs := hs.below hq (Nat.le_refl _)
              replace hw := hw.below hq (Nat.le_refl _)
              replace hp' := hp'.below hq (Nat.le_refl _)
              replace hs' := hs'.below hq (Nat.le_refl _)
              replace hw' := hw'.below hq (Nat.le_refl _)
              replace rp := rp.below hq (Nat.le_refl _)
              replace rs := rs.below hq (Nat.le_refl _)
              replace rq := rq.below hq (Nat.le_refl _)
              replace fr := below_step fr hq
              have q_Bx_0 := Bx.cell 0
              have q_Bx_1 := Bx.cell 1
              have q_Bx_2 := Bx.cell 2
              have q_By_0 := By.cell 0
              have q_By_1 := By.cell 1
              have q_By_2 := By.cell 2
              have q_Bd_0 := Bd.cell 0
              have q_Bd_1 := Bd.cell 1
              have q_Bd_2 := Bd.cell 2
              go_wp2_with fail
              clear q_Bx_0 q_Bx_1 q_Bx_2 q_By_0 q_By_1 q_By_2 q_Bd_0 q_Bd_1 q_Bd_2
              refine (delta_v _ _ _ P' S' W' db _ hp' hs' hw' HK2.out HDB.out).mono ?_
              rintro e w13 ⟨rfl, hq⟩
              replace Bx := Bx.stays hq
              replace By := By.stays hq
              replace Bd := Bd.stays hq
              replace hp := hp.below hq (Nat.le_refl _)
              replace hs := hs.below hq (Nat.le_refl _)
              replace hw := hw.below hq (Nat.le_refl _)
              replace hp' := hp'.below hq (Nat.le_refl _)
              replace hs' := hs'.below hq (Nat.le_refl _)
              replace hw' := hw'.below hq (Nat.le_refl _)
              replace rp := rp.below hq (Nat.le_refl _)
              replace rs := rs.below hq (Nat.le_refl _)
              replace rq := rq.below hq (Nat.le_refl _)
              replace fr := below_step fr hq
              have q_Bx_0 := Bx.cell 0
              have q_Bx_1 := Bx.cell 1
              have q_Bx_2 := Bx.cell 2
              have q_By_0 := By.cell 0
              have q_By_1 := By.cell 1
              have q_By_2 := By.cell 2
              have q_Bd_0 := Bd.cell 0
              have q_Bd_1 := Bd.cell 1
              have q_Bd_2 := Bd.cell 2
              go_wp2_with fail
              clear q_Bx_0 q_Bx_1 q_Bx_2 q_By_0 q_By_1 q_By_2 q_Bd_0 q_Bd_1 q_Bd_2
              refine (delta_v _ _ _ A B D (da + db + nn) _ rp rs rq HK3.out HDE.out).mono ?_
              rintro e w14 ⟨rfl, hq⟩
              replace Bx := Bx.stays hq
              replace By := By.stays hq
              replace Bd := Bd.stays hq
              replace hp := hp.below hq (Nat.le_refl _)
              replace hs := hs.below hq (Nat.le_refl _)
              replace hw := hw.below hq (Nat.le_refl _)
              replace hp' := hp'.below hq (Nat.le_refl _)
              replace hs' := hs'.below hq (Nat.le_refl _)
              replace hw' := hw'.below hq (Nat.le_refl _)
              replace rp := rp.below hq (Nat.le_refl _)
              replace rs := rs.below hq (Nat.le_refl _)
              replace rq := rq.below hq (Nat.le_refl _)
              replace fr := below_step fr hq
              have q_Bx_0 := Bx.cell 0
              have q_Bx_1 := Bx.cell 1
              have q_Bx_2 := Bx.cell 2
              have q_By_0 := By.cell 0
              have q_By_1 := By.cell 1
              have q_By_2 := By.cell 2
              have q_Bd_0 := Bd.cell 0
              have q_Bd_1 := Bd.cell 1
              have q_Bd_2 := Bd.cell 2
              go_wp2
              clear q_Bx_0 q_Bx_1 q_Bx_2 q_By_0 q_By_1 q_By_2 q_Bd_0 q_Bd_1 q_Bd_2
              go_meet
              exact fr
          · as_aux_lemma =>
              have hc1 : (cc == 0) = false := beq_eq_false_iff_ne.2 h00
              have q_Bx_0 := Bx.cell 0
              have q_Bx_1 := Bx.cell 1
              have q_Bx_2 := Bx.cell 2
              have q_By_0 := By.cell 0
              have q_By_1 := By.cell 1
              have q_By_2 := By.cell 2
              have q_Bd_0 := Bd.cell 0
              have q_Bd_1 := Bd.cell 1
              have q_Bd_2 := Bd.cell 2
              go_wp2
              clear q_Bx_0 q_Bx_1 q_Bx_2 q_By_0 q_By_1 q_By_2 q_Bd_0 q_Bd_1 q_Bd_2
              go_meet
              exact Below.refl _ _
        case rest =>
          have hq := hcut
          clear hcut Bx By Bd hp hs hw hp' hs' hw' rp rs rq HA HB HD HCC HNA HNB HND HNN HPC hccb hpcb hnnb hm
          as_aux_lemma =>
            replace h := h.below hq (Nat.le_refl _)
            replace fr := below_step fr hq
            obtain ⟨wB, rfl⟩ : ∃ x : World, x = wc := ⟨_, rfl⟩
            go_wp2_with fail
            refine (drawParseCluster_w _ C _ h).mono ?_
            rintro e w11 ⟨t, rfl, hts, hq⟩
            replace h := h.below hq (Nat.le_refl _)
            replace fr := below_step fr hq
            obtain ⟨P, S, W, cc, hR, hl1, hl2, hl3⟩ := pcR_ex (lB t)
            have HR := Lib.hid hR
            clear hR hl1 hl2 hl3
            have hccb : (cc != cc) = false := by simp
            obtain ⟨nA, h_nA⟩ : ∃ x, P.length = x := ⟨_, rfl⟩
            have HNA := Lib.hid h_nA
            clear h_nA
            obtain ⟨nB, h_nB⟩ : ∃ x, S.length = x := ⟨_, rfl⟩
            have HNB := Lib.hid h_nB
            clear h_nB
            obtain ⟨nD, h_nD⟩ : ∃ x, W.length = x := ⟨_, rfl⟩
            have HND := Lib.hid h_nD
            clear h_nD
            go_wp2_with fail
            refine (implPC_v t P S W nA nB nD cc _ hts HR.out HNA.out HNB.out HND.out).mono ?_
            rintro e w12 ⟨a3, b3, d3, i3, j3, k3, rfl, rp, rs, rq, hq⟩
            replace h := h.below hq (Nat.le_refl _)
            replace fr := below_step fr hq
            have Bd := Blk.new w12 26 #[.slice a3 nA i3, .slice b3 nB j3, .slice d3 nD k3]
            have hal : Below w12.heap.size w12 (w12.alloc (.cells #[.slice a3 nA i3, .slice b3 nB j3, .slice d3 nD k3] 26)) := (Below.refl _ _).alloc (Nat.le_refl _) _
            replace h := h.below hal (Nat.le_refl _)
            replace rp := rp.below hal (Nat.le_refl _)
            replace rs := rs.below hal (Nat.le_refl _)
            replace rq := rq.below hal (Nat.le_refl _)
            replace fr := below_step fr hal
            clear hal
            have q_Bd_0 := Bd.cell 0
            have q_Bd_1 := Bd.cell 1
            have q_Bd_2 := Bd.cell 2
            go_wp2_with fail
            clear q_Bd_0 q_Bd_1 q_Bd_2
            refine (specPC_v t P S W nA nB nD cc _ hts HR.out HNA.out HNB.out HND.out).mono ?_
            rintro e w13 ⟨a4, b4, d4, i4, j4, k4, rfl, sp, ss, sq, hq⟩
            replace Bd := Bd.stays hq
            replace h := h.below hq (Nat.le_refl _)
            replace rp := rp.below hq (Nat.le_refl _)
            replace rs := rs.below hq (Nat.le_refl _)
            replace rq := rq.below hq (Nat.le_refl _)
            replace fr := below_step fr hq
            have Be := Blk.new w13 26 #[.slice a4 nA i4, .slice b4 nB j4, .slice d4 nD k4]
            have hal : Below w13.heap.size w13 (w13.alloc (.cells #[.slice a4 nA i4, .slice b4 nB j4, .slice d4 nD k4] 26)) := (Below.refl _ _).alloc (Nat.le_refl _) _
            replace Bd := Bd.alloc (.cells #[.slice a4 nA i4, .slice b4 nB j4, .slice d4 nD k4] 26)
            replace h := h.below hal (Nat.le_refl _)
            replace rp := rp.below hal (Nat.le_refl _)
            replace rs := rs.below hal (Nat.le_refl _)
            replace rq := rq.below hal (Nat.le_refl _)
            replace sp := sp.below hal (Nat.le_refl _)
            replace ss := ss.below hal (Nat.le_refl _)
            replace sq := sq.below hal (Nat.le_refl _)
            replace fr := below_step fr hal
            clear hal
            have q_Bd_0 := Bd.cell 0
            have q_Bd_1 := Bd.cell 1
            have q_Bd_2 := Bd.cell 2
            have q_Be_0 := Be.cell 0
            have q_Be_1 := Be.cell 1
            have q_Be_2 := Be.cell 2
            go_wp2_with fail
            clear q_Bd_0 q_Bd_1 q_Bd_2 q_Be_0 q_Be_1 q_Be_2
            refine (likeClu_c _ _ _ _ _ _ P S W _ rp rs rq sp ss sq).mono ?_
            rintro e w14 ⟨rfl, hq⟩
            replace Bd := Bd.stays hq
            replace Be := Be.stays hq
            replace h := h.below hq (Nat.le_refl _)
            replace rp := rp.below hq (Nat.le_refl _)
            replace rs := rs.below hq (Nat.le_refl _)
            replace rq := rq.below hq (Nat.le_refl _)
            replace sp := sp.below hq (Nat.le_refl _)
            replace ss := ss.below hq (Nat.le_refl _)
            replace sq := sq.below hq (Nat.le_refl _)
            replace fr := below_step fr hq
            clear Be sp ss sq
            have HFW := Lib.hid fr
            have q_Bd_0 := Bd.cell 0
            have q_Bd_1 := Bd.cell 1
            have q_Bd_2 := Bd.cell 2
            go_upto_if 290 with fail
            clear q_Bd_0 q_Bd_1 q_Bd_2
            go_cut [] from 38 to 302 (fun wc => Below w14.heap.size w14 wc)
            case first =>
              clear fr
              by_cases h00 : cc = 0
              · as_aux_lemma =>
                  have hc1 : (cc == 0) = true := by rw [h00]; rfl
                  obtain ⟨hok, hct⟩ := pcR_yes HR.out h00
                  have HOK := Lib.hid hok
                  have HCT := Lib.hid hct
                  have HOC := Lib.hid (show okC (cluB P S W) 1 = 0 by rw [okC_true (cluB_iff.2 hok)])
                  have htt : (t.toList == t.toList) = true := by simp
                  clear hok hct h
                  have q_Bd_0 := Bd.cell 0
                  have q_Bd_1 := Bd.cell 1
                  have q_Bd_2 := Bd.cell 2
                  go_wp2_with fail
                  clear q_Bd_0 q_Bd_1 q_Bd_2
                  refine (implCT_c _ _ _ P S W _ rp rs rq (HT.out.below HFW.out (Nat.le_refl _))).mono ?_
                  rintro e w15 ⟨rfl, hq⟩
                  replace Bd := Bd.stays hq
                  replace rp := rp.below hq (Nat.le_refl _)
                  replace rs := rs.below hq (Nat.le_refl _)
                  replace rq := rq.below hq (Nat.le_refl _)
                  have fr : Below w14.heap.size w14 _ := hq
                  rw [HCT.out, HOC.out]
                  have q_Bd_0 := Bd.cell 0
                  have q_Bd_1 := Bd.cell 1
                  have q_Bd_2 := Bd.cell 2
                  go_wp2
                  clear q_Bd_0 q_Bd_1 q_Bd_2
                  go_meet
                  exact fr
              · as_aux_lemma =>
                  have hc1 : (cc == 0) = false := beq_eq_false_iff_ne.2 h00
                  have q_Bd_0 := Bd.cell 0
                  have q_Bd_1 := Bd.cell 1
                  have q_Bd_2 := Bd.cell 2
                  go_wp2
                  clear q_Bd_0 q_Bd_1 q_Bd_2
                  go_meet
                  exact Below.refl _ _
            case rest =>
              have hq := hcut
              clear hcut Bd rp rs rq HR HNA HNB HND hccb hts HFW
              as_aux_lemma =>
                replace h := h.below hq (Nat.le_refl _)
                replace fr := below_step fr hq
                obtain ⟨wC, rfl⟩ : ∃ x : World, x = wc := ⟨_, rfl⟩
                go_wp2_with fail
                refine (drawClusterText_w _ C _ h).mono ?_
                rintro e w15 ⟨m, n3, a1, b1, d1, i1, j1, k1, P, S, W, rfl, hp, hs, hw, lp, ls, lw, hm1, hm2, hn3, hq⟩
                have HLP := Lib.hid lp
                have HLS := Lib.hid ls
                have HLW := Lib.hid lw
                clear lp ls lw
                replace h := h.below hq (Nat.le_refl _)
                replace fr := below_step fr hq
                clear h
                obtain ⟨tt, h_tt⟩ : ∃ x, ctS P S W = x := ⟨_, rfl⟩
                have HTT := Lib.hid h_tt
                clear h_tt
                obtain ⟨cc, h_cc⟩ : ∃ x, okC (cluB P S W) 1 = x := ⟨_, rfl⟩
                have HCC := Lib.hid h_cc
                clear h_cc
                have hccb : (cc != cc) = false := by simp
                have httb : (tt.toList == tt.toList) = true := by simp
                have Bw := Blk.new w15 26 #[.slice a1 m i1, .slice b1 m j1, .slice d1 n3 k1]
                have hal : Below w15.heap.size w15 (w15.alloc (.cells #[.slice a1 m i1, .slice b1 m j1, .slice d1 n3 k1] 26)) := (Below.refl _ _).alloc (Nat.le_refl _) _
                replace hp := hp.below hal (Nat.le_refl _)
                replace hs := hs.below hal (Nat.le_refl _)
                replace hw := hw.below hal (Nat.le_refl _)
                replace fr := below_step fr hal
                clear hal
                have q_Bw_0 := Bw.cell 0
                have q_Bw_1 := Bw.cell 1
                have q_Bw_2 := Bw.cell 2
                go_wp2_with fail
                clear q_Bw_0 q_Bw_1 q_Bw_2
                refine (implCT_c _ _ _ P S W _ hp hs hw (HT.out.below fr (Nat.le_refl _))).mono ?_
                rintro e w16 ⟨rfl, hq⟩
                replace Bw := Bw.stays hq
                replace hp := hp.below hq (Nat.le_refl _)
                replace hs := hs.below hq (Nat.le_refl _)
                replace hw := hw.below hq (Nat.le_refl _)
                replace fr := below_step fr hq
                rw [HTT.out, HCC.out]
                have q_Bw_0 := Bw.cell 0
                have q_Bw_1 := Bw.cell 1
                have q_Bw_2 := Bw.cell 2
                go_wp2_with fail
                clear q_Bw_0 q_Bw_1 q_Bw_2
                refine (specCT_c _ _ _ P S W _ hp hs hw).mono ?_
                rintro e w17 ⟨rfl, hq⟩
                replace Bw := Bw.stays hq
                replace hp := hp.below hq (Nat.le_refl _)
                replace hs := hs.below hq (Nat.le_refl _)
                replace hw := hw.below hq (Nat.le_refl _)
                replace fr := below_step fr hq
                rw [HTT.out, HCC.out]
                cases hcl : cluB P S W
                · as_aux_lemma =>
                    have e1 : cc = 1 := by rw [← HCC.out, hcl]; rfl
                    subst e1
                    clear hcl
                    have q_Bw_0 := Bw.cell 0
                    have q_Bw_1 := Bw.cell 1
                    have q_Bw_2 := Bw.cell 2
                    go_wp2
                    clear q_Bw_0 q_Bw_1 q_Bw_2
                    go_ret
                    exact ⟨rfl, fr⟩
                · as_aux_lemma =>
                    have e1 : cc = 0 := by rw [← HCC.out, hcl]; rfl
                    subst e1
                    have hok := cluB_iff.1 hcl
                    obtain ⟨hz1, hz2⟩ := ctS_ok hok
                    rw [HTT.out] at hz1 hz2
                    have HPR := Lib.hid (show PcR (lB tt) P S W 0 from .inl ⟨hok, hz1.symm, rfl⟩)
                    have hzz : tt.size ≤ 137438953472 := by omega
                    clear hcl hok hz1 hz2
                    have q_Bw_0 := Bw.cell 0
                    have q_Bw_1 := Bw.cell 1
                    have q_Bw_2 := Bw.cell 2
                    go_wp2_with fail
                    clear q_Bw_0 q_Bw_1 q_Bw_2
                    refine (implPC_v tt P S W m m n3 0 _ hzz HPR.out HLP.out HLS.out HLW.out).mono ?_
                    rintro e w18 ⟨a3, b3, d3, i3, j3, k3, rfl, rp, rs, rq, hq⟩
                    replace Bw := Bw.stays hq
                    replace hp := hp.below hq (Nat.le_refl _)
                    replace hs := hs.below hq (Nat.le_refl _)
                    replace hw := hw.below hq (Nat.le_refl _)
                    replace fr := below_step fr hq
                    have Bz := Blk.new w18 26 #[.slice a3 m i3, .slice b3 m j3, .slice d3 n3 k3]
                    have hal : Below w18.heap.size w18 (w18.alloc (.cells #[.slice a3 m i3, .slice b3 m j3, .slice d3 n3 k3] 26)) := (Below.refl _ _).alloc (Nat.le_refl _) _
                    replace Bw := Bw.alloc (.cells #[.slice a3 m i3, .slice b3 m j3, .slice d3 n3 k3] 26)
                    replace hp := hp.below hal (Nat.le_refl _)
                    replace hs := hs.below hal (Nat.le_refl _)
                    replace hw := hw.below hal (Nat.le_refl _)
                    replace rp := rp.below hal (Nat.le_refl _)
                    replace rs := rs.below hal (Nat.le_refl _)
                    replace rq := rq.below hal (Nat.le_refl _)
                    replace fr := below_step fr hal
                    clear hal
                    have q_Bw_0 := Bw.cell 0
                    have q_Bw_1 := Bw.cell 1
                    have q_Bw_2 := Bw.cell 2
                    have q_Bz_0 := Bz.cell 0
                    have q_Bz_1 := Bz.cell 1
                    have q_Bz_2 := Bz.cell 2
                    go_wp2_with fail
                    clear q_Bw_0 q_Bw_1 q_Bw_2 q_Bz_0 q_Bz_1 q_Bz_2
                    refine (likeClu_c _ _ _ _ _ _ P S W _ rp rs rq hp hs hw).mono ?_
                    rintro e w19 ⟨rfl, hq⟩
                    replace Bw := Bw.stays hq
                    replace Bz := Bz.stays hq
                    replace hp := hp.below hq (Nat.le_refl _)
                    replace hs := hs.below hq (Nat.le_refl _)
                    replace hw := hw.below hq (Nat.le_refl _)
                    replace rp := rp.below hq (Nat.le_refl _)
                    replace rs := rs.below hq (Nat.le_refl _)
                    replace rq := rq.below hq (Nat.le_refl _)
                    replace fr := below_step fr hq
                    have q_Bw_0 := Bw.cell 0
                    have q_Bw_1 := Bw.cell 1
                    have q_Bw_2 := Bw.cell 2
                    have q_Bz_0 := Bz.cell 0
                    have q_Bz_1 := Bz.cell 1
                    have q_Bz_2 := Bz.cell 2
                    go_wp2
                    clear q_Bw_0 q_Bw_1 q_Bw_2 q_Bz_0 q_Bz_1 q_Bz_2
                    go_ret
                    exact ⟨rfl, fr⟩
  · go_enter Tryz.func3, Tryz.ntmps3
    go_wp2_with fail
    refine (big_yes _ C _ h0 hC).mono ?_
    rintro e w' ⟨rfl, rfl⟩
    go_wp2
    go_ret
    exact ⟨rfl, Below.refl _ _⟩
end Go.Proofs.YtglghdkjppcedaaGreatDoor.fnClusterProducts
