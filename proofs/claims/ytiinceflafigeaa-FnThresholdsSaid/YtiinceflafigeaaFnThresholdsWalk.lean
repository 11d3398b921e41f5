/- The walk of 'FnThresholds': the threshold is the least fraction of 1 plus a discrepancy over an order, and is reached. -/
import Derived.Test.YtiinceflafigeaaThrC
import Derived.Test.YtiinceflafigeaaDrwB
namespace Go.Proofs.Ytiinceflafigeaa.fnThresholds
open Go.RowKit

set_option maxRecDepth 100000 in
set_option maxHeartbeats 8000000 in
theorem walk (w : World) (a0 : Value) (C : List Int) (h : Rd8 w a0 C) :
    Calls Try.prog 6 #[a0] w fun e w' => e = .returned (.bool true) ∧ Below w.heap.size w w' := by
  by_cases hC : C.length ≤ 4096
  · skip
    obtain ⟨a, cap, he, _⟩ := id h
    subst he
    go_enter Try.func6, Try.ntmps6
    go_wp2_with fail
    refine (big_no _ C _ h hC).mono ?_
    rintro e w' ⟨rfl, rfl⟩
    go_wp2_with fail
    refine (drawThresholdOfBranch_w _ C _ h).mono ?_
    rintro e w1 ⟨u, T, rfl, hr, hnw, hx8, hq⟩
    obtain ⟨ua, uk, rfl⟩ := hr.len0
    clear hnw hx8
    replace h := h.below hq (Nat.le_refl _)
    have fr : Below w.heap.size w _ := hq
    have B0 := Blk.new w1 26 #[.slice ua T.length uk]
    have hal : Below w1.heap.size w1 (w1.alloc (.cells #[.slice ua T.length uk] 26)) := (Below.refl _ _).alloc (Nat.le_refl _) _
    replace h := h.below hal (Nat.le_refl _)
    replace hr := hr.below hal (Nat.le_refl _)
    replace fr := below_step fr hal
    clear hal
    have q_B0_0 := B0.cell 0
    go_wp2_with fail
    clear q_B0_0
    refine (implThreshold_c _ T _ hr).mono ?_
    rintro e w2 ⟨rfl, hq⟩
    replace B0 := B0.stays hq
    replace h := h.below hq (Nat.le_refl _)
    replace hr := hr.below hq (Nat.le_refl _)
    replace fr := below_step fr hq
    have F4 := Blk.new w2 53 #[.int .i64 (thT T), .int .i64 (thB T)]
    have hal : Below w2.heap.size w2 (w2.alloc (.cells #[.int .i64 (thT T), .int .i64 (thB T)] 53)) := (Below.refl _ _).alloc (Nat.le_refl _) _
    replace B0 := B0.alloc (.cells #[.int .i64 (thT T), .int .i64 (thB T)] 53)
    replace h := h.below hal (Nat.le_refl _)
    replace hr := hr.below hal (Nat.le_refl _)
    replace fr := below_step fr hal
    clear hal
    have q_B0_0 := B0.cell 0
    have q_F4_0 := F4.cell 0
    have q_F4_1 := F4.cell 1
    go_wp2_with fail
    clear q_B0_0 q_F4_0 q_F4_1
    refine (specThreshold_c _ T _ hr).mono ?_
    rintro e w3 ⟨rfl, hq⟩
    replace B0 := B0.stays hq
    replace F4 := F4.stays hq
    replace h := h.below hq (Nat.le_refl _)
    replace hr := hr.below hq (Nat.le_refl _)
    replace fr := below_step fr hq
    have F6 := Blk.new w3 53 #[.int .i64 (thT T), .int .i64 (thB T)]
    have hal : Below w3.heap.size w3 (w3.alloc (.cells #[.int .i64 (thT T), .int .i64 (thB T)] 53)) := (Below.refl _ _).alloc (Nat.le_refl _) _
    replace B0 := B0.alloc (.cells #[.int .i64 (thT T), .int .i64 (thB T)] 53)
    replace F4 := F4.alloc (.cells #[.int .i64 (thT T), .int .i64 (thB T)] 53)
    replace h := h.below hal (Nat.le_refl _)
    replace hr := hr.below hal (Nat.le_refl _)
    replace fr := below_step fr hal
    clear hal
    have q_B0_0 := B0.cell 0
    have q_F4_0 := F4.cell 0
    have q_F4_1 := F4.cell 1
    have q_F6_0 := F6.cell 0
    have q_F6_1 := F6.cell 1
    go_wp2_with fail
    clear q_B0_0 q_F4_0 q_F4_1 q_F6_0 q_F6_1
    refine (drawDiscrepanciesOf_w _ C _ h).mono ?_
    rintro e w4 ⟨v, S, k, rfl, hs, hnw, hy8, hk0, hk1, hq⟩
    obtain ⟨va, vk, rfl⟩ := hs.len0
    clear hnw hy8 hk0 hk1
    replace B0 := B0.stays hq
    replace F4 := F4.stays hq
    replace F6 := F6.stays hq
    replace h := h.below hq (Nat.le_refl _)
    replace hr := hr.below hq (Nat.le_refl _)
    replace fr := below_step fr hq
    have B8 := Blk.new w4 26 #[.slice va S.length vk]
    have hal : Below w4.heap.size w4 (w4.alloc (.cells #[.slice va S.length vk] 26)) := (Below.refl _ _).alloc (Nat.le_refl _) _
    replace B0 := B0.alloc (.cells #[.slice va S.length vk] 26)
    replace F4 := F4.alloc (.cells #[.slice va S.length vk] 26)
    replace F6 := F6.alloc (.cells #[.slice va S.length vk] 26)
    replace h := h.below hal (Nat.le_refl _)
    replace hr := hr.below hal (Nat.le_refl _)
    replace hs := hs.below hal (Nat.le_refl _)
    replace fr := below_step fr hal
    clear hal
    have q_B0_0 := B0.cell 0
    have q_F4_0 := F4.cell 0
    have q_F4_1 := F4.cell 1
    have q_F6_0 := F6.cell 0
    have q_F6_1 := F6.cell 1
    have q_B8_0 := B8.cell 0
    go_wp2_with fail
    clear q_B0_0 q_F4_0 q_F4_1 q_F6_0 q_F6_1 q_B8_0
    refine (implDiscrepanciesOf_c _ S k _ hs).mono ?_
    rintro e w5 ⟨aD, kD, rfl, oD, hq⟩
    replace B0 := B0.stays hq
    replace F4 := F4.stays hq
    replace F6 := F6.stays hq
    replace B8 := B8.stays hq
    replace h := h.below hq (Nat.le_refl _)
    replace hr := hr.below hq (Nat.le_refl _)
    replace hs := hs.below hq (Nat.le_refl _)
    replace fr := below_step fr hq
    have q_B0_0 := B0.cell 0
    have q_F4_0 := F4.cell 0
    have q_F4_1 := F4.cell 1
    have q_F6_0 := F6.cell 0
    have q_F6_1 := F6.cell 1
    have q_B8_0 := B8.cell 0
    go_wp2_with fail
    clear q_B0_0 q_F4_0 q_F4_1 q_F6_0 q_F6_1 q_B8_0
    refine (specDiscrepanciesOf_c _ S k _ hs).mono ?_
    rintro e w6 ⟨aE, kE, rfl, oE, hq⟩
    replace B0 := B0.stays hq
    replace F4 := F4.stays hq
    replace F6 := F6.stays hq
    replace B8 := B8.stays hq
    replace h := h.below hq (Nat.le_refl _)
    replace hr := hr.below hq (Nat.le_refl _)
    replace hs := hs.below hq (Nat.le_refl _)
    replace oD := oD.below hq (Nat.le_refl _)
    replace fr := below_step fr hq
    have se := eqB_self (ckL S k (dsL S k.toNat))
    have q_B0_0 := B0.cell 0
    have q_F4_0 := F4.cell 0
    have q_F4_1 := F4.cell 1
    have q_F6_0 := F6.cell 0
    have q_F6_1 := F6.cell 1
    have q_B8_0 := B8.cell 0
    go_wp2_with fail
    clear q_B0_0 q_F4_0 q_F4_1 q_F6_0 q_F6_1 q_B8_0
    refine (likeInts_c _ _ (ckL S k (dsL S k.toNat)) (ckL S k (dsL S k.toNat)) _ oD.rd oE.rd).mono ?_
    rintro e w7 ⟨rfl, hq0⟩
    have hq := hq0.below w6.heap.size
    replace B0 := B0.stays hq
    replace F4 := F4.stays hq
    replace F6 := F6.stays hq
    replace B8 := B8.stays hq
    replace h := h.below hq (Nat.le_refl _)
    replace hr := hr.below hq (Nat.le_refl _)
    replace hs := hs.below hq (Nat.le_refl _)
    replace oD := oD.below hq (Nat.le_refl _)
    replace oE := oE.below hq (Nat.le_refl _)
    replace fr := below_step fr hq
    rw [se]
    clear se
    clear oD oE hs h B8 F6
    cases hb : braB T
    · skip
      rw [okC_false rfl]
      have q_B0_0 := B0.cell 0
      have q_F4_0 := F4.cell 0
      have q_F4_1 := F4.cell 1
      go_wp2
      clear q_B0_0 q_F4_0 q_F4_1
      go_ret
      exact ⟨rfl, fr⟩
    · skip
      have hok := braB_iff.1 hb
      rw [okC_true rfl]
      have q_B0_0 := B0.cell 0
      have q_F4_0 := F4.cell 0
      have q_F4_1 := F4.cell 1
      go_wp2_with fail
      clear q_B0_0 q_F4_0 q_F4_1
      refine (countPoints_c _ T _ hr hok).mono ?_
      rintro e w8 ⟨rfl, hq⟩
      replace B0 := B0.stays hq
      replace F4 := F4.stays hq
      replace hr := hr.below hq (Nat.le_refl _)
      replace fr := below_step fr hq
      have hcp := cnt_pos hok
      by_cases hc : cntT T ≤ 400
      · skip
        have h0 : ckC T (cntT T : Int) = 0 := ckC_ok hb (inB_iff.2 ⟨by omega, by omega⟩)
        have hc2 : ¬ (400 : Int) < (cntT T : Int) := by omega
        have hc3 : decide ((cntT T : Int) > 400) = false := decide_eq_false (by omega)
        have q_B0_0 := B0.cell 0
        have q_F4_0 := F4.cell 0
        have q_F4_1 := F4.cell 1
        go_wp2_with fail
        clear q_B0_0 q_F4_0 q_F4_1
        refine (implOrdersOf_ok _ T (cntT T) _ hr h0).mono ?_
        rintro e w9 ⟨aO, kO, rfl, rO, hq⟩
        replace B0 := B0.stays hq
        replace F4 := F4.stays hq
        replace hr := hr.below hq (Nat.le_refl _)
        replace fr := below_step fr hq
        have q_B0_0 := B0.cell 0
        have q_F4_0 := F4.cell 0
        have q_F4_1 := F4.cell 1
        go_wp2_with fail
        clear q_B0_0 q_F4_0 q_F4_1
        refine (implDiscrepanciesOf_ok _ T (cntT T) _ hr h0).mono ?_
        rintro e w10 ⟨aG, kG, rfl, rG, hq⟩
        replace B0 := B0.stays hq
        replace F4 := F4.stays hq
        replace hr := hr.below hq (Nat.le_refl _)
        replace rO := rO.below hq (Nat.le_refl _)
        replace fr := below_step fr hq
        have hlaw := (thr_law hok).1
        have hall := rchB_all hok
        have hLR := fun j (hj : j < cntT T) => thLR_bd hok hc hj
        have hol : (orL T (cntT T)).length = cntT T := orL_len T _
        have hdl : (dsL T (cntT T)).length = cntT T := dsL_len T _
        obtain ⟨bO, oO, cO, heO, _, _, hbO, hcO⟩ := rO.cells (by omega)
        injection heO with heO1 heO2 heO3
        subst heO1 heO3
        obtain ⟨bG, oG, cG, heG, _, _, hbG, hcG⟩ := rG.cells (by omega)
        injection heG with heG1 heG2 heG3
        subst heG1 heG3
        rw [hol] at hcO
        rw [hdl] at hcG
        have HLW := Lib.hid hlaw
        have HAL := Lib.hid hall
        have HLR := Lib.hid hLR
        have HO := Lib.hid hcO
        have HG := Lib.hid hcG
        have FR := Lib.hid fr
        have HF := Lib.hid F4
        clear hlaw hall hLR hol hdl hcO hcG heO2 heG2 fr rO rG h0 hb hok
        have q_F4_0 := F4.cell 0
        have q_F4_1 := F4.cell 1
        clear F4 B0 hr
        go_wp2_with fail
        clear q_F4_0 q_F4_1
        generalize cntT T = n at *
        go_loopw [20, 21] (fun rv jv wr => ∃ j : Nat, j ≤ n ∧ jv = .int .i64 (j : Int) ∧ rv = .bool (rchB T n j) ∧ Below w10.heap.size w10 wr) (fun _ jv _ => n - (intOf jv).toNat)
        case atStart => exact ⟨0, Nat.zero_le _, rfl, by rw [rchB_zero], Below.refl _ _⟩
        case round =>
          obtain ⟨j, hj, rfl, rfl, hbl⟩ := hrel
          obtain ⟨wo, rfl⟩ : ∃ wo : World, wo = wr := ⟨_, rfl⟩
          by_cases hlt : j < n
          · have dO := (hbl.cell (p := ⟨bO, oO + j, none⟩) hbO).trans (HO.out j hlt)
            have dG := (hbl.cell (p := ⟨bG, oG + j, none⟩) hbG).trans (HG.out j hlt)
            have F5 := HF.out.stays hbl
            have q0 := F5.cell 0
            have q1 := F5.cell 1
            obtain ⟨b1, b2, b3, b4⟩ := HLR.out j hlt
            have hle := HLW.out j hlt
            have e1 : (1 + gI (dsL T n) j) * thB T = thL T n j := rfl
            have e2 : thT T * gI (orL T n) j = thR T n j := rfl
            have w1 : IntKind.i64.wrap (1 + gI (dsL T n) j) = 1 + gI (dsL T n) j := IntWalk.i64_in _ (by omega)
            have w2 : IntKind.i64.wrap ((1 + gI (dsL T n) j) * thB T) = thL T n j := by rw [e1]; exact IntWalk.i64_in _ (by omega)
            have w3 : IntKind.i64.wrap (thT T * gI (orL T n) j) = thR T n j := by rw [e2]; exact IntWalk.i64_in _ (by omega)
            have hji : (j : Int) < (n : Int) := by omega
            have hj0 : (0 : Int) ≤ (j : Int) := by omega
            have HB := Lib.hid hbl
            have HY : Hid (thL T n j = thR T n j → rchB T n (j + 1) = true) := Lib.hid rchB_yes
            have HOl : Hid (rchB T n j = true → rchB T n (j + 1) = true) := Lib.hid rchB_old
            have HNo : Hid (rchB T n j = false → ¬ thL T n j = thR T n j → rchB T n (j + 1) = false) := Lib.hid rchB_no
            clear e1 e2 hbl F5 b1 b2 b3 b4
            generalize thL T n j = x at *
            generalize thR T n j = y at *
            generalize gI (dsL T n) j = d at *
            generalize gI (orL T n) j = v at *
            have hxy : decide (x < y) = false := decide_eq_false (by omega)
            cases hrc : rchB T n j
            · by_cases he : x = y
              · have hbe : (x == y) = true := by simpa using he
                have HE := Lib.hid (HY.out he)
                clear he
                go_wp2_with fail
                go_quiet (fail)
                go_wp2_with fail
                go_roundw
                case rel => exact ⟨j + 1, by omega, by go_num, by rw [HE.out], below_drewN HB.out _⟩
                case measure => simp [intOf]; omega
              · have hbe : (x == y) = false := by simpa using he
                have HE := Lib.hid (HNo.out hrc he)
                clear he
                go_wp2_with fail
                go_quiet (fail)
                go_wp2_with fail
                go_roundw
                case rel => exact ⟨j + 1, by omega, by go_num, by rw [HE.out], below_drewN HB.out _⟩
                case measure => simp [intOf]; omega
            · have HE := Lib.hid (HOl.out hrc)
              go_wp2_with fail
              go_quiet (fail)
              go_wp2_with fail
              go_roundw
              case rel => exact ⟨j + 1, by omega, by go_num, by rw [HE.out], below_drewN HB.out _⟩
              case measure => simp [intOf]; omega
          · have hjn : j = n := by omega
            subst hjn
            rw [HAL.out]
            go_wp2
            go_ret
            exact ⟨rfl, FR.out.trans (hbl.mono FR.out.size)⟩
      · skip
        have hc2 : (400 : Int) < (cntT T : Int) := by omega
        have hc3 : 400 < cntT T := by omega
        have hc4 : decide ((cntT T : Int) > 400) = true := decide_eq_true (by omega)
        have q_B0_0 := B0.cell 0
        have q_F4_0 := F4.cell 0
        have q_F4_1 := F4.cell 1
        go_wp2
        clear q_B0_0 q_F4_0 q_F4_1
        go_ret
        exact ⟨rfl, fr⟩
  · go_enter Try.func6, Try.ntmps6
    go_wp2_with fail
    refine (big_yes _ C _ h hC).mono ?_
    rintro e w' ⟨rfl, rfl⟩
    go_wp2
    go_ret
    exact ⟨rfl, Below.refl _ _⟩
end Go.Proofs.Ytiinceflafigeaa.fnThresholds
