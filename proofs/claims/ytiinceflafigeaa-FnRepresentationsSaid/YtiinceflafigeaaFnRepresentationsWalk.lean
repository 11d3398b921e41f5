/- The walk of 'FnRepresentations': a value is the sum of its representation; the Apery list has the least values of their remainders. -/
import Derived.Test.YtiinceflafigeaaRepP
import Derived.Test.YtiinceflafigeaaDrwG
namespace Go.Proofs.Ytiinceflafigeaa.fnRepresentations
open Go.RowKit

set_option maxRecDepth 100000 in
set_option maxHeartbeats 8000000 in
theorem walk (w : World) (a0 : Value) (C : List Int) (h : Rd8 w a0 C) :
    Calls Try.prog 5 #[a0] w fun e w' => e = .returned (.bool true) ∧ Below w.heap.size w w' := by
  by_cases hC : C.length ≤ 4096
  · skip
    obtain ⟨a, cap, he, _⟩ := id h
    subst he
    go_enter Try.func5, Try.ntmps5
    go_wp2_with fail
    refine (big_no _ C _ h hC).mono ?_
    rintro e w' ⟨rfl, rfl⟩
    go_wp2_with fail
    refine (drawRepresentationOf_w _ C _ h).mono ?_
    rintro e w1 ⟨u, T, v, rfl, hr, hnw, hx8, hk0, hk1, hq⟩
    obtain ⟨ua, uk, rfl⟩ := hr.len0
    clear hnw hx8
    replace h := h.below hq (Nat.le_refl _)
    have fr : Below w.heap.size w _ := hq
    have B0 := Blk.new w1 26 #[.slice ua T.length uk]
    have hal : Below w1.heap.size w1 (w1.alloc (.cells #[.slice ua T.length uk] 26)) := (Below.refl _ _).alloc (Nat.le_refl _) _
    replace h := h.below hal (Nat.le_refl _)
    replace hr := hr.below hal (Nat.le_refl _)
    replace fr := below_step fr hal
    clear hal
    have q_B0_0 := B0.cell 0
    go_wp2_with fail
    clear q_B0_0
    refine (implRepresentationOf_c _ T v _ hr).mono ?_
    rintro e w2 ⟨aL, kL, rfl, oL, hq⟩
    replace B0 := B0.stays hq
    replace h := h.below hq (Nat.le_refl _)
    replace hr := hr.below hq (Nat.le_refl _)
    replace fr := below_step fr hq
    have q_B0_0 := B0.cell 0
    go_wp2_with fail
    clear q_B0_0
    refine (specRepresentationOf_c _ T v _ hr).mono ?_
    rintro e w3 ⟨aM, kM, rfl, oM, hq⟩
    replace B0 := B0.stays hq
    replace h := h.below hq (Nat.le_refl _)
    replace hr := hr.below hq (Nat.le_refl _)
    replace oL := oL.below hq (Nat.le_refl _)
    replace fr := below_step fr hq
    have q_B0_0 := B0.cell 0
    go_wp2_with fail
    clear q_B0_0
    refine (implIsValue_c _ T v _ hr).mono ?_
    rintro e w4 ⟨rfl, hq⟩
    replace B0 := B0.stays hq
    replace h := h.below hq (Nat.le_refl _)
    replace hr := hr.below hq (Nat.le_refl _)
    replace oL := oL.below hq (Nat.le_refl _)
    replace oM := oM.below hq (Nat.le_refl _)
    replace fr := below_step fr hq
    have q_B0_0 := B0.cell 0
    go_wp2_with fail
    clear q_B0_0
    refine (specIsValue_c _ T v _ hr).mono ?_
    rintro e w5 ⟨rfl, hq⟩
    replace B0 := B0.stays hq
    replace h := h.below hq (Nat.le_refl _)
    replace hr := hr.below hq (Nat.le_refl _)
    replace oL := oL.below hq (Nat.le_refl _)
    replace oM := oM.below hq (Nat.le_refl _)
    replace fr := below_step fr hq
    have se := eqB_self (rpL T v)
    have q_B0_0 := B0.cell 0
    go_wp2_with fail
    clear q_B0_0
    refine (likeInts_c _ _ (rpL T v) (rpL T v) _ oL.rd oM.rd).mono ?_
    rintro e w6 ⟨rfl, hq0⟩
    have hq := hq0.below w5.heap.size
    replace B0 := B0.stays hq
    replace h := h.below hq (Nat.le_refl _)
    replace hr := hr.below hq (Nat.le_refl _)
    replace oL := oL.below hq (Nat.le_refl _)
    replace oM := oM.below hq (Nat.le_refl _)
    replace fr := below_step fr hq
    rw [se]
    clear se oM
    have q_B0_0 := B0.cell 0
    go_upto_if 83 with fail
    go_cut [] from 13 to 118 (fun wc => Below w6.heap.size w6 wc)
    case first =>
      by_cases h3 : svC T v = 0
      · have hc3 : (svC T v == 0) = true := by simp [h3]
        have hc4 : (svC T v != 0) = false := by simp [h3]
        have hrp := rp_sv h3
        have hvh := vu_has h3
        have HAs := Lib.hid (vu_asc h3)
        clear h3
        go_wp2_with fail
        refine (implValuesUpTo_c _ T v _ hr).mono ?_
        rintro e wV ⟨aV, kV, rfl, oV, hqv⟩
        go_wp2_with fail
        refine (hasInt_c _ (vuL T v) v _ oV.rd).mono ?_
        rintro e w' ⟨rfl, rfl⟩
        rw [hvh]
        have hvl := vuL_len T v
        have hrV := oV.rd
        clear oV hvh hrp hc3 oL h fr hr B0 q_B0_0
        go_wp2_with fail
        clear hc4
        go_loopw [15] (fun iv wr => ∃ i : Nat, iv = .int .i64 ((i : Int) + 1) ∧ (i + 1 ≤ (vuL T v).length ∨ i = 0) ∧ Below w6.heap.size w6 wr ∧ Below wV.heap.size wV wr) (fun iv _ => (vuL T v).length + 1 - (intOf iv).toNat)
        case atStart => exact ⟨0, rfl, .inr rfl, hqv, Below.refl _ _⟩
        case round =>
          obtain ⟨i, rfl, hi, hB, hB2⟩ := hrel
          obtain ⟨wo, rfl⟩ : ∃ wo : World, wo = wr := ⟨_, rfl⟩
          by_cases hlt : i + 1 < (vuL T v).length
          · obtain ⟨b, off, c, he, _, _, hbv, hcv⟩ := hrV.cells (by omega)
            injection he with he1 he2 he3
            subst he1 he3
            have d1 := (hB2.cell (p := ⟨b, off + (i + 1), none⟩) hbv).trans (hcv (i + 1) hlt)
            have d0 := (hB2.cell (p := ⟨b, off + i, none⟩) hbv).trans (hcv i (by omega))
            have hle := HAs.out i hlt
            have HB := Lib.hid hB
            have HB2 := Lib.hid hB2
            have f2 : IntKind.i64.wrap (i : Int) = (i : Int) := IntWalk.i64_in _ (by omega)
            have f3 : (0 : Int) ≤ (i : Int) := by omega
            have f4 : (i : Int) < ((vuL T v).length : Int) := by omega
            have f5 : (i : Int) + 1 < ((vuL T v).length : Int) := by omega
            have f6 : (0 : Int) ≤ (i : Int) + 1 := by omega
            have f7 : ((i : Int) + 1).toNat = i + 1 := by omega
            have f8 : (i : Int) + 1 - 1 = (i : Int) := by omega
            generalize gI (vuL T v) i = x at *
            generalize gI (vuL T v) (i + 1) = y at *
            have hxy : decide (y ≤ x) = false := decide_eq_false (by omega)
            clear hB hB2 hcv he2 hle hi
            go_wp2_with fail
            go_quiet (fail)
            go_wp2_with fail
            go_roundw
            case rel => exact ⟨i + 1, by go_num, .inl (by omega), below_drewN HB.out _, below_drewN HB2.out _⟩
            case measure => simp [intOf]; omega
          · have f5 : ¬ (i : Int) + 1 < ((vuL T v).length : Int) := by omega
            go_wp2
            go_meet
            exact hB
      · have hc3 : (svC T v == 0) = false := by simp [h3]
        go_wp2
        go_meet
        exact Below.refl _ _
    case rest =>
      clear q_B0_0
      have hq := hcut
      clear hcut
      replace B0 := B0.stays hq
      replace h := h.below hq (Nat.le_refl _)
      replace hr := hr.below hq (Nat.le_refl _)
      replace oL := oL.below hq (Nat.le_refl _)
      replace fr := below_step fr hq
      obtain ⟨wb, rfl⟩ : ∃ wb : World, wb = wc := ⟨_, rfl⟩
      have q_B0_0 := B0.cell 0
      go_upto_if 120 with fail
      go_cut [] from 16 to 190 (fun wc => Below wb.heap.size wb wc)
      case first =>
        by_cases h1 : rpC T v = 0
        · have hc1 : (rpC T v == 0) = true := by simp [h1]
          have hbr := rpC_zero h1
          have hok := braB_iff.1 hbr
          have hsum := rp_sum h1
          have hps := rpF_bd h1
          have hpn : ∀ i, i < T.length → -1000000000000000000 ≤ prF (rpL T v) (vTo T T.length) i ∧ prF (rpL T v) (vTo T T.length) i ≤ 1000000000000000000 := fun i hi => by
            have q1 := hps i (by omega)
            have q2 := hps (i + 1) (by omega)
            have q3 := sumTo_succ (rpF T v) i
            show -1000000000000000000 ≤ rpF T v i ∧ rpF T v i ≤ 1000000000000000000
            omega
          have hln := rpL_n h1
          obtain ⟨HN0, HN1⟩ : Hid (∀ i, i < T.length → 0 ≤ gI (rpL T v) i) ∧ Hid (∀ i, i + 1 < T.length → gI (rpL T v) (i + 1) < eI T i / eI T (i + 1)) := ⟨Lib.hid (rp_nn h1).1, Lib.hid (rp_nn h1).2⟩
          have HPS := Lib.hid hps
          have HPN := Lib.hid hpn
          have HSM := Lib.hid hsum
          have HLN := Lib.hid hln
          have hl7 := bra_len hok
          have hp := hok.len
          clear h1 hps hpn hsum hbr hln
          go_wp2_with fail
          refine (implGenerators_ok _ T _ hr hok).mono ?_
          rintro e wG ⟨aG, kG, rfl, rG, hq⟩
          have hr1 := hr.below hq (Nat.le_refl _)
          have oL1 := oL.below hq (Nat.le_refl _)
          have B1 := B0.stays hq
          have q1 := B1.cell 0
          clear q_B0_0
          go_wp2_with fail
          refine (implDivisors_ok _ T _ hr1 hok).mono ?_
          rintro e wE ⟨aE, kE, rfl, rE, hq2⟩
          have rG2 := rG.below hq2 (Nat.le_refl _)
          have oL2 := oL1.below hq2 (Nat.le_refl _)
          have rL2 := oL2.rd
          have hlb : (((rpL T v).length : Int) != (T.length : Int)) = false := by rw [HLN.out]; simp
          have hqb := below_step hq hq2
          clear q1 B1 oL1 oL2 rG hr1
          go_wp2_with fail
          refine (product5_c _ _ (rpL T v) (vTo T T.length) T.length _ rL2 rG2 HLN.out (by simp) (fun k hk => by have := HPS.out k hk; exact ⟨by show -1000000000000000000 ≤ sumTo (rpF T v) k; omega, by show sumTo (rpF T v) k ≤ _; omega⟩) HPN.out).mono ?_
          rintro e wP ⟨rfl, n1, rfl⟩
          have hsm2 : sumTo (prF (rpL T v) (vTo T T.length)) T.length = v := HSM.out
          rw [hsm2]
          obtain ⟨bL, oL', cL, heL, _, _, hbL, hcL⟩ := rL2.cells (by rw [HLN.out]; omega)
          injection heL with heL1 heL2 heL3
          subst heL1 heL3
          obtain ⟨bE, oE', cE, heE, _, _, hbE, hcE⟩ := rE.cells (by simp; omega)
          injection heE with heE1 heE2 heE3
          subst heE1 heE3
          rw [HLN.out] at hcL
          have hlb2 : (((rpL T v).length : Int) != (T.length : Int)) = false := hlb
          clear hlb
          rw [eTo_len] at hcE
          have HCL := Lib.hid hcL
          have HCE : Hid (∀ i, i < T.length → wE.cell? ⟨bE, oE' + i, none⟩ = some (.int .i64 (eI T i))) := Lib.hid (fun i hi => by rw [← gI_eTo hi]; exact hcE i hi)
          clear hsm2 hcL hcE heL2 heE2 rL2 rG2 rE
          go_wp2_with fail
          go_loopw [20] (fun iv wr => ∃ i : Nat, iv = .int .i64 (i : Int) ∧ i ≤ T.length ∧ Below wE.heap.size wE wr) (fun iv _ => T.length - (intOf iv).toNat)
          case atStart => exact ⟨0, rfl, Nat.zero_le _, below_drewN (Below.refl _ _) _⟩
          case round =>
            obtain ⟨i, rfl, hi, hB⟩ := hrel
            obtain ⟨wo, rfl⟩ : ∃ wo : World, wo = wr := ⟨_, rfl⟩
            by_cases hlt : i < T.length
            · have dL := (hB.cell (p := ⟨bL, oL' + i, none⟩) hbL).trans (HCL.out i hlt)
              have hx0 := HN0.out i hlt
              have f3 : (0 : Int) ≤ (i : Int) := by omega
              have f4 : (i : Int) < (T.length : Int) := by omega
              have f4' : (i : Int) < ((rpL T v).length : Int) := by have := HLN.out; omega
              have HB := Lib.hid hB
              by_cases hi0 : i = 0
              · have hi1 : decide ((i : Int) > 0) = false := decide_eq_false (by omega)
                have hi2 : decide (0 < i) = false := decide_eq_false (by omega)
                have hi3 : decide ((0 : Int) < (i : Int)) = false := decide_eq_false (by omega)
                generalize gI (rpL T v) i = x at *
                have hxn : decide (x < 0) = false := decide_eq_false (by omega)
                clear hB hi0
                go_wp2_with fail
                go_quiet (fail)
                go_wp2_with fail
                go_roundw
                case rel => exact ⟨i + 1, by go_num, by omega, below_drewN HB.out _⟩
                case measure => simp [intOf]; omega
              · obtain ⟨j, rfl⟩ : ∃ j, i = j + 1 := ⟨i - 1, by omega⟩
                have dE1 := (hB.cell (p := ⟨bE, oE' + (j + 1), none⟩) hbE).trans (HCE.out (j + 1) hlt)
                have dE0 := (hB.cell (p := ⟨bE, oE' + j, none⟩) hbE).trans (HCE.out j (by omega))
                have hx1 := HN1.out j hlt
                have b1 := eI_bd hok (j + 1)
                have b0 := eI_bd hok j
                have hj : ((j + 1 : Nat) : Int) = (j : Int) + 1 := by omega
                have f2 : IntKind.i64.wrap (j : Int) = (j : Int) := IntWalk.i64_in _ (by omega)
                have f5 : (0 : Int) ≤ (j : Int) := by omega
                have f6 : (j : Int) < (T.length : Int) := by omega
                have f7 : ((j : Int) + 1).toNat = j + 1 := by omega
                have f8 : (j : Int) + 1 - 1 = (j : Int) := by omega
                have f9 : (j : Int) + 1 < (T.length : Int) := by omega
                have f9' : (j : Int) + 1 < ((rpL T v).length : Int) := by have := HLN.out; omega
                have f10 : (0 : Int) < (j : Int) + 1 := by omega
                have f11 : (0 : Int) ≤ (j : Int) + 1 := by omega
                rw [hj]
                clear hj hB hi0 f3 f4 f4'
                generalize gI (rpL T v) (j + 1) = x at *
                generalize eI T (j + 1) = y at *
                generalize eI T j = z at *
                have hxn : decide (x < 0) = false := decide_eq_false (by omega)
                have hy0 : y ≠ 0 := by omega
                rcases (show y = 1 ∨ 1 < y by omega) with hy1 | hy1
                · subst hy1
                  rw [Int.ediv_one] at hx1
                  have hxz : decide (x ≥ z) = false := decide_eq_false (by omega)
                  have hxz2 : decide (z ≤ x) = false := decide_eq_false (by omega)
                  clear b1 hy0
                  go_wp2_with fail
                  go_quiet (fail)
                  go_wp2_with fail
                  go_roundw
                  case rel => exact ⟨j + 2, by go_num, by omega, below_drewN HB.out _⟩
                  case measure => simp [intOf]; omega
                · have hxz : decide (x ≥ z / y) = false := decide_eq_false (by omega)
                  have hxz2 : decide (z / y ≤ x) = false := decide_eq_false (by omega)
                  go_wp2_with fail
                  go_quiet (fail)
                  go_wp2_with fail
                  go_roundw
                  case rel => exact ⟨j + 2, by go_num, by omega, below_drewN HB.out _⟩
                  case measure => simp [intOf]; omega
            · have f5 : ¬ (i : Int) < ((rpL T v).length : Int) := by have := HLN.out; omega
              go_wp2
              go_meet
              exact hqb.trans (hB.mono hqb.size)
        · have hc1 : (rpC T v == 0) = false := by simp [h1]
          go_wp2
          go_meet
          exact Below.refl _ _
      case rest =>
        clear q_B0_0 oL hr B0
        have hq := hcut
        clear hcut
        replace h := h.below hq (Nat.le_refl _)
        replace fr := below_step fr hq
        go_wp2_with fail
        refine (drawAperyOf_w _ C _ h).mono ?_
        rintro e w7 ⟨u2, S, rfl, hs, hnw, hx8, hq⟩
        obtain ⟨va, vk, rfl⟩ := hs.len0
        clear hnw hx8
        replace h := h.below hq (Nat.le_refl _)
        replace fr := below_step fr hq
        have B2 := Blk.new w7 26 #[.slice va S.length vk]
        have hal : Below w7.heap.size w7 (w7.alloc (.cells #[.slice va S.length vk] 26)) := (Below.refl _ _).alloc (Nat.le_refl _) _
        replace h := h.below hal (Nat.le_refl _)
        replace hs := hs.below hal (Nat.le_refl _)
        replace fr := below_step fr hal
        clear hal
        cases hbs : braB S
        · skip
          have q_B2_0 := B2.cell 0
          go_wp2_with fail
          clear q_B2_0
          refine (implApery_no _ S _ hs hbs).mono ?_
          rintro e w8 ⟨aA, kA, rfl, oA, hq⟩
          replace B2 := B2.stays hq
          replace h := h.below hq (Nat.le_refl _)
          replace hs := hs.below hq (Nat.le_refl _)
          replace fr := below_step fr hq
          have q_B2_0 := B2.cell 0
          go_wp2_with fail
          clear q_B2_0
          refine (specApery_no _ S _ hs hbs).mono ?_
          rintro e w9 ⟨aD, kD, rfl, oD, hq⟩
          replace B2 := B2.stays hq
          replace h := h.below hq (Nat.le_refl _)
          replace hs := hs.below hq (Nat.le_refl _)
          replace oA := oA.below hq (Nat.le_refl _)
          replace fr := below_step fr hq
          have se := eqB_self ([] : List Int)
          have q_B2_0 := B2.cell 0
          go_wp2_with fail
          clear q_B2_0
          refine (likeInts_c _ _ [] [] _ oA oD).mono ?_
          rintro e w10 ⟨rfl, hq0⟩
          have hq := hq0.below w9.heap.size
          replace B2 := B2.stays hq
          replace h := h.below hq (Nat.le_refl _)
          replace hs := hs.below hq (Nat.le_refl _)
          replace oA := oA.below hq (Nat.le_refl _)
          replace oD := oD.below hq (Nat.le_refl _)
          replace fr := below_step fr hq
          rw [se]
          clear se oD
          have q_B2_0 := B2.cell 0
          go_wp2_with fail
          clear q_B2_0
          go_loop [26] (fun iv => iv = .int .i64 0) (fun iv => 0)
          case atStart => rfl
          case round =>
            subst hrel
            go_wp2
            go_ret
            exact ⟨rfl, fr⟩
        · skip
          have hok := braB_iff.1 hbs
          have q_B2_0 := B2.cell 0
          go_wp2_with fail
          clear q_B2_0
          refine (implApery_ok _ S _ hs hbs).mono ?_
          rintro e w8 ⟨aA, kA, rfl, oA, hq⟩
          replace B2 := B2.stays hq
          replace h := h.below hq (Nat.le_refl _)
          replace hs := hs.below hq (Nat.le_refl _)
          replace fr := below_step fr hq
          have q_B2_0 := B2.cell 0
          go_wp2_with fail
          clear q_B2_0
          refine (specApery_ok _ S _ hs hbs).mono ?_
          rintro e w9 ⟨aD, kD, rfl, oD, hq⟩
          replace B2 := B2.stays hq
          replace h := h.below hq (Nat.le_refl _)
          replace hs := hs.below hq (Nat.le_refl _)
          replace oA := oA.below hq (Nat.le_refl _)
          replace fr := below_step fr hq
          have se := eqB_self (lstL S)
          have q_B2_0 := B2.cell 0
          go_wp2_with fail
          clear q_B2_0
          refine (likeInts_c _ _ (lstL S) (lstL S) _ oA oD).mono ?_
          rintro e w10 ⟨rfl, hq0⟩
          have hq := hq0.below w9.heap.size
          replace B2 := B2.stays hq
          replace h := h.below hq (Nat.le_refl _)
          replace hs := hs.below hq (Nat.le_refl _)
          replace oA := oA.below hq (Nat.le_refl _)
          replace oD := oD.below hq (Nat.le_refl _)
          replace fr := below_step fr hq
          rw [se]
          clear se oD
          have hn0 := hok.num 0 hok.len
          have hnT : (nT S : Int) = gI S 0 := by unfold nT; omega
          have hn1 : 1 ≤ nT S := by omega
          have hn64 : nT S ≤ 2000 := by omega
          obtain ⟨bA, oA', cA, heA, _, _, hbA, hcA⟩ := oA.cells (by rw [lstL_len]; omega)
          injection heA with heA1 heA2 heA3
          subst heA1 heA3
          rw [lstL_len] at hcA
          have HCA : Hid (∀ r, r < nT S → w10.cell? ⟨bA, oA' + r, none⟩ = some (.int .i64 (lst S (r : Int)))) := Lib.hid (fun r hr => by rw [← gI_lstL hr]; exact hcA r hr)
          have HS := Lib.hid hs
          have HB2 := Lib.hid B2
          have FR := Lib.hid fr
          have hbl2 := B2.lt
          clear hcA heA2 oA hs B2 fr h hnT hn0
          generalize hnn : nT S = n at *
          have HNN := Lib.hid hnn
          clear hnn
          go_wp2_with fail
          go_loopw [26] (fun rv wr => ∃ r : Nat, rv = .int .i64 (r : Int) ∧ r ≤ n ∧ Below w10.heap.size w10 wr) (fun rv _ => n - (intOf rv).toNat)
          case atStart => exact ⟨0, rfl, Nat.zero_le _, Below.refl _ _⟩
          case round =>
            obtain ⟨r, rfl, hr', hB⟩ := hrel
            obtain ⟨wo, rfl⟩ : ∃ wo : World, wo = wr := ⟨_, rfl⟩
            by_cases hlt : r < n
            · have dA := (hB.cell (p := ⟨bA, oA' + r, none⟩) hbA).trans (HCA.out r hlt)
              have hlaw := ap_law hok (r := r) (by rw [HNN.out]; exact hlt)
              rw [HNN.out] at hlaw
              obtain ⟨hl1, hl2, hl3⟩ := hlaw
              have hbd := lst_bd hok (r : Int)
              have f3 : (0 : Int) ≤ (r : Int) := by omega
              have f4 : (r : Int) < (n : Int) := by omega
              have hs1 := HS.out.below hB (Nat.le_refl _)
              have B3 := HB2.out.stays hB
              have q0 := B3.cell 0
              have hsz := hB.size
              generalize lst S (r : Int) = x at *
              have hne : ((x % (n : Int)) != (r : Int)) = false := by simp [hl1]
              have HL2 := Lib.hid hl2
              have HL3 := Lib.hid hl3
              clear hl1 hl2 hl3
              by_cases hbig : x > 20000
              · have hb1 : decide (x > 20000) = true := decide_eq_true hbig
                clear hs1 B3
                have HB := Lib.hid hB
                clear hB
                go_wp2_with fail
                go_roundw
                case rel => exact ⟨r + 1, by go_num, by omega, HB.out⟩
                case measure => simp [intOf]; omega
              · have hb1 : decide (x > 20000) = false := decide_eq_false hbig
                have hsv1 : svC S x = 0 := svC_ok hbs (inB_iff.2 ⟨by omega, by omega⟩)
                have hsb1 : svB S x = true := by rw [svB_zero hsv1]; exact HL2.out
                have hs1d := hs1.below (Below.refl wo.heap.size wo).drew (Nat.le_refl _)
                have B3d := B3.drewN 1
                have HC : wo.cell? ⟨w7.heap.size, 0, none⟩ = some (.slice va S.length vk) ∧ wo.cell? ⟨bA, oA' + r, none⟩ = some (.int .i64 x) := ⟨q0, dA⟩
                go_upto_region 43 with fail
                go_region_held3 (fun X => X.cell? ⟨w7.heap.size, 0, none⟩ = some (.slice va S.length vk) ∧ X.cell? ⟨bA, oA' + r, none⟩ = some (.int .i64 x))
                  (first | assumption | exact HC)
                  (first | (go_at_call 35; (with_reducible refine (implIsValue_c _ S x _ hs1d).mono ?_); rintro e w5 ⟨rfl, hq5⟩; have B5 := B3d.stays hq5; have dA5 := (hq5.cell (p := ⟨bA, oA' + r, none⟩) (show bA < wo.drew.heap.size by simp; omega)).trans dA; have HC5 : w5.cell? ⟨w7.heap.size, 0, none⟩ = some (.slice va S.length vk) ∧ w5.cell? ⟨bA, oA' + r, none⟩ = some (.int .i64 x) := ⟨B5.cell 0, dA5⟩))
                try rw [hsv1, hsb1]
                have hB5 := (hB.trans ((Below.refl wo.heap.size wo).drew.mono hsz)).trans (hq5.mono (by simp; omega))
                have hs5 := hs1d.below hq5 (Nat.le_refl _)
                have q5 := B5.cell 0
                have hz5 := hq5.size
                clear HC5 HC hs1d B3d hs1 B3 q0 dA hB hsv1 hsb1 hq5
                by_cases hge : x ≥ (n : Int)
                · have hg1 : decide (x ≥ (n : Int)) = true := decide_eq_true hge
                  have hg2 : (n : Int) ≤ x := hge
                  have hwx : IntKind.i64.wrap (x - (n : Int)) = x - (n : Int) := IntWalk.i64_in _ (by omega)
                  have hsv2 : svC S (x - (n : Int)) = 0 := svC_ok hbs (inB_iff.2 ⟨by omega, by omega⟩)
                  have hsb2 : svB S (x - (n : Int)) = false := by rw [svB_zero hsv2]; exact HL3.out
                  have hs5d := hs5.below (Below.refl w5.heap.size w5).drew (Nat.le_refl _)
                  have B5d := B5.drewN 1
                  have HC : w5.cell? ⟨w7.heap.size, 0, none⟩ = some (.slice va S.length vk) ∧ w5.cell? ⟨bA, oA' + r, none⟩ = some (.int .i64 x) := ⟨q5, dA5⟩
                  go_wp2_with fail
                  go_region_held3 (fun X => X.cell? ⟨w7.heap.size, 0, none⟩ = some (.slice va S.length vk) ∧ X.cell? ⟨bA, oA' + r, none⟩ = some (.int .i64 x))
                    (first | assumption | exact HC)
                    (first | (go_at_call 35; (with_reducible refine (implIsValue_c _ S _ _ hs5d).mono ?_); rintro e w6 ⟨rfl, hq6⟩; have B6 := B5d.stays hq6; have dA6 := (hq6.cell (p := ⟨bA, oA' + r, none⟩) (show bA < w5.drew.heap.size by simp at hz5 ⊢; omega)).trans dA5; have HC6 : w6.cell? ⟨w7.heap.size, 0, none⟩ = some (.slice va S.length vk) ∧ w6.cell? ⟨bA, oA' + r, none⟩ = some (.int .i64 x) := ⟨B6.cell 0, dA6⟩))
                  try rw [hwx, hsv2, hsb2]
                  have hB6 := (hB5.trans ((Below.refl w5.heap.size w5).drew.mono (by simp at hz5; omega))).trans (hq6.mono (by simp at hz5 ⊢; omega))
                  have HB := Lib.hid hB6
                  clear hB5 hB6 HC6 HC hs5d B5d B5 B6 hs5 hq6
                  go_wp2_with fail
                  go_roundw
                  case rel => exact ⟨r + 1, by go_num, by omega, HB.out⟩
                  case measure => simp [intOf]; omega
                · have hg1 : decide (x ≥ (n : Int)) = false := decide_eq_false hge
                  have hg2 : ¬ (n : Int) ≤ x := hge
                  have HB := Lib.hid hB5
                  clear hB5 B5 hs5
                  go_wp2_with fail
                  go_roundw
                  case rel => exact ⟨r + 1, by go_num, by omega, HB.out⟩
                  case measure => simp [intOf]; omega
            · have f5 : ¬ (r : Int) < (n : Int) := by omega
              go_wp2
              go_ret
              exact ⟨rfl, FR.out.trans (hB.mono FR.out.size)⟩
  · go_enter Try.func5, Try.ntmps5
    go_wp2_with fail
    refine (big_yes _ C _ h hC).mono ?_
    rintro e w' ⟨rfl, rfl⟩
    go_wp2
    go_ret
    exact ⟨rfl, Below.refl _ _⟩
end Go.Proofs.Ytiinceflafigeaa.fnRepresentations
