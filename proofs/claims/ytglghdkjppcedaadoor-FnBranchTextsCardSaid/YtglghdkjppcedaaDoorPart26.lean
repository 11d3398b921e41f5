/- The walk of 'FnBranchTexts': texts are parsed to their branches, exponents that are not needed do not change a branch, turned characteristics keep the Milnor number. -/
import Derived.Test.YtglghdkjppcedaaDoorPart25
import Derived.Test.YtglghdkjppcedaaDoorRows
import Derived.Test.YtglghdkjppcedaaDoorPart0
import Derived.ProofKit
import Derived.OpenShut
import Derived.ShutString
import Derived.ChangeOld
import Derived.Lib.SmallJoins
import Derived.Test.YtglghdkjppcedaaDoorPart18
import Derived.WalkKit
import Derived.JoinedTies
namespace Go.Proofs.YtglghdkjppcedaaDoor.fnBranchTexts
open Go.RowKit

set_option maxRecDepth 100000 in
set_option maxHeartbeats 16000000 in
theorem walk (w : World) (ht : Tab w) (a0 : Value) (C : List Int) (h0 : Rd8w w a0 C) :
    Calls Tryd.prog 3 #[a0] w fun e w' => e = .returned (.bool true) ∧ Below w.heap.size w w' := by
  by_cases hC : C.length ≤ 4096
  · skip
    obtain ⟨a, cap, he, _⟩ := id h0
    subst he
    have h : Rd8 w _ C := ⟨h0, hC⟩
    have HT := Lib.hid ht
    clear ht
    go_enter Tryd.func3, Tryd.ntmps3
    go_wp2_with fail
    refine (big_no _ C _ h.1 hC).mono ?_
    rintro e w' ⟨rfl, rfl⟩
    go_wp2_with fail
    refine (drawBranchText_w _ C _ h).mono ?_
    rintro e w1 ⟨u, T, rfl, hr, hnw, hx8, hq⟩
    obtain ⟨ua, uk, rfl⟩ := hr.len0
    clear hnw hx8
    replace h := h.below hq (Nat.le_refl _)
    have fr : Below w.heap.size w _ := hq
    obtain ⟨tt, h_tt⟩ : ∃ x, btS T = x := ⟨_, rfl⟩
    have HTT := Lib.hid h_tt
    clear h_tt
    obtain ⟨cc, h_cc⟩ : ∃ x, okC (braB T) 1 = x := ⟨_, rfl⟩
    have HCC := Lib.hid h_cc
    clear h_cc
    obtain ⟨n, h_n⟩ : ∃ x, T.length = x := ⟨_, rfl⟩
    have HN := Lib.hid h_n
    clear h_n
    rw [HN.out]
    rw [HN.out] at hr
    have hccb : (cc != cc) = false := by simp
    have httb : (tt.toList == tt.toList) = true := by simp
    have Bx := Blk.new w1 26 #[.slice ua n uk]
    have hal : Below w1.heap.size w1 (w1.alloc (.cells #[.slice ua n uk] 26)) := (Below.refl _ _).alloc (Nat.le_refl _) _
    replace h := h.below hal (Nat.le_refl _)
    replace hr := hr.below hal (Nat.le_refl _)
    replace fr := below_step fr hal
    clear hal
    have q_Bx_0 := Bx.cell 0
    go_wp2_with fail
    clear q_Bx_0
    refine (implBT_v _ T tt cc _ hr (HT.out.below fr (Nat.le_refl _)) HTT.out HCC.out).mono ?_
    rintro e w2 ⟨rfl, hq⟩
    replace Bx := Bx.stays hq
    replace h := h.below hq (Nat.le_refl _)
    replace hr := hr.below hq (Nat.le_refl _)
    replace fr := below_step fr hq
    have q_Bx_0 := Bx.cell 0
    go_wp2_with fail
    clear q_Bx_0
    refine (specBT_v _ T tt cc _ hr HTT.out HCC.out).mono ?_
    rintro e w3 ⟨rfl, hq⟩
    replace Bx := Bx.stays hq
    replace h := h.below hq (Nat.le_refl _)
    replace hr := hr.below hq (Nat.le_refl _)
    replace fr := below_step fr hq
    have q_Bx_0 := Bx.cell 0
    go_upto_if 59 with fail
    clear q_Bx_0
    go_cut [] from 3 to 74 (fun wc => Below w3.heap.size w3 wc)
    case first =>
      clear fr
      by_cases h00 : cc = 0
      · as_aux_lemma =>
          have hc1 : (cc == 0) = true := by rw [h00]; rfl
          obtain ⟨hok, hR, hzz⟩ := bt_yes HTT.out HCC.out h00
          have HR := Lib.hid hR
          clear hok hR h
          have q_Bx_0 := Bx.cell 0
          go_wp2_with fail
          clear q_Bx_0
          refine (implPB_v tt T n 0 _ hzz HR.out HN.out).mono ?_
          rintro e w4 ⟨a3, k3, rfl, rp, hq⟩
          replace Bx := Bx.stays hq
          replace hr := hr.below hq (Nat.le_refl _)
          have fr : Below w3.heap.size w3 _ := hq
          have Bd := Blk.new w4 26 #[.slice a3 n k3]
          have hal : Below w4.heap.size w4 (w4.alloc (.cells #[.slice a3 n k3] 26)) := (Below.refl _ _).alloc (Nat.le_refl _) _
          replace Bx := Bx.alloc (.cells #[.slice a3 n k3] 26)
          replace hr := hr.below hal (Nat.le_refl _)
          replace rp := rp.below hal (Nat.le_refl _)
          replace fr := below_step fr hal
          clear hal
          have se := eqB_self T
          have q_Bx_0 := Bx.cell 0
          have q_Bd_0 := Bd.cell 0
          go_wp2_with fail
          clear q_Bx_0 q_Bd_0
          refine (likeInts_c _ _ T T _ rp hr).mono ?_
          rintro e w5 ⟨rfl, hq0⟩
          have hq := hq0.below ((w4.alloc (.cells #[.slice a3 n k3] 26))).heap.size
          clear hq0
          replace Bx := Bx.stays hq
          replace Bd := Bd.stays hq
          replace hr := hr.below hq (Nat.le_refl _)
          replace rp := rp.below hq (Nat.le_refl _)
          replace fr := below_step fr hq
          rw [se]
          clear se
          have q_Bx_0 := Bx.cell 0
          have q_Bd_0 := Bd.cell 0
          go_wp2
          clear q_Bx_0 q_Bd_0
          go_meet
          exact fr
      · as_aux_lemma =>
          have hc1 : (cc == 0) = false := beq_eq_false_iff_ne.2 h00
          have q_Bx_0 := Bx.cell 0
          go_wp2
          clear q_Bx_0
          go_meet
          exact Below.refl _ _
    case rest =>
      have hq := hcut
      clear hcut Bx hr HTT HCC HN hccb httb
      as_aux_lemma =>
        replace h := h.below hq (Nat.le_refl _)
        replace fr := below_step fr hq
        obtain ⟨wA, rfl⟩ : ∃ x : World, x = wc := ⟨_, rfl⟩
        go_wp2_with fail
        refine (drawParseBranch_w _ C _ h).mono ?_
        rintro e w4 ⟨t, rfl, hts, hq⟩
        replace h := h.below hq (Nat.le_refl _)
        replace fr := below_step fr hq
        obtain ⟨T, cc, hR⟩ := pbR_ex (lB t)
        have HR := Lib.hid hR
        clear hR
        have hccb : (cc != cc) = false := by simp
        obtain ⟨n, h_n⟩ : ∃ x, T.length = x := ⟨_, rfl⟩
        have HN := Lib.hid h_n
        clear h_n
        go_wp2_with fail
        refine (implPB_v t T n cc _ hts HR.out HN.out).mono ?_
        rintro e w5 ⟨a3, k3, rfl, rp, hq⟩
        replace h := h.below hq (Nat.le_refl _)
        replace fr := below_step fr hq
        have Bd := Blk.new w5 26 #[.slice a3 n k3]
        have hal : Below w5.heap.size w5 (w5.alloc (.cells #[.slice a3 n k3] 26)) := (Below.refl _ _).alloc (Nat.le_refl _) _
        replace h := h.below hal (Nat.le_refl _)
        replace rp := rp.below hal (Nat.le_refl _)
        replace fr := below_step fr hal
        clear hal
        have q_Bd_0 := Bd.cell 0
        go_wp2_with fail
        clear q_Bd_0
        refine (specPB_v t T n cc _ hts HR.out HN.out).mono ?_
        rintro e w6 ⟨a4, k4, rfl, sp, hq⟩
        replace Bd := Bd.stays hq
        replace h := h.below hq (Nat.le_refl _)
        replace rp := rp.below hq (Nat.le_refl _)
        replace fr := below_step fr hq
        have Be := Blk.new w6 26 #[.slice a4 n k4]
        have hal : Below w6.heap.size w6 (w6.alloc (.cells #[.slice a4 n k4] 26)) := (Below.refl _ _).alloc (Nat.le_refl _) _
        replace Bd := Bd.alloc (.cells #[.slice a4 n k4] 26)
        replace h := h.below hal (Nat.le_refl _)
        replace rp := rp.below hal (Nat.le_refl _)
        replace sp := sp.below hal (Nat.le_refl _)
        replace fr := below_step fr hal
        clear hal
        have se := eqB_self T
        have q_Bd_0 := Bd.cell 0
        have q_Be_0 := Be.cell 0
        go_wp2_with fail
        clear q_Bd_0 q_Be_0
        refine (likeInts_c _ _ T T _ rp sp).mono ?_
        rintro e w7 ⟨rfl, hq0⟩
        have hq := hq0.below ((w6.alloc (.cells #[.slice a4 n k4] 26))).heap.size
        clear hq0
        replace Bd := Bd.stays hq
        replace Be := Be.stays hq
        replace h := h.below hq (Nat.le_refl _)
        replace rp := rp.below hq (Nat.le_refl _)
        replace sp := sp.below hq (Nat.le_refl _)
        replace fr := below_step fr hq
        rw [se]
        clear se
        clear Be sp
        have HFW := Lib.hid fr
        have q_Bd_0 := Bd.cell 0
        go_upto_if 99 with fail
        clear q_Bd_0
        go_cut [] from 10 to 111 (fun wc => Below w7.heap.size w7 wc)
        case first =>
          clear fr
          by_cases h00 : cc = 0
          · as_aux_lemma =>
              have hc1 : (cc == 0) = true := by rw [h00]; rfl
              obtain ⟨hok, hbt⟩ := pbR_yes HR.out h00
              have HBT := Lib.hid hbt
              have HOC := Lib.hid (show okC (braB T) 1 = 0 by rw [okC_true (braB_iff.2 hok)])
              have htt : (t.toList == t.toList) = true := by simp
              clear hok hbt h
              have q_Bd_0 := Bd.cell 0
              go_wp2_with fail
              clear q_Bd_0
              refine (implBT_v _ T t 0 _ rp (HT.out.below HFW.out (Nat.le_refl _)) HBT.out HOC.out).mono ?_
              rintro e w8 ⟨rfl, hq⟩
              replace Bd := Bd.stays hq
              replace rp := rp.below hq (Nat.le_refl _)
              have fr : Below w7.heap.size w7 _ := hq
              have q_Bd_0 := Bd.cell 0
              go_wp2
              clear q_Bd_0
              go_meet
              exact fr
          · as_aux_lemma =>
              have hc1 : (cc == 0) = false := beq_eq_false_iff_ne.2 h00
              have q_Bd_0 := Bd.cell 0
              go_wp2
              clear q_Bd_0
              go_meet
              exact Below.refl _ _
        case rest =>
          have hq := hcut
          clear hcut Bd rp HR HN hccb hts HFW
          as_aux_lemma =>
            replace h := h.below hq (Nat.le_refl _)
            replace fr := below_step fr hq
            obtain ⟨wB, rfl⟩ : ∃ x : World, x = wc := ⟨_, rfl⟩
            go_wp2_with fail
            refine (drawBranchOfExponents_w _ C _ h).mono ?_
            rintro e w8 ⟨z, a1, m, k1, L, rfl, hz, hL, hlm, hm8, hq⟩
            have HX := Lib.hid hz
            have HLM := Lib.hid (show L.length ≤ 8 by omega)
            clear hz hlm hm8
            replace h := h.below hq (Nat.le_refl _)
            replace fr := below_step fr hq
            obtain ⟨T, h_T⟩ : ∃ x, okL (boB z L) (boF z L) = x := ⟨_, rfl⟩
            have HF := Lib.hid h_T
            clear h_T
            obtain ⟨cc, h_cc⟩ : ∃ x, boC z L = x := ⟨_, rfl⟩
            have HCC := Lib.hid h_cc
            clear h_cc
            obtain ⟨n, h_n⟩ : ∃ x, T.length = x := ⟨_, rfl⟩
            have HN := Lib.hid h_n
            clear h_n
            have hccb : (cc != cc) = false := by simp
            go_wp2_with fail
            refine (implBoe_v z _ L T n cc _ hL HX.out HLM.out HF.out HCC.out HN.out).mono ?_
            rintro e w9 ⟨a3, k3, rfl, rp, hq⟩
            replace h := h.below hq (Nat.le_refl _)
            replace hL := hL.below hq (Nat.le_refl _)
            replace fr := below_step fr hq
            have Bd := Blk.new w9 26 #[.slice a3 n k3]
            have hal : Below w9.heap.size w9 (w9.alloc (.cells #[.slice a3 n k3] 26)) := (Below.refl _ _).alloc (Nat.le_refl _) _
            replace h := h.below hal (Nat.le_refl _)
            replace hL := hL.below hal (Nat.le_refl _)
            replace rp := rp.below hal (Nat.le_refl _)
            replace fr := below_step fr hal
            clear hal
            have q_Bd_0 := Bd.cell 0
            go_wp2_with fail
            clear q_Bd_0
            refine (specBoe_v z _ L T n cc _ hL HX.out HLM.out HF.out HCC.out HN.out).mono ?_
            rintro e w10 ⟨a4, k4, rfl, sp, hq⟩
            replace Bd := Bd.stays hq
            replace h := h.below hq (Nat.le_refl _)
            replace hL := hL.below hq (Nat.le_refl _)
            replace rp := rp.below hq (Nat.le_refl _)
            replace fr := below_step fr hq
            have Be := Blk.new w10 26 #[.slice a4 n k4]
            have hal : Below w10.heap.size w10 (w10.alloc (.cells #[.slice a4 n k4] 26)) := (Below.refl _ _).alloc (Nat.le_refl _) _
            replace Bd := Bd.alloc (.cells #[.slice a4 n k4] 26)
            replace h := h.below hal (Nat.le_refl _)
            replace hL := hL.below hal (Nat.le_refl _)
            replace rp := rp.below hal (Nat.le_refl _)
            replace sp := sp.below hal (Nat.le_refl _)
            replace fr := below_step fr hal
            clear hal
            have se := eqB_self T
            have q_Bd_0 := Bd.cell 0
            have q_Be_0 := Be.cell 0
            go_wp2_with fail
            clear q_Bd_0 q_Be_0
            refine (likeInts_c _ _ T T _ rp sp).mono ?_
            rintro e w11 ⟨rfl, hq0⟩
            have hq := hq0.below ((w10.alloc (.cells #[.slice a4 n k4] 26))).heap.size
            clear hq0
            replace Bd := Bd.stays hq
            replace Be := Be.stays hq
            replace h := h.below hq (Nat.le_refl _)
            replace hL := hL.below hq (Nat.le_refl _)
            replace rp := rp.below hq (Nat.le_refl _)
            replace sp := sp.below hq (Nat.le_refl _)
            replace fr := below_step fr hq
            rw [se]
            clear se
            clear Be sp
            have q_Bd_0 := Bd.cell 0
            go_upto_if 141 with fail
            clear q_Bd_0
            go_cut [] from 17 to 156 (fun wc => Below w11.heap.size w11 wc)
            case first =>
              clear fr
              by_cases h00 : cc = 0
              · as_aux_lemma =>
                  have hc1 : (cc == 0) = true := by rw [h00]; rfl
                  obtain ⟨hp0, hp7, hhas⟩ := boe_has HF.out HCC.out h00
                  rw [HN.out] at hp0 hp7 hhas
                  have HH := Lib.hid hhas
                  clear hhas h
                  obtain ⟨bO, oO, rfl, hbO, hcO⟩ := rp.atB HN.out hp0
                  have HCO := Lib.hid hcO
                  clear hcO
                  rw [hc1]
                  have q_Bd_0 := Bd.cell 0
                  go_wp2_with fail
                  clear q_Bd_0
                  clear hc1 h00 hccb
                  go_loopw [23] (fun iv wr => ∃ i : Nat, 1 ≤ i ∧ iv = .int .i64 (i : Int) ∧ Below w11.heap.size w11 wr) (fun iv _ => n - (intOf iv).toNat)
                  case atStart => exact ⟨1, Nat.le_refl _, rfl, Below.refl _ _⟩
                  case round =>
                    obtain ⟨i, hi1, rfl, hB⟩ := hrel
                    obtain ⟨wo, rfl⟩ : ∃ wo : World, wo = wr := ⟨_, rfl⟩
                    have HB0 := Lib.hid hB
                    have Bd6 := Bd.stays hB
                    have q0 := Bd6.cell 0
                    by_cases hlt : i < n
                    · have dO := (hB.cell (p := ⟨bO, oO + i, none⟩) hbO).trans (HCO.out i hlt)
                      have hLo := hL.below hB (Nat.le_refl _)
                      have hin := HH.out i hi1 hlt
                      have hki : (i : Int) < (n : Int) := by omega
                      have hk0 : (0 : Int) ≤ (i : Int) := by omega
                      have HIN := Lib.hid hin
                      clear hin hB
                      generalize gI T i = y at *
                      go_wp2_with fail
                      refine (hasInt_c _ L y _ hLo).mono ?_
                      rintro e w5 ⟨rfl, hw5⟩
                      subst hw5
                      rw [HIN.out]
                      clear hLo dO Bd6
                      go_wp2
                      go_roundw
                      case rel => exact ⟨i + 1, by omega, by go_num, HB0.out⟩
                      case measure => simp [intOf]; omega
                    · have hki : ¬ (i : Int) < (n : Int) := by omega
                      clear hB Bd6
                      go_wp2
                      go_meet
                      exact HB0.out
              · as_aux_lemma =>
                  have hc1 : (cc == 0) = false := beq_eq_false_iff_ne.2 h00
                  have q_Bd_0 := Bd.cell 0
                  go_wp2
                  clear q_Bd_0
                  go_meet
                  exact Below.refl _ _
            case rest =>
              have hq := hcut
              clear hcut Bd rp hL HX HLM HF HCC HN hccb
              as_aux_lemma =>
                replace h := h.below hq (Nat.le_refl _)
                replace fr := below_step fr hq
                obtain ⟨wC, rfl⟩ : ∃ x : World, x = wc := ⟨_, rfl⟩
                go_wp2_with fail
                refine (drawTurnCharacteristic_w _ C _ h).mono ?_
                rintro e w12 ⟨a1, m, k1, L, rfl, hL, hlm, hm1, hm8, hbd, hq⟩
                have HBD := Lib.hid (show ∀ i, i < L.length → -1000000 ≤ gI L i ∧ gI L i ≤ 1000000 from fun i hi => hbd i (by omega))
                have HL8 := Lib.hid (show L.length ≤ 8 by omega)
                have HLM := Lib.hid hlm
                clear hlm hm8 hbd
                replace h := h.below hq (Nat.le_refl _)
                replace fr := below_step fr hq
                clear h
                obtain ⟨T, h_T⟩ : ∃ x, okL (tuB L) (tuF L) = x := ⟨_, rfl⟩
                have HF := Lib.hid h_T
                clear h_T
                obtain ⟨cc, h_cc⟩ : ∃ x, tuC L = x := ⟨_, rfl⟩
                have HCC := Lib.hid h_cc
                clear h_cc
                obtain ⟨n, h_n⟩ : ∃ x, T.length = x := ⟨_, rfl⟩
                have HN := Lib.hid h_n
                clear h_n
                have hccb : (cc != cc) = false := by simp
                go_wp2_with fail
                refine (implTur_v _ L T n cc _ hL HL8.out HF.out HCC.out HN.out).mono ?_
                rintro e w13 ⟨a3, k3, rfl, rp, hq⟩
                replace hL := hL.below hq (Nat.le_refl _)
                replace fr := below_step fr hq
                have Bd := Blk.new w13 26 #[.slice a3 n k3]
                have hal : Below w13.heap.size w13 (w13.alloc (.cells #[.slice a3 n k3] 26)) := (Below.refl _ _).alloc (Nat.le_refl _) _
                replace hL := hL.below hal (Nat.le_refl _)
                replace rp := rp.below hal (Nat.le_refl _)
                replace fr := below_step fr hal
                clear hal
                have q_Bd_0 := Bd.cell 0
                go_wp2_with fail
                clear q_Bd_0
                refine (specTur_v _ L T n cc _ hL HL8.out HBD.out HF.out HCC.out HN.out).mono ?_
                rintro e w14 ⟨a4, k4, rfl, sp, hq⟩
                replace Bd := Bd.stays hq
                replace hL := hL.below hq (Nat.le_refl _)
                replace rp := rp.below hq (Nat.le_refl _)
                replace fr := below_step fr hq
                have Be := Blk.new w14 26 #[.slice a4 n k4]
                have hal : Below w14.heap.size w14 (w14.alloc (.cells #[.slice a4 n k4] 26)) := (Below.refl _ _).alloc (Nat.le_refl _) _
                replace Bd := Bd.alloc (.cells #[.slice a4 n k4] 26)
                replace hL := hL.below hal (Nat.le_refl _)
                replace rp := rp.below hal (Nat.le_refl _)
                replace sp := sp.below hal (Nat.le_refl _)
                replace fr := below_step fr hal
                clear hal
                have se := eqB_self T
                have q_Bd_0 := Bd.cell 0
                have q_Be_0 := Be.cell 0
                go_wp2_with fail
                clear q_Bd_0 q_Be_0
                refine (likeInts_c _ _ T T _ rp sp).mono ?_
                rintro e w15 ⟨rfl, hq0⟩
                have hq := hq0.below ((w14.alloc (.cells #[.slice a4 n k4] 26))).heap.size
                clear hq0
                replace Bd := Bd.stays hq
                replace Be := Be.stays hq
                replace hL := hL.below hq (Nat.le_refl _)
                replace rp := rp.below hq (Nat.le_refl _)
                replace sp := sp.below hq (Nat.le_refl _)
                replace fr := below_step fr hq
                rw [se]
                clear se
                clear Be sp
                by_cases h00 : cc = 0
                · as_aux_lemma =>
                    have hc1 : (cc != 0) = false := by simp [h00]
                    obtain ⟨hto, hok, hcon⟩ := tur_yes HF.out HCC.out h00
                    rw [HLM.out] at hcon
                    have HTO := Lib.hid hto
                    have HOK := Lib.hid hok
                    have HCON := Lib.hid hcon
                    clear hto hok hcon
                    obtain ⟨bL, oL, rfl, hbL, hcL⟩ := hL.atB HLM.out (by omega)
                    have HCL := Lib.hid hcL
                    have c0 : w15.cell? ⟨bL, oL, none⟩ = some (.int .i64 (gI L 0)) := hcL 0 (by omega)
                    have hm0 : 0 < m := by omega
                    have hm8 : m ≤ 8 := by have := HL8.out; have := HLM.out; omega
                    have hmz : (0 : Int) < (m : Int) := by omega
                    clear hcL
                    have HFR := Lib.hid fr
                    clear fr
                    have q_Bd_0 := Bd.cell 0
                    go_wp2_with fail
                    clear q_Bd_0
                    go_region
                    clear c0
                    have q_Bd_0 := Bd.cell 0
                    go_wp2_with fail
                    clear q_Bd_0
                    clear hc1 h00 hccb
                    go_loopw [29, 30, 31] (fun tv lv iv wr => ∃ i j : Nat, i = j + 1 ∧ i ≤ m ∧ tv = .int .i64 (mS L j) ∧ lv = .int .i64 (eI L j) ∧ iv = .int .i64 (i : Int) ∧ Below w15.heap.size w15 wr) (fun _ _ iv _ => m - (intOf iv).toNat)
                    case atStart => exact ⟨1, 0, rfl, by omega, rfl, rfl, rfl, (Below.refl _ _).drew⟩
                    case round =>
                      obtain ⟨i, j, hij, him, rfl, rfl, rfl, hB⟩ := hrel
                      obtain ⟨wo, rfl⟩ : ∃ wo : World, wo = wr := ⟨_, rfl⟩
                      have HB0 := Lib.hid hB
                      by_cases hlt : i < m
                      · have HD := Lib.hid (show ∀ Y : World, Below w15.heap.size w15 Y → Y.cell? ⟨bL, oL + i, none⟩ = some (.int .i64 (gI L i)) from fun Y hY => (hY.cell (p := ⟨bL, oL + i, none⟩) hbL).trans (HCL.out i hlt))
                        have dL := HD.out wo hB
                        have hki : (i : Int) < (m : Int) := by omega
                        have hk0 : (0 : Int) ≤ (i : Int) := by omega
                        obtain ⟨hp, hq, hz, hg, hs, ht⟩ := tur_step HTO.out HLM.out HL8.out hij hlt
                        have HG := Lib.hid hg
                        have HS := Lib.hid hs
                        have HIJ := Lib.hid hij
                        clear hg hs hij hB
                        generalize eI L j = p at *
                        obtain ⟨q, hqq⟩ : ∃ q, eI L i = q := ⟨_, rfl⟩
                        rw [hqq] at hq ht HG HS
                        have HQ := Lib.hid hqq
                        clear hqq
                        generalize gI L i = z at *
                        generalize mS L j = t at *
                        obtain ⟨r, hr⟩ : ∃ r, (p - q) * (z - 1) = r := ⟨_, rfl⟩
                        have e1 : IntKind.i64.wrap (p - q) = p - q := IntWalk.i64_in _ (by omega)
                        have e2 : IntKind.i64.wrap (z - 1) = z - 1 := IntWalk.i64_in _ (by omega)
                        rw [hr] at ht
                        have e3 : IntKind.i64.wrap ((p - q) * (z - 1)) = r := by rw [hr]; exact IntWalk.i64_in _ (by omega)
                        have e4 : IntKind.i64.wrap (t + r) = t + r := IntWalk.i64_in _ (by omega)
                        have HS2 := Lib.hid (HS.out.trans (by rw [hr]))
                        clear hr
                        go_wp2_with fail
                        refine (commonDivisor_c p z _ (by omega) (by omega)).mono ?_
                        rintro e w5 ⟨rfl, hw5⟩
                        rw [HG.out]
                        have hB5 := HB0.out.trans (hw5.below _)
                        have dL5 := HD.out w5 hB5
                        have HB5 := Lib.hid hB5
                        clear hB5 hw5
                        go_wp2
                        go_roundw
                        case rel => exact ⟨i + 1, i, rfl, by omega, by rw [HS2.out], by rw [HQ.out], by go_num, HB5.out⟩
                        case measure => simp [intOf]; omega
                      · have hki : ¬ (i : Int) < (m : Int) := by omega
                        have e1 : j = m - 1 := by omega
                        rw [← e1] at HCON
                        generalize mS L j = t at *
                        have rpo := rp.below hB (Nat.le_refl _)
                        have Bd6 := Bd.stays hB
                        have q0 := Bd6.cell 0
                        have HFX := Lib.hid (below_step HFR.out hB)
                        have htt : (t == t) = true := by simp
                        clear hB Bd6 e1 hij
                        go_wp2_with fail
                        refine (milnor_v _ T t _ rpo HOK.out HCON.out).mono ?_
                        rintro e w6 ⟨rfl, hw6⟩
                        have HFY := Lib.hid (below_step HFX.out hw6)
                        clear rpo hw6 q0
                        go_wp2
                        go_ret
                        exact ⟨rfl, HFY.out⟩
                · as_aux_lemma =>
                    have hc1 : (cc != 0) = true := by simp [h00]
                    have q_Bd_0 := Bd.cell 0
                    go_wp2
                    clear q_Bd_0
                    go_ret
                    exact ⟨rfl, fr⟩
  · go_enter Tryd.func3, Tryd.ntmps3
    go_wp2_with fail
    refine (big_yes _ C _ h0 hC).mono ?_
    rintro e w' ⟨rfl, rfl⟩
    go_wp2
    go_ret
    exact ⟨rfl, Below.refl _ _⟩
end Go.Proofs.YtglghdkjppcedaaDoor.fnBranchTexts

/- From the reading of an argument to what a walk is told: slices of integers, alone or as the fields of a struct. -/
namespace Go.Proofs.YtglghdkjppcedaaDoor
open Go.ChangeShapes Go.WideShapes Go.ChangeAt Go.RowKit Go.Deep

section
variable {H : Type} {enc : TypeId × Value → H} {P : Program} {W : World}

end

theorem own : ownKnob Tryd.prog.godebug = none := by kernel_rfl
theorem laidOut : laidOutB Tryd.prog = true := by kernel_rfl

end Go.Proofs.YtglghdkjppcedaaDoor

/- From the reading of an argument to what a walk is told: slices of bytes. -/
namespace Go.Proofs.YtglghdkjppcedaaDoor
open Go.ChangeShapes Go.WideShapes Go.ChangeAt Go.RowKit Go.Deep

theorem wf_u8 {k : Int} (h : (Lit.int .u8 k).wf = true) : 0 ≤ k ∧ k ≤ 255 := by
  have e : (Lit.int .u8 k).wf = (decide (IntKind.u8.min ≤ k) && decide (k ≤ IntKind.u8.max)) := rfl
  have e1 : IntKind.u8.min = 0 := by decide
  have e2 : IntKind.u8.max = 255 := by decide
  rw [e, e1, e2] at h
  simpa using h
section
variable {H : Type} {enc : TypeId × Value → H} {P : Program} {W : World}
theorem rdb_of_trod {t e : TypeId} {n : Nat} {v : Value} {y : DataW H × List MemPlace} (ht : P.underlying t = some (.slice e)) (he : P.underlying e = some (.int .u8)) (hc : P.cellsOf e = 1)
    (h : DataW.trod enc P W 0 (fun _ => true) true n t [v] = some y) : ∃ xs, Rd8w W v xs := by
  rcases open_ints ht he hc h with ⟨hcs, _⟩ | ⟨a, len, cap, zs, hcs, _, hl, hm, hz, _, hcell, hwz⟩
  · simp at hcs
    subst hcs
    exact ⟨[], none, 0, rfl, by simp, by simp, by simp, fun h => absurd rfl h⟩
  · simp at hcs
    subst hcs
    have hz' : zs.length = cap := by simpa using hz
    have hlen : (zs.take len).length = len := by simp; omega
    refine ⟨zs.take len, some a, cap, by rw [hlen], by omega, by unfold maxLen at hm; omega, fun i hi => wf_u8 (hwz _ (List.mem_of_mem_take (gI_mem hi))), fun hne => ?_⟩
    have hpos : 0 < len := by
      rcases Nat.eq_zero_or_pos len with h0 | h0
      · exact absurd (List.eq_nil_of_length_eq_zero (hlen.trans h0)) hne
      · exact h0
    obtain ⟨b, off, rfl, hcs⟩ := ints_at hcell (by omega)
    have hb : b < W.heap.size := World.block_lt_of_cell? W ⟨b, off + 0, none⟩ (hcs 0 (by omega))
    refine ⟨b, off, rfl, hb, fun i hi => ?_⟩
    rw [hcs i (by omega)]
    have hi' : i < len := by omega
    simp [gI, List.getD, hi']
theorem rdb_of_Trod {t e : TypeId} {v : Value} {d : DataW H} {p : List MemPlace} {base : Nat} (ht : P.underlying t = some (.slice e)) (he : P.underlying e = some (.int .u8)) (hc : P.cellsOf e = 1)
    (hv : Value.okWide P W .any base t v) (h : DataW.Trod enc P W 0 (fun _ => true) true t v d p) : ∃ xs, Rd8w W v xs := by
  obtain ⟨a, len, cap, rfl⟩ := okWide_slice ht hv
  obtain ⟨n, hn⟩ := h
  exact rdb_of_trod ht he hc hn
end
end Go.Proofs.YtglghdkjppcedaaDoor

/- What the translation's head says, read word by word. -/
namespace Go.Proofs.YtglghdkjppcedaaDoor
open Go.RowKit

def chars (l : List Nat) : List Char := l.map Char.ofNat
theorem ws_word (a : List Nat) (b : List Char) (h : ∀ n ∈ a, Char.ofNat n ≠ Char.ofNat 32) : wordsSigns (chars a ++ Char.ofNat 32 :: b) = chars a :: wordsSigns b := by
  induction a with
  | nil => rfl
  | cons n a ih =>
    have h1 := ih (fun m hm => h m (List.mem_cons_of_mem _ hm))
    have h2 := h n List.mem_cons_self
    show wordsSigns (Char.ofNat n :: (chars a ++ Char.ofNat 32 :: b)) = _
    rw [wordsSigns.eq_def]
    split
    · rename_i e; cases e
    · rename_i e; injection e with e1 e2; exact absurd e1 h2
    · rename_i e1 e2; injection e2 with e3 e4; subst e3 e4
      rw [h1]; rfl
def wordA : List Nat := [104, 97, 114, 110, 101, 115, 115]
def wordB : List Nat := [52, 50, 53, 48, 51, 97, 54, 101, 55, 53, 48, 53, 102, 102, 51, 102, 50, 50, 100, 50, 50, 97, 97, 57, 100, 54, 52, 54, 97, 56, 55, 100, 49, 54, 97, 99, 49, 51, 99, 54, 51, 97, 97, 49, 99, 52, 54, 97, 101, 53, 97, 101, 48, 57, 55, 57, 102, 51, 48, 100, 48, 57, 49, 52]
def wordC : List Nat := [99, 117, 116]
def wordsR : List Nat := [97, 116, 32, 108, 111, 111, 112, 46, 101, 120, 97, 109, 112, 108, 101, 47, 103, 48, 49, 49, 52, 48, 47, 108, 97, 119, 115, 46, 70, 110, 66, 114, 97, 110, 99, 104, 84, 101, 120, 116, 115]
theorem headL : Tryd.prog.initOrder = String.ofList (chars wordA ++ Char.ofNat 32 :: (chars wordB ++ Char.ofNat 32 :: (chars wordC ++ Char.ofNat 32 :: chars wordsR))) := by kernel_rfl
theorem headW : wordsSigns Tryd.prog.initOrder.toList = chars wordA :: chars wordB :: chars wordC :: wordsSigns (chars wordsR) := by
  rw [headL, String.toList_ofList, ws_word _ _ (by decide), ws_word _ _ (by decide), ws_word _ _ (by decide)]
theorem behind (R : List (List Char)) : behindMainWord (chars wordA :: chars wordB :: chars wordC :: R) = "cut".toList :: R := by
  have h : (chars wordA == "harness".toList) = true := by decide +kernel
  have h2 : isSumSigns (chars wordB) = true := by decide +kernel
  have h3 : chars wordC = "cut".toList := by decide +kernel
  unfold behindMainWord
  simp only [h, h2, h3, Bool.true_or, Bool.and_self, if_true]
theorem headB : behindMainWord (wordsSigns Tryd.prog.initOrder.toList) = "cut".toList :: wordsSigns (chars wordsR) := (congrArg behindMainWord headW).trans (behind _)
theorem make_of (P : Program) (R : List (List Char)) (h : behindMainWord (wordsSigns P.initOrder.toList) = "cut".toList :: R) : P.make = some Make.cut := by
  unfold Program.make
  rw [h]
  have e : ("cut".toList == "cut".toList) = true := by decide +kernel
  have e1 : ("cut".toList == "gc".toList) = false := by decide +kernel
  have e2 : ("cut".toList == "spec".toList) = false := by decide +kernel
  simp only [e, e1, e2, Bool.or_self, Bool.true_or, if_true, Bool.false_eq_true, if_false]
theorem hdStrip (R : List (List Char)) : stripLifts liftWords ("cut".toList :: R) = ([], "cut".toList :: R) := by
  generalize hx : "cut".toList = x
  have this : ∀ o ∈ liftWords, (x == o.toList) = false := by subst hx; decide +kernel
  have gen : ∀ l : List String, (∀ o ∈ l, (x == o.toList) = false) → stripLifts l (x :: R) = ([], x :: R) := by
    intro l
    induction l with
    | nil => intro _; rfl
    | cons o l ih =>
      intro h
      unfold stripLifts
      rw [h o List.mem_cons_self]
      exact ih (fun o' h' => h o' (List.mem_cons_of_mem _ h'))
  exact gen _ this
theorem lifts_of (P : Program) (R : List (List Char)) (h : behindMainWord (wordsSigns P.initOrder.toList) = "cut".toList :: R) : P.headLifts = [] := by
  unfold Program.headLifts
  rw [h, hdStrip]
  simp
theorem final_of (P : Program) (R : List (List Char)) (h : behindMainWord (wordsSigns P.initOrder.toList) = "cut".toList :: R) : P.liftsFinal = false := by
  unfold Program.liftsFinal
  rw [lifts_of P R h, h]
  simp
theorem enter_of (P : Program) (R : List (List Char)) (h : behindMainWord (wordsSigns P.initOrder.toList) = "cut".toList :: R) (h1 : P.laysLater = false) (h2 : P.bearsReflect = false) (h3 : P.doorFits [] = true) : P.mayEnter = true := by
  unfold Program.mayEnter
  rw [h]
  simp only [hdStrip]
  simp [h1, h2, h3]
theorem mayEnter_eq : Tryd.prog.mayEnter = true := enter_of _ _ headB (by kernel_rfl) (by kernel_rfl) (by kernel_rfl)
theorem liftsFinal_eq : Tryd.prog.liftsFinal = false := final_of _ _ headB
theorem make_eq : Tryd.prog.make = some Make.cut := make_of _ _ headB
end Go.Proofs.YtglghdkjppcedaaDoor
