/- The walk of 'FnClusters': the proximity matrix, its inverse, excesses, orders, satellites and simple clusters say the same of a cluster. -/
import Derived.Test.YtiinceflafigeaaCluC
namespace Go.Proofs.Ytiinceflafigeaa.fnClusters
open Go.RowKit

set_option maxRecDepth 100000 in
set_option maxHeartbeats 16000000 in
theorem walk (w : World) (a0 : Value) (C : List Int) (h : Rd8 w a0 C) :
    Calls Try.prog 9 #[a0] w fun e w' => e = .returned (.bool true) ∧ Below w.heap.size w w' := by
  by_cases hC : C.length ≤ 4096
  · skip
    obtain ⟨a, cap, he, _⟩ := id h
    subst he
    go_enter Try.func9, Try.ntmps9
    go_wp2_with fail
    refine (big_no _ C _ h hC).mono ?_
    rintro e w' ⟨rfl, rfl⟩
    go_wp2_with fail
    refine (drawProximityMatrix_w _ C _ h).mono ?_
    rintro e w1 ⟨m, n3, a1, b1, d1, i1, j1, k1, P, S, W, rfl, hp, hs, hw, lp, ls, lw, hm1, hm2, hn3, hq⟩
    have HLP := Lib.hid lp
    have HLS := Lib.hid ls
    have HLW := Lib.hid lw
    clear lp ls lw
    obtain ⟨kR, hkR⟩ : ∃ k, (okR (cluB P S W) (pmL P S)).length = k := ⟨_, rfl⟩
    obtain ⟨kQ, hkQ⟩ : ∃ k, (okR (cluB P S W) (miL P S)).length = k := ⟨_, rfl⟩
    have HKR := Lib.hid hkR
    have HKQ := Lib.hid hkQ
    clear hkR hkQ
    replace h := h.below hq (Nat.le_refl _)
    have fr : Below w.heap.size w _ := hq
    have Bc := Blk.new w1 40 #[.slice a1 m i1, .slice b1 m j1, .slice d1 n3 k1]
    have hal : Below w1.heap.size w1 (w1.alloc (.cells #[.slice a1 m i1, .slice b1 m j1, .slice d1 n3 k1] 40)) := (Below.refl _ _).alloc (Nat.le_refl _) _
    replace h := h.below hal (Nat.le_refl _)
    replace hp := hp.below hal (Nat.le_refl _)
    replace hs := hs.below hal (Nat.le_refl _)
    replace hw := hw.below hal (Nat.le_refl _)
    replace fr := below_step fr hal
    clear hal
    have q_Bc_0 := Bc.cell 0
    have q_Bc_1 := Bc.cell 1
    have q_Bc_2 := Bc.cell 2
    go_wp2_with fail
    clear q_Bc_0 q_Bc_1 q_Bc_2
    refine (implPM_v _ _ _ P S W kR _ hp hs hw HKR.out).mono ?_
    rintro e w2 ⟨a2, k2, rfl, r1, hq⟩
    replace Bc := Bc.stays hq
    replace h := h.below hq (Nat.le_refl _)
    replace hp := hp.below hq (Nat.le_refl _)
    replace hs := hs.below hq (Nat.le_refl _)
    replace hw := hw.below hq (Nat.le_refl _)
    replace fr := below_step fr hq
    have q_Bc_0 := Bc.cell 0
    have q_Bc_1 := Bc.cell 1
    have q_Bc_2 := Bc.cell 2
    go_wp2_with fail
    clear q_Bc_0 q_Bc_1 q_Bc_2
    refine (specPM_v _ _ _ P S W kR _ hp hs hw HKR.out).mono ?_
    rintro e w3 ⟨a3, k3, rfl, r2, hq⟩
    replace Bc := Bc.stays hq
    replace h := h.below hq (Nat.le_refl _)
    replace hp := hp.below hq (Nat.le_refl _)
    replace hs := hs.below hq (Nat.le_refl _)
    replace hw := hw.below hq (Nat.le_refl _)
    replace r1 := r1.below hq (Nat.le_refl _)
    replace fr := below_step fr hq
    have q_Bc_0 := Bc.cell 0
    have q_Bc_1 := Bc.cell 1
    have q_Bc_2 := Bc.cell 2
    go_wp2_with fail
    clear q_Bc_0 q_Bc_1 q_Bc_2
    refine (implIP_v _ _ _ P S W kQ _ hp hs hw HKQ.out).mono ?_
    rintro e w4 ⟨a4, k4, rfl, r3, hq⟩
    replace Bc := Bc.stays hq
    replace h := h.below hq (Nat.le_refl _)
    replace hp := hp.below hq (Nat.le_refl _)
    replace hs := hs.below hq (Nat.le_refl _)
    replace hw := hw.below hq (Nat.le_refl _)
    replace r1 := r1.below hq (Nat.le_refl _)
    replace r2 := r2.below hq (Nat.le_refl _)
    replace fr := below_step fr hq
    have q_Bc_0 := Bc.cell 0
    have q_Bc_1 := Bc.cell 1
    have q_Bc_2 := Bc.cell 2
    go_wp2_with fail
    clear q_Bc_0 q_Bc_1 q_Bc_2
    refine (specIP_v _ _ _ P S W kQ _ hp hs hw HKQ.out).mono ?_
    rintro e w5 ⟨a5, k5, rfl, r4, hq⟩
    replace Bc := Bc.stays hq
    replace h := h.below hq (Nat.le_refl _)
    replace hp := hp.below hq (Nat.le_refl _)
    replace hs := hs.below hq (Nat.le_refl _)
    replace hw := hw.below hq (Nat.le_refl _)
    replace r1 := r1.below hq (Nat.le_refl _)
    replace r2 := r2.below hq (Nat.le_refl _)
    replace r3 := r3.below hq (Nat.le_refl _)
    replace fr := below_step fr hq
    obtain ⟨R, hR⟩ : ∃ R, okR (cluB P S W) (pmL P S) = R := ⟨_, rfl⟩
    obtain ⟨Q, hQ⟩ : ∃ Q, okR (cluB P S W) (miL P S) = Q := ⟨_, rfl⟩
    obtain ⟨cc, hcc⟩ : ∃ cc, okC (cluB P S W) 1 = cc := ⟨_, rfl⟩
    rw [hR] at r1 r2 HKR
    rw [hQ] at r3 r4 HKQ
    rw [hcc]
    have HR := Lib.hid hR
    have HQ := Lib.hid hQ
    have HCC := Lib.hid hcc
    have hccb : (cc != cc) = false := by simp
    clear hR hQ hcc
    obtain ⟨bb, hbb⟩ : ∃ bb, cluB P S W = bb := ⟨_, rfl⟩
    have HBB := Lib.hid hbb
    have hbbb : (bb != bb) = false := by simp
    clear hbb
    have q_Bc_0 := Bc.cell 0
    have q_Bc_1 := Bc.cell 1
    have q_Bc_2 := Bc.cell 2
    go_upto_region 8 with fail
    clear q_Bc_0 q_Bc_1 q_Bc_2
    go_cut [85] from 59 to 85 (fun s wc => s = .bool false ∧ Below w5.heap.size w5 wc)
    case first =>
      clear fr
      have q_Bc_0 := Bc.cell 0
      have q_Bc_1 := Bc.cell 1
      have q_Bc_2 := Bc.cell 2
      go_wp2_with fail
      have HC : w5.cell? ⟨w1.heap.size, 0, none⟩ = some (.slice a1 m i1) ∧ w5.cell? ⟨w1.heap.size, 1, none⟩ = some (.slice b1 m j1) ∧ w5.cell? ⟨w1.heap.size, 2, none⟩ = some (.slice d1 n3 k1) := ⟨q_Bc_0, q_Bc_1, q_Bc_2⟩
      clear q_Bc_0 q_Bc_1 q_Bc_2
      have hq : Below w5.heap.size w5 w5.drew := (Below.refl _ _).drew
      replace Bc := Bc.stays hq
      replace h := h.below hq (Nat.le_refl _)
      replace hp := hp.below hq (Nat.le_refl _)
      replace hs := hs.below hq (Nat.le_refl _)
      replace hw := hw.below hq (Nat.le_refl _)
      replace r1 := r1.below hq (Nat.le_refl _)
      replace r2 := r2.below hq (Nat.le_refl _)
      replace r3 := r3.below hq (Nat.le_refl _)
      replace r4 := r4.below hq (Nat.le_refl _)
      have fr : Below w5.heap.size w5 _ := hq
      clear hq
      go_region_held3 (fun w' => w'.cell? ⟨w1.heap.size, 0, none⟩ = some (.slice a1 m i1) ∧ w'.cell? ⟨w1.heap.size, 1, none⟩ = some (.slice b1 m j1) ∧ w'.cell? ⟨w1.heap.size, 2, none⟩ = some (.slice d1 n3 k1))
        (first | assumption | exact HC)
        (first
          | (go_at_call 75; (with_reducible refine (likeRows5_c _ _ R _ r1 r2).mono ?_); rintro e wa1 ⟨rfl, hq⟩; have Bc := Bc.stays hq; have h := h.below hq (Nat.le_refl _); have hp := hp.below hq (Nat.le_refl _); have hs := hs.below hq (Nat.le_refl _); have hw := hw.below hq (Nat.le_refl _); have r1 := r1.below hq (Nat.le_refl _); have r2 := r2.below hq (Nat.le_refl _); have r3 := r3.below hq (Nat.le_refl _); have r4 := r4.below hq (Nat.le_refl _); have fr := below_step fr hq; have HC : wa1.cell? ⟨w1.heap.size, 0, none⟩ = some (.slice a1 m i1) ∧ wa1.cell? ⟨w1.heap.size, 1, none⟩ = some (.slice b1 m j1) ∧ wa1.cell? ⟨w1.heap.size, 2, none⟩ = some (.slice d1 n3 k1) := ⟨Bc.cell 0, Bc.cell 1, Bc.cell 2⟩)
          | (go_at_call 75; (with_reducible refine (likeRows5_c _ _ Q _ r3 r4).mono ?_); rintro e wa2 ⟨rfl, hq⟩; have Bc := Bc.stays hq; have h := h.below hq (Nat.le_refl _); have hp := hp.below hq (Nat.le_refl _); have hs := hs.below hq (Nat.le_refl _); have hw := hw.below hq (Nat.le_refl _); have r1 := r1.below hq (Nat.le_refl _); have r2 := r2.below hq (Nat.le_refl _); have r3 := r3.below hq (Nat.le_refl _); have r4 := r4.below hq (Nat.le_refl _); have fr := below_step fr hq; have HC : wa2.cell? ⟨w1.heap.size, 0, none⟩ = some (.slice a1 m i1) ∧ wa2.cell? ⟨w1.heap.size, 1, none⟩ = some (.slice b1 m j1) ∧ wa2.cell? ⟨w1.heap.size, 2, none⟩ = some (.slice d1 n3 k1) := ⟨Bc.cell 0, Bc.cell 1, Bc.cell 2⟩)
          | (go_at_call 76; (with_reducible refine (implIsCluster_c _ _ _ P S W _ hp hs hw).mono ?_); rintro e wa3 ⟨rfl, hq⟩; rw [HBB.out]; have Bc := Bc.stays hq; have h := h.below hq (Nat.le_refl _); have hp := hp.below hq (Nat.le_refl _); have hs := hs.below hq (Nat.le_refl _); have hw := hw.below hq (Nat.le_refl _); have r1 := r1.below hq (Nat.le_refl _); have r2 := r2.below hq (Nat.le_refl _); have r3 := r3.below hq (Nat.le_refl _); have r4 := r4.below hq (Nat.le_refl _); have fr := below_step fr hq; have HC : wa3.cell? ⟨w1.heap.size, 0, none⟩ = some (.slice a1 m i1) ∧ wa3.cell? ⟨w1.heap.size, 1, none⟩ = some (.slice b1 m j1) ∧ wa3.cell? ⟨w1.heap.size, 2, none⟩ = some (.slice d1 n3 k1) := ⟨Bc.cell 0, Bc.cell 1, Bc.cell 2⟩)
          | (go_at_call 77; (with_reducible refine (specIsCluster_c _ _ _ P S W _ hp hs hw).mono ?_); rintro e wa4 ⟨rfl, hq⟩; rw [HBB.out]; have Bc := Bc.stays hq; have h := h.below hq (Nat.le_refl _); have hp := hp.below hq (Nat.le_refl _); have hs := hs.below hq (Nat.le_refl _); have hw := hw.below hq (Nat.le_refl _); have r1 := r1.below hq (Nat.le_refl _); have r2 := r2.below hq (Nat.le_refl _); have r3 := r3.below hq (Nat.le_refl _); have r4 := r4.below hq (Nat.le_refl _); have fr := below_step fr hq; have HC : wa4.cell? ⟨w1.heap.size, 0, none⟩ = some (.slice a1 m i1) ∧ wa4.cell? ⟨w1.heap.size, 1, none⟩ = some (.slice b1 m j1) ∧ wa4.cell? ⟨w1.heap.size, 2, none⟩ = some (.slice d1 n3 k1) := ⟨Bc.cell 0, Bc.cell 1, Bc.cell 2⟩)
          | fail)
      go_wp2
      go_meet
      exact ⟨rfl, fr⟩
    case rest =>
      obtain ⟨rfl, hq⟩ := hcut
      clear r2 r4
      replace Bc := Bc.stays hq
      replace h := h.below hq (Nat.le_refl _)
      replace hp := hp.below hq (Nat.le_refl _)
      replace hs := hs.below hq (Nat.le_refl _)
      replace hw := hw.below hq (Nat.le_refl _)
      replace r1 := r1.below hq (Nat.le_refl _)
      replace r3 := r3.below hq (Nat.le_refl _)
      replace fr := below_step fr hq
      have q_Bc_0 := Bc.cell 0
      have q_Bc_1 := Bc.cell 1
      have q_Bc_2 := Bc.cell 2
      go_upto_if 87 with fail
      clear q_Bc_0 q_Bc_1 q_Bc_2
      go_cut [] from 12 to 224 (fun wd => Below wc.heap.size wc wd)
      case first =>
        cases hb : cluB P S W
        · skip
          have hz : (cc == 0) = false := by rw [← HCC.out, hb]; rfl
          have q_Bc_0 := Bc.cell 0
          have q_Bc_1 := Bc.cell 1
          have q_Bc_2 := Bc.cell 2
          go_wp2
          clear q_Bc_0 q_Bc_1 q_Bc_2
          go_meet
          exact Below.refl _ _
        · skip
          clear fr h
          have hz : (cc == 0) = true := by rw [← HCC.out, hb]; rfl
          have hcl := cluB_iff.1 hb
          obtain rfl : m = n3 := by have := hcl.1.2.2.2; rw [HLP.out, HLW.out] at this; exact this.symm
          obtain ⟨E, hE⟩ : ∃ E, exTo (proxL P S) W P.length = E := ⟨_, rfl⟩
          obtain ⟨A, hA⟩ : ∃ A, ordTo (fun j => gI W j) P S P.length = A := ⟨_, rfl⟩
          have hf : ClF P S W E A R Q m := by rw [← hE, ← hA, ← HR.out, ← HQ.out, hb, okR_true rfl, okR_true rfl]; exact clF hcl HLP.out
          obtain rfl : m = kR := by rw [← HKR.out]; exact hf.lR.symm
          obtain rfl : m = kQ := by rw [← HKQ.out]; exact hf.lQ.symm
          have HF := Lib.hid hf
          have HE := Lib.hid hE
          have HA := Lib.hid hA
          clear hf hE hA hb hcl HR HQ HKR HKQ HCC HBB hbbb
          have q_Bc_0 := Bc.cell 0
          have q_Bc_1 := Bc.cell 1
          have q_Bc_2 := Bc.cell 2
          go_wp2_with fail
          clear q_Bc_0 q_Bc_1 q_Bc_2
          refine (square5_c _ m _ R _ r1 HF.out.lR HF.out.rR hm1 (by omega)).mono ?_
          rintro e w' ⟨rfl, rfl⟩
          have q_Bc_0 := Bc.cell 0
          have q_Bc_1 := Bc.cell 1
          have q_Bc_2 := Bc.cell 2
          go_wp2_with fail
          clear q_Bc_0 q_Bc_1 q_Bc_2
          refine (square5_c _ m _ Q _ r3 HF.out.lQ HF.out.rQ hm1 (by omega)).mono ?_
          rintro e w' ⟨rfl, rfl⟩
          have q_Bc_0 := Bc.cell 0
          have q_Bc_1 := Bc.cell 1
          have q_Bc_2 := Bc.cell 2
          go_wp2_with fail
          clear q_Bc_0 q_Bc_1 q_Bc_2
          refine (times5_c _ _ m _ _ R Q _ r1 r3 HF.out.lR HF.out.lQ hm1 hm2 HF.out.rR HF.out.rQ HF.out.bR HF.out.bQ).mono ?_
          rintro e w6 ⟨aM, kM, rfl, rM, hq⟩
          rw [HF.out.inv] at rM
          replace Bc := Bc.stays hq
          replace hp := hp.below hq (Nat.le_refl _)
          replace hs := hs.below hq (Nat.le_refl _)
          replace hw := hw.below hq (Nat.le_refl _)
          replace r1 := r1.below hq (Nat.le_refl _)
          replace r3 := r3.below hq (Nat.le_refl _)
          have fr : Below wc.heap.size wc _ := hq
          have q_Bc_0 := Bc.cell 0
          have q_Bc_1 := Bc.cell 1
          have q_Bc_2 := Bc.cell 2
          go_wp2_with fail
          clear q_Bc_0 q_Bc_1 q_Bc_2
          refine (unit5_c m _ hm2).mono ?_
          rintro e w7 ⟨aU, kU, rfl, rU, hq⟩
          replace Bc := Bc.stays hq
          replace hp := hp.below hq (Nat.le_refl _)
          replace hs := hs.below hq (Nat.le_refl _)
          replace hw := hw.below hq (Nat.le_refl _)
          replace r1 := r1.below hq (Nat.le_refl _)
          replace r3 := r3.below hq (Nat.le_refl _)
          replace rM := rM.below hq (Nat.le_refl _)
          replace fr := below_step fr hq
          have q_Bc_0 := Bc.cell 0
          have q_Bc_1 := Bc.cell 1
          have q_Bc_2 := Bc.cell 2
          go_wp2_with fail
          clear q_Bc_0 q_Bc_1 q_Bc_2
          refine (likeRows5_c _ _ (unitR m) _ rM rU).mono ?_
          rintro e w8 ⟨rfl, hq⟩
          replace Bc := Bc.stays hq
          replace hp := hp.below hq (Nat.le_refl _)
          replace hs := hs.below hq (Nat.le_refl _)
          replace hw := hw.below hq (Nat.le_refl _)
          replace r1 := r1.below hq (Nat.le_refl _)
          replace r3 := r3.below hq (Nat.le_refl _)
          replace rM := rM.below hq (Nat.le_refl _)
          replace rU := rU.below hq (Nat.le_refl _)
          replace fr := below_step fr hq
          clear rM rU r3
          have q_Bc_0 := Bc.cell 0
          have q_Bc_1 := Bc.cell 1
          have q_Bc_2 := Bc.cell 2
          go_wp2_with fail
          clear q_Bc_0 q_Bc_1 q_Bc_2
          refine (excess_ok _ _ _ P S W E m _ hp hs hw HF.out.old HE.out HF.out.lE).mono ?_
          rintro e w9 ⟨aE, kE, rfl, rE, hq⟩
          replace Bc := Bc.stays hq
          replace hp := hp.below hq (Nat.le_refl _)
          replace hs := hs.below hq (Nat.le_refl _)
          replace hw := hw.below hq (Nat.le_refl _)
          replace r1 := r1.below hq (Nat.le_refl _)
          replace fr := below_step fr hq
          have q_Bc_0 := Bc.cell 0
          have q_Bc_1 := Bc.cell 1
          have q_Bc_2 := Bc.cell 2
          go_wp2_with fail
          clear q_Bc_0 q_Bc_1 q_Bc_2
          refine (orders_ok _ _ _ P S W m _ hp hs hw HF.out.old HLP.out).mono ?_
          rintro e w10 ⟨aO, kO, rfl, rO, hq⟩
          rw [HA.out] at rO
          replace Bc := Bc.stays hq
          replace hp := hp.below hq (Nat.le_refl _)
          replace hs := hs.below hq (Nat.le_refl _)
          replace hw := hw.below hq (Nat.le_refl _)
          replace r1 := r1.below hq (Nat.le_refl _)
          replace rE := rE.below hq (Nat.le_refl _)
          replace fr := below_step fr hq
          have q_Bc_0 := Bc.cell 0
          have q_Bc_1 := Bc.cell 1
          have q_Bc_2 := Bc.cell 2
          go_wp2_with fail
          clear q_Bc_0 q_Bc_1 q_Bc_2
          refine (consist_c _ _ _ P S W (nonNeg E) _ hp hs hw HF.out.old (by rw [HE.out])).mono ?_
          rintro e w11 ⟨rfl, hq⟩
          replace Bc := Bc.stays hq
          replace hp := hp.below hq (Nat.le_refl _)
          replace hs := hs.below hq (Nat.le_refl _)
          replace hw := hw.below hq (Nat.le_refl _)
          replace r1 := r1.below hq (Nat.le_refl _)
          replace rE := rE.below hq (Nat.le_refl _)
          replace rO := rO.below hq (Nat.le_refl _)
          replace fr := below_step fr hq
          obtain ⟨gb, hgb⟩ : ∃ gb, nonNeg E = gb := ⟨_, rfl⟩
          rw [hgb]
          have hgbb : (gb != gb) = false := by simp
          have HGB := Lib.hid (show gdB E m = gb by rw [gdB_all HF.out.lE]; exact hgb)
          clear hgb
          have hp0 : 0 < m := hm1
          have HRC := Lib.hid (r1.atR HF.out.lR hm1 HF.out.rR)
          obtain ⟨bE, oE, rfl, hbE, hcE⟩ := rE.atN HF.out.lE hm1
          have HCE := Lib.hid hcE
          clear hcE
          obtain ⟨bW, oW, rfl, hbW, hcW⟩ := hw.atN HLW.out hm1
          have HCW := Lib.hid hcW
          clear hcW
          obtain ⟨bP, oP, rfl, hbP, hcP⟩ := HRC.out
          have HCP := Lib.hid hcP
          clear hcP HRC
          have hbC := Bc.lt
          have q_Bc_0 := Bc.cell 0
          have q_Bc_1 := Bc.cell 1
          have q_Bc_2 := Bc.cell 2
          go_wp2_with fail
          clear q_Bc_0 q_Bc_1 q_Bc_2
          go_loopw [19, 20] (fun gv iv wr => ∃ k : Nat, k ≤ m ∧ iv = .int .i64 (k : Int) ∧ gv = .bool (gdB E k) ∧ Drew w11 wr) (fun _ iv _ => m - (intOf iv).toNat)
          case atStart => exact ⟨0, Nat.zero_le _, rfl, by simp [gdB], Drew.refl _⟩
          case round =>
            obtain ⟨k, hk, rfl, rfl, hdr⟩ := hrel
            obtain ⟨wo, rfl⟩ : ∃ wo : World, wo = wr := ⟨_, rfl⟩
            by_cases hlt : k < m
            · have hki : (k : Int) < (m : Int) := by omega
              have hk0 : (0 : Int) ≤ (k : Int) := by omega
              have HD := Lib.hid hdr
              have HG := Lib.hid (show ∀ x, x = gI E k → gdB E (k + 1) = (gdB E k && decide (0 ≤ x)) from fun x hx => by
                by_cases h0 : 0 ≤ x
                · rw [gdB_yes (by rw [← hx]; exact h0), decide_eq_true h0, Bool.and_true]
                · rw [gdB_no (by rw [← hx]; exact h0), decide_eq_false h0, Bool.and_false])
              clear hdr
              obtain ⟨gk, hgk⟩ : ∃ gk, gdB E k = gk := ⟨_, rfl⟩
              rw [hgk] at HG
              rw [hgk]
              clear hgk
              go_wp2_with fail
              go_loopw [21, 22] (fun lv jv wr => ∃ j : Nat, j ≤ m ∧ jv = .int .i64 (j : Int) ∧ lv = .int .i64 (colT R W k j) ∧ Drew w11 wr) (fun _ jv _ => m - (intOf jv).toNat)
              case atStart => exact ⟨0, Nat.zero_le _, rfl, rfl, HD.out⟩
              case round =>
                obtain ⟨j, hj, rfl, rfl, hdr⟩ := hrel
                clear HD
                obtain ⟨wp, rfl⟩ : ∃ wp : World, wp = wr := ⟨_, rfl⟩
                have hdb := hdr.below w11.heap.size
                by_cases hltj : j < m
                · obtain ⟨ar, kr, d1, rd1⟩ := HCP.out j hltj
                  obtain ⟨br, or, rfl, hbr, hcr⟩ := rd1.atN (HF.out.rR j hltj) hm1
                  have d2 := hcr k hlt
                  have d3 := HCW.out j hltj
                  have d4 : w11.cell? ⟨w1.heap.size, 2, none⟩ = some (.slice (some ⟨bW, oW, none⟩) m k1) := Bc.cell 2
                  rw [← hdb.cell (p := ⟨bP, oP + j, none⟩) hbP] at d1
                  rw [← hdb.cell (p := ⟨br, or + k, none⟩) hbr] at d2
                  rw [← hdb.cell (p := ⟨bW, oW + j, none⟩) hbW] at d3
                  rw [← hdb.cell (p := ⟨w1.heap.size, 2, none⟩) hbC] at d4
                  have hc1 := colT_small HF.out hlt (Nat.le_of_lt hltj) hm2
                  have hb1 := HF.out.bR j hltj k hlt
                  have hb2 := HF.out.bW j hltj
                  have hpr := mul_abs_le (B := 1) (C := 100000) hb1 hb2
                  have HS := Lib.hid (colT_succ R W k j)
                  have HD := Lib.hid hdr
                  have hjj : (j : Int) < (m : Int) := by omega
                  have hj0 : (0 : Int) ≤ (j : Int) := by omega
                  clear hdr hdb rd1 hcr
                  generalize gI (gR R j) k = x at *
                  generalize gI W j = y at *
                  generalize colT R W k j = t at *
                  generalize hz : x * y = z at *
                  have e1 : IntKind.i64.wrap (x * y) = z := by rw [hz]; exact IntWalk.i64_in _ (by omega)
                  have e2 : IntKind.i64.wrap z = z := IntWalk.i64_in _ (by omega)
                  have e3 : IntKind.i64.wrap (t + z) = t + z := IntWalk.i64_in _ (by omega)
                  go_wp2_with fail
                  go_quiet (fail)
                  go_wp2
                  go_roundw
                  case rel => exact ⟨j + 1, by omega, by go_num, by rw [HS.out], HD.out.trans (Drew.one _ _)⟩
                  case measure => simp [intOf]; omega
                · have hje : j = m := by omega
                  have hcol := colT_all HF.out hlt
                  have hki2 : ¬ (j : Int) < (m : Int) := by omega
                  have dE := HCE.out k hlt
                  rw [← hdb.cell (p := ⟨bE, oE + k, none⟩) hbE] at dE
                  rw [hje, hcol]
                  clear hcol
                  subst hje
                  have HG2 := Lib.hid (HG.out _ rfl)
                  have HD := Lib.hid hdr
                  clear hdr HG
                  obtain ⟨x, hx⟩ : ∃ x, gI E k = x := ⟨_, rfl⟩
                  rw [hx] at dE HG2
                  rw [hx]
                  have hxx : (x != x) = false := by simp
                  clear hx
                  go_upto_region 28 with fail
                  go_cut [19] from 147 to 199 (fun s wc => s = .bool (gk && decide (0 ≤ x)) ∧ wp = wc)
                  case first =>
                    cases gk
                    · go_wp2
                      go_meet
                      exact ⟨rfl, rfl⟩
                    · by_cases h0 : 0 ≤ x
                      · go_wp2
                        go_meet
                        exact ⟨by simp [h0], rfl⟩
                      · go_wp2
                        go_meet
                        exact ⟨by simp [h0], rfl⟩
                  case rest =>
                    obtain ⟨rfl, rfl⟩ := hcut
                    rw [← HG2.out]
                    clear HG2
                    obtain ⟨gk1, hgk1⟩ : ∃ g, gdB E (k + 1) = g := ⟨_, rfl⟩
                    rw [hgk1]
                    have HG1 := Lib.hid hgk1
                    clear hgk1
                    obtain ⟨ar, kr, d1, rd1⟩ := HCP.out k hlt
                    have d3 := HCW.out k hlt
                    have d4 : w11.cell? ⟨w1.heap.size, 2, none⟩ = some (.slice (some ⟨bW, oW, none⟩) j k1) := Bc.cell 2
                    have hdot := HF.out.dot k hlt
                    rw [← hdb.cell (p := ⟨bP, oP + k, none⟩) hbP] at d1
                    rw [← hdb.cell (p := ⟨bW, oW + k, none⟩) hbW] at d3
                    rw [← hdb.cell (p := ⟨w1.heap.size, 2, none⟩) hbC] at d4
                    have hdd : Below w11.heap.size w11 wp.drew := hdb.drew
                    have rpd := rd1.below hdd (Nat.le_refl _)
                    have rod := rO.below hdd (Nat.le_refl _)
                    clear rd1 hdd hdb
                    obtain ⟨y, hy⟩ : ∃ y, gI W k = y := ⟨_, rfl⟩
                    rw [hy] at d3 hdot
                    have hyy : (y != y) = false := by simp
                    have HDOT := Lib.hid hdot
                    clear hy hdot
                    have HC : wp.cell? ⟨bP, oP + k, none⟩ = some (.slice ar j kr) ∧ wp.cell? ⟨bE, oE + k, none⟩ = some (.int .i64 x) ∧ wp.cell? ⟨w1.heap.size, 2, none⟩ = some (.slice (some ⟨bW, oW, none⟩) j k1) ∧ wp.cell? ⟨bW, oW + k, none⟩ = some (.int .i64 y) := ⟨d1, dE, d4, d3⟩
                    have HCd : wp.drew.cell? ⟨bP, oP + k, none⟩ = some (.slice ar j kr) ∧ wp.drew.cell? ⟨bE, oE + k, none⟩ = some (.int .i64 x) ∧ wp.drew.cell? ⟨w1.heap.size, 2, none⟩ = some (.slice (some ⟨bW, oW, none⟩) j k1) ∧ wp.drew.cell? ⟨bW, oW + k, none⟩ = some (.int .i64 y) := ⟨d1, dE, d4, d3⟩
                    go_wp2_with fail
                    go_region_held3 (fun w' => w'.cell? ⟨bP, oP + k, none⟩ = some (.slice ar j kr) ∧ w'.cell? ⟨bE, oE + k, none⟩ = some (.int .i64 x) ∧ w'.cell? ⟨w1.heap.size, 2, none⟩ = some (.slice (some ⟨bW, oW, none⟩) j k1) ∧ w'.cell? ⟨bW, oW + k, none⟩ = some (.int .i64 y))
                      (first | assumption | exact HC | exact HCd)
                      (first
                        | (go_at_call 41; (with_reducible refine (product5_c _ _ j _ _ (gR R k) A _ rpd rod (HF.out.rR k hlt) HF.out.lA hp0 hm2 (dot_small HF.out hlt)).mono ?_); rintro e wa ⟨rfl, hd⟩; rw [HDOT.out]; have HD3 := HD.out.to.trans hd; have HC : wa.cell? ⟨bP, oP + k, none⟩ = some (.slice ar j kr) ∧ wa.cell? ⟨bE, oE + k, none⟩ = some (.int .i64 x) ∧ wa.cell? ⟨w1.heap.size, 2, none⟩ = some (.slice (some ⟨bW, oW, none⟩) j k1) ∧ wa.cell? ⟨bW, oW + k, none⟩ = some (.int .i64 y) := ⟨(hd.cell _).trans HCd.1, (hd.cell _).trans HCd.2.1, (hd.cell _).trans HCd.2.2.1, (hd.cell _).trans HCd.2.2.2⟩)
                        | fail)
                    go_wp2
                    go_roundw
                    case rel => exact ⟨k + 1, by omega, by go_num, by rw [HG1.out], HD3⟩
                    case measure => simp [intOf]; omega
            · have hke : k = m := by omega
              have hgm := HGB.out
              rw [hke, hgm]
              clear hgm
              have hki : ¬ (k : Int) < (m : Int) := by omega
              have hq := hdr.below w11.heap.size
              clear hdr HCP HCE HCW hbE hbW hbP hbC
              rw [hke] at hki
              clear hke
              clear r1 rE rO
              replace Bc := Bc.stays hq
              replace hp := hp.below hq (Nat.le_refl _)
              replace hs := hs.below hq (Nat.le_refl _)
              replace hw := hw.below hq (Nat.le_refl _)
              replace fr := below_step fr hq
              clear hq
              obtain ⟨Z, hZ⟩ : ∃ Z, satTo S S.length = Z := ⟨_, rfl⟩
              obtain ⟨nz, hnz⟩ : ∃ nz, Z.length = nz := ⟨_, rfl⟩
              have HS := Lib.hid (show ∀ x, x < m → hasB Z (x : Int) = decide (0 ≤ gI S x) from fun x hx => by rw [← hZ, HLS.out]; exact sat_has hx)
              have HZ := Lib.hid hZ
              have HNZ := Lib.hid hnz
              clear hZ hnz
              have q_Bc_0 := Bc.cell 0
              have q_Bc_1 := Bc.cell 1
              have q_Bc_2 := Bc.cell 2
              go_wp2_with fail
              clear q_Bc_0 q_Bc_1 q_Bc_2
              refine (satel_ok _ _ _ P S W Z nz _ hp hs hw HF.out.old HZ.out HNZ.out).mono ?_
              rintro e w12 ⟨aT, kT, rfl, rT, hq⟩
              replace Bc := Bc.stays hq
              replace hp := hp.below hq (Nat.le_refl _)
              replace hs := hs.below hq (Nat.le_refl _)
              replace hw := hw.below hq (Nat.le_refl _)
              replace fr := below_step fr hq
              obtain ⟨bS, oS, rfl, hbS, hcS⟩ := hs.atN HLS.out hm1
              have HCS := Lib.hid hcS
              clear hcS
              have hbC := Bc.lt
              have q_Bc_0 := Bc.cell 0
              have q_Bc_1 := Bc.cell 1
              have q_Bc_2 := Bc.cell 2
              go_wp2_with fail
              clear q_Bc_0 q_Bc_1 q_Bc_2
              go_loopw [25] (fun iv wr => ∃ k : Nat, k ≤ m ∧ iv = .int .i64 (k : Int) ∧ Drew w12 wr) (fun iv _ => m - (intOf iv).toNat)
              case atStart => exact ⟨0, Nat.zero_le _, rfl, Drew.refl _⟩
              case round =>
                obtain ⟨k, hk, rfl, hdr⟩ := hrel
                obtain ⟨wo, rfl⟩ : ∃ wo : World, wo = wr := ⟨_, rfl⟩
                have hdb := hdr.below w12.heap.size
                by_cases hlt : k < m
                · have hki : (k : Int) < (m : Int) := by omega
                  have hk0 : (0 : Int) ≤ (k : Int) := by omega
                  have d3 := HCS.out k hlt
                  have d4 : w12.cell? ⟨w1.heap.size, 1, none⟩ = some (.slice (some ⟨bS, oS, none⟩) m j1) := Bc.cell 1
                  have hsat := HS.out k hlt
                  rw [← hdb.cell (p := ⟨bS, oS + k, none⟩) hbS] at d3
                  rw [← hdb.cell (p := ⟨w1.heap.size, 1, none⟩) hbC] at d4
                  have hdd : Below w12.heap.size w12 wo.drew := hdb.drew
                  have rtd := rT.below hdd (Nat.le_refl _)
                  have HD := Lib.hid hdr
                  clear hdr hdb hdd
                  obtain ⟨y, hy⟩ : ∃ y, gI S k = y := ⟨_, rfl⟩
                  rw [hy] at d3 hsat
                  have HSAT := Lib.hid hsat
                  clear hy hsat
                  have HC : wo.cell? ⟨w1.heap.size, 1, none⟩ = some (.slice (some ⟨bS, oS, none⟩) m j1) ∧ wo.cell? ⟨bS, oS + k, none⟩ = some (.int .i64 y) := ⟨d4, d3⟩
                  have HCd : wo.drew.cell? ⟨w1.heap.size, 1, none⟩ = some (.slice (some ⟨bS, oS, none⟩) m j1) ∧ wo.drew.cell? ⟨bS, oS + k, none⟩ = some (.int .i64 y) := ⟨d4, d3⟩
                  have hyb : (decide (0 ≤ y) != decide (0 ≤ y)) = false := by simp
                  go_wp2_with fail
                  go_region_held3 (fun w' => w'.cell? ⟨w1.heap.size, 1, none⟩ = some (.slice (some ⟨bS, oS, none⟩) m j1) ∧ w'.cell? ⟨bS, oS + k, none⟩ = some (.int .i64 y))
                    (first | assumption | exact HC | exact HCd)
                    (first
                      | (go_at_call 38; (with_reducible refine (hasInt_c _ Z _ _ rtd).mono ?_); rintro e wa ⟨rfl, rfl⟩; rw [HSAT.out])
                      | fail)
                  go_wp2
                  go_roundw
                  case rel => exact ⟨k + 1, by omega, by go_num, HD.out.to⟩
                  case measure => simp [intOf]; omega
                · have hki : ¬ (k : Int) < (m : Int) := by omega
                  have HFR := Lib.hid (below_step fr hdb)
                  clear hdr hdb fr
                  go_wp2
                  go_meet
                  exact HFR.out
      case rest =>
        have hq := hcut
        clear hcut hp hs hw r1 r3 Bc HLP HLS HLW HR HQ HKR HKQ HCC HBB hbbb hccb hm1 hm2 hn3
        replace h := h.below hq (Nat.le_refl _)
        replace fr := below_step fr hq
        go_wp2_with fail
        refine (drawSimpleCluster_w _ C _ h).mono ?_
        rintro e w6 ⟨m, n3, a1, b1, d1, i1, j1, k1, P, S, W, n, rfl, hp, hs, hw, lp, ls, lw, hm1, hm2, hn3, hq⟩
        have HLP := Lib.hid lp
        have HLS := Lib.hid ls
        have HLW := Lib.hid lw
        clear lp ls lw
        replace h := h.below hq (Nat.le_refl _)
        replace fr := below_step fr hq
        have Bc := Blk.new w6 40 #[.slice a1 m i1, .slice b1 m j1, .slice d1 n3 k1]
        have hal : Below w6.heap.size w6 (w6.alloc (.cells #[.slice a1 m i1, .slice b1 m j1, .slice d1 n3 k1] 40)) := (Below.refl _ _).alloc (Nat.le_refl _) _
        replace hp := hp.below hal (Nat.le_refl _)
        replace hs := hs.below hal (Nat.le_refl _)
        replace hw := hw.below hal (Nat.le_refl _)
        replace fr := below_step fr hal
        clear hal
        cases hu : ptB P S W n
        · skip
          have hc0 := ptC_ne hu
          have q_Bc_0 := Bc.cell 0
          have q_Bc_1 := Bc.cell 1
          have q_Bc_2 := Bc.cell 2
          go_wp2_with fail
          clear q_Bc_0 q_Bc_1 q_Bc_2
          refine (implSim_no _ _ _ P S W n _ hp hs hw hu).mono ?_
          rintro e w7 ⟨a2, b2, d2, i2, j2, k2, rfl, rp, rs, rq, hq⟩
          replace Bc := Bc.stays hq
          replace hp := hp.below hq (Nat.le_refl _)
          replace hs := hs.below hq (Nat.le_refl _)
          replace hw := hw.below hq (Nat.le_refl _)
          replace fr := below_step fr hq
          have Bd := Blk.new w7 40 #[.slice a2 0 i2, .slice b2 0 j2, .slice d2 0 k2]
          have hal : Below w7.heap.size w7 (w7.alloc (.cells #[.slice a2 0 i2, .slice b2 0 j2, .slice d2 0 k2] 40)) := (Below.refl _ _).alloc (Nat.le_refl _) _
          replace Bc := Bc.alloc (.cells #[.slice a2 0 i2, .slice b2 0 j2, .slice d2 0 k2] 40)
          replace hp := hp.below hal (Nat.le_refl _)
          replace hs := hs.below hal (Nat.le_refl _)
          replace hw := hw.below hal (Nat.le_refl _)
          replace rp := rp.below hal (Nat.le_refl _)
          replace rs := rs.below hal (Nat.le_refl _)
          replace rq := rq.below hal (Nat.le_refl _)
          replace fr := below_step fr hal
          clear hal
          have q_Bc_0 := Bc.cell 0
          have q_Bc_1 := Bc.cell 1
          have q_Bc_2 := Bc.cell 2
          have q_Bd_0 := Bd.cell 0
          have q_Bd_1 := Bd.cell 1
          have q_Bd_2 := Bd.cell 2
          go_wp2_with fail
          clear q_Bc_0 q_Bc_1 q_Bc_2 q_Bd_0 q_Bd_1 q_Bd_2
          refine (specSim_no _ _ _ P S W n _ hp hs hw hu).mono ?_
          rintro e w8 ⟨a3, b3, d3, i3, j3, k3, rfl, sp, ss, sq, hq⟩
          replace Bc := Bc.stays hq
          replace Bd := Bd.stays hq
          replace hp := hp.below hq (Nat.le_refl _)
          replace hs := hs.below hq (Nat.le_refl _)
          replace hw := hw.below hq (Nat.le_refl _)
          replace rp := rp.below hq (Nat.le_refl _)
          replace rs := rs.below hq (Nat.le_refl _)
          replace rq := rq.below hq (Nat.le_refl _)
          replace fr := below_step fr hq
          have Be := Blk.new w8 40 #[.slice a3 0 i3, .slice b3 0 j3, .slice d3 0 k3]
          have hal : Below w8.heap.size w8 (w8.alloc (.cells #[.slice a3 0 i3, .slice b3 0 j3, .slice d3 0 k3] 40)) := (Below.refl _ _).alloc (Nat.le_refl _) _
          replace Bc := Bc.alloc (.cells #[.slice a3 0 i3, .slice b3 0 j3, .slice d3 0 k3] 40)
          replace Bd := Bd.alloc (.cells #[.slice a3 0 i3, .slice b3 0 j3, .slice d3 0 k3] 40)
          replace hp := hp.below hal (Nat.le_refl _)
          replace hs := hs.below hal (Nat.le_refl _)
          replace hw := hw.below hal (Nat.le_refl _)
          replace rp := rp.below hal (Nat.le_refl _)
          replace rs := rs.below hal (Nat.le_refl _)
          replace rq := rq.below hal (Nat.le_refl _)
          replace sp := sp.below hal (Nat.le_refl _)
          replace ss := ss.below hal (Nat.le_refl _)
          replace sq := sq.below hal (Nat.le_refl _)
          replace fr := below_step fr hal
          clear hal
          have q_Bc_0 := Bc.cell 0
          have q_Bc_1 := Bc.cell 1
          have q_Bc_2 := Bc.cell 2
          have q_Bd_0 := Bd.cell 0
          have q_Bd_1 := Bd.cell 1
          have q_Bd_2 := Bd.cell 2
          have q_Be_0 := Be.cell 0
          have q_Be_1 := Be.cell 1
          have q_Be_2 := Be.cell 2
          go_wp2_with fail
          clear q_Bc_0 q_Bc_1 q_Bc_2 q_Bd_0 q_Bd_1 q_Bd_2 q_Be_0 q_Be_1 q_Be_2
          refine (likeClu_c _ _ _ _ _ _ [] [] [] _ rp rs rq sp ss sq).mono ?_
          rintro e w9 ⟨rfl, hq⟩
          replace Bc := Bc.stays hq
          replace Bd := Bd.stays hq
          replace Be := Be.stays hq
          replace hp := hp.below hq (Nat.le_refl _)
          replace hs := hs.below hq (Nat.le_refl _)
          replace hw := hw.below hq (Nat.le_refl _)
          replace rp := rp.below hq (Nat.le_refl _)
          replace rs := rs.below hq (Nat.le_refl _)
          replace rq := rq.below hq (Nat.le_refl _)
          replace sp := sp.below hq (Nat.le_refl _)
          replace ss := ss.below hq (Nat.le_refl _)
          replace sq := sq.below hq (Nat.le_refl _)
          replace fr := below_step fr hq
          have q_Bc_0 := Bc.cell 0
          have q_Bc_1 := Bc.cell 1
          have q_Bc_2 := Bc.cell 2
          have q_Bd_0 := Bd.cell 0
          have q_Bd_1 := Bd.cell 1
          have q_Bd_2 := Bd.cell 2
          have q_Be_0 := Be.cell 0
          have q_Be_1 := Be.cell 1
          have q_Be_2 := Be.cell 2
          go_wp2
          clear q_Bc_0 q_Bc_1 q_Bc_2 q_Bd_0 q_Bd_1 q_Bd_2 q_Be_0 q_Be_1 q_Be_2
          go_ret
          exact ⟨rfl, fr⟩
        · skip
          obtain ⟨hc, hn0, hnm⟩ := pt_parts hu
          obtain ⟨i, rfl⟩ : ∃ i : Nat, n = (i : Int) := ⟨n.toNat, by omega⟩
          have him : i < m := by have := HLP.out; omega
          have hiP : i < P.length := by omega
          have HX := Lib.hid (show exTo (proxL P S) (mRow P S i) P.length = unitL m i by rw [exL_mRow hc hiP, HLP.out])
          have HN := Lib.hid (clu_mRow hc hiP)
          clear hc hn0 hnm hiP
          have q_Bc_0 := Bc.cell 0
          have q_Bc_1 := Bc.cell 1
          have q_Bc_2 := Bc.cell 2
          go_wp2_with fail
          clear q_Bc_0 q_Bc_1 q_Bc_2
          refine (implSim_ok _ _ _ P S W i m _ hp hs hw hu HLP.out).mono ?_
          rintro e w7 ⟨a2, b2, d2, i2, j2, k2, rfl, rp, rs, rq, hq⟩
          replace Bc := Bc.stays hq
          replace hp := hp.below hq (Nat.le_refl _)
          replace hs := hs.below hq (Nat.le_refl _)
          replace hw := hw.below hq (Nat.le_refl _)
          replace fr := below_step fr hq
          have Bd := Blk.new w7 40 #[.slice a2 m i2, .slice b2 m j2, .slice d2 m k2]
          have hal : Below w7.heap.size w7 (w7.alloc (.cells #[.slice a2 m i2, .slice b2 m j2, .slice d2 m k2] 40)) := (Below.refl _ _).alloc (Nat.le_refl _) _
          replace Bc := Bc.alloc (.cells #[.slice a2 m i2, .slice b2 m j2, .slice d2 m k2] 40)
          replace hp := hp.below hal (Nat.le_refl _)
          replace hs := hs.below hal (Nat.le_refl _)
          replace hw := hw.below hal (Nat.le_refl _)
          replace rp := rp.below hal (Nat.le_refl _)
          replace rs := rs.below hal (Nat.le_refl _)
          replace rq := rq.below hal (Nat.le_refl _)
          replace fr := below_step fr hal
          clear hal
          have q_Bc_0 := Bc.cell 0
          have q_Bc_1 := Bc.cell 1
          have q_Bc_2 := Bc.cell 2
          have q_Bd_0 := Bd.cell 0
          have q_Bd_1 := Bd.cell 1
          have q_Bd_2 := Bd.cell 2
          go_wp2_with fail
          clear q_Bc_0 q_Bc_1 q_Bc_2 q_Bd_0 q_Bd_1 q_Bd_2
          refine (specSim_ok _ _ _ P S W i m _ hp hs hw hu HLP.out).mono ?_
          rintro e w8 ⟨a3, b3, d3, i3, j3, k3, rfl, sp, ss, sq, hq⟩
          replace Bc := Bc.stays hq
          replace Bd := Bd.stays hq
          replace hp := hp.below hq (Nat.le_refl _)
          replace hs := hs.below hq (Nat.le_refl _)
          replace hw := hw.below hq (Nat.le_refl _)
          replace rp := rp.below hq (Nat.le_refl _)
          replace rs := rs.below hq (Nat.le_refl _)
          replace rq := rq.below hq (Nat.le_refl _)
          replace fr := below_step fr hq
          have Be := Blk.new w8 40 #[.slice a3 m i3, .slice b3 m j3, .slice d3 m k3]
          have hal : Below w8.heap.size w8 (w8.alloc (.cells #[.slice a3 m i3, .slice b3 m j3, .slice d3 m k3] 40)) := (Below.refl _ _).alloc (Nat.le_refl _) _
          replace Bc := Bc.alloc (.cells #[.slice a3 m i3, .slice b3 m j3, .slice d3 m k3] 40)
          replace Bd := Bd.alloc (.cells #[.slice a3 m i3, .slice b3 m j3, .slice d3 m k3] 40)
          replace hp := hp.below hal (Nat.le_refl _)
          replace hs := hs.below hal (Nat.le_refl _)
          replace hw := hw.below hal (Nat.le_refl _)
          replace rp := rp.below hal (Nat.le_refl _)
          replace rs := rs.below hal (Nat.le_refl _)
          replace rq := rq.below hal (Nat.le_refl _)
          replace sp := sp.below hal (Nat.le_refl _)
          replace ss := ss.below hal (Nat.le_refl _)
          replace sq := sq.below hal (Nat.le_refl _)
          replace fr := below_step fr hal
          clear hal
          rw [Int.toNat_natCast] at rq sq
          generalize mRow P S i = L at *
          have q_Bc_0 := Bc.cell 0
          have q_Bc_1 := Bc.cell 1
          have q_Bc_2 := Bc.cell 2
          have q_Bd_0 := Bd.cell 0
          have q_Bd_1 := Bd.cell 1
          have q_Bd_2 := Bd.cell 2
          have q_Be_0 := Be.cell 0
          have q_Be_1 := Be.cell 1
          have q_Be_2 := Be.cell 2
          go_wp2_with fail
          clear q_Bc_0 q_Bc_1 q_Bc_2 q_Bd_0 q_Bd_1 q_Bd_2 q_Be_0 q_Be_1 q_Be_2
          refine (likeClu_c _ _ _ _ _ _ P S L _ rp rs rq sp ss sq).mono ?_
          rintro e w9 ⟨rfl, hq⟩
          replace Bc := Bc.stays hq
          replace Bd := Bd.stays hq
          replace Be := Be.stays hq
          replace hp := hp.below hq (Nat.le_refl _)
          replace hs := hs.below hq (Nat.le_refl _)
          replace hw := hw.below hq (Nat.le_refl _)
          replace rp := rp.below hq (Nat.le_refl _)
          replace rs := rs.below hq (Nat.le_refl _)
          replace rq := rq.below hq (Nat.le_refl _)
          replace sp := sp.below hq (Nat.le_refl _)
          replace ss := ss.below hq (Nat.le_refl _)
          replace sq := sq.below hq (Nat.le_refl _)
          replace fr := below_step fr hq
          clear Be sp ss sq
          have q_Bc_0 := Bc.cell 0
          have q_Bc_1 := Bc.cell 1
          have q_Bc_2 := Bc.cell 2
          have q_Bd_0 := Bd.cell 0
          have q_Bd_1 := Bd.cell 1
          have q_Bd_2 := Bd.cell 2
          go_wp2_with fail
          clear q_Bc_0 q_Bc_1 q_Bc_2 q_Bd_0 q_Bd_1 q_Bd_2
          refine (excess_ok _ _ _ P S L (unitL m i) m _ rp rs rq HN.out HX.out (by simp)).mono ?_
          rintro e w10 ⟨aE, kE, rfl, rE, hq⟩
          replace Bc := Bc.stays hq
          replace Bd := Bd.stays hq
          replace hp := hp.below hq (Nat.le_refl _)
          replace hs := hs.below hq (Nat.le_refl _)
          replace hw := hw.below hq (Nat.le_refl _)
          replace rp := rp.below hq (Nat.le_refl _)
          replace rs := rs.below hq (Nat.le_refl _)
          replace rq := rq.below hq (Nat.le_refl _)
          replace fr := below_step fr hq
          obtain ⟨i0, hi, hz0, hz1, hz2⟩ := info_parts Try.infoI
          clear rp rs rq hp hs hw hu HN HX
          have q_Bc_0 := Bc.cell 0
          have q_Bc_1 := Bc.cell 1
          have q_Bc_2 := Bc.cell 2
          have q_Bd_0 := Bd.cell 0
          have q_Bd_1 := Bd.cell 1
          have q_Bd_2 := Bd.cell 2
          go_wp2_with (at_make; refine wpList_make_full _ rfl (.tmp 260) (.tmp 260) 24 rfl w10.heap.size 2 i0 (.int .i64 0) 1 Try.underlying24 hi hz0 hz1 _ _ _ _ m rfl rfl rfl rfl ?c1 ?c2 ?c3 ?_)
          case c1 => rw [hz2]; omega
          case c2 => unfold maxLen; omega
          case c3 => exact Nat.le_refl _
          intro wm hown2 hgrow2
          clear q_Bc_0 q_Bc_1 q_Bc_2 q_Bd_0 q_Bd_1 q_Bd_2
          have hzw := fr.size
          have hb2 : Below w10.heap.size w10 wm := (Below.refl _ _).grown hgrow2 (Nat.le_refl _) (by simp)
          rw [toList_madeCells_one] at hown2
          have ho2 := own_made hown2
          clear hown2 hgrow2
          have ho4 : OwnI wm w10.heap.size (.slice (some ⟨w10.heap.size, 0, none⟩) (zeroL m).length m) (zeroL m) := by simpa using ho2
          have cz := ho4.cell i (by simp; omega)
          have fz := ho4.free i
          have hset := ho4.set i 1
          have hk3 := (Keeps.refl (fun b => b = w10.heap.size) wm).setCell (p := ⟨w10.heap.size, i, none⟩) rfl (.int .i64 1)
          rw [show (zeroL m).set i 1 = unitL m i from rfl, zeroL_len] at hset
          have hkb : Below w10.heap.size w10 (wm.setCell ⟨w10.heap.size, i, none⟩ (.int .i64 1)) := hb2.trans (hk3.below hb2.size (fun b e => by omega))
          have rE := rE.below hkb (Nat.le_refl _)
          have fr := below_step fr hkb
          have hsr := hset.rd
          clear hset hk3 ho4 ho2 hb2 hkb Bc
          have hlt : (i : Int) < (m : Int) := by omega
          have hge : (0 : Int) ≤ (i : Int) := by omega
          have hsf := eqB_self (unitL m i)
          have HSF := Lib.hid hsf
          clear hsf
          go_wp2_with fail
          refine (likeInts_c _ _ (unitL m i) (unitL m i) _ rE hsr).mono ?_
          rintro e wz ⟨rfl, hd⟩
          rw [HSF.out]
          have fr := below_step fr (hd.below _)
          go_wp2
          go_ret
          exact ⟨rfl, fr⟩
  · go_enter Try.func9, Try.ntmps9
    go_wp2_with fail
    refine (big_yes _ C _ h hC).mono ?_
    rintro e w' ⟨rfl, rfl⟩
    go_wp2
    go_ret
    exact ⟨rfl, Below.refl _ _⟩
end Go.Proofs.Ytiinceflafigeaa.fnClusters
