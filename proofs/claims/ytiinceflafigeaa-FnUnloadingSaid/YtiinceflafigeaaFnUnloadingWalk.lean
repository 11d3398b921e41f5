/- The walk of 'FnUnloading': the unloaded cluster is consistent, has orders that are not less, and is reached by steps that make one order greater. -/
import Derived.Test.YtiinceflafigeaaUnlC
namespace Go.Proofs.Ytiinceflafigeaa.fnUnloading
open Go.RowKit

set_option maxRecDepth 100000 in
set_option maxHeartbeats 16000000 in
theorem walk (w : World) (a0 : Value) (C : List Int) (h : Rd8 w a0 C) :
    Calls Try.prog 8 #[a0] w fun e w' => e = .returned (.bool true) ∧ Below w.heap.size w w' := by
  by_cases hC : C.length ≤ 4096
  · skip
    obtain ⟨a, cap, he, _⟩ := id h
    subst he
    go_enter Try.func8, Try.ntmps8
    go_wp2_with fail
    refine (big_no _ C _ h hC).mono ?_
    rintro e w' ⟨rfl, rfl⟩
    go_wp2_with fail
    refine (drawUnloadCluster_w _ C _ h).mono ?_
    rintro e w1 ⟨m, n3, a1, b1, d1, i1, j1, k1, P, S, W, rfl, hp, hs, hw, lp, ls, lw, hm1, hm2, hn3, hq⟩
    have HLP := Lib.hid lp
    have HLS := Lib.hid ls
    have HLW := Lib.hid lw
    clear lp ls lw
    replace h := h.below hq (Nat.le_refl _)
    have fr : Below w.heap.size w _ := hq
    have Bc := Blk.new w1 40 #[.slice a1 m i1, .slice b1 m j1, .slice d1 n3 k1]
    have hal : Below w1.heap.size w1 (w1.alloc (.cells #[.slice a1 m i1, .slice b1 m j1, .slice d1 n3 k1] 40)) := (Below.refl _ _).alloc (Nat.le_refl _) _
    replace h := h.below hal (Nat.le_refl _)
    replace hp := hp.below hal (Nat.le_refl _)
    replace hs := hs.below hal (Nat.le_refl _)
    replace hw := hw.below hal (Nat.le_refl _)
    replace fr := below_step fr hal
    clear hal
    cases hu : ucB P S W
    · skip
      have hc0 := ucC_ne hu
      have q_Bc_0 := Bc.cell 0
      have q_Bc_1 := Bc.cell 1
      have q_Bc_2 := Bc.cell 2
      go_wp2_with fail
      clear q_Bc_0 q_Bc_1 q_Bc_2
      refine (implUC_no _ _ _ P S W _ hp hs hw hu).mono ?_
      rintro e w2 ⟨a2, b2, d2, i2, j2, k2, rfl, rp, rs, rq, hq⟩
      replace Bc := Bc.stays hq
      replace h := h.below hq (Nat.le_refl _)
      replace hp := hp.below hq (Nat.le_refl _)
      replace hs := hs.below hq (Nat.le_refl _)
      replace hw := hw.below hq (Nat.le_refl _)
      replace fr := below_step fr hq
      have Bd := Blk.new w2 40 #[.slice a2 0 i2, .slice b2 0 j2, .slice d2 0 k2]
      have hal : Below w2.heap.size w2 (w2.alloc (.cells #[.slice a2 0 i2, .slice b2 0 j2, .slice d2 0 k2] 40)) := (Below.refl _ _).alloc (Nat.le_refl _) _
      replace Bc := Bc.alloc (.cells #[.slice a2 0 i2, .slice b2 0 j2, .slice d2 0 k2] 40)
      replace h := h.below hal (Nat.le_refl _)
      replace hp := hp.below hal (Nat.le_refl _)
      replace hs := hs.below hal (Nat.le_refl _)
      replace hw := hw.below hal (Nat.le_refl _)
      replace rp := rp.below hal (Nat.le_refl _)
      replace rs := rs.below hal (Nat.le_refl _)
      replace rq := rq.below hal (Nat.le_refl _)
      replace fr := below_step fr hal
      clear hal
      have q_Bc_0 := Bc.cell 0
      have q_Bc_1 := Bc.cell 1
      have q_Bc_2 := Bc.cell 2
      have q_Bd_0 := Bd.cell 0
      have q_Bd_1 := Bd.cell 1
      have q_Bd_2 := Bd.cell 2
      go_wp2_with fail
      clear q_Bc_0 q_Bc_1 q_Bc_2 q_Bd_0 q_Bd_1 q_Bd_2
      refine (specUC_no _ _ _ P S W _ hp hs hw hu).mono ?_
      rintro e w3 ⟨a3, b3, d3, i3, j3, k3, rfl, sp, ss, sq, hq⟩
      replace Bc := Bc.stays hq
      replace Bd := Bd.stays hq
      replace h := h.below hq (Nat.le_refl _)
      replace hp := hp.below hq (Nat.le_refl _)
      replace hs := hs.below hq (Nat.le_refl _)
      replace hw := hw.below hq (Nat.le_refl _)
      replace rp := rp.below hq (Nat.le_refl _)
      replace rs := rs.below hq (Nat.le_refl _)
      replace rq := rq.below hq (Nat.le_refl _)
      replace fr := below_step fr hq
      have Be := Blk.new w3 40 #[.slice a3 0 i3, .slice b3 0 j3, .slice d3 0 k3]
      have hal : Below w3.heap.size w3 (w3.alloc (.cells #[.slice a3 0 i3, .slice b3 0 j3, .slice d3 0 k3] 40)) := (Below.refl _ _).alloc (Nat.le_refl _) _
      replace Bc := Bc.alloc (.cells #[.slice a3 0 i3, .slice b3 0 j3, .slice d3 0 k3] 40)
      replace Bd := Bd.alloc (.cells #[.slice a3 0 i3, .slice b3 0 j3, .slice d3 0 k3] 40)
      replace h := h.below hal (Nat.le_refl _)
      replace hp := hp.below hal (Nat.le_refl _)
      replace hs := hs.below hal (Nat.le_refl _)
      replace hw := hw.below hal (Nat.le_refl _)
      replace rp := rp.below hal (Nat.le_refl _)
      replace rs := rs.below hal (Nat.le_refl _)
      replace rq := rq.below hal (Nat.le_refl _)
      replace sp := sp.below hal (Nat.le_refl _)
      replace ss := ss.below hal (Nat.le_refl _)
      replace sq := sq.below hal (Nat.le_refl _)
      replace fr := below_step fr hal
      clear hal
      have q_Bc_0 := Bc.cell 0
      have q_Bc_1 := Bc.cell 1
      have q_Bc_2 := Bc.cell 2
      have q_Bd_0 := Bd.cell 0
      have q_Bd_1 := Bd.cell 1
      have q_Bd_2 := Bd.cell 2
      have q_Be_0 := Be.cell 0
      have q_Be_1 := Be.cell 1
      have q_Be_2 := Be.cell 2
      go_wp2_with fail
      clear q_Bc_0 q_Bc_1 q_Bc_2 q_Bd_0 q_Bd_1 q_Bd_2 q_Be_0 q_Be_1 q_Be_2
      refine (likeClu_c _ _ _ _ _ _ [] [] [] _ rp rs rq sp ss sq).mono ?_
      rintro e w4 ⟨rfl, hq⟩
      replace Bc := Bc.stays hq
      replace Bd := Bd.stays hq
      replace Be := Be.stays hq
      replace h := h.below hq (Nat.le_refl _)
      replace hp := hp.below hq (Nat.le_refl _)
      replace hs := hs.below hq (Nat.le_refl _)
      replace hw := hw.below hq (Nat.le_refl _)
      replace rp := rp.below hq (Nat.le_refl _)
      replace rs := rs.below hq (Nat.le_refl _)
      replace rq := rq.below hq (Nat.le_refl _)
      replace sp := sp.below hq (Nat.le_refl _)
      replace ss := ss.below hq (Nat.le_refl _)
      replace sq := sq.below hq (Nat.le_refl _)
      replace fr := below_step fr hq
      clear Bc Bd Be hp hs hw rp rs rq sp ss sq
      generalize ucC P S W = cc at *
      clear hu HLP HLS HLW hm1 hm2 hn3
      go_wp2_with fail
      refine (drawUnloadStep_w _ C _ h).mono ?_
      rintro e w5 ⟨m, n3, a1, b1, d1, i1, j1, k1, P, S, W, rfl, hp, hs, hw, lp, ls, lw, hm1, hm2, hn3, hq⟩
      have HLP := Lib.hid lp
      have HLS := Lib.hid ls
      have HLW := Lib.hid lw
      clear lp ls lw
      replace h := h.below hq (Nat.le_refl _)
      replace fr := below_step fr hq
      have Bc := Blk.new w5 40 #[.slice a1 m i1, .slice b1 m j1, .slice d1 n3 k1]
      have hal : Below w5.heap.size w5 (w5.alloc (.cells #[.slice a1 m i1, .slice b1 m j1, .slice d1 n3 k1] 40)) := (Below.refl _ _).alloc (Nat.le_refl _) _
      replace h := h.below hal (Nat.le_refl _)
      replace hp := hp.below hal (Nat.le_refl _)
      replace hs := hs.below hal (Nat.le_refl _)
      replace hw := hw.below hal (Nat.le_refl _)
      replace fr := below_step fr hal
      clear hal
      cases hu : usB P S W
      · skip
        have hc0 := usC_ne hu
        have q_Bc_0 := Bc.cell 0
        have q_Bc_1 := Bc.cell 1
        have q_Bc_2 := Bc.cell 2
        go_wp2_with fail
        clear q_Bc_0 q_Bc_1 q_Bc_2
        refine (implUS_no _ _ _ P S W _ hp hs hw hu).mono ?_
        rintro e w6 ⟨a2, b2, d2, i2, j2, k2, rfl, rp, rs, rq, hq⟩
        replace Bc := Bc.stays hq
        replace h := h.below hq (Nat.le_refl _)
        replace hp := hp.below hq (Nat.le_refl _)
        replace hs := hs.below hq (Nat.le_refl _)
        replace hw := hw.below hq (Nat.le_refl _)
        replace fr := below_step fr hq
        have Bd := Blk.new w6 40 #[.slice a2 0 i2, .slice b2 0 j2, .slice d2 0 k2]
        have hal : Below w6.heap.size w6 (w6.alloc (.cells #[.slice a2 0 i2, .slice b2 0 j2, .slice d2 0 k2] 40)) := (Below.refl _ _).alloc (Nat.le_refl _) _
        replace Bc := Bc.alloc (.cells #[.slice a2 0 i2, .slice b2 0 j2, .slice d2 0 k2] 40)
        replace h := h.below hal (Nat.le_refl _)
        replace hp := hp.below hal (Nat.le_refl _)
        replace hs := hs.below hal (Nat.le_refl _)
        replace hw := hw.below hal (Nat.le_refl _)
        replace rp := rp.below hal (Nat.le_refl _)
        replace rs := rs.below hal (Nat.le_refl _)
        replace rq := rq.below hal (Nat.le_refl _)
        replace fr := below_step fr hal
        clear hal
        have q_Bc_0 := Bc.cell 0
        have q_Bc_1 := Bc.cell 1
        have q_Bc_2 := Bc.cell 2
        have q_Bd_0 := Bd.cell 0
        have q_Bd_1 := Bd.cell 1
        have q_Bd_2 := Bd.cell 2
        go_wp2_with fail
        clear q_Bc_0 q_Bc_1 q_Bc_2 q_Bd_0 q_Bd_1 q_Bd_2
        refine (specUS_no _ _ _ P S W _ hp hs hw hu).mono ?_
        rintro e w7 ⟨a3, b3, d3, i3, j3, k3, rfl, sp, ss, sq, hq⟩
        replace Bc := Bc.stays hq
        replace Bd := Bd.stays hq
        replace h := h.below hq (Nat.le_refl _)
        replace hp := hp.below hq (Nat.le_refl _)
        replace hs := hs.below hq (Nat.le_refl _)
        replace hw := hw.below hq (Nat.le_refl _)
        replace rp := rp.below hq (Nat.le_refl _)
        replace rs := rs.below hq (Nat.le_refl _)
        replace rq := rq.below hq (Nat.le_refl _)
        replace fr := below_step fr hq
        have Be := Blk.new w7 40 #[.slice a3 0 i3, .slice b3 0 j3, .slice d3 0 k3]
        have hal : Below w7.heap.size w7 (w7.alloc (.cells #[.slice a3 0 i3, .slice b3 0 j3, .slice d3 0 k3] 40)) := (Below.refl _ _).alloc (Nat.le_refl _) _
        replace Bc := Bc.alloc (.cells #[.slice a3 0 i3, .slice b3 0 j3, .slice d3 0 k3] 40)
        replace Bd := Bd.alloc (.cells #[.slice a3 0 i3, .slice b3 0 j3, .slice d3 0 k3] 40)
        replace h := h.below hal (Nat.le_refl _)
        replace hp := hp.below hal (Nat.le_refl _)
        replace hs := hs.below hal (Nat.le_refl _)
        replace hw := hw.below hal (Nat.le_refl _)
        replace rp := rp.below hal (Nat.le_refl _)
        replace rs := rs.below hal (Nat.le_refl _)
        replace rq := rq.below hal (Nat.le_refl _)
        replace sp := sp.below hal (Nat.le_refl _)
        replace ss := ss.below hal (Nat.le_refl _)
        replace sq := sq.below hal (Nat.le_refl _)
        replace fr := below_step fr hal
        clear hal
        have q_Bc_0 := Bc.cell 0
        have q_Bc_1 := Bc.cell 1
        have q_Bc_2 := Bc.cell 2
        have q_Bd_0 := Bd.cell 0
        have q_Bd_1 := Bd.cell 1
        have q_Bd_2 := Bd.cell 2
        have q_Be_0 := Be.cell 0
        have q_Be_1 := Be.cell 1
        have q_Be_2 := Be.cell 2
        go_wp2_with fail
        clear q_Bc_0 q_Bc_1 q_Bc_2 q_Bd_0 q_Bd_1 q_Bd_2 q_Be_0 q_Be_1 q_Be_2
        refine (likeClu_c _ _ _ _ _ _ [] [] [] _ rp rs rq sp ss sq).mono ?_
        rintro e w8 ⟨rfl, hq⟩
        replace Bc := Bc.stays hq
        replace Bd := Bd.stays hq
        replace Be := Be.stays hq
        replace h := h.below hq (Nat.le_refl _)
        replace hp := hp.below hq (Nat.le_refl _)
        replace hs := hs.below hq (Nat.le_refl _)
        replace hw := hw.below hq (Nat.le_refl _)
        replace rp := rp.below hq (Nat.le_refl _)
        replace rs := rs.below hq (Nat.le_refl _)
        replace rq := rq.below hq (Nat.le_refl _)
        replace sp := sp.below hq (Nat.le_refl _)
        replace ss := ss.below hq (Nat.le_refl _)
        replace sq := sq.below hq (Nat.le_refl _)
        replace fr := below_step fr hq
        have q_Bc_0 := Bc.cell 0
        have q_Bc_1 := Bc.cell 1
        have q_Bc_2 := Bc.cell 2
        have q_Bd_0 := Bd.cell 0
        have q_Bd_1 := Bd.cell 1
        have q_Bd_2 := Bd.cell 2
        have q_Be_0 := Be.cell 0
        have q_Be_1 := Be.cell 1
        have q_Be_2 := Be.cell 2
        go_wp2
        clear q_Bc_0 q_Bc_1 q_Bc_2 q_Bd_0 q_Bd_1 q_Bd_2 q_Be_0 q_Be_1 q_Be_2
        go_ret
        exact ⟨rfl, fr⟩
      · skip
        obtain ⟨p, st, hus⟩ := us_ok hu
        obtain rfl : m = n3 := by have := hus.old.1.2.2.2; rw [HLP.out, HLW.out] at this; exact this.symm
        have HU := Lib.hid hus
        clear hus
        have q_Bc_0 := Bc.cell 0
        have q_Bc_1 := Bc.cell 1
        have q_Bc_2 := Bc.cell 2
        go_wp2_with fail
        clear q_Bc_0 q_Bc_1 q_Bc_2
        refine (implUS_ok _ _ _ P S W m _ hp hs hw hu HLP.out).mono ?_
        rintro e w6 ⟨a2, b2, d2, i2, j2, k2, rfl, rp, rs, rq, hq⟩
        replace Bc := Bc.stays hq
        replace h := h.below hq (Nat.le_refl _)
        replace hp := hp.below hq (Nat.le_refl _)
        replace hs := hs.below hq (Nat.le_refl _)
        replace hw := hw.below hq (Nat.le_refl _)
        replace fr := below_step fr hq
        have Bd := Blk.new w6 40 #[.slice a2 m i2, .slice b2 m j2, .slice d2 m k2]
        have hal : Below w6.heap.size w6 (w6.alloc (.cells #[.slice a2 m i2, .slice b2 m j2, .slice d2 m k2] 40)) := (Below.refl _ _).alloc (Nat.le_refl _) _
        replace Bc := Bc.alloc (.cells #[.slice a2 m i2, .slice b2 m j2, .slice d2 m k2] 40)
        replace h := h.below hal (Nat.le_refl _)
        replace hp := hp.below hal (Nat.le_refl _)
        replace hs := hs.below hal (Nat.le_refl _)
        replace hw := hw.below hal (Nat.le_refl _)
        replace rp := rp.below hal (Nat.le_refl _)
        replace rs := rs.below hal (Nat.le_refl _)
        replace rq := rq.below hal (Nat.le_refl _)
        replace fr := below_step fr hal
        clear hal
        have q_Bc_0 := Bc.cell 0
        have q_Bc_1 := Bc.cell 1
        have q_Bc_2 := Bc.cell 2
        have q_Bd_0 := Bd.cell 0
        have q_Bd_1 := Bd.cell 1
        have q_Bd_2 := Bd.cell 2
        go_wp2_with fail
        clear q_Bc_0 q_Bc_1 q_Bc_2 q_Bd_0 q_Bd_1 q_Bd_2
        refine (specUS_ok _ _ _ P S W m _ hp hs hw hu HLP.out).mono ?_
        rintro e w7 ⟨a3, b3, d3, i3, j3, k3, rfl, sp, ss, sq, hq⟩
        replace Bc := Bc.stays hq
        replace Bd := Bd.stays hq
        replace h := h.below hq (Nat.le_refl _)
        replace hp := hp.below hq (Nat.le_refl _)
        replace hs := hs.below hq (Nat.le_refl _)
        replace hw := hw.below hq (Nat.le_refl _)
        replace rp := rp.below hq (Nat.le_refl _)
        replace rs := rs.below hq (Nat.le_refl _)
        replace rq := rq.below hq (Nat.le_refl _)
        replace fr := below_step fr hq
        generalize usL P S W = L at *
        have Be := Blk.new w7 40 #[.slice a3 m i3, .slice b3 m j3, .slice d3 m k3]
        have hal : Below w7.heap.size w7 (w7.alloc (.cells #[.slice a3 m i3, .slice b3 m j3, .slice d3 m k3] 40)) := (Below.refl _ _).alloc (Nat.le_refl _) _
        replace Bc := Bc.alloc (.cells #[.slice a3 m i3, .slice b3 m j3, .slice d3 m k3] 40)
        replace Bd := Bd.alloc (.cells #[.slice a3 m i3, .slice b3 m j3, .slice d3 m k3] 40)
        replace h := h.below hal (Nat.le_refl _)
        replace hp := hp.below hal (Nat.le_refl _)
        replace hs := hs.below hal (Nat.le_refl _)
        replace hw := hw.below hal (Nat.le_refl _)
        replace rp := rp.below hal (Nat.le_refl _)
        replace rs := rs.below hal (Nat.le_refl _)
        replace rq := rq.below hal (Nat.le_refl _)
        replace sp := sp.below hal (Nat.le_refl _)
        replace ss := ss.below hal (Nat.le_refl _)
        replace sq := sq.below hal (Nat.le_refl _)
        replace fr := below_step fr hal
        clear hal
        have q_Bc_0 := Bc.cell 0
        have q_Bc_1 := Bc.cell 1
        have q_Bc_2 := Bc.cell 2
        have q_Bd_0 := Bd.cell 0
        have q_Bd_1 := Bd.cell 1
        have q_Bd_2 := Bd.cell 2
        have q_Be_0 := Be.cell 0
        have q_Be_1 := Be.cell 1
        have q_Be_2 := Be.cell 2
        go_wp2_with fail
        clear q_Bc_0 q_Bc_1 q_Bc_2 q_Bd_0 q_Bd_1 q_Bd_2 q_Be_0 q_Be_1 q_Be_2
        refine (likeClu_c _ _ _ _ _ _ P S L _ rp rs rq sp ss sq).mono ?_
        rintro e w8 ⟨rfl, hq⟩
        replace Bc := Bc.stays hq
        replace Bd := Bd.stays hq
        replace Be := Be.stays hq
        replace h := h.below hq (Nat.le_refl _)
        replace hp := hp.below hq (Nat.le_refl _)
        replace hs := hs.below hq (Nat.le_refl _)
        replace hw := hw.below hq (Nat.le_refl _)
        replace rp := rp.below hq (Nat.le_refl _)
        replace rs := rs.below hq (Nat.le_refl _)
        replace rq := rq.below hq (Nat.le_refl _)
        replace sp := sp.below hq (Nat.le_refl _)
        replace ss := ss.below hq (Nat.le_refl _)
        replace sq := sq.below hq (Nat.le_refl _)
        replace fr := below_step fr hq
        clear Be sp ss sq
        have q_Bc_0 := Bc.cell 0
        have q_Bc_1 := Bc.cell 1
        have q_Bc_2 := Bc.cell 2
        have q_Bd_0 := Bd.cell 0
        have q_Bd_1 := Bd.cell 1
        have q_Bd_2 := Bd.cell 2
        go_wp2_with fail
        clear q_Bc_0 q_Bc_1 q_Bc_2 q_Bd_0 q_Bd_1 q_Bd_2
        refine (orders_ok _ _ _ P S W m _ hp hs hw HU.out.old HLP.out).mono ?_
        rintro e w9 ⟨aO, kO, rfl, rO, hq⟩
        replace Bc := Bc.stays hq
        replace Bd := Bd.stays hq
        replace h := h.below hq (Nat.le_refl _)
        replace hp := hp.below hq (Nat.le_refl _)
        replace hs := hs.below hq (Nat.le_refl _)
        replace hw := hw.below hq (Nat.le_refl _)
        replace rp := rp.below hq (Nat.le_refl _)
        replace rs := rs.below hq (Nat.le_refl _)
        replace rq := rq.below hq (Nat.le_refl _)
        replace fr := below_step fr hq
        have q_Bc_0 := Bc.cell 0
        have q_Bc_1 := Bc.cell 1
        have q_Bc_2 := Bc.cell 2
        have q_Bd_0 := Bd.cell 0
        have q_Bd_1 := Bd.cell 1
        have q_Bd_2 := Bd.cell 2
        go_wp2_with fail
        clear q_Bc_0 q_Bc_1 q_Bc_2 q_Bd_0 q_Bd_1 q_Bd_2
        refine (orders_ok _ _ _ P S L m _ rp rs rq HU.out.new HLP.out).mono ?_
        rintro e w10 ⟨aA, kA, rfl, rA, hq⟩
        replace Bc := Bc.stays hq
        replace Bd := Bd.stays hq
        replace h := h.below hq (Nat.le_refl _)
        replace hp := hp.below hq (Nat.le_refl _)
        replace hs := hs.below hq (Nat.le_refl _)
        replace hw := hw.below hq (Nat.le_refl _)
        replace rp := rp.below hq (Nat.le_refl _)
        replace rs := rs.below hq (Nat.le_refl _)
        replace rq := rq.below hq (Nat.le_refl _)
        replace rO := rO.below hq (Nat.le_refl _)
        replace fr := below_step fr hq
        cases hub : ucB P S W
        · skip
          have hub2 := HU.out.okB.trans hub
          have hcc := HU.out.okC
          have HCC := Lib.hid hcc
          clear hcc
          have q_Bc_0 := Bc.cell 0
          have q_Bc_1 := Bc.cell 1
          have q_Bc_2 := Bc.cell 2
          have q_Bd_0 := Bd.cell 0
          have q_Bd_1 := Bd.cell 1
          have q_Bd_2 := Bd.cell 2
          go_wp2_with fail
          clear q_Bc_0 q_Bc_1 q_Bc_2 q_Bd_0 q_Bd_1 q_Bd_2
          refine (implUC_no _ _ _ P S W _ hp hs hw hub).mono ?_
          rintro e w11 ⟨a4, b4, d4, i4, j4, k4, rfl, tp, ts, tq, hq⟩
          replace Bc := Bc.stays hq
          replace Bd := Bd.stays hq
          replace h := h.below hq (Nat.le_refl _)
          replace hp := hp.below hq (Nat.le_refl _)
          replace hs := hs.below hq (Nat.le_refl _)
          replace hw := hw.below hq (Nat.le_refl _)
          replace rp := rp.below hq (Nat.le_refl _)
          replace rs := rs.below hq (Nat.le_refl _)
          replace rq := rq.below hq (Nat.le_refl _)
          replace rO := rO.below hq (Nat.le_refl _)
          replace rA := rA.below hq (Nat.le_refl _)
          replace fr := below_step fr hq
          have Bf := Blk.new w11 40 #[.slice a4 0 i4, .slice b4 0 j4, .slice d4 0 k4]
          have hal : Below w11.heap.size w11 (w11.alloc (.cells #[.slice a4 0 i4, .slice b4 0 j4, .slice d4 0 k4] 40)) := (Below.refl _ _).alloc (Nat.le_refl _) _
          replace Bc := Bc.alloc (.cells #[.slice a4 0 i4, .slice b4 0 j4, .slice d4 0 k4] 40)
          replace Bd := Bd.alloc (.cells #[.slice a4 0 i4, .slice b4 0 j4, .slice d4 0 k4] 40)
          replace h := h.below hal (Nat.le_refl _)
          replace hp := hp.below hal (Nat.le_refl _)
          replace hs := hs.below hal (Nat.le_refl _)
          replace hw := hw.below hal (Nat.le_refl _)
          replace rp := rp.below hal (Nat.le_refl _)
          replace rs := rs.below hal (Nat.le_refl _)
          replace rq := rq.below hal (Nat.le_refl _)
          replace rO := rO.below hal (Nat.le_refl _)
          replace rA := rA.below hal (Nat.le_refl _)
          replace tp := tp.below hal (Nat.le_refl _)
          replace ts := ts.below hal (Nat.le_refl _)
          replace tq := tq.below hal (Nat.le_refl _)
          replace fr := below_step fr hal
          clear hal
          have q_Bc_0 := Bc.cell 0
          have q_Bc_1 := Bc.cell 1
          have q_Bc_2 := Bc.cell 2
          have q_Bd_0 := Bd.cell 0
          have q_Bd_1 := Bd.cell 1
          have q_Bd_2 := Bd.cell 2
          have q_Bf_0 := Bf.cell 0
          have q_Bf_1 := Bf.cell 1
          have q_Bf_2 := Bf.cell 2
          go_wp2_with fail
          clear q_Bc_0 q_Bc_1 q_Bc_2 q_Bd_0 q_Bd_1 q_Bd_2 q_Bf_0 q_Bf_1 q_Bf_2
          refine (implUC_no _ _ _ P S L _ rp rs rq hub2).mono ?_
          rintro e w12 ⟨a5, b5, d5, i5, j5, k5, rfl, vp, vs, vq, hq⟩
          replace Bc := Bc.stays hq
          replace Bd := Bd.stays hq
          replace Bf := Bf.stays hq
          replace h := h.below hq (Nat.le_refl _)
          replace hp := hp.below hq (Nat.le_refl _)
          replace hs := hs.below hq (Nat.le_refl _)
          replace hw := hw.below hq (Nat.le_refl _)
          replace rp := rp.below hq (Nat.le_refl _)
          replace rs := rs.below hq (Nat.le_refl _)
          replace rq := rq.below hq (Nat.le_refl _)
          replace rO := rO.below hq (Nat.le_refl _)
          replace rA := rA.below hq (Nat.le_refl _)
          replace tp := tp.below hq (Nat.le_refl _)
          replace ts := ts.below hq (Nat.le_refl _)
          replace tq := tq.below hq (Nat.le_refl _)
          replace fr := below_step fr hq
          rw [HCC.out]
          generalize ucC P S W = cc at *
          have hccb : (cc != cc) = false := by simp
          have Bg := Blk.new w12 40 #[.slice a5 0 i5, .slice b5 0 j5, .slice d5 0 k5]
          have hal : Below w12.heap.size w12 (w12.alloc (.cells #[.slice a5 0 i5, .slice b5 0 j5, .slice d5 0 k5] 40)) := (Below.refl _ _).alloc (Nat.le_refl _) _
          replace Bc := Bc.alloc (.cells #[.slice a5 0 i5, .slice b5 0 j5, .slice d5 0 k5] 40)
          replace Bd := Bd.alloc (.cells #[.slice a5 0 i5, .slice b5 0 j5, .slice d5 0 k5] 40)
          replace Bf := Bf.alloc (.cells #[.slice a5 0 i5, .slice b5 0 j5, .slice d5 0 k5] 40)
          replace h := h.below hal (Nat.le_refl _)
          replace hp := hp.below hal (Nat.le_refl _)
          replace hs := hs.below hal (Nat.le_refl _)
          replace hw := hw.below hal (Nat.le_refl _)
          replace rp := rp.below hal (Nat.le_refl _)
          replace rs := rs.below hal (Nat.le_refl _)
          replace rq := rq.below hal (Nat.le_refl _)
          replace rO := rO.below hal (Nat.le_refl _)
          replace rA := rA.below hal (Nat.le_refl _)
          replace tp := tp.below hal (Nat.le_refl _)
          replace ts := ts.below hal (Nat.le_refl _)
          replace tq := tq.below hal (Nat.le_refl _)
          replace vp := vp.below hal (Nat.le_refl _)
          replace vs := vs.below hal (Nat.le_refl _)
          replace vq := vq.below hal (Nat.le_refl _)
          replace fr := below_step fr hal
          clear hal
          have q_Bc_0 := Bc.cell 0
          have q_Bc_1 := Bc.cell 1
          have q_Bc_2 := Bc.cell 2
          have q_Bd_0 := Bd.cell 0
          have q_Bd_1 := Bd.cell 1
          have q_Bd_2 := Bd.cell 2
          have q_Bf_0 := Bf.cell 0
          have q_Bf_1 := Bf.cell 1
          have q_Bf_2 := Bf.cell 2
          have q_Bg_0 := Bg.cell 0
          have q_Bg_1 := Bg.cell 1
          have q_Bg_2 := Bg.cell 2
          go_wp2_with fail
          clear q_Bc_0 q_Bc_1 q_Bc_2 q_Bd_0 q_Bd_1 q_Bd_2 q_Bf_0 q_Bf_1 q_Bf_2 q_Bg_0 q_Bg_1 q_Bg_2
          refine (likeClu_c _ _ _ _ _ _ [] [] [] _ tp ts tq vp vs vq).mono ?_
          rintro e w13 ⟨rfl, hq⟩
          replace Bc := Bc.stays hq
          replace Bd := Bd.stays hq
          replace Bf := Bf.stays hq
          replace Bg := Bg.stays hq
          replace h := h.below hq (Nat.le_refl _)
          replace hp := hp.below hq (Nat.le_refl _)
          replace hs := hs.below hq (Nat.le_refl _)
          replace hw := hw.below hq (Nat.le_refl _)
          replace rp := rp.below hq (Nat.le_refl _)
          replace rs := rs.below hq (Nat.le_refl _)
          replace rq := rq.below hq (Nat.le_refl _)
          replace rO := rO.below hq (Nat.le_refl _)
          replace rA := rA.below hq (Nat.le_refl _)
          replace tp := tp.below hq (Nat.le_refl _)
          replace ts := ts.below hq (Nat.le_refl _)
          replace tq := tq.below hq (Nat.le_refl _)
          replace vp := vp.below hq (Nat.le_refl _)
          replace vs := vs.below hq (Nat.le_refl _)
          replace vq := vq.below hq (Nat.le_refl _)
          replace fr := below_step fr hq
          clear hccb
          clear tp ts tq vp vs vq Bf Bg Bc Bd hp hs hw rp rs rq h hub hub2
          have hlO : (ordTo (fun j => gI W j) P S P.length).length = m := by rw [ordTo_len]; exact HLP.out
          have hlA : (ordTo (fun j => gI L j) P S P.length).length = m := by rw [ordTo_len]; exact HLP.out
          obtain ⟨bO, oO, rfl, hbO, hcO⟩ := rO.atN hlO (by omega)
          obtain ⟨bA, oA, rfl, hbA, hcA⟩ := rA.atN hlA (by omega)
          have hst : ∀ i, i < m → gI (ordTo (fun j => gI L j) P S P.length) i = gI (ordTo (fun j => gI W j) P S P.length) i + if i = p then st else 0 := fun i hi => HU.out.step i (by rw [HLP.out]; exact hi)
          have hpm : p < m := by rw [← HLP.out]; exact HU.out.pt
          have hpos := HU.out.pos
          generalize ordTo (fun j => gI W j) P S P.length = OO at *
          generalize ordTo (fun j => gI L j) P S P.length = OA at *
          have HST := Lib.hid hst
          have HCO := Lib.hid hcO
          have HCA := Lib.hid hcA
          clear hst hcO hcA hlO hlA rO rA HU HLP HLS HLW
          skip
          go_wp2_with fail
          go_loopw [32, 33] (fun cv iv wr => ∃ k : Nat, k ≤ m ∧ iv = .int .i64 (k : Int) ∧ cv = .int .i64 (pstI p k) ∧ Drew w13 wr) (fun _ iv _ => m - (intOf iv).toNat)
          case atStart => exact ⟨0, Nat.zero_le _, rfl, rfl, Drew.refl _⟩
          case round =>
            obtain ⟨k, hk, rfl, rfl, hdr⟩ := hrel
            obtain ⟨wo, rfl⟩ : ∃ wo : World, wo = wr := ⟨_, rfl⟩
            have hdb := hdr.below w13.heap.size
            have hpb := pstI_bd p k
            by_cases hlt : k < m
            · have dO : wo.cell? ⟨bO, oO + k, none⟩ = some (.int .i64 (gI OO k)) := by rw [hdb.cell (p := ⟨bO, oO + k, none⟩) hbO]; exact HCO.out k hlt
              have dA : wo.cell? ⟨bA, oA + k, none⟩ = some (.int .i64 (gI OA k)) := by rw [hdb.cell (p := ⟨bA, oA + k, none⟩) hbA]; exact HCA.out k hlt
              have hs := HST.out k hlt
              have hki : (k : Int) < (m : Int) := by omega
              have hk0 : (0 : Int) ≤ (k : Int) := by omega
              have HD := Lib.hid hdr
              clear hdr hdb
              generalize gI OO k = x at *
              generalize gI OA k = y at *
              by_cases hkp : k = p
              · rw [if_pos hkp] at hs
                have hgt : x < y := by omega
                have hP : Hid (pstI p (k + 1) = pstI p k + 1) := Lib.hid (by subst hkp; have := pstI_yes k; omega)
                clear hs hkp
                generalize pstI p k = c at *
                go_wp2_with fail
                go_quiet (fail)
                go_wp2
                go_roundw
                case rel => exact ⟨k + 1, by omega, by go_num, by rw [hP.out], HD.out.trans (Drew.one _ _)⟩
                case measure => simp [intOf]; omega
              · rw [if_neg hkp] at hs
                have hgt : ¬ x < y := by omega
                have hgt2 : ¬ y < x := by omega
                have hP : Hid (pstI p (k + 1) = pstI p k) := Lib.hid (pstI_no hkp)
                clear hs hkp
                generalize pstI p k = c at *
                go_wp2_with fail
                go_quiet (fail)
                have dO2 : (wo.drewN nq).cell? ⟨bO, oO + k, none⟩ = some (.int .i64 x) := dO
                have dA2 : (wo.drewN nq).cell? ⟨bA, oA + k, none⟩ = some (.int .i64 y) := dA
                have HD2 := Lib.hid (HD.out.trans (Drew.one wo nq))
                generalize wo.drewN nq = w7 at *
                clear dO dA HD
                go_wp2_with fail
                go_quiet (fail)
                go_wp2
                go_roundw
                case rel => exact ⟨k + 1, by omega, by go_num, by rw [hP.out], HD2.out.trans (Drew.one _ _)⟩
                case measure => simp [intOf]; omega
            · have hke : k = m := by omega
              have hone : (pstI p k == 1) = true := by rw [hke, pstI_all hpm]; rfl
              have hki : ¬ (k : Int) < (m : Int) := by omega
              have HFR := Lib.hid (fr.trans (hdb.mono fr.size))
              clear hdr hdb hke fr
              generalize pstI p k = c at *
              go_wp2
              go_ret
              exact ⟨rfl, HFR.out⟩
        · skip
          have hub2 := HU.out.okB.trans hub
          have q_Bc_0 := Bc.cell 0
          have q_Bc_1 := Bc.cell 1
          have q_Bc_2 := Bc.cell 2
          have q_Bd_0 := Bd.cell 0
          have q_Bd_1 := Bd.cell 1
          have q_Bd_2 := Bd.cell 2
          go_wp2_with fail
          clear q_Bc_0 q_Bc_1 q_Bc_2 q_Bd_0 q_Bd_1 q_Bd_2
          refine (implUC_ok _ _ _ P S W m _ hp hs hw hub HLP.out).mono ?_
          rintro e w11 ⟨a4, b4, d4, i4, j4, k4, rfl, tp, ts, tq, hq⟩
          replace Bc := Bc.stays hq
          replace Bd := Bd.stays hq
          replace h := h.below hq (Nat.le_refl _)
          replace hp := hp.below hq (Nat.le_refl _)
          replace hs := hs.below hq (Nat.le_refl _)
          replace hw := hw.below hq (Nat.le_refl _)
          replace rp := rp.below hq (Nat.le_refl _)
          replace rs := rs.below hq (Nat.le_refl _)
          replace rq := rq.below hq (Nat.le_refl _)
          replace rO := rO.below hq (Nat.le_refl _)
          replace rA := rA.below hq (Nat.le_refl _)
          replace fr := below_step fr hq
          have Bf := Blk.new w11 40 #[.slice a4 m i4, .slice b4 m j4, .slice d4 m k4]
          have hal : Below w11.heap.size w11 (w11.alloc (.cells #[.slice a4 m i4, .slice b4 m j4, .slice d4 m k4] 40)) := (Below.refl _ _).alloc (Nat.le_refl _) _
          replace Bc := Bc.alloc (.cells #[.slice a4 m i4, .slice b4 m j4, .slice d4 m k4] 40)
          replace Bd := Bd.alloc (.cells #[.slice a4 m i4, .slice b4 m j4, .slice d4 m k4] 40)
          replace h := h.below hal (Nat.le_refl _)
          replace hp := hp.below hal (Nat.le_refl _)
          replace hs := hs.below hal (Nat.le_refl _)
          replace hw := hw.below hal (Nat.le_refl _)
          replace rp := rp.below hal (Nat.le_refl _)
          replace rs := rs.below hal (Nat.le_refl _)
          replace rq := rq.below hal (Nat.le_refl _)
          replace rO := rO.below hal (Nat.le_refl _)
          replace rA := rA.below hal (Nat.le_refl _)
          replace tp := tp.below hal (Nat.le_refl _)
          replace ts := ts.below hal (Nat.le_refl _)
          replace tq := tq.below hal (Nat.le_refl _)
          replace fr := below_step fr hal
          clear hal
          have q_Bc_0 := Bc.cell 0
          have q_Bc_1 := Bc.cell 1
          have q_Bc_2 := Bc.cell 2
          have q_Bd_0 := Bd.cell 0
          have q_Bd_1 := Bd.cell 1
          have q_Bd_2 := Bd.cell 2
          have q_Bf_0 := Bf.cell 0
          have q_Bf_1 := Bf.cell 1
          have q_Bf_2 := Bf.cell 2
          go_wp2_with fail
          clear q_Bc_0 q_Bc_1 q_Bc_2 q_Bd_0 q_Bd_1 q_Bd_2 q_Bf_0 q_Bf_1 q_Bf_2
          refine (implUC_ok _ _ _ P S L m _ rp rs rq hub2 HLP.out).mono ?_
          rintro e w12 ⟨a5, b5, d5, i5, j5, k5, rfl, vp, vs, vq, hq⟩
          replace Bc := Bc.stays hq
          replace Bd := Bd.stays hq
          replace Bf := Bf.stays hq
          replace h := h.below hq (Nat.le_refl _)
          replace hp := hp.below hq (Nat.le_refl _)
          replace hs := hs.below hq (Nat.le_refl _)
          replace hw := hw.below hq (Nat.le_refl _)
          replace rp := rp.below hq (Nat.le_refl _)
          replace rs := rs.below hq (Nat.le_refl _)
          replace rq := rq.below hq (Nat.le_refl _)
          replace rO := rO.below hq (Nat.le_refl _)
          replace rA := rA.below hq (Nat.le_refl _)
          replace tp := tp.below hq (Nat.le_refl _)
          replace ts := ts.below hq (Nat.le_refl _)
          replace tq := tq.below hq (Nat.le_refl _)
          replace fr := below_step fr hq
          rw [HU.out.same] at vq
          generalize unlL P S W = L2 at *
          have Bg := Blk.new w12 40 #[.slice a5 m i5, .slice b5 m j5, .slice d5 m k5]
          have hal : Below w12.heap.size w12 (w12.alloc (.cells #[.slice a5 m i5, .slice b5 m j5, .slice d5 m k5] 40)) := (Below.refl _ _).alloc (Nat.le_refl _) _
          replace Bc := Bc.alloc (.cells #[.slice a5 m i5, .slice b5 m j5, .slice d5 m k5] 40)
          replace Bd := Bd.alloc (.cells #[.slice a5 m i5, .slice b5 m j5, .slice d5 m k5] 40)
          replace Bf := Bf.alloc (.cells #[.slice a5 m i5, .slice b5 m j5, .slice d5 m k5] 40)
          replace h := h.below hal (Nat.le_refl _)
          replace hp := hp.below hal (Nat.le_refl _)
          replace hs := hs.below hal (Nat.le_refl _)
          replace hw := hw.below hal (Nat.le_refl _)
          replace rp := rp.below hal (Nat.le_refl _)
          replace rs := rs.below hal (Nat.le_refl _)
          replace rq := rq.below hal (Nat.le_refl _)
          replace rO := rO.below hal (Nat.le_refl _)
          replace rA := rA.below hal (Nat.le_refl _)
          replace tp := tp.below hal (Nat.le_refl _)
          replace ts := ts.below hal (Nat.le_refl _)
          replace tq := tq.below hal (Nat.le_refl _)
          replace vp := vp.below hal (Nat.le_refl _)
          replace vs := vs.below hal (Nat.le_refl _)
          replace vq := vq.below hal (Nat.le_refl _)
          replace fr := below_step fr hal
          clear hal
          have q_Bc_0 := Bc.cell 0
          have q_Bc_1 := Bc.cell 1
          have q_Bc_2 := Bc.cell 2
          have q_Bd_0 := Bd.cell 0
          have q_Bd_1 := Bd.cell 1
          have q_Bd_2 := Bd.cell 2
          have q_Bf_0 := Bf.cell 0
          have q_Bf_1 := Bf.cell 1
          have q_Bf_2 := Bf.cell 2
          have q_Bg_0 := Bg.cell 0
          have q_Bg_1 := Bg.cell 1
          have q_Bg_2 := Bg.cell 2
          go_wp2_with fail
          clear q_Bc_0 q_Bc_1 q_Bc_2 q_Bd_0 q_Bd_1 q_Bd_2 q_Bf_0 q_Bf_1 q_Bf_2 q_Bg_0 q_Bg_1 q_Bg_2
          refine (likeClu_c _ _ _ _ _ _ P S L2 _ tp ts tq vp vs vq).mono ?_
          rintro e w13 ⟨rfl, hq⟩
          replace Bc := Bc.stays hq
          replace Bd := Bd.stays hq
          replace Bf := Bf.stays hq
          replace Bg := Bg.stays hq
          replace h := h.below hq (Nat.le_refl _)
          replace hp := hp.below hq (Nat.le_refl _)
          replace hs := hs.below hq (Nat.le_refl _)
          replace hw := hw.below hq (Nat.le_refl _)
          replace rp := rp.below hq (Nat.le_refl _)
          replace rs := rs.below hq (Nat.le_refl _)
          replace rq := rq.below hq (Nat.le_refl _)
          replace rO := rO.below hq (Nat.le_refl _)
          replace rA := rA.below hq (Nat.le_refl _)
          replace tp := tp.below hq (Nat.le_refl _)
          replace ts := ts.below hq (Nat.le_refl _)
          replace tq := tq.below hq (Nat.le_refl _)
          replace vp := vp.below hq (Nat.le_refl _)
          replace vs := vs.below hq (Nat.le_refl _)
          replace vq := vq.below hq (Nat.le_refl _)
          replace fr := below_step fr hq
          clear tp ts tq vp vs vq Bf Bg Bc Bd hp hs hw rp rs rq h hub hub2
          have hlO : (ordTo (fun j => gI W j) P S P.length).length = m := by rw [ordTo_len]; exact HLP.out
          have hlA : (ordTo (fun j => gI L j) P S P.length).length = m := by rw [ordTo_len]; exact HLP.out
          obtain ⟨bO, oO, rfl, hbO, hcO⟩ := rO.atN hlO (by omega)
          obtain ⟨bA, oA, rfl, hbA, hcA⟩ := rA.atN hlA (by omega)
          have hst : ∀ i, i < m → gI (ordTo (fun j => gI L j) P S P.length) i = gI (ordTo (fun j => gI W j) P S P.length) i + if i = p then st else 0 := fun i hi => HU.out.step i (by rw [HLP.out]; exact hi)
          have hpm : p < m := by rw [← HLP.out]; exact HU.out.pt
          have hpos := HU.out.pos
          generalize ordTo (fun j => gI W j) P S P.length = OO at *
          generalize ordTo (fun j => gI L j) P S P.length = OA at *
          have HST := Lib.hid hst
          have HCO := Lib.hid hcO
          have HCA := Lib.hid hcA
          clear hst hcO hcA hlO hlA rO rA HU HLP HLS HLW
          skip
          go_wp2_with fail
          go_loopw [32, 33] (fun cv iv wr => ∃ k : Nat, k ≤ m ∧ iv = .int .i64 (k : Int) ∧ cv = .int .i64 (pstI p k) ∧ Drew w13 wr) (fun _ iv _ => m - (intOf iv).toNat)
          case atStart => exact ⟨0, Nat.zero_le _, rfl, rfl, Drew.refl _⟩
          case round =>
            obtain ⟨k, hk, rfl, rfl, hdr⟩ := hrel
            obtain ⟨wo, rfl⟩ : ∃ wo : World, wo = wr := ⟨_, rfl⟩
            have hdb := hdr.below w13.heap.size
            have hpb := pstI_bd p k
            by_cases hlt : k < m
            · have dO : wo.cell? ⟨bO, oO + k, none⟩ = some (.int .i64 (gI OO k)) := by rw [hdb.cell (p := ⟨bO, oO + k, none⟩) hbO]; exact HCO.out k hlt
              have dA : wo.cell? ⟨bA, oA + k, none⟩ = some (.int .i64 (gI OA k)) := by rw [hdb.cell (p := ⟨bA, oA + k, none⟩) hbA]; exact HCA.out k hlt
              have hs := HST.out k hlt
              have hki : (k : Int) < (m : Int) := by omega
              have hk0 : (0 : Int) ≤ (k : Int) := by omega
              have HD := Lib.hid hdr
              clear hdr hdb
              generalize gI OO k = x at *
              generalize gI OA k = y at *
              by_cases hkp : k = p
              · rw [if_pos hkp] at hs
                have hgt : x < y := by omega
                have hP : Hid (pstI p (k + 1) = pstI p k + 1) := Lib.hid (by subst hkp; have := pstI_yes k; omega)
                clear hs hkp
                generalize pstI p k = c at *
                go_wp2_with fail
                go_quiet (fail)
                go_wp2
                go_roundw
                case rel => exact ⟨k + 1, by omega, by go_num, by rw [hP.out], HD.out.trans (Drew.one _ _)⟩
                case measure => simp [intOf]; omega
              · rw [if_neg hkp] at hs
                have hgt : ¬ x < y := by omega
                have hgt2 : ¬ y < x := by omega
                have hP : Hid (pstI p (k + 1) = pstI p k) := Lib.hid (pstI_no hkp)
                clear hs hkp
                generalize pstI p k = c at *
                go_wp2_with fail
                go_quiet (fail)
                have dO2 : (wo.drewN nq).cell? ⟨bO, oO + k, none⟩ = some (.int .i64 x) := dO
                have dA2 : (wo.drewN nq).cell? ⟨bA, oA + k, none⟩ = some (.int .i64 y) := dA
                have HD2 := Lib.hid (HD.out.trans (Drew.one wo nq))
                generalize wo.drewN nq = w7 at *
                clear dO dA HD
                go_wp2_with fail
                go_quiet (fail)
                go_wp2
                go_roundw
                case rel => exact ⟨k + 1, by omega, by go_num, by rw [hP.out], HD2.out.trans (Drew.one _ _)⟩
                case measure => simp [intOf]; omega
            · have hke : k = m := by omega
              have hone : (pstI p k == 1) = true := by rw [hke, pstI_all hpm]; rfl
              have hki : ¬ (k : Int) < (m : Int) := by omega
              have HFR := Lib.hid (fr.trans (hdb.mono fr.size))
              clear hdr hdb hke fr
              generalize pstI p k = c at *
              go_wp2
              go_ret
              exact ⟨rfl, HFR.out⟩
    · skip
      have hul := ul_ok hu
      obtain rfl : m = n3 := by have := hul.old.1.2.2.2; rw [HLP.out, HLW.out] at this; exact this.symm
      have HU := Lib.hid hul
      clear hul
      have q_Bc_0 := Bc.cell 0
      have q_Bc_1 := Bc.cell 1
      have q_Bc_2 := Bc.cell 2
      go_wp2_with fail
      clear q_Bc_0 q_Bc_1 q_Bc_2
      refine (implUC_ok _ _ _ P S W m _ hp hs hw hu HLP.out).mono ?_
      rintro e w2 ⟨a2, b2, d2, i2, j2, k2, rfl, rp, rs, rq, hq⟩
      replace Bc := Bc.stays hq
      replace h := h.below hq (Nat.le_refl _)
      replace hp := hp.below hq (Nat.le_refl _)
      replace hs := hs.below hq (Nat.le_refl _)
      replace hw := hw.below hq (Nat.le_refl _)
      replace fr := below_step fr hq
      have Bd := Blk.new w2 40 #[.slice a2 m i2, .slice b2 m j2, .slice d2 m k2]
      have hal : Below w2.heap.size w2 (w2.alloc (.cells #[.slice a2 m i2, .slice b2 m j2, .slice d2 m k2] 40)) := (Below.refl _ _).alloc (Nat.le_refl _) _
      replace Bc := Bc.alloc (.cells #[.slice a2 m i2, .slice b2 m j2, .slice d2 m k2] 40)
      replace h := h.below hal (Nat.le_refl _)
      replace hp := hp.below hal (Nat.le_refl _)
      replace hs := hs.below hal (Nat.le_refl _)
      replace hw := hw.below hal (Nat.le_refl _)
      replace rp := rp.below hal (Nat.le_refl _)
      replace rs := rs.below hal (Nat.le_refl _)
      replace rq := rq.below hal (Nat.le_refl _)
      replace fr := below_step fr hal
      clear hal
      have q_Bc_0 := Bc.cell 0
      have q_Bc_1 := Bc.cell 1
      have q_Bc_2 := Bc.cell 2
      have q_Bd_0 := Bd.cell 0
      have q_Bd_1 := Bd.cell 1
      have q_Bd_2 := Bd.cell 2
      go_wp2_with fail
      clear q_Bc_0 q_Bc_1 q_Bc_2 q_Bd_0 q_Bd_1 q_Bd_2
      refine (specUC_ok _ _ _ P S W m _ hp hs hw hu HLP.out).mono ?_
      rintro e w3 ⟨a3, b3, d3, i3, j3, k3, rfl, sp, ss, sq, hq⟩
      replace Bc := Bc.stays hq
      replace Bd := Bd.stays hq
      replace h := h.below hq (Nat.le_refl _)
      replace hp := hp.below hq (Nat.le_refl _)
      replace hs := hs.below hq (Nat.le_refl _)
      replace hw := hw.below hq (Nat.le_refl _)
      replace rp := rp.below hq (Nat.le_refl _)
      replace rs := rs.below hq (Nat.le_refl _)
      replace rq := rq.below hq (Nat.le_refl _)
      replace fr := below_step fr hq
      generalize unlL P S W = L at *
      have Be := Blk.new w3 40 #[.slice a3 m i3, .slice b3 m j3, .slice d3 m k3]
      have hal : Below w3.heap.size w3 (w3.alloc (.cells #[.slice a3 m i3, .slice b3 m j3, .slice d3 m k3] 40)) := (Below.refl _ _).alloc (Nat.le_refl _) _
      replace Bc := Bc.alloc (.cells #[.slice a3 m i3, .slice b3 m j3, .slice d3 m k3] 40)
      replace Bd := Bd.alloc (.cells #[.slice a3 m i3, .slice b3 m j3, .slice d3 m k3] 40)
      replace h := h.below hal (Nat.le_refl _)
      replace hp := hp.below hal (Nat.le_refl _)
      replace hs := hs.below hal (Nat.le_refl _)
      replace hw := hw.below hal (Nat.le_refl _)
      replace rp := rp.below hal (Nat.le_refl _)
      replace rs := rs.below hal (Nat.le_refl _)
      replace rq := rq.below hal (Nat.le_refl _)
      replace sp := sp.below hal (Nat.le_refl _)
      replace ss := ss.below hal (Nat.le_refl _)
      replace sq := sq.below hal (Nat.le_refl _)
      replace fr := below_step fr hal
      clear hal
      have q_Bc_0 := Bc.cell 0
      have q_Bc_1 := Bc.cell 1
      have q_Bc_2 := Bc.cell 2
      have q_Bd_0 := Bd.cell 0
      have q_Bd_1 := Bd.cell 1
      have q_Bd_2 := Bd.cell 2
      have q_Be_0 := Be.cell 0
      have q_Be_1 := Be.cell 1
      have q_Be_2 := Be.cell 2
      go_wp2_with fail
      clear q_Bc_0 q_Bc_1 q_Bc_2 q_Bd_0 q_Bd_1 q_Bd_2 q_Be_0 q_Be_1 q_Be_2
      refine (likeClu_c _ _ _ _ _ _ P S L _ rp rs rq sp ss sq).mono ?_
      rintro e w4 ⟨rfl, hq⟩
      replace Bc := Bc.stays hq
      replace Bd := Bd.stays hq
      replace Be := Be.stays hq
      replace h := h.below hq (Nat.le_refl _)
      replace hp := hp.below hq (Nat.le_refl _)
      replace hs := hs.below hq (Nat.le_refl _)
      replace hw := hw.below hq (Nat.le_refl _)
      replace rp := rp.below hq (Nat.le_refl _)
      replace rs := rs.below hq (Nat.le_refl _)
      replace rq := rq.below hq (Nat.le_refl _)
      replace sp := sp.below hq (Nat.le_refl _)
      replace ss := ss.below hq (Nat.le_refl _)
      replace sq := sq.below hq (Nat.le_refl _)
      replace fr := below_step fr hq
      clear Be sp ss sq hu
      have q_Bc_0 := Bc.cell 0
      have q_Bc_1 := Bc.cell 1
      have q_Bc_2 := Bc.cell 2
      have q_Bd_0 := Bd.cell 0
      have q_Bd_1 := Bd.cell 1
      have q_Bd_2 := Bd.cell 2
      go_upto_if 58 with fail
      go_cut [] from 8 to 140 (fun wc => Below w4.heap.size w4 wc)
      case first =>
        clear q_Bc_0 q_Bc_1 q_Bc_2 q_Bd_0 q_Bd_1 q_Bd_2
        clear fr
        have q_Bc_0 := Bc.cell 0
        have q_Bc_1 := Bc.cell 1
        have q_Bc_2 := Bc.cell 2
        have q_Bd_0 := Bd.cell 0
        have q_Bd_1 := Bd.cell 1
        have q_Bd_2 := Bd.cell 2
        go_wp2_with fail
        clear q_Bc_0 q_Bc_1 q_Bc_2 q_Bd_0 q_Bd_1 q_Bd_2
        refine (consist_c _ _ _ P S L true _ rp rs rq HU.out.new HU.out.con).mono ?_
        rintro e w5 ⟨rfl, hq⟩
        replace Bc := Bc.stays hq
        replace Bd := Bd.stays hq
        replace h := h.below hq (Nat.le_refl _)
        replace hp := hp.below hq (Nat.le_refl _)
        replace hs := hs.below hq (Nat.le_refl _)
        replace hw := hw.below hq (Nat.le_refl _)
        replace rp := rp.below hq (Nat.le_refl _)
        replace rs := rs.below hq (Nat.le_refl _)
        replace rq := rq.below hq (Nat.le_refl _)
        have fr : Below w4.heap.size w4 _ := hq
        have q_Bc_0 := Bc.cell 0
        have q_Bc_1 := Bc.cell 1
        have q_Bc_2 := Bc.cell 2
        have q_Bd_0 := Bd.cell 0
        have q_Bd_1 := Bd.cell 1
        have q_Bd_2 := Bd.cell 2
        go_wp2_with fail
        clear q_Bc_0 q_Bc_1 q_Bc_2 q_Bd_0 q_Bd_1 q_Bd_2
        refine (orders_ok _ _ _ P S W m _ hp hs hw HU.out.old HLP.out).mono ?_
        rintro e w6 ⟨aO, kO, rfl, rO, hq⟩
        replace Bc := Bc.stays hq
        replace Bd := Bd.stays hq
        replace h := h.below hq (Nat.le_refl _)
        replace hp := hp.below hq (Nat.le_refl _)
        replace hs := hs.below hq (Nat.le_refl _)
        replace hw := hw.below hq (Nat.le_refl _)
        replace rp := rp.below hq (Nat.le_refl _)
        replace rs := rs.below hq (Nat.le_refl _)
        replace rq := rq.below hq (Nat.le_refl _)
        replace fr := below_step fr hq
        have q_Bc_0 := Bc.cell 0
        have q_Bc_1 := Bc.cell 1
        have q_Bc_2 := Bc.cell 2
        have q_Bd_0 := Bd.cell 0
        have q_Bd_1 := Bd.cell 1
        have q_Bd_2 := Bd.cell 2
        go_wp2_with fail
        clear q_Bc_0 q_Bc_1 q_Bc_2 q_Bd_0 q_Bd_1 q_Bd_2
        refine (orders_ok _ _ _ P S L m _ rp rs rq HU.out.new HLP.out).mono ?_
        rintro e w7 ⟨aA, kA, rfl, rA, hq⟩
        replace Bc := Bc.stays hq
        replace Bd := Bd.stays hq
        replace h := h.below hq (Nat.le_refl _)
        replace hp := hp.below hq (Nat.le_refl _)
        replace hs := hs.below hq (Nat.le_refl _)
        replace hw := hw.below hq (Nat.le_refl _)
        replace rp := rp.below hq (Nat.le_refl _)
        replace rs := rs.below hq (Nat.le_refl _)
        replace rq := rq.below hq (Nat.le_refl _)
        replace rO := rO.below hq (Nat.le_refl _)
        replace fr := below_step fr hq
        have q_Bc_0 := Bc.cell 0
        have q_Bc_1 := Bc.cell 1
        have q_Bc_2 := Bc.cell 2
        have q_Bd_0 := Bd.cell 0
        have q_Bd_1 := Bd.cell 1
        have q_Bd_2 := Bd.cell 2
        go_wp2_with fail
        clear q_Bc_0 q_Bc_1 q_Bc_2 q_Bd_0 q_Bd_1 q_Bd_2
        refine (implUC_ok _ _ _ P S L m _ rp rs rq HU.out.okB HLP.out).mono ?_
        rintro e w8 ⟨a5, b5, d5, i5, j5, k5, rfl, vp, vs, vq, hq⟩
        replace Bc := Bc.stays hq
        replace Bd := Bd.stays hq
        replace h := h.below hq (Nat.le_refl _)
        replace hp := hp.below hq (Nat.le_refl _)
        replace hs := hs.below hq (Nat.le_refl _)
        replace hw := hw.below hq (Nat.le_refl _)
        replace rp := rp.below hq (Nat.le_refl _)
        replace rs := rs.below hq (Nat.le_refl _)
        replace rq := rq.below hq (Nat.le_refl _)
        replace rO := rO.below hq (Nat.le_refl _)
        replace rA := rA.below hq (Nat.le_refl _)
        replace fr := below_step fr hq
        rw [HU.out.again] at vq
        have Bg := Blk.new w8 40 #[.slice a5 m i5, .slice b5 m j5, .slice d5 m k5]
        have hal : Below w8.heap.size w8 (w8.alloc (.cells #[.slice a5 m i5, .slice b5 m j5, .slice d5 m k5] 40)) := (Below.refl _ _).alloc (Nat.le_refl _) _
        replace Bc := Bc.alloc (.cells #[.slice a5 m i5, .slice b5 m j5, .slice d5 m k5] 40)
        replace Bd := Bd.alloc (.cells #[.slice a5 m i5, .slice b5 m j5, .slice d5 m k5] 40)
        replace h := h.below hal (Nat.le_refl _)
        replace hp := hp.below hal (Nat.le_refl _)
        replace hs := hs.below hal (Nat.le_refl _)
        replace hw := hw.below hal (Nat.le_refl _)
        replace rp := rp.below hal (Nat.le_refl _)
        replace rs := rs.below hal (Nat.le_refl _)
        replace rq := rq.below hal (Nat.le_refl _)
        replace rO := rO.below hal (Nat.le_refl _)
        replace rA := rA.below hal (Nat.le_refl _)
        replace vp := vp.below hal (Nat.le_refl _)
        replace vs := vs.below hal (Nat.le_refl _)
        replace vq := vq.below hal (Nat.le_refl _)
        replace fr := below_step fr hal
        clear hal
        have q_Bc_0 := Bc.cell 0
        have q_Bc_1 := Bc.cell 1
        have q_Bc_2 := Bc.cell 2
        have q_Bd_0 := Bd.cell 0
        have q_Bd_1 := Bd.cell 1
        have q_Bd_2 := Bd.cell 2
        have q_Bg_0 := Bg.cell 0
        have q_Bg_1 := Bg.cell 1
        have q_Bg_2 := Bg.cell 2
        go_wp2_with fail
        clear q_Bc_0 q_Bc_1 q_Bc_2 q_Bd_0 q_Bd_1 q_Bd_2 q_Bg_0 q_Bg_1 q_Bg_2
        refine (likeClu_c _ _ _ _ _ _ P S L _ vp vs vq rp rs rq).mono ?_
        rintro e w9 ⟨rfl, hq⟩
        replace Bc := Bc.stays hq
        replace Bd := Bd.stays hq
        replace Bg := Bg.stays hq
        replace h := h.below hq (Nat.le_refl _)
        replace hp := hp.below hq (Nat.le_refl _)
        replace hs := hs.below hq (Nat.le_refl _)
        replace hw := hw.below hq (Nat.le_refl _)
        replace rp := rp.below hq (Nat.le_refl _)
        replace rs := rs.below hq (Nat.le_refl _)
        replace rq := rq.below hq (Nat.le_refl _)
        replace rO := rO.below hq (Nat.le_refl _)
        replace rA := rA.below hq (Nat.le_refl _)
        replace vp := vp.below hq (Nat.le_refl _)
        replace vs := vs.below hq (Nat.le_refl _)
        replace vq := vq.below hq (Nat.le_refl _)
        replace fr := below_step fr hq
        clear Bg vp vs vq
        have hlO : (ordTo (fun j => gI W j) P S P.length).length = m := by rw [ordTo_len]; exact HLP.out
        have hlA : (ordTo (fun j => gI L j) P S P.length).length = m := by rw [ordTo_len]; exact HLP.out
        obtain ⟨bO, oO, rfl, hbO, hcO⟩ := rO.atN hlO (by omega)
        obtain ⟨bA, oA, rfl, hbA, hcA⟩ := rA.atN hlA (by omega)
        have hup : ∀ i, i < m → gI (ordTo (fun j => gI W j) P S P.length) i ≤ gI (ordTo (fun j => gI L j) P S P.length) i := fun i hi => HU.out.up i (by rw [HLP.out]; exact hi)
        generalize ordTo (fun j => gI W j) P S P.length = OO at *
        generalize ordTo (fun j => gI L j) P S P.length = OA at *
        have HUP := Lib.hid hup
        have HCO := Lib.hid hcO
        have HCA := Lib.hid hcA
        clear hup hcO hcA hlO hlA rO rA
        have q_Bc_0 := Bc.cell 0
        have q_Bc_1 := Bc.cell 1
        have q_Bc_2 := Bc.cell 2
        have q_Bd_0 := Bd.cell 0
        have q_Bd_1 := Bd.cell 1
        have q_Bd_2 := Bd.cell 2
        go_wp2_with fail
        clear q_Bc_0 q_Bc_1 q_Bc_2 q_Bd_0 q_Bd_1 q_Bd_2
        go_loopw [16] (fun iv wr => ∃ k : Nat, k ≤ m ∧ iv = .int .i64 (k : Int) ∧ Drew w9 wr) (fun iv _ => m - (intOf iv).toNat)
        case atStart => exact ⟨0, Nat.zero_le _, rfl, Drew.refl _⟩
        case round =>
          obtain ⟨k, hk, rfl, hdr⟩ := hrel
          obtain ⟨wo, rfl⟩ : ∃ wo : World, wo = wr := ⟨_, rfl⟩
          have hdb := hdr.below w9.heap.size
          by_cases hlt : k < m
          · have dO : wo.cell? ⟨bO, oO + k, none⟩ = some (.int .i64 (gI OO k)) := by rw [hdb.cell (p := ⟨bO, oO + k, none⟩) hbO]; exact HCO.out k hlt
            have dA : wo.cell? ⟨bA, oA + k, none⟩ = some (.int .i64 (gI OA k)) := by rw [hdb.cell (p := ⟨bA, oA + k, none⟩) hbA]; exact HCA.out k hlt
            have hs := HUP.out k hlt
            have hki : (k : Int) < (m : Int) := by omega
            have hk0 : (0 : Int) ≤ (k : Int) := by omega
            have HD := Lib.hid hdr
            clear hdr hdb
            generalize gI OO k = x at *
            generalize gI OA k = y at *
            have hnlt : ¬ y < x := by omega
            go_wp2_with fail
            go_quiet (fail)
            go_wp2
            go_roundw
            case rel => exact ⟨k + 1, by omega, by go_num, HD.out.trans (Drew.one _ _)⟩
            case measure => simp [intOf]; omega
          · have hki : ¬ (k : Int) < (m : Int) := by omega
            have hq := hdb
            clear hdr hdb HCO HCA HUP
            replace Bc := Bc.stays hq
            replace Bd := Bd.stays hq
            replace h := h.below hq (Nat.le_refl _)
            replace hp := hp.below hq (Nat.le_refl _)
            replace hs := hs.below hq (Nat.le_refl _)
            replace hw := hw.below hq (Nat.le_refl _)
            replace rp := rp.below hq (Nat.le_refl _)
            replace rs := rs.below hq (Nat.le_refl _)
            replace rq := rq.below hq (Nat.le_refl _)
            replace fr := below_step fr hq
            clear hq
            cases hbv : nonNeg (exTo (proxL P S) W P.length)
            · skip
              have q_Bc_0 := Bc.cell 0
              have q_Bc_1 := Bc.cell 1
              have q_Bc_2 := Bc.cell 2
              have q_Bd_0 := Bd.cell 0
              have q_Bd_1 := Bd.cell 1
              have q_Bd_2 := Bd.cell 2
              go_wp2_with fail
              clear q_Bc_0 q_Bc_1 q_Bc_2 q_Bd_0 q_Bd_1 q_Bd_2
              refine (consist_c _ _ _ P S W false _ hp hs hw HU.out.old hbv).mono ?_
              rintro e w10 ⟨rfl, hq⟩
              replace Bc := Bc.stays hq
              replace Bd := Bd.stays hq
              replace h := h.below hq (Nat.le_refl _)
              replace hp := hp.below hq (Nat.le_refl _)
              replace hs := hs.below hq (Nat.le_refl _)
              replace hw := hw.below hq (Nat.le_refl _)
              replace rp := rp.below hq (Nat.le_refl _)
              replace rs := rs.below hq (Nat.le_refl _)
              replace rq := rq.below hq (Nat.le_refl _)
              replace fr := below_step fr hq
              have q_Bc_0 := Bc.cell 0
              have q_Bc_1 := Bc.cell 1
              have q_Bc_2 := Bc.cell 2
              have q_Bd_0 := Bd.cell 0
              have q_Bd_1 := Bd.cell 1
              have q_Bd_2 := Bd.cell 2
              go_wp2
              clear q_Bc_0 q_Bc_1 q_Bc_2 q_Bd_0 q_Bd_1 q_Bd_2
              go_meet
              exact fr
            · skip
              have q_Bc_0 := Bc.cell 0
              have q_Bc_1 := Bc.cell 1
              have q_Bc_2 := Bc.cell 2
              have q_Bd_0 := Bd.cell 0
              have q_Bd_1 := Bd.cell 1
              have q_Bd_2 := Bd.cell 2
              go_wp2_with fail
              clear q_Bc_0 q_Bc_1 q_Bc_2 q_Bd_0 q_Bd_1 q_Bd_2
              refine (consist_c _ _ _ P S W true _ hp hs hw HU.out.old hbv).mono ?_
              rintro e w10 ⟨rfl, hq⟩
              replace Bc := Bc.stays hq
              replace Bd := Bd.stays hq
              replace h := h.below hq (Nat.le_refl _)
              replace hp := hp.below hq (Nat.le_refl _)
              replace hs := hs.below hq (Nat.le_refl _)
              replace hw := hw.below hq (Nat.le_refl _)
              replace rp := rp.below hq (Nat.le_refl _)
              replace rs := rs.below hq (Nat.le_refl _)
              replace rq := rq.below hq (Nat.le_refl _)
              replace fr := below_step fr hq
              have hWL := HU.out.same hbv
              rw [← hWL] at rq
              clear hWL hbv
              have q_Bc_0 := Bc.cell 0
              have q_Bc_1 := Bc.cell 1
              have q_Bc_2 := Bc.cell 2
              have q_Bd_0 := Bd.cell 0
              have q_Bd_1 := Bd.cell 1
              have q_Bd_2 := Bd.cell 2
              go_wp2_with fail
              clear q_Bc_0 q_Bc_1 q_Bc_2 q_Bd_0 q_Bd_1 q_Bd_2
              refine (likeClu_c _ _ _ _ _ _ P S W _ hp hs hw rp rs rq).mono ?_
              rintro e w11 ⟨rfl, hq⟩
              replace Bc := Bc.stays hq
              replace Bd := Bd.stays hq
              replace h := h.below hq (Nat.le_refl _)
              replace hp := hp.below hq (Nat.le_refl _)
              replace hs := hs.below hq (Nat.le_refl _)
              replace hw := hw.below hq (Nat.le_refl _)
              replace rp := rp.below hq (Nat.le_refl _)
              replace rs := rs.below hq (Nat.le_refl _)
              replace rq := rq.below hq (Nat.le_refl _)
              replace fr := below_step fr hq
              have q_Bc_0 := Bc.cell 0
              have q_Bc_1 := Bc.cell 1
              have q_Bc_2 := Bc.cell 2
              have q_Bd_0 := Bd.cell 0
              have q_Bd_1 := Bd.cell 1
              have q_Bd_2 := Bd.cell 2
              go_wp2
              clear q_Bc_0 q_Bc_1 q_Bc_2 q_Bd_0 q_Bd_1 q_Bd_2
              go_meet
              exact fr
      case rest =>
        clear q_Bc_0 q_Bc_1 q_Bc_2 q_Bd_0 q_Bd_1 q_Bd_2
        have hq := hcut
        clear hcut hp hs hw rp rs rq Bc Bd HLP HLS HLW HU hm1 hm2 hn3
        replace h := h.below hq (Nat.le_refl _)
        replace fr := below_step fr hq
        go_wp2_with fail
        refine (drawUnloadStep_w _ C _ h).mono ?_
        rintro e w5 ⟨m, n3, a1, b1, d1, i1, j1, k1, P, S, W, rfl, hp, hs, hw, lp, ls, lw, hm1, hm2, hn3, hq⟩
        have HLP := Lib.hid lp
        have HLS := Lib.hid ls
        have HLW := Lib.hid lw
        clear lp ls lw
        replace h := h.below hq (Nat.le_refl _)
        replace fr := below_step fr hq
        have Bc := Blk.new w5 40 #[.slice a1 m i1, .slice b1 m j1, .slice d1 n3 k1]
        have hal : Below w5.heap.size w5 (w5.alloc (.cells #[.slice a1 m i1, .slice b1 m j1, .slice d1 n3 k1] 40)) := (Below.refl _ _).alloc (Nat.le_refl _) _
        replace h := h.below hal (Nat.le_refl _)
        replace hp := hp.below hal (Nat.le_refl _)
        replace hs := hs.below hal (Nat.le_refl _)
        replace hw := hw.below hal (Nat.le_refl _)
        replace fr := below_step fr hal
        clear hal
        cases hu : usB P S W
        · skip
          have hc0 := usC_ne hu
          have q_Bc_0 := Bc.cell 0
          have q_Bc_1 := Bc.cell 1
          have q_Bc_2 := Bc.cell 2
          go_wp2_with fail
          clear q_Bc_0 q_Bc_1 q_Bc_2
          refine (implUS_no _ _ _ P S W _ hp hs hw hu).mono ?_
          rintro e w6 ⟨a2, b2, d2, i2, j2, k2, rfl, rp, rs, rq, hq⟩
          replace Bc := Bc.stays hq
          replace h := h.below hq (Nat.le_refl _)
          replace hp := hp.below hq (Nat.le_refl _)
          replace hs := hs.below hq (Nat.le_refl _)
          replace hw := hw.below hq (Nat.le_refl _)
          replace fr := below_step fr hq
          have Bd := Blk.new w6 40 #[.slice a2 0 i2, .slice b2 0 j2, .slice d2 0 k2]
          have hal : Below w6.heap.size w6 (w6.alloc (.cells #[.slice a2 0 i2, .slice b2 0 j2, .slice d2 0 k2] 40)) := (Below.refl _ _).alloc (Nat.le_refl _) _
          replace Bc := Bc.alloc (.cells #[.slice a2 0 i2, .slice b2 0 j2, .slice d2 0 k2] 40)
          replace h := h.below hal (Nat.le_refl _)
          replace hp := hp.below hal (Nat.le_refl _)
          replace hs := hs.below hal (Nat.le_refl _)
          replace hw := hw.below hal (Nat.le_refl _)
          replace rp := rp.below hal (Nat.le_refl _)
          replace rs := rs.below hal (Nat.le_refl _)
          replace rq := rq.below hal (Nat.le_refl _)
          replace fr := below_step fr hal
          clear hal
          have q_Bc_0 := Bc.cell 0
          have q_Bc_1 := Bc.cell 1
          have q_Bc_2 := Bc.cell 2
          have q_Bd_0 := Bd.cell 0
          have q_Bd_1 := Bd.cell 1
          have q_Bd_2 := Bd.cell 2
          go_wp2_with fail
          clear q_Bc_0 q_Bc_1 q_Bc_2 q_Bd_0 q_Bd_1 q_Bd_2
          refine (specUS_no _ _ _ P S W _ hp hs hw hu).mono ?_
          rintro e w7 ⟨a3, b3, d3, i3, j3, k3, rfl, sp, ss, sq, hq⟩
          replace Bc := Bc.stays hq
          replace Bd := Bd.stays hq
          replace h := h.below hq (Nat.le_refl _)
          replace hp := hp.below hq (Nat.le_refl _)
          replace hs := hs.below hq (Nat.le_refl _)
          replace hw := hw.below hq (Nat.le_refl _)
          replace rp := rp.below hq (Nat.le_refl _)
          replace rs := rs.below hq (Nat.le_refl _)
          replace rq := rq.below hq (Nat.le_refl _)
          replace fr := below_step fr hq
          have Be := Blk.new w7 40 #[.slice a3 0 i3, .slice b3 0 j3, .slice d3 0 k3]
          have hal : Below w7.heap.size w7 (w7.alloc (.cells #[.slice a3 0 i3, .slice b3 0 j3, .slice d3 0 k3] 40)) := (Below.refl _ _).alloc (Nat.le_refl _) _
          replace Bc := Bc.alloc (.cells #[.slice a3 0 i3, .slice b3 0 j3, .slice d3 0 k3] 40)
          replace Bd := Bd.alloc (.cells #[.slice a3 0 i3, .slice b3 0 j3, .slice d3 0 k3] 40)
          replace h := h.below hal (Nat.le_refl _)
          replace hp := hp.below hal (Nat.le_refl _)
          replace hs := hs.below hal (Nat.le_refl _)
          replace hw := hw.below hal (Nat.le_refl _)
          replace rp := rp.below hal (Nat.le_refl _)
          replace rs := rs.below hal (Nat.le_refl _)
          replace rq := rq.below hal (Nat.le_refl _)
          replace sp := sp.below hal (Nat.le_refl _)
          replace ss := ss.below hal (Nat.le_refl _)
          replace sq := sq.below hal (Nat.le_refl _)
          replace fr := below_step fr hal
          clear hal
          have q_Bc_0 := Bc.cell 0
          have q_Bc_1 := Bc.cell 1
          have q_Bc_2 := Bc.cell 2
          have q_Bd_0 := Bd.cell 0
          have q_Bd_1 := Bd.cell 1
          have q_Bd_2 := Bd.cell 2
          have q_Be_0 := Be.cell 0
          have q_Be_1 := Be.cell 1
          have q_Be_2 := Be.cell 2
          go_wp2_with fail
          clear q_Bc_0 q_Bc_1 q_Bc_2 q_Bd_0 q_Bd_1 q_Bd_2 q_Be_0 q_Be_1 q_Be_2
          refine (likeClu_c _ _ _ _ _ _ [] [] [] _ rp rs rq sp ss sq).mono ?_
          rintro e w8 ⟨rfl, hq⟩
          replace Bc := Bc.stays hq
          replace Bd := Bd.stays hq
          replace Be := Be.stays hq
          replace h := h.below hq (Nat.le_refl _)
          replace hp := hp.below hq (Nat.le_refl _)
          replace hs := hs.below hq (Nat.le_refl _)
          replace hw := hw.below hq (Nat.le_refl _)
          replace rp := rp.below hq (Nat.le_refl _)
          replace rs := rs.below hq (Nat.le_refl _)
          replace rq := rq.below hq (Nat.le_refl _)
          replace sp := sp.below hq (Nat.le_refl _)
          replace ss := ss.below hq (Nat.le_refl _)
          replace sq := sq.below hq (Nat.le_refl _)
          replace fr := below_step fr hq
          have q_Bc_0 := Bc.cell 0
          have q_Bc_1 := Bc.cell 1
          have q_Bc_2 := Bc.cell 2
          have q_Bd_0 := Bd.cell 0
          have q_Bd_1 := Bd.cell 1
          have q_Bd_2 := Bd.cell 2
          have q_Be_0 := Be.cell 0
          have q_Be_1 := Be.cell 1
          have q_Be_2 := Be.cell 2
          go_wp2
          clear q_Bc_0 q_Bc_1 q_Bc_2 q_Bd_0 q_Bd_1 q_Bd_2 q_Be_0 q_Be_1 q_Be_2
          go_ret
          exact ⟨rfl, fr⟩
        · skip
          obtain ⟨p, st, hus⟩ := us_ok hu
          obtain rfl : m = n3 := by have := hus.old.1.2.2.2; rw [HLP.out, HLW.out] at this; exact this.symm
          have HU := Lib.hid hus
          clear hus
          have q_Bc_0 := Bc.cell 0
          have q_Bc_1 := Bc.cell 1
          have q_Bc_2 := Bc.cell 2
          go_wp2_with fail
          clear q_Bc_0 q_Bc_1 q_Bc_2
          refine (implUS_ok _ _ _ P S W m _ hp hs hw hu HLP.out).mono ?_
          rintro e w6 ⟨a2, b2, d2, i2, j2, k2, rfl, rp, rs, rq, hq⟩
          replace Bc := Bc.stays hq
          replace h := h.below hq (Nat.le_refl _)
          replace hp := hp.below hq (Nat.le_refl _)
          replace hs := hs.below hq (Nat.le_refl _)
          replace hw := hw.below hq (Nat.le_refl _)
          replace fr := below_step fr hq
          have Bd := Blk.new w6 40 #[.slice a2 m i2, .slice b2 m j2, .slice d2 m k2]
          have hal : Below w6.heap.size w6 (w6.alloc (.cells #[.slice a2 m i2, .slice b2 m j2, .slice d2 m k2] 40)) := (Below.refl _ _).alloc (Nat.le_refl _) _
          replace Bc := Bc.alloc (.cells #[.slice a2 m i2, .slice b2 m j2, .slice d2 m k2] 40)
          replace h := h.below hal (Nat.le_refl _)
          replace hp := hp.below hal (Nat.le_refl _)
          replace hs := hs.below hal (Nat.le_refl _)
          replace hw := hw.below hal (Nat.le_refl _)
          replace rp := rp.below hal (Nat.le_refl _)
          replace rs := rs.below hal (Nat.le_refl _)
          replace rq := rq.below hal (Nat.le_refl _)
          replace fr := below_step fr hal
          clear hal
          have q_Bc_0 := Bc.cell 0
          have q_Bc_1 := Bc.cell 1
          have q_Bc_2 := Bc.cell 2
          have q_Bd_0 := Bd.cell 0
          have q_Bd_1 := Bd.cell 1
          have q_Bd_2 := Bd.cell 2
          go_wp2_with fail
          clear q_Bc_0 q_Bc_1 q_Bc_2 q_Bd_0 q_Bd_1 q_Bd_2
          refine (specUS_ok _ _ _ P S W m _ hp hs hw hu HLP.out).mono ?_
          rintro e w7 ⟨a3, b3, d3, i3, j3, k3, rfl, sp, ss, sq, hq⟩
          replace Bc := Bc.stays hq
          replace Bd := Bd.stays hq
          replace h := h.below hq (Nat.le_refl _)
          replace hp := hp.below hq (Nat.le_refl _)
          replace hs := hs.below hq (Nat.le_refl _)
          replace hw := hw.below hq (Nat.le_refl _)
          replace rp := rp.below hq (Nat.le_refl _)
          replace rs := rs.below hq (Nat.le_refl _)
          replace rq := rq.below hq (Nat.le_refl _)
          replace fr := below_step fr hq
          generalize usL P S W = L at *
          have Be := Blk.new w7 40 #[.slice a3 m i3, .slice b3 m j3, .slice d3 m k3]
          have hal : Below w7.heap.size w7 (w7.alloc (.cells #[.slice a3 m i3, .slice b3 m j3, .slice d3 m k3] 40)) := (Below.refl _ _).alloc (Nat.le_refl _) _
          replace Bc := Bc.alloc (.cells #[.slice a3 m i3, .slice b3 m j3, .slice d3 m k3] 40)
          replace Bd := Bd.alloc (.cells #[.slice a3 m i3, .slice b3 m j3, .slice d3 m k3] 40)
          replace h := h.below hal (Nat.le_refl _)
          replace hp := hp.below hal (Nat.le_refl _)
          replace hs := hs.below hal (Nat.le_refl _)
          replace hw := hw.below hal (Nat.le_refl _)
          replace rp := rp.below hal (Nat.le_refl _)
          replace rs := rs.below hal (Nat.le_refl _)
          replace rq := rq.below hal (Nat.le_refl _)
          replace sp := sp.below hal (Nat.le_refl _)
          replace ss := ss.below hal (Nat.le_refl _)
          replace sq := sq.below hal (Nat.le_refl _)
          replace fr := below_step fr hal
          clear hal
          have q_Bc_0 := Bc.cell 0
          have q_Bc_1 := Bc.cell 1
          have q_Bc_2 := Bc.cell 2
          have q_Bd_0 := Bd.cell 0
          have q_Bd_1 := Bd.cell 1
          have q_Bd_2 := Bd.cell 2
          have q_Be_0 := Be.cell 0
          have q_Be_1 := Be.cell 1
          have q_Be_2 := Be.cell 2
          go_wp2_with fail
          clear q_Bc_0 q_Bc_1 q_Bc_2 q_Bd_0 q_Bd_1 q_Bd_2 q_Be_0 q_Be_1 q_Be_2
          refine (likeClu_c _ _ _ _ _ _ P S L _ rp rs rq sp ss sq).mono ?_
          rintro e w8 ⟨rfl, hq⟩
          replace Bc := Bc.stays hq
          replace Bd := Bd.stays hq
          replace Be := Be.stays hq
          replace h := h.below hq (Nat.le_refl _)
          replace hp := hp.below hq (Nat.le_refl _)
          replace hs := hs.below hq (Nat.le_refl _)
          replace hw := hw.below hq (Nat.le_refl _)
          replace rp := rp.below hq (Nat.le_refl _)
          replace rs := rs.below hq (Nat.le_refl _)
          replace rq := rq.below hq (Nat.le_refl _)
          replace sp := sp.below hq (Nat.le_refl _)
          replace ss := ss.below hq (Nat.le_refl _)
          replace sq := sq.below hq (Nat.le_refl _)
          replace fr := below_step fr hq
          clear Be sp ss sq
          have q_Bc_0 := Bc.cell 0
          have q_Bc_1 := Bc.cell 1
          have q_Bc_2 := Bc.cell 2
          have q_Bd_0 := Bd.cell 0
          have q_Bd_1 := Bd.cell 1
          have q_Bd_2 := Bd.cell 2
          go_wp2_with fail
          clear q_Bc_0 q_Bc_1 q_Bc_2 q_Bd_0 q_Bd_1 q_Bd_2
          refine (orders_ok _ _ _ P S W m _ hp hs hw HU.out.old HLP.out).mono ?_
          rintro e w9 ⟨aO, kO, rfl, rO, hq⟩
          replace Bc := Bc.stays hq
          replace Bd := Bd.stays hq
          replace h := h.below hq (Nat.le_refl _)
          replace hp := hp.below hq (Nat.le_refl _)
          replace hs := hs.below hq (Nat.le_refl _)
          replace hw := hw.below hq (Nat.le_refl _)
          replace rp := rp.below hq (Nat.le_refl _)
          replace rs := rs.below hq (Nat.le_refl _)
          replace rq := rq.below hq (Nat.le_refl _)
          replace fr := below_step fr hq
          have q_Bc_0 := Bc.cell 0
          have q_Bc_1 := Bc.cell 1
          have q_Bc_2 := Bc.cell 2
          have q_Bd_0 := Bd.cell 0
          have q_Bd_1 := Bd.cell 1
          have q_Bd_2 := Bd.cell 2
          go_wp2_with fail
          clear q_Bc_0 q_Bc_1 q_Bc_2 q_Bd_0 q_Bd_1 q_Bd_2
          refine (orders_ok _ _ _ P S L m _ rp rs rq HU.out.new HLP.out).mono ?_
          rintro e w10 ⟨aA, kA, rfl, rA, hq⟩
          replace Bc := Bc.stays hq
          replace Bd := Bd.stays hq
          replace h := h.below hq (Nat.le_refl _)
          replace hp := hp.below hq (Nat.le_refl _)
          replace hs := hs.below hq (Nat.le_refl _)
          replace hw := hw.below hq (Nat.le_refl _)
          replace rp := rp.below hq (Nat.le_refl _)
          replace rs := rs.below hq (Nat.le_refl _)
          replace rq := rq.below hq (Nat.le_refl _)
          replace rO := rO.below hq (Nat.le_refl _)
          replace fr := below_step fr hq
          cases hub : ucB P S W
          · skip
            have hub2 := HU.out.okB.trans hub
            have hcc := HU.out.okC
            have HCC := Lib.hid hcc
            clear hcc
            have q_Bc_0 := Bc.cell 0
            have q_Bc_1 := Bc.cell 1
            have q_Bc_2 := Bc.cell 2
            have q_Bd_0 := Bd.cell 0
            have q_Bd_1 := Bd.cell 1
            have q_Bd_2 := Bd.cell 2
            go_wp2_with fail
            clear q_Bc_0 q_Bc_1 q_Bc_2 q_Bd_0 q_Bd_1 q_Bd_2
            refine (implUC_no _ _ _ P S W _ hp hs hw hub).mono ?_
            rintro e w11 ⟨a4, b4, d4, i4, j4, k4, rfl, tp, ts, tq, hq⟩
            replace Bc := Bc.stays hq
            replace Bd := Bd.stays hq
            replace h := h.below hq (Nat.le_refl _)
            replace hp := hp.below hq (Nat.le_refl _)
            replace hs := hs.below hq (Nat.le_refl _)
            replace hw := hw.below hq (Nat.le_refl _)
            replace rp := rp.below hq (Nat.le_refl _)
            replace rs := rs.below hq (Nat.le_refl _)
            replace rq := rq.below hq (Nat.le_refl _)
            replace rO := rO.below hq (Nat.le_refl _)
            replace rA := rA.below hq (Nat.le_refl _)
            replace fr := below_step fr hq
            have Bf := Blk.new w11 40 #[.slice a4 0 i4, .slice b4 0 j4, .slice d4 0 k4]
            have hal : Below w11.heap.size w11 (w11.alloc (.cells #[.slice a4 0 i4, .slice b4 0 j4, .slice d4 0 k4] 40)) := (Below.refl _ _).alloc (Nat.le_refl _) _
            replace Bc := Bc.alloc (.cells #[.slice a4 0 i4, .slice b4 0 j4, .slice d4 0 k4] 40)
            replace Bd := Bd.alloc (.cells #[.slice a4 0 i4, .slice b4 0 j4, .slice d4 0 k4] 40)
            replace h := h.below hal (Nat.le_refl _)
            replace hp := hp.below hal (Nat.le_refl _)
            replace hs := hs.below hal (Nat.le_refl _)
            replace hw := hw.below hal (Nat.le_refl _)
            replace rp := rp.below hal (Nat.le_refl _)
            replace rs := rs.below hal (Nat.le_refl _)
            replace rq := rq.below hal (Nat.le_refl _)
            replace rO := rO.below hal (Nat.le_refl _)
            replace rA := rA.below hal (Nat.le_refl _)
            replace tp := tp.below hal (Nat.le_refl _)
            replace ts := ts.below hal (Nat.le_refl _)
            replace tq := tq.below hal (Nat.le_refl _)
            replace fr := below_step fr hal
            clear hal
            have q_Bc_0 := Bc.cell 0
            have q_Bc_1 := Bc.cell 1
            have q_Bc_2 := Bc.cell 2
            have q_Bd_0 := Bd.cell 0
            have q_Bd_1 := Bd.cell 1
            have q_Bd_2 := Bd.cell 2
            have q_Bf_0 := Bf.cell 0
            have q_Bf_1 := Bf.cell 1
            have q_Bf_2 := Bf.cell 2
            go_wp2_with fail
            clear q_Bc_0 q_Bc_1 q_Bc_2 q_Bd_0 q_Bd_1 q_Bd_2 q_Bf_0 q_Bf_1 q_Bf_2
            refine (implUC_no _ _ _ P S L _ rp rs rq hub2).mono ?_
            rintro e w12 ⟨a5, b5, d5, i5, j5, k5, rfl, vp, vs, vq, hq⟩
            replace Bc := Bc.stays hq
            replace Bd := Bd.stays hq
            replace Bf := Bf.stays hq
            replace h := h.below hq (Nat.le_refl _)
            replace hp := hp.below hq (Nat.le_refl _)
            replace hs := hs.below hq (Nat.le_refl _)
            replace hw := hw.below hq (Nat.le_refl _)
            replace rp := rp.below hq (Nat.le_refl _)
            replace rs := rs.below hq (Nat.le_refl _)
            replace rq := rq.below hq (Nat.le_refl _)
            replace rO := rO.below hq (Nat.le_refl _)
            replace rA := rA.below hq (Nat.le_refl _)
            replace tp := tp.below hq (Nat.le_refl _)
            replace ts := ts.below hq (Nat.le_refl _)
            replace tq := tq.below hq (Nat.le_refl _)
            replace fr := below_step fr hq
            rw [HCC.out]
            generalize ucC P S W = cc at *
            have hccb : (cc != cc) = false := by simp
            have Bg := Blk.new w12 40 #[.slice a5 0 i5, .slice b5 0 j5, .slice d5 0 k5]
            have hal : Below w12.heap.size w12 (w12.alloc (.cells #[.slice a5 0 i5, .slice b5 0 j5, .slice d5 0 k5] 40)) := (Below.refl _ _).alloc (Nat.le_refl _) _
            replace Bc := Bc.alloc (.cells #[.slice a5 0 i5, .slice b5 0 j5, .slice d5 0 k5] 40)
            replace Bd := Bd.alloc (.cells #[.slice a5 0 i5, .slice b5 0 j5, .slice d5 0 k5] 40)
            replace Bf := Bf.alloc (.cells #[.slice a5 0 i5, .slice b5 0 j5, .slice d5 0 k5] 40)
            replace h := h.below hal (Nat.le_refl _)
            replace hp := hp.below hal (Nat.le_refl _)
            replace hs := hs.below hal (Nat.le_refl _)
            replace hw := hw.below hal (Nat.le_refl _)
            replace rp := rp.below hal (Nat.le_refl _)
            replace rs := rs.below hal (Nat.le_refl _)
            replace rq := rq.below hal (Nat.le_refl _)
            replace rO := rO.below hal (Nat.le_refl _)
            replace rA := rA.below hal (Nat.le_refl _)
            replace tp := tp.below hal (Nat.le_refl _)
            replace ts := ts.below hal (Nat.le_refl _)
            replace tq := tq.below hal (Nat.le_refl _)
            replace vp := vp.below hal (Nat.le_refl _)
            replace vs := vs.below hal (Nat.le_refl _)
            replace vq := vq.below hal (Nat.le_refl _)
            replace fr := below_step fr hal
            clear hal
            have q_Bc_0 := Bc.cell 0
            have q_Bc_1 := Bc.cell 1
            have q_Bc_2 := Bc.cell 2
            have q_Bd_0 := Bd.cell 0
            have q_Bd_1 := Bd.cell 1
            have q_Bd_2 := Bd.cell 2
            have q_Bf_0 := Bf.cell 0
            have q_Bf_1 := Bf.cell 1
            have q_Bf_2 := Bf.cell 2
            have q_Bg_0 := Bg.cell 0
            have q_Bg_1 := Bg.cell 1
            have q_Bg_2 := Bg.cell 2
            go_wp2_with fail
            clear q_Bc_0 q_Bc_1 q_Bc_2 q_Bd_0 q_Bd_1 q_Bd_2 q_Bf_0 q_Bf_1 q_Bf_2 q_Bg_0 q_Bg_1 q_Bg_2
            refine (likeClu_c _ _ _ _ _ _ [] [] [] _ tp ts tq vp vs vq).mono ?_
            rintro e w13 ⟨rfl, hq⟩
            replace Bc := Bc.stays hq
            replace Bd := Bd.stays hq
            replace Bf := Bf.stays hq
            replace Bg := Bg.stays hq
            replace h := h.below hq (Nat.le_refl _)
            replace hp := hp.below hq (Nat.le_refl _)
            replace hs := hs.below hq (Nat.le_refl _)
            replace hw := hw.below hq (Nat.le_refl _)
            replace rp := rp.below hq (Nat.le_refl _)
            replace rs := rs.below hq (Nat.le_refl _)
            replace rq := rq.below hq (Nat.le_refl _)
            replace rO := rO.below hq (Nat.le_refl _)
            replace rA := rA.below hq (Nat.le_refl _)
            replace tp := tp.below hq (Nat.le_refl _)
            replace ts := ts.below hq (Nat.le_refl _)
            replace tq := tq.below hq (Nat.le_refl _)
            replace vp := vp.below hq (Nat.le_refl _)
            replace vs := vs.below hq (Nat.le_refl _)
            replace vq := vq.below hq (Nat.le_refl _)
            replace fr := below_step fr hq
            clear hccb
            clear tp ts tq vp vs vq Bf Bg Bc Bd hp hs hw rp rs rq h hub hub2
            have hlO : (ordTo (fun j => gI W j) P S P.length).length = m := by rw [ordTo_len]; exact HLP.out
            have hlA : (ordTo (fun j => gI L j) P S P.length).length = m := by rw [ordTo_len]; exact HLP.out
            obtain ⟨bO, oO, rfl, hbO, hcO⟩ := rO.atN hlO (by omega)
            obtain ⟨bA, oA, rfl, hbA, hcA⟩ := rA.atN hlA (by omega)
            have hst : ∀ i, i < m → gI (ordTo (fun j => gI L j) P S P.length) i = gI (ordTo (fun j => gI W j) P S P.length) i + if i = p then st else 0 := fun i hi => HU.out.step i (by rw [HLP.out]; exact hi)
            have hpm : p < m := by rw [← HLP.out]; exact HU.out.pt
            have hpos := HU.out.pos
            generalize ordTo (fun j => gI W j) P S P.length = OO at *
            generalize ordTo (fun j => gI L j) P S P.length = OA at *
            have HST := Lib.hid hst
            have HCO := Lib.hid hcO
            have HCA := Lib.hid hcA
            clear hst hcO hcA hlO hlA rO rA HU HLP HLS HLW
            skip
            go_wp2_with fail
            go_loopw [32, 33] (fun cv iv wr => ∃ k : Nat, k ≤ m ∧ iv = .int .i64 (k : Int) ∧ cv = .int .i64 (pstI p k) ∧ Drew w13 wr) (fun _ iv _ => m - (intOf iv).toNat)
            case atStart => exact ⟨0, Nat.zero_le _, rfl, rfl, Drew.refl _⟩
            case round =>
              obtain ⟨k, hk, rfl, rfl, hdr⟩ := hrel
              obtain ⟨wo, rfl⟩ : ∃ wo : World, wo = wr := ⟨_, rfl⟩
              have hdb := hdr.below w13.heap.size
              have hpb := pstI_bd p k
              by_cases hlt : k < m
              · have dO : wo.cell? ⟨bO, oO + k, none⟩ = some (.int .i64 (gI OO k)) := by rw [hdb.cell (p := ⟨bO, oO + k, none⟩) hbO]; exact HCO.out k hlt
                have dA : wo.cell? ⟨bA, oA + k, none⟩ = some (.int .i64 (gI OA k)) := by rw [hdb.cell (p := ⟨bA, oA + k, none⟩) hbA]; exact HCA.out k hlt
                have hs := HST.out k hlt
                have hki : (k : Int) < (m : Int) := by omega
                have hk0 : (0 : Int) ≤ (k : Int) := by omega
                have HD := Lib.hid hdr
                clear hdr hdb
                generalize gI OO k = x at *
                generalize gI OA k = y at *
                by_cases hkp : k = p
                · rw [if_pos hkp] at hs
                  have hgt : x < y := by omega
                  have hP : Hid (pstI p (k + 1) = pstI p k + 1) := Lib.hid (by subst hkp; have := pstI_yes k; omega)
                  clear hs hkp
                  generalize pstI p k = c at *
                  go_wp2_with fail
                  go_quiet (fail)
                  go_wp2
                  go_roundw
                  case rel => exact ⟨k + 1, by omega, by go_num, by rw [hP.out], HD.out.trans (Drew.one _ _)⟩
                  case measure => simp [intOf]; omega
                · rw [if_neg hkp] at hs
                  have hgt : ¬ x < y := by omega
                  have hgt2 : ¬ y < x := by omega
                  have hP : Hid (pstI p (k + 1) = pstI p k) := Lib.hid (pstI_no hkp)
                  clear hs hkp
                  generalize pstI p k = c at *
                  go_wp2_with fail
                  go_quiet (fail)
                  have dO2 : (wo.drewN nq).cell? ⟨bO, oO + k, none⟩ = some (.int .i64 x) := dO
                  have dA2 : (wo.drewN nq).cell? ⟨bA, oA + k, none⟩ = some (.int .i64 y) := dA
                  have HD2 := Lib.hid (HD.out.trans (Drew.one wo nq))
                  generalize wo.drewN nq = w7 at *
                  clear dO dA HD
                  go_wp2_with fail
                  go_quiet (fail)
                  go_wp2
                  go_roundw
                  case rel => exact ⟨k + 1, by omega, by go_num, by rw [hP.out], HD2.out.trans (Drew.one _ _)⟩
                  case measure => simp [intOf]; omega
              · have hke : k = m := by omega
                have hone : (pstI p k == 1) = true := by rw [hke, pstI_all hpm]; rfl
                have hki : ¬ (k : Int) < (m : Int) := by omega
                have HFR := Lib.hid (fr.trans (hdb.mono fr.size))
                clear hdr hdb hke fr
                generalize pstI p k = c at *
                go_wp2
                go_ret
                exact ⟨rfl, HFR.out⟩
          · skip
            have hub2 := HU.out.okB.trans hub
            have q_Bc_0 := Bc.cell 0
            have q_Bc_1 := Bc.cell 1
            have q_Bc_2 := Bc.cell 2
            have q_Bd_0 := Bd.cell 0
            have q_Bd_1 := Bd.cell 1
            have q_Bd_2 := Bd.cell 2
            go_wp2_with fail
            clear q_Bc_0 q_Bc_1 q_Bc_2 q_Bd_0 q_Bd_1 q_Bd_2
            refine (implUC_ok _ _ _ P S W m _ hp hs hw hub HLP.out).mono ?_
            rintro e w11 ⟨a4, b4, d4, i4, j4, k4, rfl, tp, ts, tq, hq⟩
            replace Bc := Bc.stays hq
            replace Bd := Bd.stays hq
            replace h := h.below hq (Nat.le_refl _)
            replace hp := hp.below hq (Nat.le_refl _)
            replace hs := hs.below hq (Nat.le_refl _)
            replace hw := hw.below hq (Nat.le_refl _)
            replace rp := rp.below hq (Nat.le_refl _)
            replace rs := rs.below hq (Nat.le_refl _)
            replace rq := rq.below hq (Nat.le_refl _)
            replace rO := rO.below hq (Nat.le_refl _)
            replace rA := rA.below hq (Nat.le_refl _)
            replace fr := below_step fr hq
            have Bf := Blk.new w11 40 #[.slice a4 m i4, .slice b4 m j4, .slice d4 m k4]
            have hal : Below w11.heap.size w11 (w11.alloc (.cells #[.slice a4 m i4, .slice b4 m j4, .slice d4 m k4] 40)) := (Below.refl _ _).alloc (Nat.le_refl _) _
            replace Bc := Bc.alloc (.cells #[.slice a4 m i4, .slice b4 m j4, .slice d4 m k4] 40)
            replace Bd := Bd.alloc (.cells #[.slice a4 m i4, .slice b4 m j4, .slice d4 m k4] 40)
            replace h := h.below hal (Nat.le_refl _)
            replace hp := hp.below hal (Nat.le_refl _)
            replace hs := hs.below hal (Nat.le_refl _)
            replace hw := hw.below hal (Nat.le_refl _)
            replace rp := rp.below hal (Nat.le_refl _)
            replace rs := rs.below hal (Nat.le_refl _)
            replace rq := rq.below hal (Nat.le_refl _)
            replace rO := rO.below hal (Nat.le_refl _)
            replace rA := rA.below hal (Nat.le_refl _)
            replace tp := tp.below hal (Nat.le_refl _)
            replace ts := ts.below hal (Nat.le_refl _)
            replace tq := tq.below hal (Nat.le_refl _)
            replace fr := below_step fr hal
            clear hal
            have q_Bc_0 := Bc.cell 0
            have q_Bc_1 := Bc.cell 1
            have q_Bc_2 := Bc.cell 2
            have q_Bd_0 := Bd.cell 0
            have q_Bd_1 := Bd.cell 1
            have q_Bd_2 := Bd.cell 2
            have q_Bf_0 := Bf.cell 0
            have q_Bf_1 := Bf.cell 1
            have q_Bf_2 := Bf.cell 2
            go_wp2_with fail
            clear q_Bc_0 q_Bc_1 q_Bc_2 q_Bd_0 q_Bd_1 q_Bd_2 q_Bf_0 q_Bf_1 q_Bf_2
            refine (implUC_ok _ _ _ P S L m _ rp rs rq hub2 HLP.out).mono ?_
            rintro e w12 ⟨a5, b5, d5, i5, j5, k5, rfl, vp, vs, vq, hq⟩
            replace Bc := Bc.stays hq
            replace Bd := Bd.stays hq
            replace Bf := Bf.stays hq
            replace h := h.below hq (Nat.le_refl _)
            replace hp := hp.below hq (Nat.le_refl _)
            replace hs := hs.below hq (Nat.le_refl _)
            replace hw := hw.below hq (Nat.le_refl _)
            replace rp := rp.below hq (Nat.le_refl _)
            replace rs := rs.below hq (Nat.le_refl _)
            replace rq := rq.below hq (Nat.le_refl _)
            replace rO := rO.below hq (Nat.le_refl _)
            replace rA := rA.below hq (Nat.le_refl _)
            replace tp := tp.below hq (Nat.le_refl _)
            replace ts := ts.below hq (Nat.le_refl _)
            replace tq := tq.below hq (Nat.le_refl _)
            replace fr := below_step fr hq
            rw [HU.out.same] at vq
            generalize unlL P S W = L2 at *
            have Bg := Blk.new w12 40 #[.slice a5 m i5, .slice b5 m j5, .slice d5 m k5]
            have hal : Below w12.heap.size w12 (w12.alloc (.cells #[.slice a5 m i5, .slice b5 m j5, .slice d5 m k5] 40)) := (Below.refl _ _).alloc (Nat.le_refl _) _
            replace Bc := Bc.alloc (.cells #[.slice a5 m i5, .slice b5 m j5, .slice d5 m k5] 40)
            replace Bd := Bd.alloc (.cells #[.slice a5 m i5, .slice b5 m j5, .slice d5 m k5] 40)
            replace Bf := Bf.alloc (.cells #[.slice a5 m i5, .slice b5 m j5, .slice d5 m k5] 40)
            replace h := h.below hal (Nat.le_refl _)
            replace hp := hp.below hal (Nat.le_refl _)
            replace hs := hs.below hal (Nat.le_refl _)
            replace hw := hw.below hal (Nat.le_refl _)
            replace rp := rp.below hal (Nat.le_refl _)
            replace rs := rs.below hal (Nat.le_refl _)
            replace rq := rq.below hal (Nat.le_refl _)
            replace rO := rO.below hal (Nat.le_refl _)
            replace rA := rA.below hal (Nat.le_refl _)
            replace tp := tp.below hal (Nat.le_refl _)
            replace ts := ts.below hal (Nat.le_refl _)
            replace tq := tq.below hal (Nat.le_refl _)
            replace vp := vp.below hal (Nat.le_refl _)
            replace vs := vs.below hal (Nat.le_refl _)
            replace vq := vq.below hal (Nat.le_refl _)
            replace fr := below_step fr hal
            clear hal
            have q_Bc_0 := Bc.cell 0
            have q_Bc_1 := Bc.cell 1
            have q_Bc_2 := Bc.cell 2
            have q_Bd_0 := Bd.cell 0
            have q_Bd_1 := Bd.cell 1
            have q_Bd_2 := Bd.cell 2
            have q_Bf_0 := Bf.cell 0
            have q_Bf_1 := Bf.cell 1
            have q_Bf_2 := Bf.cell 2
            have q_Bg_0 := Bg.cell 0
            have q_Bg_1 := Bg.cell 1
            have q_Bg_2 := Bg.cell 2
            go_wp2_with fail
            clear q_Bc_0 q_Bc_1 q_Bc_2 q_Bd_0 q_Bd_1 q_Bd_2 q_Bf_0 q_Bf_1 q_Bf_2 q_Bg_0 q_Bg_1 q_Bg_2
            refine (likeClu_c _ _ _ _ _ _ P S L2 _ tp ts tq vp vs vq).mono ?_
            rintro e w13 ⟨rfl, hq⟩
            replace Bc := Bc.stays hq
            replace Bd := Bd.stays hq
            replace Bf := Bf.stays hq
            replace Bg := Bg.stays hq
            replace h := h.below hq (Nat.le_refl _)
            replace hp := hp.below hq (Nat.le_refl _)
            replace hs := hs.below hq (Nat.le_refl _)
            replace hw := hw.below hq (Nat.le_refl _)
            replace rp := rp.below hq (Nat.le_refl _)
            replace rs := rs.below hq (Nat.le_refl _)
            replace rq := rq.below hq (Nat.le_refl _)
            replace rO := rO.below hq (Nat.le_refl _)
            replace rA := rA.below hq (Nat.le_refl _)
            replace tp := tp.below hq (Nat.le_refl _)
            replace ts := ts.below hq (Nat.le_refl _)
            replace tq := tq.below hq (Nat.le_refl _)
            replace vp := vp.below hq (Nat.le_refl _)
            replace vs := vs.below hq (Nat.le_refl _)
            replace vq := vq.below hq (Nat.le_refl _)
            replace fr := below_step fr hq
            clear tp ts tq vp vs vq Bf Bg Bc Bd hp hs hw rp rs rq h hub hub2
            have hlO : (ordTo (fun j => gI W j) P S P.length).length = m := by rw [ordTo_len]; exact HLP.out
            have hlA : (ordTo (fun j => gI L j) P S P.length).length = m := by rw [ordTo_len]; exact HLP.out
            obtain ⟨bO, oO, rfl, hbO, hcO⟩ := rO.atN hlO (by omega)
            obtain ⟨bA, oA, rfl, hbA, hcA⟩ := rA.atN hlA (by omega)
            have hst : ∀ i, i < m → gI (ordTo (fun j => gI L j) P S P.length) i = gI (ordTo (fun j => gI W j) P S P.length) i + if i = p then st else 0 := fun i hi => HU.out.step i (by rw [HLP.out]; exact hi)
            have hpm : p < m := by rw [← HLP.out]; exact HU.out.pt
            have hpos := HU.out.pos
            generalize ordTo (fun j => gI W j) P S P.length = OO at *
            generalize ordTo (fun j => gI L j) P S P.length = OA at *
            have HST := Lib.hid hst
            have HCO := Lib.hid hcO
            have HCA := Lib.hid hcA
            clear hst hcO hcA hlO hlA rO rA HU HLP HLS HLW
            skip
            go_wp2_with fail
            go_loopw [32, 33] (fun cv iv wr => ∃ k : Nat, k ≤ m ∧ iv = .int .i64 (k : Int) ∧ cv = .int .i64 (pstI p k) ∧ Drew w13 wr) (fun _ iv _ => m - (intOf iv).toNat)
            case atStart => exact ⟨0, Nat.zero_le _, rfl, rfl, Drew.refl _⟩
            case round =>
              obtain ⟨k, hk, rfl, rfl, hdr⟩ := hrel
              obtain ⟨wo, rfl⟩ : ∃ wo : World, wo = wr := ⟨_, rfl⟩
              have hdb := hdr.below w13.heap.size
              have hpb := pstI_bd p k
              by_cases hlt : k < m
              · have dO : wo.cell? ⟨bO, oO + k, none⟩ = some (.int .i64 (gI OO k)) := by rw [hdb.cell (p := ⟨bO, oO + k, none⟩) hbO]; exact HCO.out k hlt
                have dA : wo.cell? ⟨bA, oA + k, none⟩ = some (.int .i64 (gI OA k)) := by rw [hdb.cell (p := ⟨bA, oA + k, none⟩) hbA]; exact HCA.out k hlt
                have hs := HST.out k hlt
                have hki : (k : Int) < (m : Int) := by omega
                have hk0 : (0 : Int) ≤ (k : Int) := by omega
                have HD := Lib.hid hdr
                clear hdr hdb
                generalize gI OO k = x at *
                generalize gI OA k = y at *
                by_cases hkp : k = p
                · rw [if_pos hkp] at hs
                  have hgt : x < y := by omega
                  have hP : Hid (pstI p (k + 1) = pstI p k + 1) := Lib.hid (by subst hkp; have := pstI_yes k; omega)
                  clear hs hkp
                  generalize pstI p k = c at *
                  go_wp2_with fail
                  go_quiet (fail)
                  go_wp2
                  go_roundw
                  case rel => exact ⟨k + 1, by omega, by go_num, by rw [hP.out], HD.out.trans (Drew.one _ _)⟩
                  case measure => simp [intOf]; omega
                · rw [if_neg hkp] at hs
                  have hgt : ¬ x < y := by omega
                  have hgt2 : ¬ y < x := by omega
                  have hP : Hid (pstI p (k + 1) = pstI p k) := Lib.hid (pstI_no hkp)
                  clear hs hkp
                  generalize pstI p k = c at *
                  go_wp2_with fail
                  go_quiet (fail)
                  have dO2 : (wo.drewN nq).cell? ⟨bO, oO + k, none⟩ = some (.int .i64 x) := dO
                  have dA2 : (wo.drewN nq).cell? ⟨bA, oA + k, none⟩ = some (.int .i64 y) := dA
                  have HD2 := Lib.hid (HD.out.trans (Drew.one wo nq))
                  generalize wo.drewN nq = w7 at *
                  clear dO dA HD
                  go_wp2_with fail
                  go_quiet (fail)
                  go_wp2
                  go_roundw
                  case rel => exact ⟨k + 1, by omega, by go_num, by rw [hP.out], HD2.out.trans (Drew.one _ _)⟩
                  case measure => simp [intOf]; omega
              · have hke : k = m := by omega
                have hone : (pstI p k == 1) = true := by rw [hke, pstI_all hpm]; rfl
                have hki : ¬ (k : Int) < (m : Int) := by omega
                have HFR := Lib.hid (fr.trans (hdb.mono fr.size))
                clear hdr hdb hke fr
                generalize pstI p k = c at *
                go_wp2
                go_ret
                exact ⟨rfl, HFR.out⟩
  · go_enter Try.func8, Try.ntmps8
    go_wp2_with fail
    refine (big_yes _ C _ h hC).mono ?_
    rintro e w' ⟨rfl, rfl⟩
    go_wp2
    go_ret
    exact ⟨rfl, Below.refl _ _⟩
end Go.Proofs.Ytiinceflafigeaa.fnUnloading
