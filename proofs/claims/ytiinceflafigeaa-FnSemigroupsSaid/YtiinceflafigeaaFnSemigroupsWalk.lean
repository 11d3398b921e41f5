/- The walk of 'FnSemigroups': generators and terms lead to each other, the conductor is the Milnor number, the semigroup is symmetric. -/
import Derived.Test.YtiinceflafigeaaSemgC
import Derived.Test.YtiinceflafigeaaDice
namespace Go.Proofs.Ytiinceflafigeaa.fnSemigroups
open Go.RowKit

set_option maxRecDepth 100000 in
set_option maxHeartbeats 8000000 in
theorem walk (w : World) (a0 : Value) (C : List Int) (h : Rd8 w a0 C) :
    Calls Try.prog 7 #[a0] w fun e w' => e = .returned (.bool true) ∧ Below w.heap.size w w' := by
  by_cases hC : C.length ≤ 4096
  · skip
    obtain ⟨a, cap, he, _⟩ := id h
    subst he
    go_enter Try.func7, Try.ntmps7
    go_wp2_with fail
    refine (big_no _ C _ h hC).mono ?_
    rintro e w' ⟨rfl, rfl⟩
    go_wp2_with fail
    refine (drawGapsOf_w _ C _ h).mono ?_
    rintro e w1 ⟨u, T, rfl, hr, hnw, hx8, hq⟩
    obtain ⟨ua, uk, rfl⟩ := hr.len0
    clear hnw hx8
    replace h := h.below hq (Nat.le_refl _)
    have fr : Below w.heap.size w _ := hq
    have B0 := Blk.new w1 26 #[.slice ua T.length uk]
    have hal : Below w1.heap.size w1 (w1.alloc (.cells #[.slice ua T.length uk] 26)) := (Below.refl _ _).alloc (Nat.le_refl _) _
    replace h := h.below hal (Nat.le_refl _)
    replace hr := hr.below hal (Nat.le_refl _)
    replace fr := below_step fr hal
    clear hal
    have q_B0_0 := B0.cell 0
    go_wp2_with fail
    clear q_B0_0
    refine (implGapsOf_c _ T _ hr).mono ?_
    rintro e w2 ⟨aL, kL, rfl, oL, hq⟩
    replace B0 := B0.stays hq
    replace h := h.below hq (Nat.le_refl _)
    replace hr := hr.below hq (Nat.le_refl _)
    replace fr := below_step fr hq
    have q_B0_0 := B0.cell 0
    go_wp2_with fail
    clear q_B0_0
    refine (specGapsOf_c _ T _ hr).mono ?_
    rintro e w3 ⟨aM, kM, rfl, oM, hq⟩
    replace B0 := B0.stays hq
    replace h := h.below hq (Nat.le_refl _)
    replace hr := hr.below hq (Nat.le_refl _)
    replace oL := oL.below hq (Nat.le_refl _)
    replace fr := below_step fr hq
    have se := eqB_self (gpL T)
    have q_B0_0 := B0.cell 0
    go_wp2_with fail
    clear q_B0_0
    refine (likeInts_c _ _ (gpL T) (gpL T) _ oL.rd oM.rd).mono ?_
    rintro e w4 ⟨rfl, hq0⟩
    have hq := hq0.below (w3).heap.size
    clear hq0
    replace B0 := B0.stays hq
    replace h := h.below hq (Nat.le_refl _)
    replace hr := hr.below hq (Nat.le_refl _)
    replace oL := oL.below hq (Nat.le_refl _)
    replace oM := oM.below hq (Nat.le_refl _)
    replace fr := below_step fr hq
    rw [se]
    clear se oM
    cases hb : braB T
    · skip
      rw [gpC_bra hb]
      clear hr B0 oL hb
      go_wp2_with fail
      refine (drawBranchOfGenerators_w _ C _ h).mono ?_
      rintro e w5 ⟨ad, n, k, G, rfl, hGn, hG, hnw, hn8, hq⟩
      have HGN := Lib.hid hGn
      clear hnw hGn
      replace h := h.below hq (Nat.le_refl _)
      replace fr := below_step fr hq
      go_wp2_with fail
      refine (implBog_c _ G _ hG).mono ?_
      rintro e w6 ⟨ax, kx, rfl, ox, hq⟩
      replace h := h.below hq (Nat.le_refl _)
      replace hG := hG.below hq (Nat.le_refl _)
      replace fr := below_step fr hq
      have B3 := Blk.new w6 26 #[.slice ax (okL (bogB G) (tTo G G.length)).length kx]
      have hal : Below w6.heap.size w6 (w6.alloc (.cells #[.slice ax (okL (bogB G) (tTo G G.length)).length kx] 26)) := (Below.refl _ _).alloc (Nat.le_refl _) _
      replace h := h.below hal (Nat.le_refl _)
      replace hG := hG.below hal (Nat.le_refl _)
      replace ox := ox.below hal (Nat.le_refl _)
      replace fr := below_step fr hal
      clear hal
      have q_B3_0 := B3.cell 0
      go_wp2_with fail
      clear q_B3_0
      refine (specBog_c _ G _ hG).mono ?_
      rintro e w7 ⟨ay, ky, rfl, oy, hq⟩
      replace B3 := B3.stays hq
      replace h := h.below hq (Nat.le_refl _)
      replace hG := hG.below hq (Nat.le_refl _)
      replace ox := ox.below hq (Nat.le_refl _)
      replace fr := below_step fr hq
      have B5 := Blk.new w7 26 #[.slice ay (okL (bogB G) (tTo G G.length)).length ky]
      have hal : Below w7.heap.size w7 (w7.alloc (.cells #[.slice ay (okL (bogB G) (tTo G G.length)).length ky] 26)) := (Below.refl _ _).alloc (Nat.le_refl _) _
      replace B3 := B3.alloc (.cells #[.slice ay (okL (bogB G) (tTo G G.length)).length ky] 26)
      replace h := h.below hal (Nat.le_refl _)
      replace hG := hG.below hal (Nat.le_refl _)
      replace ox := ox.below hal (Nat.le_refl _)
      replace oy := oy.below hal (Nat.le_refl _)
      replace fr := below_step fr hal
      clear hal
      have se := eqB_self (okL (bogB G) (tTo G G.length))
      have q_B3_0 := B3.cell 0
      have q_B5_0 := B5.cell 0
      go_wp2_with fail
      clear q_B3_0 q_B5_0
      refine (likeInts_c _ _ (okL (bogB G) (tTo G G.length)) (okL (bogB G) (tTo G G.length)) _ ox.rd oy.rd).mono ?_
      rintro e w8 ⟨rfl, hq0⟩
      have hq := hq0.below ((w7.alloc (.cells #[.slice ay (okL (bogB G) (tTo G G.length)).length ky] 26))).heap.size
      clear hq0
      replace B3 := B3.stays hq
      replace B5 := B5.stays hq
      replace h := h.below hq (Nat.le_refl _)
      replace hG := hG.below hq (Nat.le_refl _)
      replace ox := ox.below hq (Nat.le_refl _)
      replace oy := oy.below hq (Nat.le_refl _)
      replace fr := below_step fr hq
      rw [se]
      clear se oy
      by_cases h0 : bogC G = 0
      · skip
        have hc0 : (bogC G != 0) = false := by simp [h0]
        have q_B3_0 := B3.cell 0
        go_wp2_with fail
        clear q_B3_0
        refine (genBack_c _ G _ ox.rd h0).mono ?_
        rintro e w9 ⟨ag, kg, rfl, rg, hq⟩
        replace B3 := B3.stays hq
        replace h := h.below hq (Nat.le_refl _)
        replace hG := hG.below hq (Nat.le_refl _)
        replace ox := ox.below hq (Nat.le_refl _)
        replace fr := below_step fr hq
        have se := eqB_self G
        clear hc0
        have q_B3_0 := B3.cell 0
        go_wp2_with fail
        clear q_B3_0
        refine (likeInts_c _ _ G G _ rg hG).mono ?_
        rintro e w10 ⟨rfl, hq0⟩
        have hq := hq0.below (w9).heap.size
        clear hq0
        replace B3 := B3.stays hq
        replace h := h.below hq (Nat.le_refl _)
        replace hG := hG.below hq (Nat.le_refl _)
        replace ox := ox.below hq (Nat.le_refl _)
        replace rg := rg.below hq (Nat.le_refl _)
        replace fr := below_step fr hq
        rw [se]
        have q_B3_0 := B3.cell 0
        go_wp2
        clear q_B3_0
        go_ret
        exact ⟨rfl, fr⟩
      · skip
        have hc0 : (bogC G != 0) = true := by simp [h0]
        have q_B3_0 := B3.cell 0
        go_wp2
        clear q_B3_0
        go_ret
        exact ⟨rfl, fr⟩
    · skip
      have hok := braB_iff.1 hb
      have hcd : gpC T = 0 ∨ gpC T = 3 := by
        by_cases h2 : 20000 < conI T
        · exact .inr (gpC_big hb h2)
        · exact .inl (gpC_ok hb h2)
      have hc57 : ((gpC T == 0) = true ∧ (gpC T == 3) = false) ∨ ((gpC T == 0) = false ∧ (gpC T == 3) = true) := by rcases hcd with e | e <;> simp [e]
      go_upto_region 8 with fail
      go_cut [57] from 52 to 57 (fun s wc => s = .bool true ∧ w4 = wc)
      case first =>
        rcases hc57 with ⟨g1, g2⟩ | ⟨g1, g2⟩
        · go_wp2
          go_meet
          exact ⟨rfl, rfl⟩
        · go_wp2
          go_meet
          exact ⟨rfl, rfl⟩
      case rest =>
        obtain ⟨rfl, rfl⟩ := hcut
        have q_B0_0 := B0.cell 0
        go_upto_if 57 with fail
        go_cut [] from 8 to 153 (fun wc => Below w4.heap.size w4 wc)
        case first =>
          clear q_B0_0
          clear fr
          rcases hc57 with ⟨g1, g2⟩ | ⟨g1, g2⟩
          · skip
            have q_B0_0 := B0.cell 0
            go_wp2_with fail
            clear q_B0_0
            refine (implGenerators_ok _ T _ hr hok).mono ?_
            rintro e w5 ⟨aG, kG, rfl, rG, hq⟩
            replace B0 := B0.stays hq
            replace h := h.below hq (Nat.le_refl _)
            replace hr := hr.below hq (Nat.le_refl _)
            replace oL := oL.below hq (Nat.le_refl _)
            have fr : Below w4.heap.size w4 _ := hq
            have q_B0_0 := B0.cell 0
            go_wp2_with fail
            clear q_B0_0
            refine (bogGens_c _ T _ rG hok).mono ?_
            rintro e w6 ⟨aB, kB, rfl, rB, hq⟩
            replace B0 := B0.stays hq
            replace h := h.below hq (Nat.le_refl _)
            replace hr := hr.below hq (Nat.le_refl _)
            replace oL := oL.below hq (Nat.le_refl _)
            replace rG := rG.below hq (Nat.le_refl _)
            replace fr := below_step fr hq
            have B1 := Blk.new w6 26 #[.slice aB T.length kB]
            have hal : Below w6.heap.size w6 (w6.alloc (.cells #[.slice aB T.length kB] 26)) := (Below.refl _ _).alloc (Nat.le_refl _) _
            replace B0 := B0.alloc (.cells #[.slice aB T.length kB] 26)
            replace h := h.below hal (Nat.le_refl _)
            replace hr := hr.below hal (Nat.le_refl _)
            replace oL := oL.below hal (Nat.le_refl _)
            replace rG := rG.below hal (Nat.le_refl _)
            replace rB := rB.below hal (Nat.le_refl _)
            replace fr := below_step fr hal
            clear hal
            have q_B0_0 := B0.cell 0
            have q_B1_0 := B1.cell 0
            go_wp2_with fail
            clear q_B0_0 q_B1_0
            refine (conductor_ok _ T _ hr hok).mono ?_
            rintro e w7 ⟨rfl, hq⟩
            replace B0 := B0.stays hq
            replace B1 := B1.stays hq
            replace h := h.below hq (Nat.le_refl _)
            replace hr := hr.below hq (Nat.le_refl _)
            replace oL := oL.below hq (Nat.le_refl _)
            replace rG := rG.below hq (Nat.le_refl _)
            replace rB := rB.below hq (Nat.le_refl _)
            replace fr := below_step fr hq
            have q_B0_0 := B0.cell 0
            have q_B1_0 := B1.cell 0
            go_wp2_with fail
            clear q_B0_0 q_B1_0
            refine (milnor_c _ T _ hr hok).mono ?_
            rintro e w8 ⟨rfl, hq⟩
            replace B0 := B0.stays hq
            replace B1 := B1.stays hq
            replace h := h.below hq (Nat.le_refl _)
            replace hr := hr.below hq (Nat.le_refl _)
            replace oL := oL.below hq (Nat.le_refl _)
            replace rG := rG.below hq (Nat.le_refl _)
            replace rB := rB.below hq (Nat.le_refl _)
            replace fr := below_step fr hq
            have se := eqB_self T
            have q_B0_0 := B0.cell 0
            have q_B1_0 := B1.cell 0
            go_wp2_with fail
            clear q_B0_0 q_B1_0
            refine (likeInts_c _ _ T T _ rB hr).mono ?_
            rintro e w9 ⟨rfl, hq0⟩
            have hq := hq0.below (w8).heap.size
            clear hq0
            replace B0 := B0.stays hq
            replace B1 := B1.stays hq
            replace h := h.below hq (Nat.le_refl _)
            replace hr := hr.below hq (Nat.le_refl _)
            replace oL := oL.below hq (Nat.le_refl _)
            replace rG := rG.below hq (Nat.le_refl _)
            replace rB := rB.below hq (Nat.le_refl _)
            replace fr := below_step fr hq
            rw [se]
            clear se rB rG
            have h20 : ¬ 20000 < conI T := by
              intro h2
              rw [gpC_big hb h2] at g1
              simp at g1
            have hg0 := gpC_ok hb h20
            have hcn := conI_nn hok
            obtain ⟨m, hm⟩ := Int.eq_ofNat_of_zero_le hcn
            have hhalf := gaps_half hok hm
            have hgl : gpL T = selTo (fun v => !valB T (v : Int)) m := by rw [gpL_ok hg0, hm]; rfl
            have hlen : ((2 * ((gpL T).length : Int)) != conI T) = false := by rw [hgl]; simp; omega
            have hgl2 : (gpL T).length ≤ 20000 := gpL_len T
            have HGL := Lib.hid hgl
            have HM := Lib.hid hm
            clear hgl hm hhalf hg0 hcd
            have q_B0_0 := B0.cell 0
            go_wp2_with fail
            clear q_B0_0
            clear hlen
            refine (roll_w _ C 913 _ h).mono ?_
            rintro e wr ⟨g, rfl, hg, hgl3, sd, hbr⟩
            go_wp2_with fail
            refine (below_w g (conI T + 1) _ sd (by omega) (by omega)).mono ?_
            rintro e wd ⟨x, rfl, hx0, hx1, _, hkd⟩
            have hq := keeps_draw hbr hg hkd
            replace B0 := B0.stays hq
            replace h := h.below hq (Nat.le_refl _)
            replace hr := hr.below hq (Nat.le_refl _)
            replace oL := oL.below hq (Nat.le_refl _)
            replace fr := below_step fr hq
            clear hbr hkd sd hq
            by_cases hxc : x < conI T
            · skip
              have hsv1 : svC T x = 0 := svC_ok hb (inB_iff.2 ⟨by omega, by omega⟩)
              have hsv2 : svC T (conI T - 1 - x) = 0 := svC_ok hb (inB_iff.2 ⟨by omega, by omega⟩)
              have hsb1 := svB_zero hsv1
              have hsb2 := svB_zero hsv2
              rw [val_sym hok] at hsb2
              have hhas : hasB (gpL T) x = !valB T x := by
                obtain ⟨y, rfl⟩ := Int.eq_ofNat_of_zero_le hx0
                rw [HGL.out]
                exact gap_has (by have := HM.out; omega)
              generalize valB T x = bv at *
              have H1 := Lib.hid hsv1
              have H2 := Lib.hid hsv2
              have H3 := Lib.hid hsb1
              have H4 := Lib.hid hsb2
              have H5 := Lib.hid hhas
              clear hsv1 hsv2 hsb1 hsb2 hhas
              have q_B0_0 := B0.cell 0
              go_wp2_with fail
              clear q_B0_0
              refine (implIsValue_c _ T x _ hr).mono ?_
              rintro e w10 ⟨rfl, hq⟩
              replace B0 := B0.stays hq
              replace h := h.below hq (Nat.le_refl _)
              replace hr := hr.below hq (Nat.le_refl _)
              replace oL := oL.below hq (Nat.le_refl _)
              replace fr := below_step fr hq
              rw [H1.out, H3.out]
              have q_B0_0 := B0.cell 0
              go_wp2_with fail
              clear q_B0_0
              refine (implIsValue_c _ T (conI T - 1 - x) _ hr).mono ?_
              rintro e w11 ⟨rfl, hq⟩
              replace B0 := B0.stays hq
              replace h := h.below hq (Nat.le_refl _)
              replace hr := hr.below hq (Nat.le_refl _)
              replace oL := oL.below hq (Nat.le_refl _)
              replace fr := below_step fr hq
              rw [H2.out, H4.out]
              cases bv
              · skip
                have q_B0_0 := B0.cell 0
                go_wp2_with fail
                clear q_B0_0
                refine (hasInt_c _ (gpL T) x _ oL.rd).mono ?_
                rintro e w' ⟨rfl, rfl⟩
                rw [H5.out]
                have q_B0_0 := B0.cell 0
                go_wp2
                clear q_B0_0
                go_meet
                exact fr
              · skip
                have q_B0_0 := B0.cell 0
                go_wp2_with fail
                clear q_B0_0
                refine (hasInt_c _ (gpL T) x _ oL.rd).mono ?_
                rintro e w' ⟨rfl, rfl⟩
                rw [H5.out]
                have q_B0_0 := B0.cell 0
                go_wp2
                clear q_B0_0
                go_meet
                exact fr
            · skip
              have q_B0_0 := B0.cell 0
              go_wp2
              clear q_B0_0
              go_meet
              exact fr
          · skip
            have q_B0_0 := B0.cell 0
            go_wp2_with fail
            clear q_B0_0
            refine (implGenerators_ok _ T _ hr hok).mono ?_
            rintro e w5 ⟨aG, kG, rfl, rG, hq⟩
            replace B0 := B0.stays hq
            replace h := h.below hq (Nat.le_refl _)
            replace hr := hr.below hq (Nat.le_refl _)
            replace oL := oL.below hq (Nat.le_refl _)
            have fr : Below w4.heap.size w4 _ := hq
            have q_B0_0 := B0.cell 0
            go_wp2_with fail
            clear q_B0_0
            refine (bogGens_c _ T _ rG hok).mono ?_
            rintro e w6 ⟨aB, kB, rfl, rB, hq⟩
            replace B0 := B0.stays hq
            replace h := h.below hq (Nat.le_refl _)
            replace hr := hr.below hq (Nat.le_refl _)
            replace oL := oL.below hq (Nat.le_refl _)
            replace rG := rG.below hq (Nat.le_refl _)
            replace fr := below_step fr hq
            have B1 := Blk.new w6 26 #[.slice aB T.length kB]
            have hal : Below w6.heap.size w6 (w6.alloc (.cells #[.slice aB T.length kB] 26)) := (Below.refl _ _).alloc (Nat.le_refl _) _
            replace B0 := B0.alloc (.cells #[.slice aB T.length kB] 26)
            replace h := h.below hal (Nat.le_refl _)
            replace hr := hr.below hal (Nat.le_refl _)
            replace oL := oL.below hal (Nat.le_refl _)
            replace rG := rG.below hal (Nat.le_refl _)
            replace rB := rB.below hal (Nat.le_refl _)
            replace fr := below_step fr hal
            clear hal
            have q_B0_0 := B0.cell 0
            have q_B1_0 := B1.cell 0
            go_wp2_with fail
            clear q_B0_0 q_B1_0
            refine (conductor_ok _ T _ hr hok).mono ?_
            rintro e w7 ⟨rfl, hq⟩
            replace B0 := B0.stays hq
            replace B1 := B1.stays hq
            replace h := h.below hq (Nat.le_refl _)
            replace hr := hr.below hq (Nat.le_refl _)
            replace oL := oL.below hq (Nat.le_refl _)
            replace rG := rG.below hq (Nat.le_refl _)
            replace rB := rB.below hq (Nat.le_refl _)
            replace fr := below_step fr hq
            have q_B0_0 := B0.cell 0
            have q_B1_0 := B1.cell 0
            go_wp2_with fail
            clear q_B0_0 q_B1_0
            refine (milnor_c _ T _ hr hok).mono ?_
            rintro e w8 ⟨rfl, hq⟩
            replace B0 := B0.stays hq
            replace B1 := B1.stays hq
            replace h := h.below hq (Nat.le_refl _)
            replace hr := hr.below hq (Nat.le_refl _)
            replace oL := oL.below hq (Nat.le_refl _)
            replace rG := rG.below hq (Nat.le_refl _)
            replace rB := rB.below hq (Nat.le_refl _)
            replace fr := below_step fr hq
            have se := eqB_self T
            have q_B0_0 := B0.cell 0
            have q_B1_0 := B1.cell 0
            go_wp2_with fail
            clear q_B0_0 q_B1_0
            refine (likeInts_c _ _ T T _ rB hr).mono ?_
            rintro e w9 ⟨rfl, hq0⟩
            have hq := hq0.below (w8).heap.size
            clear hq0
            replace B0 := B0.stays hq
            replace B1 := B1.stays hq
            replace h := h.below hq (Nat.le_refl _)
            replace hr := hr.below hq (Nat.le_refl _)
            replace oL := oL.below hq (Nat.le_refl _)
            replace rG := rG.below hq (Nat.le_refl _)
            replace rB := rB.below hq (Nat.le_refl _)
            replace fr := below_step fr hq
            rw [se]
            clear se rB rG
            have q_B0_0 := B0.cell 0
            go_wp2
            clear q_B0_0
            go_meet
            exact fr
        case rest =>
          clear q_B0_0
          have hq := hcut
          clear hcut hr B0 oL
          replace h := h.below hq (Nat.le_refl _)
          replace fr := below_step fr hq
          go_wp2_with fail
          refine (drawBranchOfGenerators_w _ C _ h).mono ?_
          rintro e w5 ⟨ad, n, k, G, rfl, hGn, hG, hnw, hn8, hq⟩
          have HGN := Lib.hid hGn
          clear hnw hGn
          replace h := h.below hq (Nat.le_refl _)
          replace fr := below_step fr hq
          go_wp2_with fail
          refine (implBog_c _ G _ hG).mono ?_
          rintro e w6 ⟨ax, kx, rfl, ox, hq⟩
          replace h := h.below hq (Nat.le_refl _)
          replace hG := hG.below hq (Nat.le_refl _)
          replace fr := below_step fr hq
          have B3 := Blk.new w6 26 #[.slice ax (okL (bogB G) (tTo G G.length)).length kx]
          have hal : Below w6.heap.size w6 (w6.alloc (.cells #[.slice ax (okL (bogB G) (tTo G G.length)).length kx] 26)) := (Below.refl _ _).alloc (Nat.le_refl _) _
          replace h := h.below hal (Nat.le_refl _)
          replace hG := hG.below hal (Nat.le_refl _)
          replace ox := ox.below hal (Nat.le_refl _)
          replace fr := below_step fr hal
          clear hal
          have q_B3_0 := B3.cell 0
          go_wp2_with fail
          clear q_B3_0
          refine (specBog_c _ G _ hG).mono ?_
          rintro e w7 ⟨ay, ky, rfl, oy, hq⟩
          replace B3 := B3.stays hq
          replace h := h.below hq (Nat.le_refl _)
          replace hG := hG.below hq (Nat.le_refl _)
          replace ox := ox.below hq (Nat.le_refl _)
          replace fr := below_step fr hq
          have B5 := Blk.new w7 26 #[.slice ay (okL (bogB G) (tTo G G.length)).length ky]
          have hal : Below w7.heap.size w7 (w7.alloc (.cells #[.slice ay (okL (bogB G) (tTo G G.length)).length ky] 26)) := (Below.refl _ _).alloc (Nat.le_refl _) _
          replace B3 := B3.alloc (.cells #[.slice ay (okL (bogB G) (tTo G G.length)).length ky] 26)
          replace h := h.below hal (Nat.le_refl _)
          replace hG := hG.below hal (Nat.le_refl _)
          replace ox := ox.below hal (Nat.le_refl _)
          replace oy := oy.below hal (Nat.le_refl _)
          replace fr := below_step fr hal
          clear hal
          have se := eqB_self (okL (bogB G) (tTo G G.length))
          have q_B3_0 := B3.cell 0
          have q_B5_0 := B5.cell 0
          go_wp2_with fail
          clear q_B3_0 q_B5_0
          refine (likeInts_c _ _ (okL (bogB G) (tTo G G.length)) (okL (bogB G) (tTo G G.length)) _ ox.rd oy.rd).mono ?_
          rintro e w8 ⟨rfl, hq0⟩
          have hq := hq0.below ((w7.alloc (.cells #[.slice ay (okL (bogB G) (tTo G G.length)).length ky] 26))).heap.size
          clear hq0
          replace B3 := B3.stays hq
          replace B5 := B5.stays hq
          replace h := h.below hq (Nat.le_refl _)
          replace hG := hG.below hq (Nat.le_refl _)
          replace ox := ox.below hq (Nat.le_refl _)
          replace oy := oy.below hq (Nat.le_refl _)
          replace fr := below_step fr hq
          rw [se]
          clear se oy
          by_cases h0 : bogC G = 0
          · skip
            have hc0 : (bogC G != 0) = false := by simp [h0]
            have q_B3_0 := B3.cell 0
            go_wp2_with fail
            clear q_B3_0
            refine (genBack_c _ G _ ox.rd h0).mono ?_
            rintro e w9 ⟨ag, kg, rfl, rg, hq⟩
            replace B3 := B3.stays hq
            replace h := h.below hq (Nat.le_refl _)
            replace hG := hG.below hq (Nat.le_refl _)
            replace ox := ox.below hq (Nat.le_refl _)
            replace fr := below_step fr hq
            have se := eqB_self G
            clear hc0
            have q_B3_0 := B3.cell 0
            go_wp2_with fail
            clear q_B3_0
            refine (likeInts_c _ _ G G _ rg hG).mono ?_
            rintro e w10 ⟨rfl, hq0⟩
            have hq := hq0.below (w9).heap.size
            clear hq0
            replace B3 := B3.stays hq
            replace h := h.below hq (Nat.le_refl _)
            replace hG := hG.below hq (Nat.le_refl _)
            replace ox := ox.below hq (Nat.le_refl _)
            replace rg := rg.below hq (Nat.le_refl _)
            replace fr := below_step fr hq
            rw [se]
            have q_B3_0 := B3.cell 0
            go_wp2
            clear q_B3_0
            go_ret
            exact ⟨rfl, fr⟩
          · skip
            have hc0 : (bogC G != 0) = true := by simp [h0]
            have q_B3_0 := B3.cell 0
            go_wp2
            clear q_B3_0
            go_ret
            exact ⟨rfl, fr⟩
  · go_enter Try.func7, Try.ntmps7
    go_wp2_with fail
    refine (big_yes _ C _ h hC).mono ?_
    rintro e w' ⟨rfl, rfl⟩
    go_wp2
    go_ret
    exact ⟨rfl, Below.refl _ _⟩
end Go.Proofs.Ytiinceflafigeaa.fnSemigroups
