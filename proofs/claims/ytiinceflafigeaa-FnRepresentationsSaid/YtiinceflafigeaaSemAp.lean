/- Contracts: AperyOf. -/
import Derived.Test.YtiinceflafigeaaSemIs
import Derived.Test.YtiinceflafigeaaDivP
namespace Go.Proofs.Ytiinceflafigeaa
open Go.RowKit

theorem ret_icw {w w' : World} {v : Value} {xs ys : List Int} {c d : Int} (h : OwnI w' w.heap.size v xs) (hb : Below w.heap.size w w') (e1 : xs = ys) (e2 : c = d) : RetIC w ys d (.returned (.tuple #[v, .int .i64 c])) w' := by
  subst e1; subst e2; exact retIC_mk h hb

set_option maxRecDepth 100000 in
theorem implAperyOf_c (v : Value) (T : List Int) (w : World) (h : Rd w v T) :
    Calls Try.prog 43 #[.agg #[v]] w (RetIC w (okL (braB T) (lstL T)) (okC (braB T) 1)) := by
  have hx := Boxed.start w 26 #[v]
  obtain ⟨a, k, rfl⟩ := h.len0
  have c0 := hx.cell 0
  cases hbr : braB T
  · go_enter Try.func43, Try.ntmps43
    go_wp2_with fail
    refine (implIsBranch_c _ T _ (hx.rd h)).mono ?_
    rintro e w1 ⟨rfl, hb⟩
    rw [hbr]
    go_wp2
    go_ret2
    exact retIC_nil (hx.trans hb).below
  · have hok := braB_iff.1 hbr
    go_enter Try.func43, Try.ntmps43
    go_wp2_with fail
    refine (implIsBranch_c _ T _ (hx.rd h)).mono ?_
    rintro e w1 ⟨rfl, hb⟩
    rw [hbr]
    have hx1 := hx.trans hb
    have c1 := hx1.cell 0
    go_wp2_with fail
    refine (semOf_c _ T _ (hx1.rd h) hok).mono ?_
    rintro e w3 ⟨gl, gp, rfl, hl, hr, hb3⟩
    have hx3 := hx1.trans hb3
    clear c1
    have hfd : ∀ W : World, (Instr.field 103 (.agg #[.slice (some ⟨gl, 0, none⟩) (nT T) (nT T), .slice (some ⟨gp, 0, none⟩) (nT T) (nT T)]) 0).run Try.prog W = .ok (.slice (some ⟨gl, 0, none⟩) (nT T) (nT T)) W := fun _ => by kernel_rfl
    go_wp2
    go_ret2
    exact ret_icw (hl.base_le (by have := hx1.size; omega)) hx3.below (by simp [okL]) (by simp [okC])

set_option maxRecDepth 100000 in
theorem specAperyOf_no (v : Value) (T : List Int) (w : World) (h : Rd w v T) (hbr : braB T = false) :
    Calls Try.prog 44 #[.agg #[v]] w (RetIC w [] 1) := by
  have hx := Boxed.start w 26 #[v]
  obtain ⟨a, k, rfl⟩ := h.len0
  have c0 := hx.cell 0
  go_enter Try.func44, Try.ntmps44
  go_wp2_with fail
  refine (l03Is_c _ T _ (hx.rd h)).mono ?_
  rintro e w1 ⟨rfl, hb⟩
  rw [hbr]
  go_wp2
  go_ret2
  exact retIC_nil (hx.trans hb).below

/-- Where the number z stands in the list. -/
def ixA (T : List Int) (z : Nat) : Nat := (mixS T (z : Int) (T.length - 1) % gI T 0).toNat
theorem ixA_bd {T : List Int} (h : BraOk T) (z : Nat) : ixA T z < nT T ∧ ((ixA T z : Nat) : Int) = mixS T (z : Int) (T.length - 1) % gI T 0 := by
  have h0 := h.first
  have h1 := Int.emod_nonneg (mixS T (z : Int) (T.length - 1)) (show gI T 0 ≠ 0 by omega)
  have h2 := Int.emod_lt_of_pos (mixS T (z : Int) (T.length - 1)) (show 0 < gI T 0 by omega)
  unfold ixA nT
  omega
theorem ixA_lst {T : List Int} (h : BraOk T) (z : Nat) : lst T (ixA T z : Nat) = mixS T (z : Int) (T.length - 1) := by
  rw [(ixA_bd h z).2]; exact mixS_lst h _
theorem ixA_all {T : List Int} (h : BraOk T) {r : Nat} (hr : r < nT T) : ∃ z, z < nT T ∧ ixA T z = r := by
  have h0 := h.first
  have hr' : (r : Int) < gI T 0 := by unfold nT at hr; omega
  obtain ⟨z, h1, h2, h3⟩ := mix_rem h (r := (r : Int)) (by omega) hr'
  obtain ⟨n, rfl⟩ := Int.eq_ofNat_of_zero_le h1
  refine ⟨n, by unfold nT; omega, ?_⟩
  have := (ixA_bd h n).2
  omega
/-- The first k numbers have been put down. -/
def ApTo (T : List Int) (k : Nat) (L : List Int) : Prop := L.length = nT T ∧ ∀ z, z < k → gI L (ixA T z) = lst T (ixA T z : Nat)
theorem ApTo.put {T : List Int} {k : Nat} {L : List Int} (h : BraOk T) (hL : ApTo T k L) : ApTo T (k + 1) (L.set (ixA T k) (mixS T (k : Int) (T.length - 1))) := by
  refine ⟨by simp [hL.1], fun z hz => ?_⟩
  by_cases e : ixA T k = ixA T z
  · rw [← e, gI_set_at (by rw [hL.1]; exact (ixA_bd h k).1), ixA_lst h]
  · rw [gI_set_ne e]
    refine hL.2 z ?_
    apply Nat.lt_of_le_of_ne (by omega)
    intro e2; subst e2; exact e rfl
theorem ApTo.all {T : List Int} {L : List Int} (h : BraOk T) (hL : ApTo T (nT T) L) : L = lstL T := by
  refine gI_ext (by rw [lstL_len]; exact hL.1) (fun r hr => ?_)
  rw [hL.1] at hr
  obtain ⟨z, hz, rfl⟩ := ixA_all h hr
  rw [gI_lstL hr]
  exact hL.2 z hz

set_option maxRecDepth 100000 in
set_option maxHeartbeats 4000000 in
theorem specAperyOf_yes (v : Value) (T : List Int) (w : World) (h : Rd w v T) (hbr : braB T = true) :
    Calls Try.prog 44 #[.agg #[v]] w (RetIC w (lstL T) 0) := by
  obtain ⟨i0, hi, hz0, hz1, hz2⟩ := info_parts Try.infoI
  have hok := braB_iff.1 hbr
  have hp := hok.len
  have hl := bra_len hok
  have h0 := hok.first
  have hx := Boxed.start w 26 #[v]
  obtain ⟨b, off, cap, rfl, hc1, hc2, hb, hc⟩ := h.cells hp
  have hTl : (0 : Int) < (T.length : Int) := by omega
  obtain ⟨N, hN⟩ := Int.eq_ofNat_of_zero_le (show 0 ≤ gI T 0 by omega)
  have hNT : nT T = N := by unfold nT; omega
  have hmk : ∀ W : World, (Instr.makeSlice 24 (.int .i64 (N : Int)) (.int .i64 (N : Int))).run Try.prog W = .ok (.slice (some ⟨W.heap.size, 0, none⟩) N N) (W.alloc (.cells (madeCells #[.int .i64 0] N) 2)) := fun W => run_make_row 24 2 i0 _ Try.underlying24 hi hz0 hz1 rfl .i64 .i64 N (by rw [hz2]; omega) (by omega) W
  have c0 := hx.cell 0
  go_enter Try.func44, Try.ntmps44
  go_wp2_with fail
  refine (l03Is_c _ T _ (hx.rd h)).mono ?_
  rintro e w1 ⟨rfl, hb1⟩
  rw [hbr]
  have hx1 := hx.trans hb1
  clear c0 hx hb1
  go_wp2_with fail
  have x0 := hx1.trans (Below.refl w1.heap.size w1).drew
  have SS : ∀ W : World, Boxed w W 26 #[.slice (some ⟨b, off, none⟩) T.length cap] → W.cell? ⟨w.heap.size, 0, none⟩ = some (.slice (some ⟨b, off, none⟩) T.length cap) ∧ W.cell? ⟨b, off, none⟩ = some (.int .i64 (N : Int)) := fun W hW => ⟨hW.cell 0, by rw [hW.below.cell (p := ⟨b, off, none⟩) hb]; have := hc 0 hp; rw [hN] at this; exact this⟩
  have k0 := SS _ x0
  go_cut [4, 5, 6] from 16 to 23 (fun s4 s5 s6 wc => ∃ ge ce gv cv : Nat, s4 = .slice (some ⟨ge, 0, none⟩) T.length ce ∧ s5 = .slice (some ⟨gv, 0, none⟩) T.length cv ∧ s6 = .int .i64 (N : Int) ∧ OwnI wc w1.heap.size (.slice (some ⟨ge, 0, none⟩) T.length ce) (eTo T T.length) ∧ OwnI wc w1.heap.size (.slice (some ⟨gv, 0, none⟩) T.length cv) (vTo T T.length) ∧ Boxed w wc 26 #[.slice (some ⟨b, off, none⟩) T.length cap])
  case first =>
    go_region_held3 (fun w' => w'.cell? ⟨w.heap.size, 0, none⟩ = some (.slice (some ⟨b, off, none⟩) T.length cap) ∧ w'.cell? ⟨b, off, none⟩ = some (.int .i64 (N : Int)))
      (first | assumption | exact k0 | exact HC | exact HD)
      (first
        | (go_at_call 139; (with_reducible refine (divisorsS_p _ T _ (x0.rd h) hok).mono ?_); rintro e wa ⟨g1, c1, rfl, oa, hba⟩; have xa := x0.trans hba; have HC := SS _ xa)
        | (go_at_call 140; (with_reducible refine (generatorsS_p _ T _ (xa.rd h) hok).mono ?_); rintro e wb ⟨g2, c2, rfl, ob, hbb⟩; have xb := xa.trans hbb; have HD := SS _ xb))
    have hsa : w1.heap.size ≤ wa.heap.size := hba.size
    have h1 := (oa.below hbb (Nat.le_refl _)).base_le (base' := w1.heap.size) (Nat.le_refl _)
    have h2 := ob.base_le (base' := w1.heap.size) hsa
    clear HC HD oa ob
    go_wp2
    go_meet
    exact ⟨g1, c1, g2, c2, rfl, rfl, rfl, h1, h2, xb⟩
  case rest =>
    obtain ⟨ge, ce, gv, cv, rfl, rfl, rfl, oE, oV, hbx⟩ := hcut
    clear k0 SS x0
    have hal : Below wc.heap.size wc (wc.alloc (.cells (madeCells #[.int .i64 0] N) 2)) := (Below.refl _ _).alloc (Nat.le_refl _) _
    have oO : OwnI (wc.alloc (.cells (madeCells #[.int .i64 0] N) 2)) wc.heap.size (.slice (some ⟨wc.heap.size, 0, none⟩) N N) (List.replicate N 0) := ownI_made (Blk.new wc _ _) (Nat.le_refl _) (by unfold maxLen; omega)
    have hap0 : ApTo T 0 (List.replicate N 0) := ⟨by simp [hNT], fun z hz => by omega⟩
    have hN64 : (N : Int) ≤ 64 := by omega
    have hNp : (0 : Int) < (N : Int) := by omega
    clear hz1 hz2
    go_wp2_with fail
    go_loopw [8, 9, 10, 11, 12] (fun kv _ _ _ _ wr => ∃ (k : Nat) (L : List Int), k ≤ N ∧ kv = .int .i64 k ∧ ApTo T k L ∧ OwnI wr wc.heap.size (.slice (some ⟨wc.heap.size, 0, none⟩) N N) L ∧ Below wc.heap.size wc wr) (fun kv _ _ _ _ _ => N - (intOf kv).toNat)
    case atStart => exact ⟨0, _, Nat.zero_le _, rfl, hap0, oO, hal⟩
    case round =>
      obtain ⟨k, L, hk, rfl, hap, oL, hbl⟩ := hrel
      clear oO hal hmk hap0
      obtain ⟨wo, rfl⟩ : ∃ wo : World, wo = wr := ⟨_, rfl⟩
      by_cases hlt : k < N
      · have hki : (k : Int) < (N : Int) := by omega
        have hk0 : (0 : Int) ≤ (k : Int) := Int.natCast_nonneg _
        have hH := Lib.hid hap
        clear hap
        go_wp2_with fail
        go_loopw [9, 10, 11, 12] (fun sv rv iv _ wr => ∃ j : Nat, j < T.length ∧ iv = .int .i64 ((j : Int) + 1) ∧ sv = .int .i64 (mixS T (k : Int) j) ∧ rv = .int .i64 (rst T (k : Int) j) ∧ Drew wo wr) (fun _ _ iv _ _ => T.length - (intOf iv).toNat)
        case atStart => exact ⟨0, hp, rfl, rfl, rfl, Drew.refl _⟩
        case round =>
          obtain ⟨j, hj, rfl, rfl, rfl, nd, rfl⟩ := hrel
          obtain ⟨wi, hwi⟩ : ∃ wi : World, wi = wo.drewN nd := ⟨_, rfl⟩
          have hdw : Drew wo wi := ⟨nd, hwi⟩
          rw [← hwi]
          have f6 : (0 : Int) ≤ (j : Int) + 1 := by omega
          have f3 : (0 : Int) ≤ (j : Int) := by omega
          have f1 : (j : Int) + 1 - 1 = (j : Int) := by omega
          have f2 : IntKind.i64.wrap (j : Int) = (j : Int) := IntWalk.i64_in _ (by omega)
          have f7 : ((j : Int) + 1).toNat = j + 1 := by omega
          by_cases hjt : j + 1 < T.length
          · have f5 : (j : Int) + 1 < (T.length : Int) := by omega
            have f4 : (j : Int) < (T.length : Int) := by omega
            have hbi := hbl.trans ((hdw.below wc.heap.size))
            have oE' := (show OwnI wc w1.heap.size (.slice (some ⟨ge, 0, none⟩) (eTo T T.length).length ce) (eTo T T.length) by rw [eTo_len]; exact oE).below hbi (Nat.le_refl _)
            have oV' := (show OwnI wc w1.heap.size (.slice (some ⟨gv, 0, none⟩) (vTo T T.length).length cv) (vTo T T.length) by rw [vTo_len]; exact oV).below hbi (Nat.le_refl _)
            have dE0 := oE'.cell j (by simp; omega)
            have dE1 := oE'.cell (j + 1) (by simp; omega)
            have dV := oV'.cell (j + 1) (by simp; omega)
            rw [gI_eTo (by omega)] at dE0 dE1
            rw [gI_vTo (by omega)] at dV
            have bE0 := eI_bd hok j
            have bE1 := eI_bd hok (j + 1)
            have bV := vI_bd hok hjt
            have bR := rI_bd hok (j + 1)
            have bR2 := rI_two hok hjt
            have bX := rst_nn hok hk0 j (by omega)
            have bS := mixS_bd hok (k : Int) j (by omega)
            have HS := Lib.hid (mixS_succ T (k : Int) j)
            have HR := Lib.hid (rst_succ T (k : Int) j)
            have hquo : Int.tdiv (eI T j) (eI T (j + 1)) = rI T (j + 1) := by rw [Int.tdiv_eq_ediv_of_nonneg (by omega), rI_succ]
            have hrem : Int.tmod (rst T (k : Int) j) (rI T (j + 1)) = rst T (k : Int) j % rI T (j + 1) := Int.tmod_eq_emod_of_nonneg bX.1
            have hq2 : Int.tdiv (rst T (k : Int) j) (rI T (j + 1)) = rst T (k : Int) j / rI T (j + 1) := Int.tdiv_eq_ediv_of_nonneg bX.1
            have hm0 := Int.emod_nonneg (rst T (k : Int) j) (show rI T (j + 1) ≠ 0 by omega)
            have hm1 := Int.emod_lt_of_pos (rst T (k : Int) j) (show 0 < rI T (j + 1) by omega)
            have hd0 : 0 ≤ rst T (k : Int) j / rI T (j + 1) := Int.ediv_nonneg bX.1 (by omega)
            have hd1 : rst T (k : Int) j / rI T (j + 1) ≤ rst T (k : Int) j := Int.ediv_le_self _ bX.1
            clear oE' oV' hbi
            generalize rst T (k : Int) j % rI T (j + 1) = y at hrem hm0 hm1 HS
            generalize rst T (k : Int) j / rI T (j + 1) = z at hq2 hd0 hd1 HR
            generalize rst T (k : Int) j = x at *
            generalize mixS T (k : Int) j = s at *
            generalize vI T (j + 1) = u at *
            generalize eI T (j + 1) = e1 at *
            generalize eI T j = e0 at *
            generalize rI T (j + 1) = r at *
            have hmb := mul_bd (a := y) (A := 64) (b := u) (B := 1000000000000000) hm0 (by omega) (by omega) bV.2
            have n1 : ¬ e1 = 0 := by omega
            have n2 : ¬ r = 0 := by omega
            have w1' : IntKind.i64.wrap r = r := IntWalk.i64_in _ (by omega)
            have w2' : IntKind.i64.wrap y = y := IntWalk.i64_in _ (by omega)
            have w3' : IntKind.i64.wrap z = z := IntWalk.i64_in _ (by omega)
            have w4' : IntKind.i64.wrap (y * u) = y * u := IntWalk.i64_in _ (by omega)
            have w5' : IntKind.i64.wrap (s + y * u) = s + y * u := IntWalk.i64_in _ (by omega)
            clear hmb hwi
            go_wp2
            go_quiet (fail)
            go_wp2
            go_quiet (fail)
            go_wp2
            go_roundw
            case rel => exact ⟨j + 1, hjt, by go_num, by rw [HS.out], by rw [HR.out], hdw.trans (by first | exact Drew.refl _ | exact Drew.one _ _ | exact Drew.two _ _ _)⟩
            case measure => simp [intOf]; omega
          · have hj' : j = T.length - 1 := by omega
            have f5 : ¬ (j : Int) + 1 < (T.length : Int) := by omega
            have f8 : (T.length : Int) ≤ (j : Int) + 1 := by omega
            subst hj'
            have hbx := ixA_bd hok k
            have hbi := hbl.trans ((hdw.below wc.heap.size))
            have oL' := (show OwnI wo wc.heap.size (.slice (some ⟨wc.heap.size, 0, none⟩) L.length N) L by rw [hH.out.1, hNT]; exact oL).below (hdw.below wo.heap.size) (Nat.le_refl _)
            have dL := oL'.cell (ixA T k) (by rw [hH.out.1]; exact hbx.1)
            have fL := oL'.free (ixA T k)
            have hput := oL'.set (ixA T k) (mixS T (k : Int) (T.length - 1))
            rw [hH.out.1, hNT] at hput
            have hnx := Lib.hid (hH.out.put hok)
            have hbs := hbi.setCell (p := ⟨wc.heap.size, ixA T k, none⟩) (Nat.le_refl _) (.int .i64 (mixS T (k : Int) (T.length - 1)))
            have bS := mixS_bd hok (k : Int) (T.length - 1) (by omega)
            have htm : Int.tmod (mixS T (k : Int) (T.length - 1)) (N : Int) = ((ixA T k : Nat) : Int) := by rw [Int.tmod_eq_emod_of_nonneg bS.1, ← hN]; exact hbx.2.symm
            have hin : ((ixA T k : Nat) : Int) < (N : Int) := by have := hbx.1; omega
            have hin0 : (0 : Int) ≤ ((ixA T k : Nat) : Int) := Int.natCast_nonneg _
            have wi' : IntKind.i64.wrap ((ixA T k : Nat) : Int) = ((ixA T k : Nat) : Int) := IntWalk.i64_in _ (by omega)
            have nN : ¬ (N : Int) = 0 := by omega
            clear hbx oL' oL hbi hdw hwi bS hbl
            generalize mixS T (k : Int) (T.length - 1) = s at *
            generalize ixA T k = q at *
            generalize L.set q s = L2 at *
            go_wp2
            go_roundw
            case rel => exact ⟨k + 1, L2, by omega, by go_num, hnx.out, hput, hbs⟩
            case measure => simp [intOf]; omega
      · have hk' : k = N := by omega
        subst hk'
        rw [← hNT] at hap
        have e := hap.all hok
        subst e
        have hfin := oL.base_le (base' := w.heap.size) (by have := hbx.size; omega)
        have hfr := (hbx.trans (hbl.mono (Nat.le_refl _))).below
        go_wp2
        go_ret2
        exact ret_icw hfin hfr rfl rfl
theorem specAperyOf_c (v : Value) (T : List Int) (w : World) (h : Rd w v T) :
    Calls Try.prog 44 #[.agg #[v]] w (RetIC w (okL (braB T) (lstL T)) (okC (braB T) 1)) := by
  cases hb : braB T
  · exact specAperyOf_no v T w h hb
  · exact specAperyOf_yes v T w h hb
end Go.Proofs.Ytiinceflafigeaa
