/- Contracts: AperyOf. -/
import Derived.Test.YtiinceflafigeaaSemIs
import Derived.Test.YtiinceflafigeaaDivP
namespace Go.Proofs.Ytiinceflafigeaa
open Go.RowKit

theorem ret_icw {w w' : World} {v : Value} {xs ys : List Int} {c d : Int} (h : OwnI w' w.heap.size v xs) (hb : Below w.heap.size w w') (e1 : xs = ys) (e2 : c = d) : RetIC w ys d (.returned (.tuple #[v, .int .i64 c])) w' := by
  subst e1; subst e2; exact retIC_mk h hb

set_option maxRecDepth 100000 in
theorem implAperyOf_c (v : Value) (T : List Int) (w : World) (h : Rd w v T) :
    Calls Try.prog 43 #[.agg #[v]] w (RetIC w (okL (braB T) (lstL T)) (okC (braB T) 1)) := by
  have hx := Boxed.start w 26 #[v]
  obtain ⟨a, k, rfl⟩ := h.len0
  have c0 := hx.cell 0
  cases hbr : braB T
  · go_enter Try.func43, Try.ntmps43
    go_wp2_with fail
    refine (implIsBranch_c _ T _ (hx.rd h)).mono ?_
    rintro e w1 ⟨rfl, hb⟩
    rw [hbr]
    go_wp2
    go_ret2
    exact retIC_nil (hx.trans hb).below
  · have hok := braB_iff.1 hbr
    go_enter Try.func43, Try.ntmps43
    go_wp2_with fail
    refine (implIsBranch_c _ T _ (hx.rd h)).mono ?_
    rintro e w1 ⟨rfl, hb⟩
    rw [hbr]
    have hx1 := hx.trans hb
    have c1 := hx1.cell 0
    go_wp2_with fail
    refine (semOf_c _ T _ (hx1.rd h) hok).mono ?_
    rintro e w3 ⟨gl, gp, rfl, hl, hr, hb3⟩
    have hx3 := hx1.trans hb3
    clear c1
    have hfd : ∀ W : World, (Instr.field 103 (.agg #[.slice (some ⟨gl, 0, none⟩) (nT T) (nT T), .slice (some ⟨gp, 0, none⟩) (nT T) (nT T)]) 0).run Try.prog W = .ok (.slice (some ⟨gl, 0, none⟩) (nT T) (nT T)) W := fun _ => by kernel_rfl
    go_wp2
    go_ret2
    exact ret_icw (hl.base_le (by have := hx1.size; omega)) hx3.below (by simp [okL]) (by simp [okC])

set_option maxRecDepth 100000 in
theorem specAperyOf_no (v : Value) (T : List Int) (w : World) (h : Rd w v T) (hbr : braB T = false) :
    Calls Try.prog 44 #[.agg #[v]] w (RetIC w [] 1) := by
  have hx := Boxed.start w 26 #[v]
  obtain ⟨a, k, rfl⟩ := h.len0
  have c0 := hx.cell 0
  go_enter Try.func44, Try.ntmps44
  go_wp2_with fail
  refine (l03Is_c _ T _ (hx.rd h)).mono ?_
  rintro e w1 ⟨rfl, hb⟩
  rw [hbr]
  go_wp2
  go_ret2
  exact retIC_nil (hx.trans hb).below

/-- Where the number z stands in the list. -/
def ixA (T : List Int) (z : Nat) : Nat := (mixS T (z : Int) (T.length - 1) % gI T 0).toNat
theorem ixA_bd {T : List Int} (h : BraOk T) (z : Nat) : ixA T z < nT T ∧ ((ixA T z : Nat) : Int) = mixS T (z : Int) (T.length - 1) % gI T 0 := by
  have h0 := h.first
  have h1 := Int.emod_nonneg (mixS T (z : Int) (T.length - 1)) (show gI T 0 ≠ 0 by omega)
  have h2 := Int.emod_lt_of_pos (mixS T (z : Int) (T.length - 1)) (show 0 < gI T 0 by omega)
  unfold ixA nT
  omega
theorem ixA_lst {T : List Int} (h : BraOk T) (z : Nat) : lst T (ixA T z : Nat) = mixS T (z : Int) (T.length - 1) := by
  rw [(ixA_bd h z).2]; exact mixS_lst h _
theorem ixA_all {T : List Int} (h : BraOk T) {r : Nat} (hr : r < nT T) : ∃ z, z < nT T ∧ ixA T z = r := by
  have h0 := h.first
  have hr' : (r : Int) < gI T 0 := by unfold nT at hr; omega
  obtain ⟨z, h1, h2, h3⟩ := mix_rem h (r := (r : Int)) (by omega) hr'
  obtain ⟨n, rfl⟩ := Int.eq_ofNat_of_zero_le h1
  refine ⟨n, by unfold nT; omega, ?_⟩
  have := (ixA_bd h n).2
  omega
/-- The first k numbers have been put down. -/
def ApTo (T : List Int) (k : Nat) (L : List Int) : Prop := L.length = nT T ∧ ∀ z, z < k → gI L (ixA T z) = lst T (ixA T z : Nat)
theorem ApTo.put {T : List Int} {k : Nat} {L : List Int} (h : BraOk T) (hL : ApTo T k L) : ApTo T (k + 1) (L.set (ixA T k) (mixS T (k : Int) (T.length - 1))) := by
  refine ⟨by simp [hL.1], fun z hz => ?_⟩
  by_cases e : ixA T k = ixA T z
  · rw [← e, gI_set_at (by rw [hL.1]; exact (ixA_bd h k).1), ixA_lst h]
  · rw [gI_set_ne e]
    refine hL.2 z ?_
    apply Nat.lt_of_le_of_ne (by omega)
    intro e2; subst e2; exact e rfl
theorem ApTo.all {T : List Int} {L : List Int} (h : BraOk T) (hL : ApTo T (nT T) L) : L = lstL T := by
  refine gI_ext (by rw [lstL_len]; exact hL.1) (fun r hr => ?_)
  rw [hL.1] at hr
  obtain ⟨z, hz, rfl⟩ := ixA_all h hr
  rw [gI_lstL hr]
  exact hL.2 z hz

set_option maxRecDepth 100000 in
set_option maxHeartbeats 4000000 in
theorem specAperyOf_yes (v : Value) (T : List Int) (w : World) (h : Rd w v T) (hbr : braB T = true) :
    Calls Try.prog 44 #[.agg #[v]] w (RetIC w (lstL T) 0) := by
  obtain ⟨i0, hi, hz0, hz1, hz2⟩ := info_parts Try.infoI
  have hok := braB_iff.1 hbr
  have hp := hok.len
  have hl := bra_len hok
  have h0 := hok.first
  have hx := Boxed.start w 26 #[v]
  obtain ⟨b, off, cap, rfl, hc1, hc2, hb, hc⟩ := h.cells hp
  have hTl : (0 : Int) < (T.length : Int) := by omega
  obtain ⟨N, hN⟩ := Int.eq_ofNat_of_zero_le (show 0 ≤ gI T 0 by omega)
  have hNT : nT T = N := by unfold nT; omega
  have hmk : ∀ W : World, (Instr.makeSlice 24 (.int .i64 (N : Int)) (.int .i64 (N : Int))).run Try.prog W = .ok (.slice (some ⟨W.heap.size, 0, none⟩) N N) (W.alloc (.cells (madeCells #[.int .i64 0] N) 2)) := fun W => run_make_row 24 2 i0 _ Try.underlying24 hi hz0 hz1 rfl .i64 .i64 N (by rw [hz2]; omega) (by omega) W
  have c0 := hx.cell 0
  go_enter Try.func44, Try.ntmps44
  go_wp2_with fail
  refine (l03Is_c _ T _ (hx.rd h)).mono ?_
  rintro e w1 ⟨rfl, hb1⟩
  rw [hbr]
  have hx1 := hx.trans hb1
  clear c0 hx hb1
  go_wp2_with fail
  have x0 := hx1.trans (Below.refl w1.heap.size w1).drew
  have SS : ∀ W : World, Boxed w W 26 #[.slice (some ⟨b, off, none⟩) T.length cap] → W.cell? ⟨w.heap.size, 0, none⟩ = some (.slice (some ⟨b, off, none⟩) T.length cap) ∧ W.cell? ⟨b, off, none⟩ = some (.int .i64 (N : Int)) := fun W hW => ⟨hW.cell 0, by rw [hW.below.cell (p := ⟨b, off, none⟩) hb]; have := hc 0 hp; rw [hN] at this; exact this⟩
  have k0 := SS _ x0
  go_cut [4, 5, 6] from 16 to 23 (fun s4 s5 s6 wc => ∃ ge ce gv cv : Nat, s4 = .slice (some ⟨ge, 0, none⟩) T.length ce ∧ s5 = .slice (some ⟨gv, 0, none⟩) T.length cv ∧ s6 = .int .i64 (N : Int) ∧ OwnI wc w1.heap.size (.slice (some ⟨ge, 0, none⟩) T.length ce) (eTo T T.length) ∧ OwnI wc w1.heap.size (.slice (some ⟨gv, 0, none⟩) T.length cv) (vTo T T.length) ∧ Boxed w wc 26 #[.slice (some ⟨b, off, none⟩) T.length cap])
  case first =>
    go_region_held3 (fun w' => w'.cell? ⟨w.heap.size, 0, none⟩ = some (.slice (some ⟨b, off, none⟩) T.length cap) ∧ w'.cell? ⟨b, off, none⟩ = some (.int .i64 (N : Int)))
      (first | assumption | exact k0 | exact HC | exact HD)
      (first
        | (go_at_call 139; (with_reducible refine (divisorsS_p _ T _ (x0.rd h) hok).mono ?_); rintro e wa ⟨g1, c1, rfl, oa, hba⟩; have xa := x0.trans hba; have HC := SS _ xa)
        | (go_at_call 140; (with_reducible refine (generatorsS_p _ T _ (xa.rd h) hok).mono ?_); rintro e wb ⟨g2, c2, rfl, ob, hbb⟩; have xb := xa.trans hbb; have HD := SS _ xb))
    have hsa : w1.heap.size ≤ wa.heap.size := hba.size
    have h1 := (oa.below hbb (Nat.le_refl _)).base_le (base' := w1.heap.size) (Nat.le_refl _)
    have h2 := ob.base_le (base' := w1.heap.size) hsa
    clear HC HD oa ob
    go_wp2
    go_meet
    exact ⟨g1, c1, g2, c2, rfl, rfl, rfl, h1, h2, xb⟩
  case rest =>
    obtain ⟨ge, ce, gv, cv, rfl, rfl, rfl, oE, oV, hbx⟩ := hcut
    clear k0 SS x0
    have hal : Below wc.heap.size wc (wc.alloc (.cells (madeCells #[.int .i64 0] N) 2)) := (Below.refl _ _).alloc (Nat.le_refl _) _
    have oO : OwnI (wc.alloc (.cells (madeCells #[.int .i64 0] N) 2)) wc.heap.size (.slice (some ⟨wc.heap.size, 0, none⟩) N N) (List.replicate N 0) := ownI_made (Blk.new wc _ _) (Nat.le_refl _) (by unfold maxLen; omega)
    have hap0 : ApTo T 0 (List.replicate N 0) := ⟨by simp [hNT], fun z hz => by omega⟩
    have hN64 : (N : Int) ≤ 64 := by omega
    have hNp : (0 : Int) < (N : Int) := by omega
    clear hz1 hz2
    go_wp2_with fail
    go_loopw [8, 9, 10, 11, 12] (fun kv _ _ _ _ wr => ∃ (k : Nat) (L : List Int), k ≤ N ∧ kv = .int .i64 k ∧ ApTo T k L ∧ OwnI wr wc.heap.size (.slice (some ⟨wc.heap.size, 0, none⟩) N N) L ∧ Below wc.heap.size wc wr) (fun kv _ _ _ _ _ => N - (intOf kv).toNat)
    case atStart => exact ⟨0, _, Nat.zero_le _, rfl, hap0, oO, hal⟩
    case round =>
      obtain ⟨k, L, hk, rfl, hap, oL, hbl⟩ := hrel
      clear oO hal hmk hap0
      obtain ⟨wo, rfl⟩ : ∃ wo : World, wo = wr := ⟨_, rfl⟩
      by_cases hlt : k < N
      · have hki : (k : Int) < (N : Int) := by omega
        have hk0 : (0 : Int) ≤ (k : Int) := Int.natCast_nonneg _
        have hH := Lib.hid hap
        clear hap
        go_wp2_with fail
        go_loopw [9, 10, 11, 12] (fun sv rv iv _ wr => ∃ j : Nat, j < T.length ∧ iv = .int .i64 ((j : Int) + 1) ∧ sv = .int .i64 (mixS T (k : Int) j) ∧ rv = .int .i64 (rst T (k : Int) j) ∧ Drew wo wr) (fun _ _ iv _ _ => T.length - (intOf iv).toNat)
        case atStart => exact ⟨0, hp, rfl, rfl, rfl, Drew.refl _⟩
        case round =>
          obtain ⟨j, hj, rfl, rfl, rfl, nd, rfl⟩ := hrel
          obtain ⟨wi, hwi⟩ : ∃ wi : World, wi = wo.drewN nd := ⟨_, rfl⟩
          have hdw : Drew wo wi := ⟨nd, hwi⟩
          rw [← hwi]
          have f6 : (0 : Int) ≤ (j : Int) + 1 := by omega
          have f3 : (0 : Int) ≤ (j : Int) := by omega
          have f1 : (j : Int) + 1 - 1 = (j : Int) := by omega
          have f2 : IntKind.i64.wrap (j : Int) = (j : Int) := IntWalk.i64_in _ (by omega)
          have f7 : ((j : Int) + 1).toNat = j + 1 := by omega
          by_cases hjt : j + 1 < T.length
          · have f5 : (j : Int) + 1 < (T.length : Int) := by omega
            have f4 : (j : Int) < (T.length : Int) := by omega
            have hbi := hbl.trans ((hdw.below wc.heap.size))
            have oE' := (show OwnI wc w1.heap.size (.slice (some ⟨ge, 0, none⟩) (eTo T T.length).length ce) (eTo T T.length) by rw [eTo_len]; exact oE).below hbi (Nat.le_refl _)
            have oV' := (show OwnI wc w1.heap.size (.slice (some ⟨gv, 0, none⟩) (vTo T T.length).length cv) (vTo T T.length) by rw [vTo_len]; exact oV).below hbi (Nat.le_refl _)
            have dE0 := oE'.cell j (by simp; omega)
            have dE1 := oE'.cell (j + 1) (by simp; omega)
            have dV := oV'.cell (j + 1) (by simp; omega)
            rw [gI_eTo (by omega)] at dE0 dE1
            rw [gI_vTo (by omega)] at dV
            have bE0 := eI_bd hok j
            have bE1 := eI_bd hok (j + 1)
            have bV := vI_bd hok hjt
            have bR := rI_bd hok (j + 1)
            have bR2 := rI_two hok hjt
            have bX := rst_nn hok hk0 j (by omega)
            have bS := mixS_bd hok (k : Int) j (by omega)
            have HS := Lib.hid (mixS_succ T (k : Int) j)
            have HR := Lib.hid (rst_succ T (k : Int) j)
            have hquo : Int.tdiv (eI T j) (eI T (j + 1)) = rI T (j + 1) := by rw [Int.tdiv_eq_ediv_of_nonneg (by omega), rI_succ]
            have hrem : Int.tmod (rst T (k : Int) j) (rI T (j + 1)) = rst T (k : Int) j % rI T (j + 1) := Int.tmod_eq_emod_of_nonneg bX.1
            have hq2 : Int.tdiv (rst T (k : Int) j) (rI T (j + 1)) = rst T (k : Int) j / rI T (j + 1) := Int.tdiv_eq_ediv_of_nonneg bX.1
            have hm0 := Int.emod_nonneg (rst T (k : Int) j) (show rI T (j + 1) ≠ 0 by omega)
            have hm1 := Int.emod_lt_of_pos (rst T (k : Int) j) (show 0 < rI T (j + 1) by omega)
            have hd0 : 0 ≤ rst T (k : Int) j / rI T (j + 1) := Int.ediv_nonneg bX.1 (by omega)
            have hd1 : rst T (k : Int) j / rI T (j + 1) ≤ rst T (k : Int) j := Int.ediv_le_self _ bX.1
            clear oE' oV' hbi
            generalize rst T (k : Int) j % rI T (j + 1) = y at hrem hm0 hm1 HS
            generalize rst T (k : Int) j / rI T (j + 1) = z at hq2 hd0 hd1 HR
            generalize rst T (k : Int) j = x at *
            generalize mixS T (k : Int) j = s at *
            generalize vI T (j + 1) = u at *
            generalize eI T (j + 1) = e1 at *
            generalize eI T j = e0 at *
            generalize rI T (j + 1) = r at *
            have hmb := mul_bd (a := y) (A := 64) (b := u) (B := 1000000000000000) hm0 (by omega) (by omega) bV.2
            have n1 : ¬ e1 = 0 := by omega
            have n2 : ¬ r = 0 := by omega
            have w1' : IntKind.i64.wrap r = r := IntWalk.i64_in _ (by omega)
            have w2' : IntKind.i64.wrap y = y := IntWalk.i64_in _ (by omega)
            have w3' : IntKind.i64.wrap z = z := IntWalk.i64_in _ (by omega)
            have w4' : IntKind.i64.wrap (y * u) = y * u := IntWalk.i64_in _ (by omega)
            have w5' : IntKind.i64.wrap (s + y * u) = s + y * u := IntWalk.i64_in _ (by omega)
            clear hmb hwi
            go_wp2
            go_quiet (fail)
            go_wp2
            go_quiet (fail)
            go_wp2
            go_roundw
            case rel => exact ⟨j + 1, hjt, by go_num, by rw [HS.out], by rw [HR.out], hdw.trans (by first | exact Drew.refl _ | exact Drew.one _ _ | exact Drew.two _ _ _)⟩
            case measure => simp [intOf]; omega
          · have hj' : j = T.length - 1 := by omega
            have f5 : ¬ (j : Int) + 1 < (T.length : Int) := by omega
            have f8 : (T.length : Int) ≤ (j : Int) + 1 := by omega
            subst hj'
            have hbx := ixA_bd hok k
            have hbi := hbl.trans ((hdw.below wc.heap.size))
            have oL' := (show OwnI wo wc.heap.size (.slice (some ⟨wc.heap.size, 0, none⟩) L.length N) L by rw [hH.out.1, hNT]; exact oL).below (hdw.below wo.heap.size) (Nat.le_refl _)
            have dL := oL'.cell (ixA T k) (by rw [hH.out.1]; exact hbx.1)
            have fL := oL'.free (ixA T k)
            have hput := oL'.set (ixA T k) (mixS T (k : Int) (T.length - 1))
            rw [hH.out.1, hNT] at hput
            have hnx := Lib.hid (hH.out.put hok)
            have hbs := hbi.setCell (p := ⟨wc.heap.size, ixA T k, none⟩) (Nat.le_refl _) (.int .i64 (mixS T (k : Int) (T.length - 1)))
            have bS := mixS_bd hok (k : Int) (T.length - 1) (by omega)
            have htm : Int.tmod (mixS T (k : Int) (T.length - 1)) (N : Int) = ((ixA T k : Nat) : Int) := by rw [Int.tmod_eq_emod_of_nonneg bS.1, ← hN]; exact hbx.2.symm
            have hin : ((ixA T k : Nat) : Int) < (N : Int) := by have := hbx.1; omega
            have hin0 : (0 : Int) ≤ ((ixA T k : Nat) : Int) := Int.natCast_nonneg _
            have wi' : IntKind.i64.wrap ((ixA T k : Nat) : Int) = ((ixA T k : Nat) : Int) := IntWalk.i64_in _ (by omega)
            have nN : ¬ (N : Int) = 0 := by omega
            clear hbx oL' oL hbi hdw hwi bS hbl
            generalize mixS T (k : Int) (T.length - 1) = s at *
            generalize ixA T k = q at *
            generalize L.set q s = L2 at *
            go_wp2
            go_roundw
            case rel => exact ⟨k + 1, L2, by omega, by go_num, hnx.out, hput, hbs⟩
            case measure => simp [intOf]; omega
      · have hk' : k = N := by omega
        subst hk'
        rw [← hNT] at hap
        have e := hap.all hok
        subst e
        have hfin := oL.base_le (base' := w.heap.size) (by have := hbx.size; omega)
        have hfr := (hbx.trans (hbl.mono (Nat.le_refl _))).below
        go_wp2
        go_ret2
        exact ret_icw hfin hfr rfl rfl
theorem specAperyOf_c (v : Value) (T : List Int) (w : World) (h : Rd w v T) :
    Calls Try.prog 44 #[.agg #[v]] w (RetIC w (okL (braB T) (lstL T)) (okC (braB T) 1)) := by
  cases hb : braB T
  · exact specAperyOf_no v T w h hb
  · exact specAperyOf_yes v T w h hb
end Go.Proofs.Ytiinceflafigeaa

/- Contracts: RepresentationOf. -/
namespace Go.Proofs.Ytiinceflafigeaa
open Go.RowKit

/-- The code, and the numbers. -/
def rpC (T : List Int) (z : Int) : Int := if svC T z = 0 then (if valB T z = true then 0 else 4) else svC T z
def rpL (T : List Int) (z : Int) : List Int := if rpC T z = 0 then low T z / gI T 0 :: digA T z else []
theorem rpC_bra {T : List Int} {z : Int} (h : braB T = false) : rpC T z = 1 := by simp [rpC, svC_bra h]
theorem rpC_num {T : List Int} {z : Int} (h : braB T = true) (h' : inB z 0 20000 = false) : rpC T z = 2 := by simp [rpC, svC_num h h']
theorem rpC_not {T : List Int} {z : Int} (h : braB T = true) (h' : inB z 0 20000 = true) (hv : valB T z = false) : rpC T z = 4 := by simp [rpC, svC_ok h h', hv]
theorem rpC_ok {T : List Int} {z : Int} (h : braB T = true) (h' : inB z 0 20000 = true) (hv : valB T z = true) : rpC T z = 0 := by simp [rpC, svC_ok h h', hv]
theorem rpL_no {T : List Int} {z : Int} (h : rpC T z ≠ 0) : rpL T z = [] := by simp [rpL, h]
theorem rpL_ok {T : List Int} {z : Int} (h : rpC T z = 0) : rpL T z = low T z / gI T 0 :: digA T z := by simp [rpL, h]
theorem rpC_zero {T : List Int} {z : Int} (h : rpC T z = 0) : braB T = true := by
  cases c : braB T
  · rw [rpC_bra c] at h; simp at h
  · rfl
theorem rpL_len (T : List Int) (z : Int) : (rpL T z).length ≤ 8 := by
  unfold rpL
  split
  · rename_i h
    have := bra_len (braB_iff.1 (rpC_zero h))
    simp; omega
  · simp
theorem ret_nil4 {w w' : World} {ys : List Int} {c d : Int} (hb : Below w.heap.size w w') (e1 : ys = []) (e2 : c = d) : RetIC w ys d (.returned (.tuple #[.slice none 0 0, .int .i64 c])) w' := by
  subst e1; subst e2; exact retIC_nil hb

set_option maxRecDepth 100000 in
set_option maxHeartbeats 4000000 in
theorem implRepresentationOf_c (v : Value) (T : List Int) (z : Int) (w : World) (h : Rd w v T) :
    Calls Try.prog 33 #[.agg #[v], .int .i64 z] w (RetIC w (rpL T z) (rpC T z)) := by
  obtain ⟨i0, hi, hz0, hz1, hz2⟩ := info_parts Try.infoI
  cases hbr : braB T
  · have hx := Boxed.start w 26 #[v]
    obtain ⟨a, k, rfl⟩ := h.len0
    have c0 := hx.cell 0
    have HC := Lib.hid (rpC_bra (z := z) hbr)
    have HB := Lib.hid (rpL_no (z := z) (by rw [rpC_bra hbr]; decide))
    go_enter Try.func33, Try.ntmps33
    go_wp2_with fail
    refine (implIsBranch_c _ T _ (hx.rd h)).mono ?_
    rintro e w1 ⟨rfl, hb⟩
    rw [hbr]
    go_wp2
    go_ret2
    exact ret_nil4 (hx.trans hb).below HB.out HC.out.symm
  · cases hin : inB z 0 20000
    · have hx := Boxed.start w 26 #[v]
      obtain ⟨a, k, rfl⟩ := h.len0
      have c0 := hx.cell 0
      have HC := Lib.hid (rpC_num hbr hin)
      have HB := Lib.hid (rpL_no (z := z) (by rw [rpC_num hbr hin]; decide))
      go_enter Try.func33, Try.ntmps33
      go_wp2_with fail
      refine (implIsBranch_c _ T _ (hx.rd h)).mono ?_
      rintro e w1 ⟨rfl, hb⟩
      rw [hbr]
      go_wp2_with fail
      refine (inRange_c _ _ _ _).mono ?_
      rintro e w2 ⟨rfl, rfl⟩
      rw [hin]
      go_wp2
      go_ret2
      exact ret_nil4 (hx.trans hb).below HB.out HC.out.symm
    · have hok := braB_iff.1 hbr
      have hp := hok.len
      have hzz := inB_iff.1 hin
      have h0 := hok.first
      have hx := Boxed.start w 26 #[v]
      obtain ⟨b, off, cap, rfl, hc1, hc2, hb0, hcc⟩ := h.cells hp
      have hTl : (0 : Int) < (T.length : Int) := by omega
      have c0 := hx.cell 0
      go_enter Try.func33, Try.ntmps33
      go_wp2_with fail
      refine (implIsBranch_c _ T _ (hx.rd h)).mono ?_
      rintro e w1 ⟨rfl, hb⟩
      rw [hbr]
      have hx1 := hx.trans hb
      go_wp2_with fail
      refine (inRange_c _ _ _ _).mono ?_
      rintro e w2 ⟨rfl, rfl⟩
      rw [hin]
      have c2 := hx1.cell 0
      go_wp2_with fail
      refine (semOf_c _ T _ (hx1.rd h) hok).mono ?_
      rintro e w3 ⟨gl, gp, rfl, hl, ⟨hgp, hr⟩, hb3⟩
      have hx3 := hx1.trans hb3
      have B4 := Blk.new w3 103 #[.slice (some ⟨gl, 0, none⟩) (nT T) (nT T), .slice (some ⟨gp, 0, none⟩) (nT T) (nT T)]
      have hal : Below w3.heap.size w3 (w3.alloc (.cells #[.slice (some ⟨gl, 0, none⟩) (nT T) (nT T), .slice (some ⟨gp, 0, none⟩) (nT T) (nT T)] 103)) := (Below.refl _ _).alloc (Nat.le_refl _) _
      have hl4 := hl.below hal (Nat.le_refl _)
      have hx4 := hx3.trans hal
      have q0 := B4.cell 0
      have q1 := B4.cell 1
      clear c2
      go_wp2_with fail
      refine (has_c _ _ T z _ hl4.rd hok hzz.1).mono ?_
      rintro e w5 ⟨rfl, hb5⟩
      have hx5 := hx4.trans hb5
      clear q0 q1
      cases hv : valB T z
      · have HC := Lib.hid (rpC_not hbr hin hv)
        have HB := Lib.hid (rpL_no (z := z) (by rw [rpC_not hbr hin hv]; decide))
        go_wp2
        go_ret2
        exact ret_nil4 hx5.below HB.out HC.out.symm
      · have HC := Lib.hid (rpC_ok hbr hin hv)
        have HB := Lib.hid (rpL_ok (rpC_ok hbr hin hv))
        have hr0 := Int.emod_nonneg z (show gI T 0 ≠ 0 by omega)
        have hr1 := Int.emod_lt_of_pos z (show 0 < gI T 0 by omega)
        obtain ⟨N, hN⟩ := Int.eq_ofNat_of_zero_le (show 0 ≤ gI T 0 by omega)
        have hNT : nT T = N := by unfold nT; omega
        obtain ⟨q, hq⟩ := Int.eq_ofNat_of_zero_le hr0
        have hqn : q < nT T := by omega
        obtain ⟨u, hu, hou⟩ := hr q hqn
        have em := lst_emod hok z
        rw [hq] at em
        have B5 := B4.stays hb5
        have hl5 := hl4.below hb5 (Nat.le_refl _)
        have hl5' : OwnI w5 w1.heap.size (.slice (some ⟨gl, 0, none⟩) (lstL T).length (nT T)) (lstL T) := by rw [lstL_len]; exact hl5
        have dl := hl5'.cell q (by rw [lstL_len]; exact hqn)
        rw [gI_lstL hqn, em.2] at dl
        have hu5 : w5.cell? ⟨gp, q, none⟩ = some u := by
          rw [hb5.cell (p := ⟨gp, q, none⟩) (by simp; omega), hal.cell (p := ⟨gp, q, none⟩) hgp]; exact hu
        have hou5 := (hou.below hal (Nat.le_refl _)).below hb5 (Nat.le_refl _)
        rw [em.1] at hou5
        have dT : w5.cell? ⟨b, off, none⟩ = some (.int .i64 (N : Int)) := by rw [hx5.below.cell (p := ⟨b, off, none⟩) hb0]; have := hcc 0 hp; rw [hN] at this; exact this
        obtain ⟨au, ku, rfl⟩ := hou5.form
        rw [digA_len] at hu hu5 hou5
        have c5 := hx5.cell 0
        have q0 := B5.cell 0
        have q1 := B5.cell 1
        have hlb := lst_bd hok z
        have hlw := lst_low T z
        have hvp := (val_iff hok z).1 ((valB_iff hok z).1 hv)
        have htm : Int.tmod z (N : Int) = (q : Int) := by rw [Int.tmod_eq_emod_of_nonneg hzz.1, ← hN]; exact hq
        have hquo : Int.tdiv (low T z) (N : Int) = low T z / (N : Int) := Int.tdiv_eq_ediv_of_nonneg hvp
        have hsub : z - lst T z = low T z := by omega
        have hd0 : 0 ≤ low T z / (N : Int) := Int.ediv_nonneg hvp (by omega)
        have hd1 : low T z / (N : Int) ≤ low T z := Int.ediv_le_self _ hvp
        have hNn : ¬ (N : Int) = 0 := by omega
        have hNn2 : ¬ N = 0 := by omega
        have hqi : (q : Int) < ((nT T : Nat) : Int) := by omega
        have hq0 : (0 : Int) ≤ (q : Int) := Int.natCast_nonneg _
        have wq : IntKind.i64.wrap (q : Int) = q := IntWalk.i64_in _ (by omega)
        have ws : IntKind.i64.wrap (low T z) = low T z := IntWalk.i64_in _ (by omega)
        have wd : IntKind.i64.wrap (low T z / (N : Int)) = low T z / (N : Int) := IntWalk.i64_in _ (by omega)
        have hl7 := bra_len hok
        rw [hN] at HB
        generalize lst T z = y at dl hsub hlb hlw
        generalize low T z / (N : Int) = d at hquo hd0 hd1 wd HB
        generalize low T z = x at hquo hsub hd1 ws hvp hlw
        clear hlw
        obtain ⟨wo, rfl⟩ : ∃ wo : World, wo = w5 := ⟨_, rfl⟩
        have SS : ∀ W, Below wo.heap.size wo W → W.cell? ⟨w3.heap.size, 0, none⟩ = some (.slice (some ⟨gl, 0, none⟩) (nT T) (nT T)) ∧ W.cell? ⟨w3.heap.size, 1, none⟩ = some (.slice (some ⟨gp, 0, none⟩) (nT T) (nT T)) ∧ W.cell? ⟨gl, q, none⟩ = some (.int .i64 y) ∧ W.cell? ⟨gp, q, none⟩ = some (.slice au (T.length - 1) ku) := fun W hW =>
          ⟨(hW.cell (p := ⟨w3.heap.size, 0, none⟩) B5.lt).trans q0, (hW.cell (p := ⟨w3.heap.size, 1, none⟩) B5.lt).trans q1, (hW.cell (p := ⟨gl, q, none⟩) (hl5.block gl rfl).2).trans dl, (hW.cell (p := ⟨gp, q, none⟩) (World.block_lt_of_cell? wo ⟨gp, q, none⟩ hu5)).trans hu5⟩
        have k0 := SS wo.drew (Below.refl _ _).drew
        have hal2 : Below wo.heap.size wo ((wo.alloc (.cells #[.int .i64 d] 2)).drew) := ((Below.refl _ _).alloc (Nat.le_refl _) _).drew
        have k1 := SS _ hal2
        have hou6 := hou5.below hal2 (Nat.le_refl _)
        have h1o : OwnI ((wo.alloc (.cells #[.int .i64 d] 2)).drew) wo.heap.size (.slice (some ⟨wo.heap.size, 0, none⟩) 1 1) [d] := own_one wo _ (Nat.le_refl _) d
        have HX := Lib.hid hx5
        have HX2 := Lib.hid hal2
        clear q0 q1 dl hu hu5 hl5 hl5' hl4 hl B4 B5 hr hou hou5 em hN hNT hq hqn hr0 hr1
        go_wp2_with fail
        clear c5 dT
        go_region_held3 (fun w' => w'.cell? ⟨w3.heap.size, 0, none⟩ = some (.slice (some ⟨gl, 0, none⟩) (nT T) (nT T)) ∧ w'.cell? ⟨w3.heap.size, 1, none⟩ = some (.slice (some ⟨gp, 0, none⟩) (nT T) (nT T)) ∧ w'.cell? ⟨gl, q, none⟩ = some (.int .i64 y) ∧ w'.cell? ⟨gp, q, none⟩ = some (.slice au (T.length - 1) ku))
          (first | assumption | exact k0 | exact k1 | exact HD)
          (first | (refine step_extend rfl (.tmp 35) (.tmp 42) 24 rfl wo.heap.size w1.heap.size 2 i0 Try.underlying24 hi hz0 hz1 hz2 (.slice (some ⟨wo.heap.size, 0, none⟩) 1 1) (.slice au (T.length - 1) ku) [d] (digA T z) rfl h1o rfl hou6 (by simp; omega) (by simp) ?_; intro v' w7 ho2 hkp; have hfr7 : Below wo.heap.size wo w7 := HX2.out.trans (hkp.below (by simp) (fun g hg => by simp [Value.ownBlock] at hg; omega)); have HD := SS _ hfr7; obtain ⟨a7, k7, hv7⟩ := ho2.form; obtain ⟨n7, hn7⟩ : ∃ n, n = ([d] ++ digA T z).length := ⟨_, rfl⟩; rw [← hn7] at hv7; subst hv7; have HN7 := Lib.hid hn7; clear hn7))
        all_goals
          have hO := ho2.base_le (base' := w.heap.size) (Nat.le_of_lt (Nat.lt_of_succ_le HX.out.size))
          have HO := Lib.hid hO
          have HF := Lib.hid (HX.out.trans (hfr7.mono (Nat.le_refl _))).below
          clear ho2 hO hkp hfr7 HD k0 k1 SS
          go_wp2
          go_ret2
          exact ret_icw HO.out HF.out HB.out.symm HC.out.symm

/-- What is left, and the digits that have been taken: j digits are wanted. -/
structure RpS (T : List Int) (z : Int) (j : Nat) (Z : Int) (R : List Int) : Prop where
  lt : j < T.length
  len : R.length = T.length - 1 - j
  dvd : eI T j ∣ Z
  digs : digA T z = digs T j Z ++ R
  rest : low T z = strip T j Z
  hi : Z ≤ z
  lo : -(64000000000000000 * ((T.length - 1 - j : Nat) : Int)) ≤ Z
theorem RpS.start {T : List Int} (h : BraOk T) {z : Int} (hz : 0 ≤ z) : RpS T z (T.length - 1) z [] :=
  ⟨by have := h.len; omega, by simp, e_last h z, by rw [List.append_nil]; rfl, rfl, Int.le_refl _, by rw [Nat.sub_self]; simp; exact hz⟩
theorem RpS.next {T : List Int} (h : BraOk T) {z Z : Int} {j : Nat} {R : List Int} (hs : RpS T z (j + 1) Z R) : RpS T z j (Z - dig T j Z * vI T (j + 1)) ((dig T j Z : Int) :: R) := by
  have hl := hs.lt
  have hd := dig_ok h hl hs.dvd
  have hr := rI_bd h (j + 1)
  have hv := vI_bd h hl
  have hm := mul_bd (a := (dig T j Z : Int)) (A := 64) (b := vI T (j + 1)) (B := 1000000000000000) (by omega) (by omega) (by omega) hv.2
  have h1 := hs.lo
  have h2 := hs.hi
  have h3 := hs.len
  refine ⟨by omega, by simp [h3]; omega, hd.2.1, by rw [hs.digs, digs_succ]; simp, by rw [hs.rest, strip_succ], by omega, by omega⟩

set_option maxRecDepth 100000 in
set_option maxHeartbeats 4000000 in
theorem specRepresentationOf_c (v : Value) (T : List Int) (z : Int) (w : World) (h : Rd w v T) :
    Calls Try.prog 34 #[.agg #[v], .int .i64 z] w (RetIC w (rpL T z) (rpC T z)) := by
  obtain ⟨i0, hi, hz0, hz1, hz2⟩ := info_parts Try.infoI
  have hx := Boxed.start w 26 #[v]
  obtain ⟨a, cap, rfl⟩ := h.len0
  have c0 := hx.cell 0
  cases hbr : braB T
  · have HC := Lib.hid (rpC_bra (z := z) hbr)
    have HB := Lib.hid (rpL_no (z := z) (by rw [rpC_bra hbr]; decide))
    go_enter Try.func34, Try.ntmps34
    go_wp2_with fail
    refine (l03Is_c _ T _ (hx.rd h)).mono ?_
    rintro e w1 ⟨rfl, hb⟩
    rw [hbr]
    go_wp2
    go_ret2
    exact ret_nil4 (hx.trans hb).below HB.out HC.out.symm
  · cases hin : inB z 0 20000
    · have HC := Lib.hid (rpC_num hbr hin)
      have HB := Lib.hid (rpL_no (z := z) (by rw [rpC_num hbr hin]; decide))
      go_enter Try.func34, Try.ntmps34
      go_wp2_with fail
      refine (l03Is_c _ T _ (hx.rd h)).mono ?_
      rintro e w1 ⟨rfl, hb⟩
      rw [hbr]
      go_wp2_with fail
      refine (l01In_c _ _ _ _).mono ?_
      rintro e w2 ⟨rfl, rfl⟩
      rw [hin]
      go_wp2
      go_ret2
      exact ret_nil4 (hx.trans hb).below HB.out HC.out.symm
    · have hok := braB_iff.1 hbr
      have hp := hok.len
      have hl7 := bra_len hok
      have hzz := inB_iff.1 hin
      have h0 := hok.first
      have hTl : (0 : Int) < (T.length : Int) := by omega
      have hmk : ∀ W : World, (Instr.makeSlice 24 (.int .i64 (T.length : Int)) (.int .i64 (T.length : Int))).run Try.prog W = .ok (.slice (some ⟨W.heap.size, 0, none⟩) T.length T.length) (W.alloc (.cells (madeCells #[.int .i64 0] T.length) 2)) := fun W => run_make_row 24 2 i0 _ Try.underlying24 hi hz0 hz1 rfl .i64 .i64 T.length (by rw [hz2]; omega) (by omega) W
      have hst := RpS.start hok hzz.1
      obtain ⟨g0, hg0⟩ : ∃ g0, g0 = T.length - 1 := ⟨_, rfl⟩
      rw [← hg0] at hst
      have hgT : T.length = g0 + 1 := by omega
      have hgi : (T.length : Int) - 1 = (g0 : Int) := by omega
      have wgi : IntKind.i64.wrap (g0 : Int) = (g0 : Int) := IntWalk.i64_in _ (by omega)
      have hrep : List.replicate T.length (0 : Int) = List.replicate (g0 + 1) 0 ++ [] := by rw [List.append_nil, hgT]
      have HREP := Lib.hid hrep
      have HGT := Lib.hid hgT
      have HG0 := Lib.hid hg0
      clear hgT hg0 hrep
      go_enter Try.func34, Try.ntmps34
      go_wp2_with fail
      refine (l03Is_c _ T _ (hx.rd h)).mono ?_
      rintro e w1 ⟨rfl, hb⟩
      rw [hbr]
      have hx1 := hx.trans hb
      clear c0
      go_wp2_with fail
      refine (l01In_c _ _ _ _).mono ?_
      rintro e w2 ⟨rfl, rfl⟩
      rw [hin]
      go_wp2_with fail
      have x0 := hx1.trans (Below.refl w1.heap.size w1).drew
      have k0 : w1.drew.cell? ⟨w.heap.size, 0, none⟩ = some (.slice a T.length cap) := x0.cell 0
      go_cut [6, 7] from 16 to 19 (fun s6 s7 wc => ∃ ge ce gv cv : Nat, s6 = .slice (some ⟨ge, 0, none⟩) T.length ce ∧ s7 = .slice (some ⟨gv, 0, none⟩) T.length cv ∧ OwnI wc w1.heap.size (.slice (some ⟨ge, 0, none⟩) T.length ce) (eTo T T.length) ∧ OwnI wc w1.heap.size (.slice (some ⟨gv, 0, none⟩) T.length cv) (vTo T T.length) ∧ Boxed w wc 26 #[.slice a T.length cap])
      case first =>
        go_region_held3 (fun w' => w'.cell? ⟨w.heap.size, 0, none⟩ = some (.slice a T.length cap))
          (first | assumption | exact k0 | exact HC | exact HD)
          (first
            | (go_at_call 139; (with_reducible refine (divisorsS_p _ T _ (x0.rd h) hok).mono ?_); rintro e wa ⟨g1, c1, rfl, oa, hba⟩; have xa := x0.trans hba; have HC : wa.cell? ⟨w.heap.size, 0, none⟩ = some (.slice a T.length cap) := xa.cell 0)
            | (go_at_call 140; (with_reducible refine (generatorsS_p _ T _ (xa.rd h) hok).mono ?_); rintro e wb ⟨g2, c2, rfl, ob, hbb⟩; have xb := xa.trans hbb; have HD : wb.cell? ⟨w.heap.size, 0, none⟩ = some (.slice a T.length cap) := xb.cell 0))
        have hsa : w1.heap.size ≤ wa.heap.size := hba.size
        have h1 := (oa.below hbb (Nat.le_refl _)).base_le (base' := w1.heap.size) (Nat.le_refl _)
        have h2 := ob.base_le (base' := w1.heap.size) hsa
        clear HC HD oa ob
        go_wp2
        go_meet
        exact ⟨g1, c1, g2, c2, rfl, rfl, h1, h2, xb⟩
      case rest =>
        obtain ⟨ge, ce, gv, cv, rfl, rfl, oE, oV, hbx⟩ := hcut
        clear k0 x0 hx
        have hal : Below wc.heap.size wc (wc.alloc (.cells (madeCells #[.int .i64 0] T.length) 2)) := (Below.refl _ _).alloc (Nat.le_refl _) _
        have oO : OwnI (wc.alloc (.cells (madeCells #[.int .i64 0] T.length) 2)) wc.heap.size (.slice (some ⟨wc.heap.size, 0, none⟩) T.length T.length) (List.replicate T.length 0) := ownI_made (Blk.new wc _ _) (Nat.le_refl _) (by unfold maxLen; omega)
        rw [HREP.out] at oO
        clear hz1 hz2
        go_wp2_with fail
        go_loopw [1, 9] (fun zv iv wr => ∃ (j : Nat) (Z : Int) (R : List Int), j ≤ g0 ∧ iv = .int .i64 j ∧ zv = .int .i64 Z ∧ RpS T z j Z R ∧ OwnI wr wc.heap.size (.slice (some ⟨wc.heap.size, 0, none⟩) T.length T.length) (List.replicate (j + 1) 0 ++ R) ∧ Below wc.heap.size wc wr) (fun _ iv _ => (intOf iv).toNat)
        case atStart => exact ⟨g0, z, [], Nat.le_refl _, rfl, rfl, hst, oO, hal⟩
        case round =>
          obtain ⟨j, Z, R, hj, rfl, rfl, hs, oL, hbl⟩ := hrel
          clear oO hal hmk hst
          obtain ⟨wo, rfl⟩ : ∃ wo : World, wo = wr := ⟨_, rfl⟩
          by_cases hj0 : j = 0
          · subst hj0
            have hlo : low T z = Z := hs.rest
            have hdg : digA T z = R := hs.digs
            have hv0 : gI T 0 = vI T 0 := (vI_zero T).symm
            have oV' := (show OwnI wc w1.heap.size (.slice (some ⟨gv, 0, none⟩) (vTo T T.length).length cv) (vTo T T.length) by rw [vTo_len]; exact oV).below hbl (Nat.le_refl _)
            have dV := oV'.cell 0 (by simpa using hp)
            rw [gI_vTo hp, vI_zero] at dV
            have hlen : (List.replicate (0 + 1) (0 : Int) ++ R).length = T.length := by have := hs.len; have := HG0.out; simp; omega
            have oL' : OwnI wo wc.heap.size (.slice (some ⟨wc.heap.size, 0, none⟩) (List.replicate (0 + 1) (0 : Int) ++ R).length T.length) (List.replicate (0 + 1) 0 ++ R) := by rw [hlen]; exact oL
            have dL := oL'.cell 0 (by simp)
            have fL := oL'.free 0
            have hput := oL'.set 0 (Z / gI T 0)
            rw [hlen] at hput
            have hset : (List.replicate (0 + 1) (0 : Int) ++ R).set 0 (Z / gI T 0) = Z / gI T 0 :: R := rfl
            rw [hset] at hput
            have hbs := hbl.setCell (p := ⟨wc.heap.size, 0, none⟩) (Nat.le_refl _) (.int .i64 (Z / gI T 0))
            have hsz := hbx.size
            have hZ1 := hs.hi
            clear oV' hlen oL oL' hset hgi
            by_cases hneg : Z < 0
            · have hv : valB T z = false := by
                cases c : valB T z
                · rfl
                · have := (val_iff hok z).1 ((valB_iff hok z).1 c); omega
              have HC := Lib.hid (rpC_not hbr hin hv)
              have HB := Lib.hid (rpL_no (z := z) (by rw [rpC_not hbr hin hv]; decide))
              have hfr := (hbx.trans (hbl.mono (Nat.le_refl _))).below
              clear hput hbs hlo hdg hv0 hs
              go_wp2
              go_ret2
              exact ret_nil4 hfr HB.out HC.out.symm
            · have hv : valB T z = true := (valB_iff hok z).2 ((val_iff hok z).2 (by omega))
              have HC := Lib.hid (rpC_ok hbr hin hv)
              have HB := Lib.hid (show Z / gI T 0 :: R = rpL T z by rw [rpL_ok (rpC_ok hbr hin hv), hlo, hdg])
              have HF := Lib.hid (hbx.trans (hbs.mono (Nat.le_refl _))).below
              have HP := Lib.hid (hput.base_le (base' := w.heap.size) (by omega))
              have hge : 0 ≤ Z := by omega
              have hquo : Int.tdiv Z (gI T 0) = Z / gI T 0 := Int.tdiv_eq_ediv_of_nonneg hge
              have hd0 : 0 ≤ Z / gI T 0 := Int.ediv_nonneg hge (by omega)
              have hd1 : Z / gI T 0 ≤ Z := Int.ediv_le_self _ hge
              have wd : IntKind.i64.wrap (Z / gI T 0) = Z / gI T 0 := IntWalk.i64_in _ (by omega)
              have hgn : ¬ gI T 0 = 0 := by omega
              clear hput hbs hlo hdg hv0 hs hv
              generalize Z / gI T 0 = d at hquo hd0 hd1 wd HB HF HP
              generalize gI T 0 = g1 at *
              go_wp2
              go_ret2
              exact ret_icw HP.out HF.out HB.out HC.out.symm
          · obtain ⟨q, rfl⟩ : ∃ q, j = q + 1 := ⟨j - 1, by omega⟩
            have hqT := hs.lt
            have hd := dig_ok hok hqT hs.dvd
            have HN := Lib.hid (hs.next hok)
            have hr := rI_bd hok (q + 1)
            have hv := vI_bd hok hqT
            have he := eI_bd hok q
            have hlo := hs.lo
            have hhi := hs.hi
            have hRl := hs.len
            have oE' := (show OwnI wc w1.heap.size (.slice (some ⟨ge, 0, none⟩) (eTo T T.length).length ce) (eTo T T.length) by rw [eTo_len]; exact oE)
            have oV' := (show OwnI wc w1.heap.size (.slice (some ⟨gv, 0, none⟩) (vTo T T.length).length cv) (vTo T T.length) by rw [vTo_len]; exact oV)
            have dE0 := oE'.cell q (by simp; omega)
            have dV0 := oV'.cell (q + 1) (by simpa using hqT)
            rw [gI_eTo (by omega)] at dE0
            rw [gI_vTo hqT] at dV0
            have hgeb := (oE.block ge rfl).2
            have hgvb := (oV.block gv rfl).2
            have HD := Lib.hid hd
            have f1 : (q : Int) + 1 - 1 = (q : Int) := by omega
            have f2 : IntKind.i64.wrap (q : Int) = (q : Int) := IntWalk.i64_in _ (by omega)
            have f3 : (0 : Int) ≤ (q : Int) := by omega
            have f5 : (0 : Int) ≤ (q : Int) + 1 := by omega
            have f7 : ((q : Int) + 1).toNat = q + 1 := by omega
            have f8 : (q : Int) + 1 < (T.length : Int) := by omega
            have f9 : (q : Int) < (T.length : Int) := by omega
            have hZb : -448000000000000000 ≤ Z ∧ Z ≤ 20000 := by omega
            have hdb : dig T q Z ≤ 64 := by have := hd.1; omega
            have hlenL : ∀ c : Int, (List.replicate (q + 1) (0 : Int) ++ (c :: R)).length = T.length := fun c => by have := HG0.out; simp; omega
            have hstart : List.replicate (q + 1 + 1) (0 : Int) ++ R = List.replicate (q + 1) 0 ++ (0 :: R) := by rw [List.replicate_succ']; simp
            rw [hstart] at oL
            have HLL := Lib.hid hlenL
            clear hs oE' oV' hlo hhi hRl hd hlenL hstart hgi
            go_wp2_with fail
            go_loopw [1] (fun zv wr => ∃ c : Nat, c ≤ dig T q Z ∧ zv = .int .i64 (Z - c * vI T (q + 1)) ∧ OwnI wr wc.heap.size (.slice (some ⟨wc.heap.size, 0, none⟩) T.length T.length) (List.replicate (q + 1) 0 ++ ((c : Int) :: R)) ∧ Below wc.heap.size wc wr) (fun zv wr => (dig T q Z) - ((Z - intOf zv) / vI T (q + 1)).toNat)
            case atStart => exact ⟨0, Nat.zero_le _, by simp, oL, hbl⟩
            case round =>
              obtain ⟨c, hc, rfl, oC, hbc⟩ := hrel
              clear oL hbl
              obtain ⟨wi, rfl⟩ : ∃ wi : World, wi = wr := ⟨_, rfl⟩
              have dE := (hbc.cell (p := ⟨ge, q, none⟩) hgeb).trans dE0
              have dV := (hbc.cell (p := ⟨gv, q + 1, none⟩) hgvb).trans dV0
              have hcm := mul_bd (a := (c : Int)) (A := 64) (b := vI T (q + 1)) (B := 1000000000000000) (by omega) (by omega) (by omega) hv.2
              have hyb : -512000000000000000 ≤ Z - c * vI T (q + 1) ∧ Z - c * vI T (q + 1) ≤ 20000 := by omega
              have HM := Lib.hid (show ((Z - (Z - (c : Int) * vI T (q + 1))) / vI T (q + 1)).toNat = c by
                rw [show Z - (Z - (c : Int) * vI T (q + 1)) = (c : Int) * vI T (q + 1) by omega, Int.mul_ediv_cancel _ (by omega)]; rfl)
              have HMN := Lib.hid (show ((Z - (Z - ((c + 1 : Nat) : Int) * vI T (q + 1))) / vI T (q + 1)).toNat = c + 1 by
                rw [show Z - (Z - ((c + 1 : Nat) : Int) * vI T (q + 1)) = ((c + 1 : Nat) : Int) * vI T (q + 1) by omega, Int.mul_ediv_cancel _ (by omega)]; rfl)
              have HY1 := Lib.hid (show Z - ((c + 1 : Nat) : Int) * vI T (q + 1) = Z - c * vI T (q + 1) - vI T (q + 1) by rw [Int.natCast_add, Int.add_mul]; simp; omega)
              by_cases hlt : c < dig T q Z
              · have hnd := HD.out.2.2 c hlt
                have ht0 : ¬ Int.tmod (Z - c * vI T (q + 1)) (eI T q) = 0 := fun e => hnd (Int.dvd_of_tmod_eq_zero e)
                have ht1 : (Int.tmod (Z - c * vI T (q + 1)) (eI T q)).natAbs < 64 + 1 := by
                  have h1 := Int.natAbs_tmod (Z - c * vI T (q + 1)) (eI T q)
                  have h2 := Nat.mod_lt (Z - c * vI T (q + 1)).natAbs (show 0 < (eI T q).natAbs by omega)
                  omega
                have oC' : OwnI wi wc.heap.size (.slice (some ⟨wc.heap.size, 0, none⟩) (List.replicate (q + 1) (0 : Int) ++ ((c : Int) :: R)).length T.length) (List.replicate (q + 1) 0 ++ ((c : Int) :: R)) := by rw [HLL.out]; exact oC
                have dC := oC'.cell (q + 1) (by rw [HLL.out]; exact hqT)
                have fC := oC'.free (q + 1)
                have hgc : gI (List.replicate (q + 1) (0 : Int) ++ ((c : Int) :: R)) (q + 1) = (c : Int) := by simp [gI, List.getD]
                rw [hgc] at dC
                have hput := oC'.set (q + 1) ((c : Int) + 1)
                rw [HLL.out] at hput
                have hset : (List.replicate (q + 1) (0 : Int) ++ ((c : Int) :: R)).set (q + 1) ((c : Int) + 1) = List.replicate (q + 1) 0 ++ (((c + 1 : Nat) : Int) :: R) := by
                  rw [List.set_append_right _ _ (by simp)]; simp
                rw [hset] at hput
                have hbs := hbc.setCell (p := ⟨wc.heap.size, q + 1, none⟩) (Nat.le_refl _) (.int .i64 ((c : Int) + 1))
                have wy : IntKind.i64.wrap (Z - c * vI T (q + 1) - vI T (q + 1)) = Z - c * vI T (q + 1) - vI T (q + 1) := IntWalk.i64_in _ (by omega)
                have wt : IntKind.i64.wrap (Int.tmod (Z - c * vI T (q + 1)) (eI T q)) = Int.tmod (Z - c * vI T (q + 1)) (eI T q) := IntWalk.i64_in _ (by omega)
                have wc1 : IntKind.i64.wrap ((c : Int) + 1) = (c : Int) + 1 := IntWalk.i64_in _ (by omega)
                have hen : ¬ eI T q = 0 := by omega
                have HPUT := Lib.hid hput
                have HBS := Lib.hid hbs
                have HYD := Lib.hid (show Z - c * vI T (q + 1) = Z - c * vI T (q + 1) from rfl)
                have hlt' := Lib.hid hlt
                clear hput hbs oC oC' hset hgc hnd dE0 dV0 hcm HD HN ht1 hlt
                generalize hyy : Z - (c : Int) * vI T (q + 1) = y at *
                have HYY := Lib.hid hyy
                clear hyy
                generalize hvv : vI T (q + 1) = v1 at *
                have HVV := Lib.hid hvv
                clear hvv
                generalize hee : eI T q = e1 at *
                clear hee
                have hbne : (Int.tmod y e1 != 0) = true := by simp [ht0]
                go_wp2
                go_roundw
                case rel => exact ⟨c + 1, hlt'.out, by rw [HY1.out], HPUT.out, HBS.out⟩
                case measure =>
                  have h1 := HM.out
                  have h2 := HMN.out
                  have h3 := hlt'.out
                  rw [HY1.out] at h2
                  simp [intOf]
                  omega
              · have hce : c = dig T q Z := by omega
                subst hce
                have ht0 : Int.tmod (Z - dig T q Z * vI T (q + 1)) (eI T q) = 0 := Int.tmod_eq_zero_of_dvd HD.out.2.1
                have hen : ¬ eI T q = 0 := by omega
                clear dE0 dV0 hcm HD HM HMN HY1
                generalize hyy : Z - (dig T q Z : Int) * vI T (q + 1) = y at *
                have HYY := Lib.hid hyy
                clear hyy
                generalize vI T (q + 1) = v1 at *
                generalize eI T q = e1 at *
                go_wp2
                go_roundw
                case rel => exact ⟨q, y, _, by omega, by go_num, rfl, HN.out, oC, hbc⟩
                case measure => simp [intOf]
end Go.Proofs.Ytiinceflafigeaa

/- Contracts: ValuesUpTo, GapsOf. -/
namespace Go.Proofs.Ytiinceflafigeaa
open Go.RowKit

/-- The numbers below k with p. -/
def selTo (p : Nat → Bool) : Nat → List Int
  | 0 => []
  | k + 1 => if p k = true then selTo p k ++ [(k : Int)] else selTo p k
theorem selTo_yes {p : Nat → Bool} {k : Nat} (h : p k = true) : selTo p (k + 1) = selTo p k ++ [(k : Int)] := by simp [selTo, h]
theorem selTo_no {p : Nat → Bool} {k : Nat} (h : p k = false) : selTo p (k + 1) = selTo p k := by simp [selTo, h]
theorem selTo_len (p : Nat → Bool) : ∀ k, (selTo p k).length ≤ k := by
  intro k
  induction k with
  | zero => simp [selTo]
  | succ k ih =>
    cases h : p k
    · rw [selTo_no h]; omega
    · rw [selTo_yes h, List.length_append]; simp; omega
/-- The values up to z; the gaps. -/
def vuL (T : List Int) (z : Int) : List Int := if svC T z = 0 then selTo (fun v => valB T (v : Int)) (z.toNat + 1) else []
theorem vuL_no {T : List Int} {z : Int} (h : svC T z ≠ 0) : vuL T z = [] := by simp [vuL, h]
theorem vuL_ok {T : List Int} {z : Int} (h : svC T z = 0) : vuL T z = selTo (fun v => valB T (v : Int)) (z.toNat + 1) := by simp [vuL, h]
theorem vuL_len (T : List Int) (z : Int) : (vuL T z).length ≤ 20001 := by
  unfold vuL
  split
  · rename_i h
    have h1 := selTo_len (fun v => valB T (v : Int)) (z.toNat + 1)
    have h2 : inB z 0 20000 = true := by
      cases c : inB z 0 20000
      · unfold svC at h; rw [c] at h; split at h <;> simp at h
      · rfl
    have := inB_iff.1 h2
    omega
  · simp
def gpC (T : List Int) : Int := if braB T = true then (if 20000 < conI T then 3 else 0) else 1
def gpL (T : List Int) : List Int := if gpC T = 0 then selTo (fun v => !valB T (v : Int)) (conI T).toNat else []
theorem gpC_bra {T : List Int} (h : braB T = false) : gpC T = 1 := by simp [gpC, h]
theorem gpC_big {T : List Int} (h : braB T = true) (h' : 20000 < conI T) : gpC T = 3 := by simp [gpC, h, h']
theorem gpC_ok {T : List Int} (h : braB T = true) (h' : ¬ 20000 < conI T) : gpC T = 0 := by simp [gpC, h, h']
theorem gpL_no {T : List Int} (h : gpC T ≠ 0) : gpL T = [] := by simp [gpL, h]
theorem gpL_ok {T : List Int} (h : gpC T = 0) : gpL T = selTo (fun v => !valB T (v : Int)) (conI T).toNat := by simp [gpL, h]
theorem gpL_len (T : List Int) : (gpL T).length ≤ 20000 := by
  unfold gpL
  split
  · rename_i h
    have h1 := selTo_len (fun v => !valB T (v : Int)) (conI T).toNat
    unfold gpC at h
    split at h
    · split at h
      · simp at h
      · omega
    · simp at h
  · simp
/-- The conductor itself is no gap. -/
theorem gap_end {T : List Int} (h : BraOk T) {m : Nat} (hm : conI T = (m : Int)) : selTo (fun v => !valB T (v : Int)) (m + 1) = selTo (fun v => !valB T (v : Int)) m := by
  refine selTo_no ?_
  show (!valB T (m : Int)) = false
  rw [← hm, conI_val h]; rfl
theorem ret_ic {w w' : World} {v : Value} {xs ys : List Int} {c d : Int} (h : OwnI w' w.heap.size v xs) (hb : Below w.heap.size w w') (e1 : xs = ys) (e2 : c = d) : RetIC w ys d (.returned (.tuple #[v, .int .i64 c])) w' := by
  subst e1; subst e2; exact retIC_mk h hb
theorem ret_nil {w w' : World} {ys : List Int} {c d : Int} (hb : Below w.heap.size w w') (e1 : ys = []) (e2 : c = d) : RetIC w ys d (.returned (.tuple #[.slice none 0 0, .int .i64 c])) w' := by
  subst e1; subst e2; exact retIC_nil hb

set_option maxRecDepth 100000 in
set_option maxHeartbeats 4000000 in
theorem implValuesUpTo_c (v : Value) (T : List Int) (z : Int) (w : World) (h : Rd w v T) :
    Calls Try.prog 37 #[.agg #[v], .int .i64 z] w (RetIC w (vuL T z) (svC T z)) := by
  obtain ⟨i0, hi, hz0, hz1, hz2⟩ := info_parts Try.infoI
  have hx := Boxed.start w 26 #[v]
  obtain ⟨a, k, rfl⟩ := h.len0
  have c0 := hx.cell 0
  cases hbr : braB T
  · have HC := Lib.hid (svC_bra (z := z) hbr)
    have HB := Lib.hid (vuL_no (z := z) (by rw [svC_bra hbr]; decide))
    go_enter Try.func37, Try.ntmps37
    go_wp2_with fail
    refine (implIsBranch_c _ T _ (hx.rd h)).mono ?_
    rintro e w1 ⟨rfl, hb⟩
    rw [hbr]
    go_wp2
    go_ret2
    exact ret_nil (hx.trans hb).below HB.out HC.out.symm
  · cases hin : inB z 0 20000
    · have HC := Lib.hid (svC_num hbr hin)
      have HB := Lib.hid (vuL_no (by rw [svC_num hbr hin]; decide))
      go_enter Try.func37, Try.ntmps37
      go_wp2_with fail
      refine (implIsBranch_c _ T _ (hx.rd h)).mono ?_
      rintro e w1 ⟨rfl, hb⟩
      rw [hbr]
      go_wp2_with fail
      refine (inRange_c _ _ _ _).mono ?_
      rintro e w2 ⟨rfl, rfl⟩
      rw [hin]
      go_wp2
      go_ret2
      exact ret_nil (hx.trans hb).below HB.out HC.out.symm
    · have HC := Lib.hid (svC_ok hbr hin)
      have HB := Lib.hid (vuL_ok (svC_ok hbr hin))
      have hok := braB_iff.1 hbr
      have hzz := inB_iff.1 hin
      obtain ⟨m, rfl⟩ := Int.eq_ofNat_of_zero_le hzz.1
      have hmb : (m : Int) ≤ 20000 := by omega
      go_enter Try.func37, Try.ntmps37
      go_wp2_with fail
      refine (implIsBranch_c _ T _ (hx.rd h)).mono ?_
      rintro e w1 ⟨rfl, hb⟩
      rw [hbr]
      have hx1 := hx.trans hb
      go_wp2_with fail
      refine (inRange_c _ _ _ _).mono ?_
      rintro e w2 ⟨rfl, rfl⟩
      rw [hin]
      have c2 := hx1.cell 0
      go_wp2_with fail
      refine (semOf_c _ T _ (hx1.rd h) hok).mono ?_
      rintro e w3 ⟨gl, gp, rfl, hl, hr, hb3⟩
      have hx3 := hx1.trans hb3
      have B4 := Blk.new w3 103 #[.slice (some ⟨gl, 0, none⟩) (nT T) (nT T), .slice (some ⟨gp, 0, none⟩) (nT T) (nT T)]
      have hal : Below w3.heap.size w3 (w3.alloc (.cells #[.slice (some ⟨gl, 0, none⟩) (nT T) (nT T), .slice (some ⟨gp, 0, none⟩) (nT T) (nT T)] 103)) := (Below.refl _ _).alloc (Nat.le_refl _) _
      have hl4 := hl.rd.below hal (Nat.le_refl _)
      have hx4 := hx3.trans hal
      go_wp2_with fail
      obtain ⟨w4, hw4⟩ : ∃ w4 : World, w4 = w3.alloc (.cells #[.slice (some ⟨gl, 0, none⟩) (nT T) (nT T), .slice (some ⟨gp, 0, none⟩) (nT T) (nT T)] 103) := ⟨_, rfl⟩
      rw [← hw4] at B4 hl4 hx4 ⊢
      have hE : OwnI (w4.alloc (.cells #[] 2)) w4.heap.size (.slice (some ⟨w3.heap.size + 1, 0, none⟩) 0 0) [] := own_empty_at w4 _ _ (by rw [hw4]; simp) (by rw [hw4]; simp)
      have ha5 : Below w4.heap.size w4 (w4.alloc (.cells #[] 2)) := (Below.refl _ _).alloc (Nat.le_refl _) _
      clear hw4 c2 hal hl hr
      go_loopw [7, 8] (fun lv iv wr => ∃ k : Nat, k ≤ m + 1 ∧ iv = .int .i64 k ∧ OwnI wr w4.heap.size lv (selTo (fun v => valB T (v : Int)) k) ∧ Below w4.heap.size w4 wr) (fun _ iv _ => m + 1 - (intOf iv).toNat)
      case atStart => exact ⟨0, Nat.zero_le _, rfl, hE, ha5⟩
      case round =>
        obtain ⟨k, hk, rfl, hO, hbl⟩ := hrel
        clear hE ha5
        obtain ⟨wo, rfl⟩ : ∃ wo : World, wo = wr := ⟨_, rfl⟩
        have hk0 : (0 : Int) ≤ (k : Int) := Int.natCast_nonneg _
        by_cases hlt : k < m + 1
        · have hki : (k : Int) ≤ (m : Int) := by omega
          have B5 := B4.stays hbl
          have q0 := B5.cell 0
          have q1 := B5.cell 1
          have hsl := hbl.size
          go_wp2_with fail
          refine (has_c _ _ T (k : Int) _ (hl4.below hbl (Nat.le_refl _)) hok hk0).mono ?_
          rintro e w6 ⟨rfl, hb6⟩
          have hbl6 := hbl.trans (hb6.mono hsl)
          have hO6 := hO.below hb6 (Nat.le_refl _)
          clear hO hbl q0 q1 B5
          cases hv : valB T (k : Int)
          · have HY := Lib.hid (selTo_no (p := (fun v => valB T (v : Int))) (show (fun v => valB T (v : Int)) k = false by simp [hv]))
            have ho2 : OwnI w6 w4.heap.size u7 (selTo (fun v => valB T (v : Int)) (k + 1)) := by rw [HY.out]; exact hO6
            clear hO6
            go_wp2
            go_roundw
            case rel => exact ⟨k + 1, by omega, by go_num, ho2, hbl6⟩
            case measure => simp [intOf]; omega
          · have HY := Lib.hid (selTo_yes (p := (fun v => valB T (v : Int))) (show (fun v => valB T (v : Int)) k = true by simp [hv]))
            have hll := selTo_len (fun v => valB T (v : Int)) k
            have hsz : w4.heap.size ≤ w6.heap.size := hbl6.size
            go_wp2_with (at_builtin; refine wpList_push rfl (.tmp 26) (.tmp 28) 24 rfl w4.heap.size 2 i0 Try.underlying24 hi hz0 hz1 hz2 u7 (selTo (fun v => valB T (v : Int)) k) (k : Int) rfl hO6 rfl (by omega) hsz ?_; intro v' w7 hown' hkp)
            have hbl7 := hbl6.trans (hkp.below hsz (fun g hg => (hO6.block g hg).1))
            rw [← HY.out] at hown'
            go_roundw
            case rel => exact ⟨k + 1, by omega, by go_num, hown', hbl7⟩
            case measure => simp [intOf]; omega
        · have hke : k = m + 1 := by omega
          have hkn : (m : Int) < (k : Int) := by omega
          have hO2 : OwnI wo w.heap.size u7 (selTo (fun v => valB T (v : Int)) (m + 1)) := by rw [← hke]; exact hO.base_le (Nat.le_of_lt (Nat.lt_of_succ_le hx4.size))
          have HH := Lib.hid hO2
          have hfr := (hx4.trans (hbl.mono (Nat.le_refl _))).below
          clear hO hO2
          go_wp2
          go_ret2
          exact ret_ic HH.out hfr (show selTo (fun v => valB T (v : Int)) (m + 1) = vuL T (m : Int) by rw [HB.out]; rfl) HC.out.symm


set_option maxRecDepth 100000 in
set_option maxHeartbeats 4000000 in
theorem implGapsOf_c (v : Value) (T : List Int) (w : World) (h : Rd w v T) :
    Calls Try.prog 52 #[.agg #[v]] w (RetIC w (gpL T) (gpC T)) := by
  obtain ⟨i0, hi, hz0, hz1, hz2⟩ := info_parts Try.infoI
  have hx := Boxed.start w 26 #[v]
  obtain ⟨a, k, rfl⟩ := h.len0
  have c0 := hx.cell 0
  cases hbr : braB T
  · have HC := Lib.hid (gpC_bra hbr)
    have HB := Lib.hid (gpL_no (by rw [gpC_bra hbr]; decide))
    go_enter Try.func52, Try.ntmps52
    go_wp2_with fail
    refine (implIsBranch_c _ T _ (hx.rd h)).mono ?_
    rintro e w1 ⟨rfl, hb⟩
    rw [hbr]
    go_wp2
    go_ret2
    exact ret_nil (hx.trans hb).below HB.out HC.out.symm
  · have hok := braB_iff.1 hbr
    obtain ⟨m, hm⟩ := Int.eq_ofNat_of_zero_le (conI_nn hok)
    have hcm : conTo T (T.length - 1) = (m : Int) := hm
    by_cases hbig : 20000 < conI T
    · have HC := Lib.hid (gpC_big hbr hbig)
      have HB := Lib.hid (gpL_no (by rw [gpC_big hbr hbig]; decide))
      rw [hm] at hbig
      go_enter Try.func52, Try.ntmps52
      go_wp2_with fail
      refine (implIsBranch_c _ T _ (hx.rd h)).mono ?_
      rintro e w1 ⟨rfl, hb⟩
      rw [hbr]
      have hx1 := hx.trans hb
      have c1 := hx1.cell 0
      go_wp2_with fail
      refine (conductor_c _ T _ (hx1.rd h) hok).mono ?_
      rintro e w2 ⟨rfl, hb2⟩
      rw [hcm]
      go_wp2
      go_ret2
      exact ret_nil (hx1.trans hb2).below HB.out HC.out.symm
    · have HC := Lib.hid (gpC_ok hbr hbig)
      have HB := Lib.hid (gpL_ok (gpC_ok hbr hbig))
      rw [hm] at hbig HB
      have hmb : (m : Int) ≤ 20000 := by omega
      have HM := Lib.hid hm
      go_enter Try.func52, Try.ntmps52
      go_wp2_with fail
      refine (implIsBranch_c _ T _ (hx.rd h)).mono ?_
      rintro e w1 ⟨rfl, hb⟩
      rw [hbr]
      have hx0 := hx.trans hb
      have c1 := hx0.cell 0
      go_wp2_with fail
      refine (conductor_c _ T _ (hx0.rd h) hok).mono ?_
      rintro e w2 ⟨rfl, hb2⟩
      rw [hcm]
      have hx1 := hx0.trans hb2
      have c2 := hx1.cell 0
      go_wp2_with fail
      refine (semOf_c _ T _ (hx1.rd h) hok).mono ?_
      rintro e w3 ⟨gl, gp, rfl, hl, hr, hb3⟩
      have hx3 := hx1.trans hb3
      have B4 := Blk.new w3 103 #[.slice (some ⟨gl, 0, none⟩) (nT T) (nT T), .slice (some ⟨gp, 0, none⟩) (nT T) (nT T)]
      have hal : Below w3.heap.size w3 (w3.alloc (.cells #[.slice (some ⟨gl, 0, none⟩) (nT T) (nT T), .slice (some ⟨gp, 0, none⟩) (nT T) (nT T)] 103)) := (Below.refl _ _).alloc (Nat.le_refl _) _
      have hl4 := hl.rd.below hal (Nat.le_refl _)
      have hx4 := hx3.trans hal
      go_wp2_with fail
      obtain ⟨w4, hw4⟩ : ∃ w4 : World, w4 = w3.alloc (.cells #[.slice (some ⟨gl, 0, none⟩) (nT T) (nT T), .slice (some ⟨gp, 0, none⟩) (nT T) (nT T)] 103) := ⟨_, rfl⟩
      rw [← hw4] at B4 hl4 hx4 ⊢
      have hE : OwnI (w4.alloc (.cells #[] 2)) w4.heap.size (.slice (some ⟨w3.heap.size + 1, 0, none⟩) 0 0) [] := own_empty_at w4 _ _ (by rw [hw4]; simp) (by rw [hw4]; simp)
      have ha5 : Below w4.heap.size w4 (w4.alloc (.cells #[] 2)) := (Below.refl _ _).alloc (Nat.le_refl _) _
      clear hw4 c2 hal hl hr
      go_loopw [6, 7] (fun lv iv wr => ∃ k : Nat, k ≤ m ∧ iv = .int .i64 k ∧ OwnI wr w4.heap.size lv (selTo (fun v => !valB T (v : Int)) k) ∧ Below w4.heap.size w4 wr) (fun _ iv _ => m - (intOf iv).toNat)
      case atStart => exact ⟨0, Nat.zero_le _, rfl, hE, ha5⟩
      case round =>
        obtain ⟨k, hk, rfl, hO, hbl⟩ := hrel
        clear hE ha5
        obtain ⟨wo, rfl⟩ : ∃ wo : World, wo = wr := ⟨_, rfl⟩
        have hk0 : (0 : Int) ≤ (k : Int) := Int.natCast_nonneg _
        by_cases hlt : k < m
        · have hki : (k : Int) < (m : Int) := by omega
          have B5 := B4.stays hbl
          have q0 := B5.cell 0
          have q1 := B5.cell 1
          have hsl := hbl.size
          go_wp2_with fail
          refine (has_c _ _ T (k : Int) _ (hl4.below hbl (Nat.le_refl _)) hok hk0).mono ?_
          rintro e w6 ⟨rfl, hb6⟩
          have hbl6 := hbl.trans (hb6.mono hsl)
          have hO6 := hO.below hb6 (Nat.le_refl _)
          clear hO hbl q0 q1 B5
          cases hv : valB T (k : Int)
          · have HY := Lib.hid (selTo_yes (p := (fun v => !valB T (v : Int))) (show (fun v => !valB T (v : Int)) k = true by simp [hv]))
            have hll := selTo_len (fun v => !valB T (v : Int)) k
            have hsz : w4.heap.size ≤ w6.heap.size := hbl6.size
            go_wp2_with (at_builtin; refine wpList_push rfl (.tmp 27) (.tmp 29) 24 rfl w4.heap.size 2 i0 Try.underlying24 hi hz0 hz1 hz2 u6 (selTo (fun v => !valB T (v : Int)) k) (k : Int) rfl hO6 rfl (by omega) hsz ?_; intro v' w7 hown' hkp)
            have hbl7 := hbl6.trans (hkp.below hsz (fun g hg => (hO6.block g hg).1))
            rw [← HY.out] at hown'
            go_roundw
            case rel => exact ⟨k + 1, by omega, by go_num, hown', hbl7⟩
            case measure => simp [intOf]; omega
          · have HY := Lib.hid (selTo_no (p := (fun v => !valB T (v : Int))) (show (fun v => !valB T (v : Int)) k = false by simp [hv]))
            have ho2 : OwnI w6 w4.heap.size u6 (selTo (fun v => !valB T (v : Int)) (k + 1)) := by rw [HY.out]; exact hO6
            clear hO6
            go_wp2
            go_roundw
            case rel => exact ⟨k + 1, by omega, by go_num, ho2, hbl6⟩
            case measure => simp [intOf]; omega
        · have hke : k = m := by omega
          have hkn : (m : Int) ≤ (k : Int) := by omega
          have hO2 : OwnI wo w.heap.size u6 (selTo (fun v => !valB T (v : Int)) (m)) := by rw [← hke]; exact hO.base_le (Nat.le_of_lt (Nat.lt_of_succ_le hx4.size))
          have HH := Lib.hid hO2
          have hfr := (hx4.trans (hbl.mono (Nat.le_refl _))).below
          clear hO hO2
          go_wp2
          go_ret2
          exact ret_ic HH.out hfr (show selTo (fun v => !valB T (v : Int)) m = gpL T by rw [HB.out]; rfl) HC.out.symm


set_option maxRecDepth 100000 in
set_option maxHeartbeats 4000000 in
theorem specGapsOf_c (v : Value) (T : List Int) (w : World) (h : Rd w v T) :
    Calls Try.prog 53 #[.agg #[v]] w (RetIC w (gpL T) (gpC T)) := by
  obtain ⟨i0, hi, hz0, hz1, hz2⟩ := info_parts Try.infoI
  have hx := Boxed.start w 26 #[v]
  obtain ⟨a, k, rfl⟩ := h.len0
  have c0 := hx.cell 0
  cases hbr : braB T
  · have HC := Lib.hid (gpC_bra hbr)
    have HB := Lib.hid (gpL_no (by rw [gpC_bra hbr]; decide))
    go_enter Try.func53, Try.ntmps53
    go_wp2_with fail
    refine (l03Is_c _ T _ (hx.rd h)).mono ?_
    rintro e w1 ⟨rfl, hb⟩
    rw [hbr]
    go_wp2
    go_ret2
    exact ret_nil (hx.trans hb).below HB.out HC.out.symm
  · have hok := braB_iff.1 hbr
    obtain ⟨m, hm⟩ := Int.eq_ofNat_of_zero_le (conI_nn hok)
    have hcm : conTo T (T.length - 1) = (m : Int) := hm
    by_cases hbig : 20000 < conI T
    · have HC := Lib.hid (gpC_big hbr hbig)
      have HB := Lib.hid (gpL_no (by rw [gpC_big hbr hbig]; decide))
      rw [hm] at hbig
      go_enter Try.func53, Try.ntmps53
      go_wp2_with fail
      refine (l03Is_c _ T _ (hx.rd h)).mono ?_
      rintro e w1 ⟨rfl, hb⟩
      rw [hbr]
      have hx1 := hx.trans hb
      have c1 := hx1.cell 0
      go_wp2_with fail
      refine (l05Conductor_c _ T _ (hx1.rd h) hok).mono ?_
      rintro e w2 ⟨rfl, hb2⟩
      rw [hcm]
      go_wp2
      go_ret2
      exact ret_nil (hx1.trans hb2).below HB.out HC.out.symm
    · have HC := Lib.hid (gpC_ok hbr hbig)
      have HB := Lib.hid (gpL_ok (gpC_ok hbr hbig))
      rw [hm] at hbig HB
      have hmb : (m : Int) ≤ 20000 := by omega
      have HM := Lib.hid hm
      go_enter Try.func53, Try.ntmps53
      go_wp2_with fail
      refine (l03Is_c _ T _ (hx.rd h)).mono ?_
      rintro e w1 ⟨rfl, hb⟩
      rw [hbr]
      have hx0 := hx.trans hb
      have c1 := hx0.cell 0
      go_wp2_with fail
      refine (l05Conductor_c _ T _ (hx0.rd h) hok).mono ?_
      rintro e w2 ⟨rfl, hb2⟩
      rw [hcm]
      have hx1 := hx0.trans hb2
      have c2 := hx1.cell 0
      go_wp2_with fail
      refine (l05Values_c _ T m _ (hx1.rd h) hok (by omega)).mono ?_
      rintro e w4 ⟨g, rfl, hB, hb3⟩
      have hx4 := hx1.trans hb3
      have hE : OwnI (w4.alloc (.cells #[] 2)) w4.heap.size (.slice (some ⟨w4.heap.size, 0, none⟩) 0 0) [] := own_empty w4 _ (Nat.le_refl _)
      have ha5 : Below w4.heap.size w4 (w4.alloc (.cells #[] 2)) := (Below.refl _ _).alloc (Nat.le_refl _) _
      clear c2
      go_wp2_with fail
      go_loopw [6, 7] (fun lv iv wr => ∃ k : Nat, k ≤ m + 1 ∧ iv = .int .i64 k ∧ OwnI wr w4.heap.size lv (selTo (fun v => !valB T (v : Int)) k) ∧ Below w4.heap.size w4 wr) (fun _ iv _ => m + 1 - (intOf iv).toNat)
      case atStart => exact ⟨0, Nat.zero_le _, rfl, hE, ha5⟩
      case round =>
        obtain ⟨k, hk, rfl, hO, hbl⟩ := hrel
        clear hE ha5
        obtain ⟨wo, rfl⟩ : ∃ wo : World, wo = wr := ⟨_, rfl⟩
        have hk0 : (0 : Int) ≤ (k : Int) := Int.natCast_nonneg _
        by_cases hlt : k < m + 1
        · have hki : (k : Int) < ((m + 1 : Nat) : Int) := by omega
          have hki2 : (k : Int) < (m : Int) + 1 := by omega
          have dB := (hB.below hbl (Nat.le_refl _)).cell (i := k) hlt
          have hsl := hbl.size
          cases hv : valB T (k : Int)
          · rw [hv] at dB
            have HY := Lib.hid (selTo_yes (p := (fun v => !valB T (v : Int))) (show (fun v => !valB T (v : Int)) k = true by simp [hv]))
            have hll := selTo_len (fun v => !valB T (v : Int)) k
            have hsz : w4.heap.size ≤ wo.heap.size := hbl.size
            go_wp2_with (at_builtin; refine wpList_push rfl (.tmp 30) (.tmp 32) 24 rfl w4.heap.size 2 i0 Try.underlying24 hi hz0 hz1 hz2 u6 (selTo (fun v => !valB T (v : Int)) k) (k : Int) rfl hO rfl (by omega) hsz ?_; intro v' w7 hown' hkp)
            have hbl7 := hbl.trans (hkp.below hsz (fun g hg => (hO.block g hg).1))
            rw [← HY.out] at hown'
            go_roundw
            case rel => exact ⟨k + 1, by omega, by go_num, hown', hbl7⟩
            case measure => simp [intOf]; omega
          · rw [hv] at dB
            have HY := Lib.hid (selTo_no (p := (fun v => !valB T (v : Int))) (show (fun v => !valB T (v : Int)) k = false by simp [hv]))
            have ho2 : OwnI wo w4.heap.size u6 (selTo (fun v => !valB T (v : Int)) (k + 1)) := by rw [HY.out]; exact hO
            clear hO
            go_wp2
            go_roundw
            case rel => exact ⟨k + 1, by omega, by go_num, ho2, hbl⟩
            case measure => simp [intOf]; omega
        · have hke : k = m + 1 := by omega
          have hkn : ((m + 1 : Nat) : Int) ≤ (k : Int) := by omega
          have hO2 : OwnI wo w.heap.size u6 (selTo (fun v => !valB T (v : Int)) (m + 1)) := by rw [← hke]; exact hO.base_le (Nat.le_of_lt (Nat.lt_of_succ_le hx4.size))
          have HH := Lib.hid hO2
          have hfr := (hx4.trans (hbl.mono (Nat.le_refl _))).below
          clear hO hO2
          go_wp2
          go_ret2
          exact ret_ic HH.out hfr ((gap_end hok HM.out).trans (show selTo (fun v => !valB T (v : Int)) m = gpL T by rw [HB.out]; rfl)) HC.out.symm

end Go.Proofs.Ytiinceflafigeaa
