/- Contract: spec.TurnCharacteristic. -/
import Derived.Test.YtglghdkjppcedaaDoorPart13
import Derived.Deep.RegionLaw
import Derived.Test.YtglghdkjppcedaaDoorPart6
import Derived.Test.YtglghdkjppcedaaDoorPart3
import Derived.Deep.DeepCutAuto
import Derived.Test.YtglghdkjppcedaaDoorPart1
import Derived.Deep.OwnRows
namespace Go.Proofs.YtglghdkjppcedaaDoor
open Go.RowKit

set_option maxRecDepth 100000 in
set_option maxHeartbeats 4000000 in
theorem specTur_c (v : Value) (L : List Int) (w : World) (h : Rd w v L) (hl9 : L.length ≤ 2000) (hb9 : ∀ i, i < L.length → -1000000000 ≤ gI L i ∧ gI L i ≤ 1000000000) :
    Calls Tryd.prog 18 #[v] w (RetBC w (okL (tuB L) (tuF L)) (tuC L)) := by
  obtain ⟨i0, hi, hz0, hz1, hz2⟩ := info_parts Tryd.infoI
  obtain ⟨n, hn⟩ : ∃ n, L.length = n := ⟨_, rfl⟩
  obtain ⟨av, kv, rfl⟩ := h.len0
  rw [hn] at h hl9 ⊢
  have D := Blk.new w 26 #[.slice none 0 0]
  have hb0 : Below w.heap.size w (w.alloc (.cells #[.slice none 0 0] 26)) := (Below.refl _ _).alloc (Nat.le_refl _) _
  have HN := Lib.hid hn
  have HB9 := Lib.hid (show ∀ i, i < n → -1000000000 ≤ gI L i ∧ gI L i ≤ 1000000000 from fun i hi => hb9 i (by omega))
  clear hb9
  by_cases h2 : 2 ≤ n
  · obtain ⟨b0, o0, k0, he, hbL, hc0⟩ := h.atT hn (by omega)
    injection he with f1 _ f3
    subst f1 f3
    have HC := Lib.hid hc0
    have d0 := (hb0.cell (p := ⟨b0, o0, none⟩) hbL).trans (hc0 0 (by omega))
    have d1 := (hb0.cell (p := ⟨b0, o0 + 1, none⟩) hbL).trans (hc0 1 (by omega))
    have hg0 : (0 : Int) < (n : Int) := by omega
    have hg1 : (1 : Int) < (n : Int) := by omega
    have hg2 : ¬ (n : Int) < 2 := by omega
    have hg3 : decide ((n : Int) < 2) = false := decide_eq_false hg2
    have hb90 := HB9.out 0 (by omega)
    have hb91 := HB9.out 1 (by omega)
    clear hc0 h hn
    obtain ⟨x0, hx0⟩ : ∃ x, gI L 0 = x := ⟨_, rfl⟩
    obtain ⟨x1, hx1⟩ : ∃ x, gI L 1 = x := ⟨_, rfl⟩
    rw [hx0] at d0 hb90
    rw [hx1] at d1 hb91
    have HX0 := Lib.hid hx0
    have HX1 := Lib.hid hx1
    clear hx0 hx1
    have hw0 : IntKind.i64.wrap (x0 - 1) = x0 - 1 := IntWalk.i64_in _ (by omega)
    go_enter Tryd.func18, Tryd.ntmps18
    go_upto_region 1 with fail
    generalize w.alloc (.cells #[.slice none 0 0] 26) = w0 at *
    cases hA : inB x0 2 64
    · obtain ⟨e1, e2⟩ := tuC_no (L := L) (by
        cases hc : tuR L
        · rfl
        · exfalso
          have hT := tuR_iff.1 hc
          have := inB_iff.2 hT.zero
          rw [HX0.out, hA] at this
          cases this)
      have HE1 := Lib.hid e1
      have HE2 := Lib.hid e2
      clear e1 e2
      go_wp2_with fail
      go_quiet ((go_at_call 40; exact quiet_eq ((l01In_c _ _ _ _).mono fun e w' ⟨he, hw'⟩ => ⟨by rw [he, hA], hw'⟩)))
      have D2 := D.drewN nq
      have hb2 := below_drewN hb0 nq
      clear D hb0 d0 d1
      generalize w0.drewN nq = w2 at *
      have f0 := D2.free 0
      have e0' := D2.cell 0
      have q0 := (D2.set 0 (.slice none 0 0)).cell 0
      have hfin := hb2.setCell (p := ⟨w.heap.size, 0, none⟩) (Nat.le_refl _) (.slice none 0 0)
      go_wp2
      exact bodyPost_ret (v := .tuple #[.agg #[.slice none 0 0], .int .i64 2]) (by simp [results, Tryd.results18, go_sem, q0]) rfl (by rw [HE1.out, HE2.out, okL_false rfl]; exact retBC_err hfin)
    · cases hB : inB x1 1 (x0 - 1)
      · obtain ⟨e1, e2⟩ := tuC_no (L := L) (by
          cases hc : tuR L
          · rfl
          · exfalso
            have hT := tuR_iff.1 hc
            have h3 := hT.one
            rw [HX0.out, HX1.out] at h3
            have := inB_iff.2 (show 1 ≤ x1 ∧ x1 ≤ x0 - 1 by omega)
            rw [hB] at this
            cases this)
        have HE1 := Lib.hid e1
        have HE2 := Lib.hid e2
        clear e1 e2
        go_wp2_with fail
        go_quiet ((go_at_call 40; first | exact quiet_eq ((l01In_c _ _ _ _).mono fun e w' ⟨he, hw'⟩ => ⟨by rw [he, hA], hw'⟩) | exact quiet_eq ((l01In_c _ _ _ _).mono fun e w' ⟨he, hw'⟩ => ⟨by rw [he, hB], hw'⟩)))
        have D2 := D.drewN nq
        have hb2 := below_drewN hb0 nq
        clear D hb0 d0 d1
        generalize w0.drewN nq = w2 at *
        have f0 := D2.free 0
        have e0' := D2.cell 0
        have q0 := (D2.set 0 (.slice none 0 0)).cell 0
        have hfin := hb2.setCell (p := ⟨w.heap.size, 0, none⟩) (Nat.le_refl _) (.slice none 0 0)
        go_wp2
        exact bodyPost_ret (v := .tuple #[.agg #[.slice none 0 0], .int .i64 2]) (by simp [results, Tryd.results18, go_sem, q0]) rfl (by rw [HE1.out, HE2.out, okL_false rfl]; exact retBC_err hfin)
      · go_wp2_with fail
        go_quiet ((go_at_call 40; first | exact quiet_eq ((l01In_c _ _ _ _).mono fun e w' ⟨he, hw'⟩ => ⟨by rw [he, hA], hw'⟩) | exact quiet_eq ((l01In_c _ _ _ _).mono fun e w' ⟨he, hw'⟩ => ⟨by rw [he, hB], hw'⟩)))
        have D2 := D.drewN nq
        have hb2 := below_drewN hb0 nq
        have hA2 := inB_iff.1 hA
        have hB2 := inB_iff.1 hB
        clear D hb0 d0 d1 hA hB hw0
        generalize w0.drewN nq = w2 at *
        have d0 := (hb2.cell (p := ⟨b0, o0, none⟩) hbL).trans (HC.out 0 (by omega))
        rw [HX0.out] at d0
        go_wp2_with fail
        go_loopw [4, 5] (fun ev iv wr => ∃ i : Nat, i + 1 ≤ n ∧ iv = .int .i64 ((i : Int) + 1) ∧ ev = .int .i64 (eI L i) ∧ (∀ q, q + 1 < i + 1 → eI L (q + 1) < eI L q) ∧ (∀ q, 1 ≤ q → q < i + 1 → gI L q ≤ 2000) ∧ (∀ q, 1 ≤ q → q + 1 < i + 1 → gI L q < gI L (q + 1)) ∧ Blk wr w.heap.size 26 #[.slice none 0 0] ∧ Below w.heap.size w wr) (fun _ iv _ => n - (intOf iv).toNat)
        case atStart => exact ⟨0, by omega, rfl, by show _ = Value.int .i64 (gI L 0); rw [HX0.out], fun i hi => by omega, fun i h1 hi => by omega, fun i h1 hi => by omega, D2, hb2⟩
        case round =>
          obtain ⟨i, hi', rfl, rfl, hr1, hr2, hr3, D3, hb3⟩ := hrel
          clear D2 hb2 d0
          obtain ⟨wo, rfl⟩ : ∃ wo : World, wo = wr := ⟨_, rfl⟩
          have HR1 := Lib.hid hr1
          have HR2 := Lib.hid hr2
          have HR3 := Lib.hid hr3
          have HD3 := Lib.hid (fun m => D3.drewN m)
          have HDN := Lib.hid (fun m => below_drewN hb3 m)
          have he1 := eI_pos (T := L) (by rw [HX0.out]; omega) i
          have he2 := eI_le0 (T := L) (by rw [HX0.out]; omega) i
          rw [HX0.out] at he2
          clear hr1 hr2 hr3
          by_cases hlt : i + 1 < n
          · have dX := (hb3.cell (p := ⟨b0, o0 + (i + 1), none⟩) hbL).trans (HC.out (i + 1) hlt)
            have dY := (hb3.cell (p := ⟨b0, o0 + i, none⟩) hbL).trans (HC.out i (by omega))
            have hx9 := HB9.out (i + 1) hlt
            have f2 : IntKind.i64.wrap (i : Int) = (i : Int) := IntWalk.i64_in _ (by omega)
            have f5 : (0 : Int) ≤ (i : Int) := by omega
            have f6 : (i : Int) < (n : Int) := by omega
            have f7 : ((i : Int) + 1).toNat = i + 1 := by omega
            have f8 : (i : Int) + 1 - 1 = (i : Int) := by omega
            have f9 : (i : Int) + 1 < (n : Int) := by omega
            have f11 : (0 : Int) ≤ (i : Int) + 1 := by omega
            have HG := Lib.hid (eI_succ L i)
            have HBN := Lib.hid (show ∀ q, 1 ≤ q → gI L q ≤ 2000 ∨ 2000 < gI L q from fun q _ => by omega)
            clear HBN
            obtain ⟨x, hx⟩ : ∃ x, gI L (i + 1) = x := ⟨_, rfl⟩
            obtain ⟨y, hy⟩ : ∃ y, gI L i = y := ⟨_, rfl⟩
            obtain ⟨e0, he0⟩ : ∃ e0, eI L i = e0 := ⟨_, rfl⟩
            rw [hx] at dX hx9 HG
            rw [hy] at dY
            rw [he0] at he1 he2 HG ⊢
            have HXX := Lib.hid hx
            have HYY := Lib.hid hy
            have HEE := Lib.hid he0
            clear hx hy he0
            go_wp2_with fail
            refine (l01Gcd_c e0 x _ (by omega) (by omega) (by omega) (by omega)).mono ?_
            rintro e w8 ⟨rfl, rfl⟩
            obtain ⟨g, hg⟩ : ∃ g, gcdI e0 x = g := ⟨_, rfl⟩
            rw [hg] at HG ⊢
            have HGL := Lib.hid (show g ≤ e0 by rw [← hg]; exact gcdI_le_left he1)
            clear hg
            by_cases hge : g = e0
            · have hgb : (g == e0) = true := by rw [hge]; exact beq_self_eq_true _
              obtain ⟨e1, e2⟩ := tuC_no (L := L) (by
                cases hc : tuR L
                · rfl
                · exfalso
                  have hT := tuR_iff.1 hc
                  have := hT.fall i (by have := HN.out; omega)
                  rw [HG.out, HEE.out] at this
                  omega)
              have HE1 := Lib.hid e1
              have HE2 := Lib.hid e2
              clear e1 e2
              go_wp2_with fail
              go_quiet (fail)
              have D4 := HD3.out nq
              have hb4 := HDN.out nq
              clear D3 hb3 dX dY HD3 HDN
              generalize wo.drewN nq = w4 at *
              have f0 := D4.free 0
              have e0' := D4.cell 0
              have q0 := (D4.set 0 (.slice none 0 0)).cell 0
              have hfin := hb4.setCell (p := ⟨w.heap.size, 0, none⟩) (Nat.le_refl _) (.slice none 0 0)
              go_wp2
              exact bodyPost_ret (v := .tuple #[.agg #[.slice none 0 0], .int .i64 2]) (by simp [results, Tryd.results18, go_sem, q0]) rfl (by rw [HE1.out, HE2.out, okL_false rfl]; exact retBC_err hfin)
            · have hgb : (g == e0) = false := beq_eq_false_iff_ne.2 hge
              have HF1 := Lib.hid (show ∀ q, q + 1 < i + 1 + 1 → eI L (q + 1) < eI L q from fun q hq => by
                by_cases e : q = i
                · subst e; rw [HG.out, HEE.out]; have := HGL.out; omega
                · exact HR1.out q (by omega))
              by_cases hbig : x > 2000
              · have hbb : decide (x > 2000) = true := decide_eq_true hbig
                obtain ⟨e1, e2⟩ := tuC_no (L := L) (by
                  cases hc : tuR L
                  · rfl
                  · exfalso
                    have hT := tuR_iff.1 hc
                    have := (hT.num (i + 1) (by have := HN.out; omega)).2
                    rw [HXX.out] at this
                    omega)
                have HE1 := Lib.hid e1
                have HE2 := Lib.hid e2
                clear e1 e2
                go_wp2_with fail
                go_quiet (fail)
                have D4 := HD3.out nq
                have hb4 := HDN.out nq
                clear D3 hb3 dX dY HD3 HDN
                generalize wo.drewN nq = w4 at *
                have f0 := D4.free 0
                have e0' := D4.cell 0
                have q0 := (D4.set 0 (.slice none 0 0)).cell 0
                have hfin := hb4.setCell (p := ⟨w.heap.size, 0, none⟩) (Nat.le_refl _) (.slice none 0 0)
                go_wp2
                exact bodyPost_ret (v := .tuple #[.agg #[.slice none 0 0], .int .i64 2]) (by simp [results, Tryd.results18, go_sem, q0]) rfl (by rw [HE1.out, HE2.out, okL_false rfl]; exact retBC_err hfin)
              · have hbb : decide (x > 2000) = false := decide_eq_false hbig
                have HF2 := Lib.hid (show ∀ q, 1 ≤ q → q < i + 1 + 1 → gI L q ≤ 2000 from fun q h1 hq => by
                  by_cases e : q = i + 1
                  · subst e; rw [HXX.out]; omega
                  · exact HR2.out q h1 (by omega))
                by_cases hi0 : i = 0
                · have hii : decide ((i : Int) + 1 > 1) = false := decide_eq_false (by omega)
                  have HF3 := Lib.hid (show ∀ q, 1 ≤ q → q + 1 < i + 1 + 1 → gI L q < gI L (q + 1) from fun q h1 hq => by omega)
                  clear hge hbig hi0 HR1 HR2 HR3 D3 hb3
                  go_wp2_with fail
                  go_quiet (fail)
                  rw [← HG.out]
                  clear HG HGL HEE
                  go_wp2
                  go_roundw
                  case rel => exact ⟨i + 1, by omega, by go_num, rfl, HF1.out, HF2.out, HF3.out, HD3.out _, HDN.out _⟩
                  case measure => simp [intOf]; omega
                · have hii : decide ((i : Int) + 1 > 1) = true := decide_eq_true (by omega)
                  by_cases hle : x ≤ y
                  · have hll : decide (x ≤ y) = true := decide_eq_true hle
                    obtain ⟨e1, e2⟩ := tuC_no (L := L) (by
                      cases hc : tuR L
                      · rfl
                      · exfalso
                        have hT := tuR_iff.1 hc
                        have := hT.asc i (by omega) (by have := HN.out; omega)
                        rw [HXX.out, HYY.out] at this
                        omega)
                    have HE1 := Lib.hid e1
                    have HE2 := Lib.hid e2
                    clear e1 e2
                    go_wp2_with fail
                    go_quiet (fail)
                    have D4 := HD3.out nq
                    have hb4 := HDN.out nq
                    clear D3 hb3 dX dY HD3 HDN
                    generalize wo.drewN nq = w4 at *
                    have f0 := D4.free 0
                    have e0' := D4.cell 0
                    have q0 := (D4.set 0 (.slice none 0 0)).cell 0
                    have hfin := hb4.setCell (p := ⟨w.heap.size, 0, none⟩) (Nat.le_refl _) (.slice none 0 0)
                    go_wp2
                    exact bodyPost_ret (v := .tuple #[.agg #[.slice none 0 0], .int .i64 2]) (by simp [results, Tryd.results18, go_sem, q0]) rfl (by rw [HE1.out, HE2.out, okL_false rfl]; exact retBC_err hfin)
                  · have hll : decide (x ≤ y) = false := decide_eq_false hle
                    have HF3 := Lib.hid (show ∀ q, 1 ≤ q → q + 1 < i + 1 + 1 → gI L q < gI L (q + 1) from fun q h1 hq => by
                      by_cases e : q = i
                      · subst e; rw [HXX.out, HYY.out]; omega
                      · exact HR3.out q h1 (by omega))
                    clear hge hbig hi0 hle HR1 HR2 HR3 D3 hb3
                    go_wp2_with fail
                    go_quiet (fail)
                    rw [← HG.out]
                    clear HG HGL HEE
                    go_wp2
                    go_roundw
                    case rel => exact ⟨i + 1, by omega, by go_num, rfl, HF1.out, HF2.out, HF3.out, HD3.out _, HDN.out _⟩
                    case measure => simp [intOf]; omega
          · have hki : ¬ (i : Int) + 1 < (n : Int) := by omega
            have hie : i + 1 = n := by omega
            by_cases he : eI L i = 1
            · have hlow : ∀ q, q + 1 < n → 1 ≤ gI L (q + 1) := fun q => by
                induction q with
                | zero => intro _; show 1 ≤ gI L 1; rw [HX1.out]; omega
                | succ q ih => intro hq; have := ih (by omega); have := HR3.out (q + 1) (by omega) (by omega); omega
              have hT := (show TuOk L from ⟨by rw [HN.out]; exact h2, by rw [HX0.out]; exact hA2, by rw [HX0.out, HX1.out]; omega, fun q h1 hq => HR3.out q h1 (by have := HN.out; omega), fun q hq => by
                have hq' : q < n := by have := HN.out; omega
                by_cases e : q = 0
                · subst e; rw [HX0.out]; omega
                · obtain ⟨r, rfl⟩ : ∃ r, q = r + 1 := ⟨q - 1, by omega⟩
                  exact ⟨hlow r hq', HR2.out (r + 1) (by omega) (by omega)⟩, fun q hq => HR1.out q (by have := HN.out; omega), by rw [HN.out, show n - 1 = i by omega]; exact he⟩)
              have HT := Lib.hid hT
              have HTU := Lib.hid (tuR_iff.2 hT)
              rw [he]
              clear hlow hT he HR1 HR2 HR3 HD3 HDN he1 he2 hki
              have d0 := (hb3.cell (p := ⟨b0, o0, none⟩) hbL).trans (HC.out 0 (by omega))
              have d1 := (hb3.cell (p := ⟨b0, o0 + 1, none⟩) hbL).trans (HC.out 1 (by omega))
              rw [HX0.out] at d0
              rw [HX1.out] at d1
              have hs2 : w.heap.size + 1 ≤ wo.heap.size := by have := D3.lt; omega
              have o2 := (own_one (e := 2) wo (w.heap.size + 1) hs2 x1).below ((Below.refl (wo.alloc (.cells #[.int .i64 x1] 2)).heap.size _).alloc (Nat.le_refl _) (.cells #[.slice (some ⟨wo.heap.size, 0, none⟩) 1 1] 26)) (Nat.le_refl _)
              have hal : Below wo.heap.size wo ((wo.alloc (.cells #[.int .i64 x1] 2)).alloc (.cells #[.slice (some ⟨wo.heap.size, 0, none⟩) 1 1] 26)) := ((Below.refl _ _).alloc (Nat.le_refl _) _).alloc (by simp) _
              have B4 := Blk.new' (w := wo.alloc (.cells #[.int .i64 x1] 2)) (t := 26) (cs := #[.slice (some ⟨wo.heap.size, 0, none⟩) 1 1]) (g := wo.heap.size + 1) (by simp)
              have D4 := D3.stays hal
              have hb4 := below_step hb3 hal
              have hne4 : ∀ q, (Value.slice (some ⟨wo.heap.size, 0, none⟩) 1 1).ownBlock = some q → q ≠ wo.heap.size + 1 := fun q hq => by
                have hq' : wo.heap.size = q := Option.some.inj hq
                omega
              clear D3 hb3 hal
              go_upto_region 14 with fail
              clear d0 d1
              generalize (wo.alloc (.cells #[.int .i64 x1] 2)).alloc (.cells #[.slice (some ⟨wo.heap.size, 0, none⟩) 1 1] 26) = w4 at *
              have d0 := (hb4.cell (p := ⟨b0, o0, none⟩) hbL).trans (HC.out 0 (by omega))
              have d1 := (hb4.cell (p := ⟨b0, o0 + 1, none⟩) hbL).trans (HC.out 1 (by omega))
              rw [HX0.out] at d0
              rw [HX1.out] at d1
              have hx1z : ¬ x1 = 0 := by omega
              go_quiet (fail)
              have D5 := D4.drewN nq
              have B5 := B4.drewN nq
              have hb5 := below_drewN hb4 nq
              have o5 := o2.below (below_drewN (Below.refl w4.heap.size w4) nq) (Nat.le_refl _)
              clear D4 B4 hb4 o2 d0 d1
              generalize w4.drewN nq = w5 at *
              have HZ := Lib.hid (tuK_zero L)
              have HS := Lib.hid (show ∀ j, j + 2 < n → tuK L (j + 1) = tuK L j ++ [gI L (j + 2) + (x0 - x1)] from fun j hj => by rw [← HX0.out, ← HX1.out]; exact tuK_succ (by have := HN.out; omega))
              have HH := Lib.hid (show tuH L = if x0 % x1 = 0 then [x1] else [x1, x0] by rw [← HX0.out, ← HX1.out]; rfl)
              have HLK := Lib.hid (show ∀ j, j + 2 ≤ n → (tuK L j).length ≤ 2002 from fun j hj => by
                obtain ⟨g, hg, hor⟩ := tuH_or L
                rw [tuK_len (by have := HN.out; omega), hg]
                rcases hor with ⟨rfl, _⟩ | ⟨rfl, _⟩ <;> omega)
              have d0 := (hb5.cell (p := ⟨b0, o0, none⟩) hbL).trans (HC.out 0 (by omega))
              rw [HX0.out] at d0
              go_upto_if 89 with fail
              go_cut [] from 82 to 97 (fun wc => BoxI w wc (wo.heap.size + 1) (tuH L))
              case first =>
                by_cases hd : x0 % x1 = 0
                · have hdt : x0.tmod x1 = 0 := by rw [Int.tmod_eq_emod_of_nonneg (by omega)]; exact hd
                  have hdb : (x0 % x1 != 0) = false := by rw [hd]; rfl
                  have HF := Lib.hid (show BoxI w w5 (wo.heap.size + 1) (tuH L) from ⟨_, 1, 1, B5, by rw [HH.out, if_pos hd]; exact o5, by rw [HH.out, if_pos hd]; rfl, hne4, D5, by omega, hb5⟩)
                  clear B5 o5 D5 hb5 hne4 hd
                  go_wp2
                  go_meet
                  exact HF.out
                · have hdt : ¬ x0.tmod x1 = 0 := by rw [Int.tmod_eq_emod_of_nonneg (by omega)]; exact hd
                  have hdb : (x0 % x1 != 0) = true := by rw [bne_iff_ne]; exact hd
                  have HE := Lib.hid (show tuH L = [x1] ++ [x0] by rw [HH.out, if_neg hd]; rfl)
                  have l5 := B5.lt
                  have c5 := B5.cell 0
                  have f5 := B5.free 0
                  have HNE := Lib.hid hne4
                  have hg0n : 0 < n := by omega
                  have hz5 : w.heap.size + 1 ≤ w5.heap.size := by have := D5.lt; omega
                  have hbd : Below w5.heap.size w5 (w5.drew.alloc (.cells #[.int .i64 x0] 2)) := ((Below.refl _ _).drew).alloc (Nat.le_refl _) _
                  have hO6 : OwnI (w5.drew.alloc (.cells #[.int .i64 x0] 2)) (w.heap.size + 1) (.slice (some ⟨wo.heap.size, 0, none⟩) 1 1) [x1] := o5.below hbd (Nat.le_refl _)
                  have HB6 := Lib.hid (B5.stays hbd)
                  have HD6 := Lib.hid (D5.stays hbd)
                  have HW6 := Lib.hid (below_step hb5 hbd)
                  clear hd hne4 hbd B5 D5 hb5
                  go_upto_region 15 with fail
                  go_region_law (first
                    | (refine step_push rfl (.tmp 91) (.tmp 95) 24 rfl (w.heap.size + 1) 2 i0 Tryd.underlying24 hi hz0 hz1 hz2 (.slice (some ⟨wo.heap.size, 0, none⟩) 1 1) [x1] x0 w5.heap.size rfl hO6 rfl (Blk.new w5.drew _ _) (by simp) (by simp; omega) ?_; intro g2 cap2 w6 hO7 hk6 hw6 hl6; have B7 := HB6.out.keeps hk6 (fun e => HNE.out _ e rfl); have c7 := B7.cell 0; have f7 := B7.free 0)
                    | fail)
                  all_goals
                    have HF := Lib.hid (show BoxI w (w6.setCell ⟨wo.heap.size + 1, 0, none⟩ (.slice (some ⟨g2, 0, none⟩) (1 + 1) cap2)) (wo.heap.size + 1) (tuH L) from by
                      rw [HE.out]; exact boxI_push HB6.out hO6 rfl HNE.out HD6.out (by omega) HW6.out hO7 hk6 (hw6.imp_right (fun e => by rw [e]; exact Nat.le_refl _)) (by omega))
                    clear B7 c7 f7 hO7 hk6 hw6 hl6 HB6 HD6 HW6 HNE hO6 c5 f5
                    go_wp2
                    go_meet
                    exact HF.out
              case rest =>
                clear B5 o5 D5 hb5 hne4
                rw [← HZ.out] at hcut
                have hX := hcut
                clear hcut d0 hx1z
                obtain ⟨wd, rfl⟩ : ∃ wd : World, wd = wc := ⟨_, rfl⟩
                go_wp2_with fail
                go_loopw [8] (fun iv wr => ∃ j : Nat, j + 2 ≤ n ∧ iv = .int .i64 ((j : Int) + 2) ∧ BoxI w wr (wo.heap.size + 1) (tuK L j)) (fun iv _ => n - (intOf iv).toNat)
                case atStart => exact ⟨0, by omega, rfl, hX⟩
                case round =>
                  obtain ⟨j, hj, rfl, hY⟩ := hrel
                  clear hX
                  obtain ⟨wp, rfl⟩ : ∃ wp : World, wp = wr := ⟨_, rfl⟩
                  obtain ⟨a, m, k, B5, o5, hm, hne, D5, hNn, hb5⟩ := hY
                  have HM := Lib.hid hm
                  have HNE := Lib.hid hne
                  clear hm hne
                  have c5 := B5.cell 0
                  by_cases hlt : j + 2 < n
                  · have g7 : ((j : Int) + 2).toNat = j + 2 := by omega
                    have g9 : (j : Int) + 2 < (n : Int) := by omega
                    have g11 : (0 : Int) ≤ (j : Int) + 2 := by omega
                    have hg0n : 0 < n := by omega
                    have hg1n : 1 < n := by omega
                    have dX := (hb5.cell (p := ⟨b0, o0 + (j + 2), none⟩) hbL).trans (HC.out (j + 2) hlt)
                    have d0 := (hb5.cell (p := ⟨b0, o0, none⟩) hbL).trans (HC.out 0 (by omega))
                    have d1 := (hb5.cell (p := ⟨b0, o0 + 1, none⟩) hbL).trans (HC.out 1 (by omega))
                    rw [HX0.out] at d0
                    rw [HX1.out] at d1
                    have hx := HT.out.num (j + 2) (by have := HN.out; omega)
                    have HSJ := Lib.hid (HS.out j hlt)
                    have HLE := Lib.hid (HLK.out j hj)
                    generalize gI L (j + 2) = x at *
                    generalize tuK L j = X at *
                    have hw1 : IntKind.i64.wrap (x + x0) = x + x0 := IntWalk.i64_in _ (by omega)
                    have hw2 : IntKind.i64.wrap (x + x0 - x1) = x + x0 - x1 := IntWalk.i64_in _ (by omega)
                    have l5 := B5.lt
                    have f5 := B5.free 0
                    have hz5 : w.heap.size + 1 ≤ wp.heap.size := by have := D5.lt; omega
                    have hbd : Below wp.heap.size wp (wp.drew.alloc (.cells #[.int .i64 (x + x0 - x1)] 2)) := ((Below.refl _ _).drew).alloc (Nat.le_refl _) _
                    have hO6 : OwnI (wp.drew.alloc (.cells #[.int .i64 (x + x0 - x1)] 2)) (w.heap.size + 1) (.slice a m k) X := o5.below hbd (Nat.le_refl _)
                    have HB6 := Lib.hid (B5.stays hbd)
                    have HD6 := Lib.hid (D5.stays hbd)
                    have HW6 := Lib.hid (below_step hb5 hbd)
                    clear hbd B5 D5 hb5 o5
                    go_wp2_with fail
                    go_region_law (first
                      | (refine step_push rfl (.tmp 105) (.tmp 118) 24 rfl (w.heap.size + 1) 2 i0 Tryd.underlying24 hi hz0 hz1 hz2 (.slice a m k) X (x + x0 - x1) wp.heap.size rfl hO6 rfl (Blk.new wp.drew _ _) (by have := HLE.out; omega) (by simp; omega) ?_; intro g2 cap2 w6 hO7 hk6 hw6 hl6; rw [HM.out] at hO7 ⊢; have B7 := HB6.out.keeps hk6 (fun e => HNE.out _ e rfl); have c7 := B7.cell 0; have f7' := B7.free 0)
                      | fail)
                    all_goals
                      have HF := Lib.hid (show BoxI w (w6.setCell ⟨wo.heap.size + 1, 0, none⟩ (.slice (some ⟨g2, 0, none⟩) (m + 1) cap2)) (wo.heap.size + 1) (tuK L (j + 1)) from by
                        rw [HSJ.out, show x + (x0 - x1) = x + x0 - x1 by omega]; exact boxI_push HB6.out hO6 HM.out HNE.out HD6.out hNn HW6.out hO7 hk6 (hw6.imp_right (fun e => by rw [e]; exact Nat.le_refl _)) (by omega))
                      clear B7 c7 f7' hO7 hk6 hw6 hl6 HB6 HD6 HW6 HNE hO6 c5 f5 HSJ HM HLE dX d0 d1
                      go_wp2
                      go_roundw
                      case rel => exact ⟨j + 1, by omega, by go_num, HF.out⟩
                      case measure => simp [intOf]; omega
                  · have hki : ¬ (j : Int) + 2 < (n : Int) := by omega
                    have hF : tuF L = tuK L j := by unfold tuF; rw [HN.out, show n - 2 = j by omega]
                    have HFT := Lib.hid hF
                    clear hF
                    generalize tuK L j = X at *
                    go_wp2_with fail
                    refine (l03Is_c _ X _ o5.rd).mono ?_
                    rintro e w7 ⟨rfl, hb7⟩
                    have D7 := D5.stays hb7
                    have B7 := B5.stays hb7
                    have o7 := o5.below hb7 (Nat.le_refl _)
                    have hb8 := below_step hb5 hb7
                    clear c5 B5 D5 o5 hb5 hb7 HNE
                    cases hcl : braB X
                    · obtain ⟨e1, e2⟩ := tuC_bad HTU.out (by rw [HFT.out]; exact hcl)
                      clear hcl o7 B7 HM HFT
                      have HE1 := Lib.hid e1
                      have HE2 := Lib.hid e2
                      clear e1 e2
                      have f0 := D7.free 0
                      have e0' := D7.cell 0
                      have q0 := (D7.set 0 (.slice none 0 0)).cell 0
                      have hfin := hb8.setCell (p := ⟨w.heap.size, 0, none⟩) (Nat.le_refl _) (.slice none 0 0)
                      go_wp2
                      exact bodyPost_ret (v := .tuple #[.agg #[.slice none 0 0], .int .i64 5]) (by simp [results, Tryd.results18, go_sem, q0]) rfl (by rw [HE1.out, HE2.out, okL_false rfl]; exact retBC_err hfin)
                    · obtain ⟨e1, e2⟩ := tuC_ok HTU.out (by rw [HFT.out]; exact hcl)
                      have HE1 := Lib.hid e1
                      have HE2 := Lib.hid e2
                      clear e1 e2
                      have c7 := B7.cell 0
                      have f0 := D7.free 0
                      have e0' := D7.cell 0
                      have q0 := (D7.set 0 (.slice a m k)).cell 0
                      have HF := Lib.hid (show RetBC w X 0 (.returned (.tuple #[.agg #[.slice a m k], .int .i64 0])) (w7.setCell ⟨w.heap.size, 0, none⟩ (.slice a m k)) from
                        ⟨a, k, by rw [HM.out], by rw [HM.out]; exact (o7.other (g := w.heap.size) (fun q hq => by have := (o7.block q hq).1; omega) 0 _).base_le (by omega), hb8.setCell (p := ⟨w.heap.size, 0, none⟩) (Nat.le_refl _) _⟩)
                      clear hcl o7 B7 D7 hb8 HM
                      go_wp2
                      exact bodyPost_ret (v := .tuple #[.agg #[.slice a m k], .int .i64 0]) (by simp [results, Tryd.results18, go_sem, q0]) rfl (by rw [HE1.out, HE2.out, okL_true rfl, HFT.out]; exact HF.out)
            · have hebb : (eI L i != 1) = true := by rw [bne_iff_ne]; exact he
              obtain ⟨e1, e2⟩ := tuC_no (L := L) (by
                cases hc : tuR L
                · rfl
                · exfalso
                  have hT := tuR_iff.1 hc
                  have := hT.last
                  rw [HN.out, show n - 1 = i by omega] at this
                  exact he this)
              clear he
              have HE1 := Lib.hid e1
              have HE2 := Lib.hid e2
              clear e1 e2
              have f0 := D3.free 0
              have e0' := D3.cell 0
              have q0 := (D3.set 0 (.slice none 0 0)).cell 0
              have hfin := hb3.setCell (p := ⟨w.heap.size, 0, none⟩) (Nat.le_refl _) (.slice none 0 0)
              go_wp2
              exact bodyPost_ret (v := .tuple #[.agg #[.slice none 0 0], .int .i64 2]) (by simp [results, Tryd.results18, go_sem, q0]) rfl (by rw [HE1.out, HE2.out, okL_false rfl]; exact retBC_err hfin)
  · obtain ⟨e1, e2⟩ := tuC_no (L := L) (tuR_len (by have := HN.out; omega))
    have hg2 : (n : Int) < 2 := by omega
    have hg3 : decide ((n : Int) < 2) = true := decide_eq_true hg2
    have HE1 := Lib.hid e1
    have HE2 := Lib.hid e2
    clear e1 e2 h hn h2
    go_enter Tryd.func18, Tryd.ntmps18
    go_upto_region 1 with fail
    generalize w.alloc (.cells #[.slice none 0 0] 26) = w0 at *
    go_wp2_with fail
    go_quiet (fail)
    have D2 := D.drewN nq
    have hb2 := below_drewN hb0 nq
    clear D hb0
    generalize w0.drewN nq = w2 at *
    have f0 := D2.free 0
    have e0' := D2.cell 0
    have q0 := (D2.set 0 (.slice none 0 0)).cell 0
    have hfin := hb2.setCell (p := ⟨w.heap.size, 0, none⟩) (Nat.le_refl _) (.slice none 0 0)
    go_wp2
    exact bodyPost_ret (v := .tuple #[.agg #[.slice none 0 0], .int .i64 2]) (by simp [results, Tryd.results18, go_sem, q0]) rfl (by rw [HE1.out, HE2.out, okL_false rfl]; exact retBC_err hfin)
end Go.Proofs.YtglghdkjppcedaaDoor

/- Contract: spec.l03Divisors. -/
namespace Go.Proofs.YtglghdkjppcedaaDoor
open Go.RowKit

set_option maxRecDepth 100000 in
set_option maxHeartbeats 4000000 in
theorem l03Divisors_c (v : Value) (T : List Int) (w : World) (h : Rd w v T) (hp : 0 < T.length) (hn : T.length ≤ 1000) (h0 : ∀ i, i < T.length → 1 ≤ gI T i ∧ gI T i ≤ 1000000000000) :
    Calls Tryd.prog 77 #[.agg #[v]] w (RetI w (eTo T T.length)) := by
  obtain ⟨i0, hi, hz0, hz1, hz2⟩ := info_parts Tryd.infoI
  have hx := Boxed.start w 26 #[v]
  obtain ⟨b, off, cap, rfl, hc1, hc2, hb, hc⟩ := h.cells hp
  have d0 : (w.alloc (.cells #[.slice (some ⟨b, off, none⟩) T.length cap] 26)).cell? ⟨b, off, none⟩ = some (.int .i64 (gI T 0)) := by
    rw [hx.below.cell (p := ⟨b, off, none⟩) hb]; exact hc 0 hp
  have hT0 : 0 < gI T 0 := by have := h0 0 hp; omega
  have hT1 : gI T 0 ≤ 1000000000000 := by have := h0 0 hp; omega
  go_enter Tryd.func77, Tryd.ntmps77
  have q0 := hx.cell 0
  have hlp : (0 : Int) < (T.length : Int) := by omega
  go_wp2_with fail
  have hlit := own_one (e := 2) (w.alloc (.cells #[.slice (some ⟨b, off, none⟩) T.length cap] 26)) (w.heap.size + 1) (by simp) (gI T 0)
  have hx1 := hx.alloc (.cells #[.int .i64 (gI T 0)] 2)
  clear d0 q0
  go_loopw [3, 4] (fun v i wr => ∃ k : Nat, 1 ≤ k ∧ k ≤ T.length ∧ i = .int .i64 k ∧ (∃ g c, v = .slice (some ⟨g, 0, none⟩) k c ∧ OwnI wr (w.heap.size + 1) v (eTo T k)) ∧ Boxed w wr 26 #[.slice (some ⟨b, off, none⟩) T.length cap]) (fun _ i _ => T.length - (intOf i).toNat)
  case atStart => exact ⟨1, Nat.le_refl _, by omega, rfl, ⟨_, _, rfl, by simpa [eTo, eI] using hlit⟩, hx1⟩
  case round =>
    clear hlit hx1
    obtain ⟨k, hk1, hk, rfl, ⟨g, c, rfl, hown⟩, hbx⟩ := hrel
    obtain ⟨wo, rfl⟩ : ∃ wo : World, wo = wr := ⟨_, rfl⟩
    have q0 := hbx.cell 0
    by_cases hlt : k < T.length
    · have hown' : OwnI wo (w.heap.size + 1) (.slice (some ⟨g, 0, none⟩) (eTo T k).length c) (eTo T k) := by rw [eTo_len]; exact hown
      have hcl := hown'.cell (k - 1) (by simp; omega)
      rw [gI_eTo (by omega)] at hcl
      obtain ⟨j, rfl⟩ : ∃ j, k = j + 1 := ⟨k - 1, by omega⟩
      rw [Nat.add_sub_cancel] at hcl
      have dT : wo.cell? ⟨b, off + (j + 1), none⟩ = some (.int .i64 (gI T (j + 1))) := by rw [hbx.below.cell (p := ⟨b, off + (j + 1), none⟩) hb]; exact hc _ hlt
      have hE := eI_pos hT0 j
      have hE2 := eI_le0 hT0 j
      have hTj := h0 (j + 1) hlt
      have HY := Lib.hid (eTo_succ T (j + 1))
      have HG := Lib.hid (eI_succ T j)
      have hsz := hbx.size
      have hbb : b < wo.heap.size := by omega
      have hgs := (hown.block g rfl).2
      have hgl := (hown.block g rfl).1
      have hj1 : ((j + 1 : Nat) : Int) < (T.length : Int) := by omega
      have hj2 : (j : Int) < ((j + 1 : Nat) : Int) := by omega
      have hj3 : (0 : Int) ≤ (j : Int) := by omega
      have wj : IntKind.i64.wrap (j : Int) = (j : Int) := IntWalk.i64_in _ (by omega)
      have hj4 : (j : Int) + 1 < (T.length : Int) := by omega
      have hj5 : (j : Int) < (j : Int) + 1 := by omega
      have hj6 : (0 : Int) ≤ (j : Int) + 1 := by omega
      have hj7 : ((j : Int) + 1).toNat = j + 1 := by omega
      clear hown'
      generalize gI T (j + 1) = y at dT hTj HG
      generalize eI T j = x at hcl hE hE2 HG
      have hal : Below wo.heap.size wo ((wo.alloc (.cells #[.int .i64 (gcdI x y)] 2)).drew) := ((Below.refl _ _).alloc (Nat.le_refl _) _).drew
      have hO := hown.below hal (Nat.le_refl _)
      have hbx' := hbx.trans hal
      go_wp2_with fail
      go_region_law (first | (refine step_push rfl (.tmp 17) (.tmp 29) 24 rfl (w.heap.size + 1) 2 i0 Tryd.underlying24 hi hz0 hz1 hz2 (.slice (some ⟨g, 0, none⟩) (j + 1) c) (eTo T (j + 1)) (gcdI x y) wo.heap.size rfl hO rfl (Blk.new wo _ _) (by simp; omega) (by simp; omega) ?_; intro g2 cap2 w2 h1 h2 h3 h4) | (go_simp; go_at_call 41; refine (l01Gcd_c _ _ _ (by omega) (by omega) (by omega) (by omega)).mono ?_; rintro e w1 ⟨rfl, rfl⟩))
      all_goals
        have hbx2 := hbx'.wrote (h2.mono (fun k hk => by simp [Value.ownBlock] at hk; omega))
        rw [← HG.out, ← HY.out, eTo_len] at h1
        clear h2 h3 h4 hO
        go_wp2
        go_roundw
        case rel => exact ⟨j + 1 + 1, by omega, by omega, by go_num, ⟨g2, cap2, rfl, h1⟩, hbx2⟩
        case measure => simp [intOf]; omega
    · go_wp2
      have hk' : k = T.length := by omega
      subst hk'
      go_ret
      exact retI_mk (hown.base_le (by omega)) hbx.below
end Go.Proofs.YtglghdkjppcedaaDoor

/- Contract: spec.l03Divisors, where its list lies; lists that were made. -/
namespace Go.Proofs.YtglghdkjppcedaaDoor
open Go.RowKit

end Go.Proofs.YtglghdkjppcedaaDoor
