/- Contract: spec.ParseBranch. -/
import Derived.Test.YtglghdkjppcedaaDoorPart7
import Derived.Test.YtglghdkjppcedaaDoorPart9
import Derived.Test.YtglghdkjppcedaaDoorPart8
import Derived.Deep.RegionLaw
import Derived.Test.YtglghdkjppcedaaDoorPart2
namespace Go.Proofs.YtglghdkjppcedaaDoor
open Go.RowKit

/-- Behind the words: the box with the reference's branch. -/
def CutT (w wc : World) (u : List UInt8) (N : Nat) : Prop :=
  ∃ (a : Option Addr) (n k : Nat), Blk wc N 26 #[.slice a n k] ∧ OwnI wc (w.heap.size + 1) (.slice a n k) (spT u) ∧ (spT u).length = n ∧ (∀ q, (Value.slice a n k).ownBlock = some q → q ≠ N) ∧ Blk wc w.heap.size 26 #[.slice none 0 0] ∧ N ≠ w.heap.size ∧ Below w.heap.size w wc
theorem map_step {l : List (List UInt8)} {j : Nat} (hj : j < l.length) : (l.map valI).take (j + 1) = (l.map valI).take j ++ [valI (gT l j)] := by
  rw [List.take_succ_eq_append_getElem (by simpa using hj), List.getElem_map, gT_lt hj]
set_option maxRecDepth 100000 in
set_option maxHeartbeats 8000000 in
theorem specPB_c (s : ByteArray) (T : List Int) (c : Int) (w : World) (hs : s.size ≤ 137438953472) (hR : PbR (lB s) T c) :
    Calls Tryd.prog 11 #[.string s] w (RetBC w T c) := by
  obtain ⟨i0, hi, hz0, hz1, hz2⟩ := info_parts Tryd.infoI
  have HR := Lib.hid hR
  clear hR
  have D := Blk.new w 26 #[.slice none 0 0]
  have hb0 : Below w.heap.size w (w.alloc (.cells #[.slice none 0 0] 26)) := (Below.refl _ _).alloc (Nat.le_refl _) _
  have hsz : (w.alloc (.cells #[.slice none 0 0] 26)).heap.size = w.heap.size + 1 := by simp
  by_cases h3 : s.size < 2
  · have h3g : (s.size : Int) < 2 := by omega
    obtain ⟨rfl, rfl⟩ := pb_short HR.out (by rw [lB_len]; omega)
    clear HR h3
    go_enter Tryd.func11, Tryd.ntmps11
    go_upto_region 1 with fail
    generalize w.alloc (.cells #[.slice none 0 0] 26) = w0 at *
    have f0 := D.free 0
    have e0 := D.cell 0
    have q0 := (D.set 0 (.slice none 0 0)).cell 0
    have hfin := hb0.setCell (p := ⟨w.heap.size, 0, none⟩) (Nat.le_refl _) (.slice none 0 0)
    go_wp2
    exact bodyPost_ret (v := .tuple #[.agg #[.slice none 0 0], .int .i64 6]) (by simp [results, Tryd.results11, go_sem, q0]) rfl (retBC_err hfin)
  · have h3g : ¬ (s.size : Int) < 2 := by omega
    have hp : 0 < s.size := by omega
    have hl : s.size - 1 < s.size := by omega
    have hm1 : IntKind.i64.wrap ((s.size : Int) - 1) = (s.size : Int) - 1 := IntWalk.i64_in _ (by omega)
    have hm2 : ((s.size : Int) - 1).toNat = s.size - 1 := by omega
    have hm3 : (0 : Int) ≤ (s.size : Int) - 1 := by omega
    have hm4 : (s.size : Int) - 1 < (s.size : Int) := by omega
    have hm5 : (1 : Int) ≤ (s.size : Int) - 1 := by omega
    by_cases h40 : s[0]'hp = 40
    · have b40 : (((s[0]'hp).toNat : Int) != 40) = false := by rw [h40]; rfl
      by_cases h41 : s[s.size - 1]'hl = 41
      · have b41 : (((s[s.size - 1]'hl).toNat : Int) != 41) = false := by rw [h41]; rfl
        have HFR := Lib.hid (fr_bytes (by omega) h40 h41)
        have hes : (s.extract 1 (s.size - 1)).size ≤ 137438953472 := by simp; omega
        clear h40 h41 h3
        go_enter Tryd.func11, Tryd.ntmps11
        go_upto_region 1 with fail
        generalize w.alloc (.cells #[.slice none 0 0] 26) = w0 at *
        go_wp2_with fail
        refine (l01Split_c (s.extract 1 (s.size - 1)) 59 _ hes).mono ?_
        rintro e w1 ⟨ah, kh, hh, rfl, hrh, hsh, hnh, hbh⟩
        obtain ⟨u, hu⟩ : ∃ u, lB (s.extract 1 (s.size - 1)) = u := ⟨_, rfl⟩
        have hul : u.length ≤ 137438953472 := by rw [← hu, lB_len]; exact hes
        rw [hu] at hsh HFR
        have D1 := D.stays hbh
        have hb1 := below_step hb0 hbh
        have hz1' : w.heap.size + 1 ≤ w1.heap.size := by have := hbh.size; omega
        have HSH := Lib.hid hsh
        have hhp : 0 < hh.length := by
          have h1 := congrArg List.length HSH.out
          have h2 := List.length_pos_iff.2 (spl_ne 59 u)
          rw [List.length_map] at h1
          omega
        have hhl : (splitL 59 u).length = hh.length := by rw [← HSH.out]; simp
        obtain ⟨bH, oH, cH, heh, hbH, hcH⟩ := hrh.cells hhp
        injection heh with f1 _ f3
        subst f1 f3
        have HHL := Lib.hid hhl
        have HCH := Lib.hid hcH
        have hbig : (hh.length : Int) ≤ 137438953474 := by
          have := spl_size 59 _ u (Nat.le_refl _)
          omega
        clear D hb0 hbh hsh hnh hhl hcH hu hes b40 b41 hm1 hm3 hm5 hrh
        have dh0 := HCH.out 0 hhp
        rw [Nat.add_zero] at dh0
        obtain ⟨hy0, hys0⟩ := parts_at HSH.out hhp
        have HY0 := Lib.hid hy0
        have hg0 : (0 : Int) < (hh.length : Int) := by omega
        have HY1 := Lib.hid (fun (h : 1 < hh.length) => parts_at HSH.out h)
        clear hy0
        generalize gS hh 0 = y0 at *
        go_wp2_with fail
        refine (l01Value_c y0 _ (by omega)).mono ?_
        rintro e w2 ⟨rfl, rfl⟩
        rw [HY0.out]
        have HST := Lib.hid (show spT u = valI (gT (splitL 59 u) 0) :: (if (splitL 59 u).length = 2 then (splitL 44 (gT (splitL 59 u) 1)).map valI else []) from rfl)
        obtain ⟨n, hn⟩ : ∃ n, valI (gT (splitL 59 u) 0) = n := ⟨_, rfl⟩
        rw [hn] at HST ⊢
        clear hn dh0 HY0
        have o2 := (own_one (e := 2) w1 (w.heap.size + 1) hz1' n).below ((Below.refl (w1.alloc (.cells #[.int .i64 n] 2)).heap.size _).alloc (Nat.le_refl _) (.cells #[.slice (some ⟨w1.heap.size, 0, none⟩) 1 1] 26)) (Nat.le_refl _)
        have hal : Below w1.heap.size w1 ((w1.alloc (.cells #[.int .i64 n] 2)).alloc (.cells #[.slice (some ⟨w1.heap.size, 0, none⟩) 1 1] 26)) := ((Below.refl _ _).alloc (Nat.le_refl _) _).alloc (by simp) _
        have B3 := Blk.new' (w := w1.alloc (.cells #[.int .i64 n] 2)) (t := 26) (cs := #[.slice (some ⟨w1.heap.size, 0, none⟩) 1 1]) (g := w1.heap.size + 1) (by simp)
        have D3 := D1.stays hal
        have hb3 := below_step hb1 hal
        have HC3 := Lib.hid (fun i (hi : i < hh.length) => (hal.cell (p := ⟨bH, oH + i, none⟩) hbH).trans (HCH.out i hi))
        clear D1 hb1 hal HCH
        go_upto_region 6 with fail
        generalize (w1.alloc (.cells #[.int .i64 n] 2)).alloc (.cells #[.slice (some ⟨w1.heap.size, 0, none⟩) 1 1] 26) = w3 at *
        have hN : w1.heap.size + 1 < w3.heap.size := B3.lt
        go_upto_if 39 with fail
        go_cut [] from 7 to 59 (fun wc => CutT w wc u (w1.heap.size + 1))
        case first =>
          by_cases h2 : hh.length = 2
          · have h2b : ((hh.length : Int) == 2) = true := by rw [h2]; rfl
            have hg1 : (1 : Int) < (hh.length : Int) := by omega
            obtain ⟨hy1, hys1⟩ := HY1.out (by omega)
            have d1 := HC3.out 1 (by omega)
            have HST2 := Lib.hid (show spT u = n :: (splitL 44 (lB (gS hh 1))).map valI by rw [HST.out, if_pos (by rw [HHL.out, h2]), hy1])
            clear hy1 h2 HC3 HST HY1
            generalize gS hh 1 = y1 at *
            go_wp2_with fail
            refine (l01Split_c y1 44 _ (by omega)).mono ?_
            rintro e w4 ⟨aw, kw, ws, rfl, hrw, hsw, hnw, hb4⟩
            have B4 := B3.stays hb4
            have D4 := D3.stays hb4
            have o4 := o2.below hb4 (Nat.le_refl _)
            have hb4' := below_step hb3 hb4
            have HSW := Lib.hid hsw
            have hwl : (splitL 44 (lB y1)).length = ws.length := by rw [← HSW.out]; simp
            have hwp : 0 < ws.length := by
              have h2 := List.length_pos_iff.2 (spl_ne 44 (lB y1))
              omega
            obtain ⟨bW, oW, cW, hew, hbW, hcW⟩ := hrw.cells hwp
            injection hew with f1 _ f3
            subst f1 f3
            have hbw3 : w3.heap.size ≤ bW := hnw bW rfl
            have hws : ws.length ≤ 137438953474 := by
              have := spl_size 44 _ (lB y1) (Nat.le_refl _)
              rw [lB_len] at this
              omega
            have HWL := Lib.hid hwl
            have HCW := Lib.hid hcW
            have HST3 : Hid (∀ i, i ≤ ws.length → (n :: ((splitL 44 (lB y1)).map valI).take i).length = i + 1) := Lib.hid (fun i hi => by simp; omega)
            have hz4 : w3.heap.size ≤ w4.heap.size := hb4.size
            clear B3 D3 o2 hb3 hb4 hsw hwl hcW hrw hnw d1
            go_wp2_with fail
            go_loopw [8] (fun iv wr => ∃ (j : Nat) (a : Option Addr) (k : Nat), j ≤ ws.length ∧ iv = .int .i64 (j : Int) ∧ Blk wr (w1.heap.size + 1) 26 #[.slice a (j + 1) k] ∧ OwnI wr (w.heap.size + 1) (.slice a (j + 1) k) (n :: ((splitL 44 (lB y1)).map valI).take j) ∧ (∀ q, (Value.slice a (j + 1) k).ownBlock = some q → q ≠ bW ∧ q ≠ w1.heap.size + 1) ∧ Blk wr w.heap.size 26 #[.slice none 0 0] ∧ Below w.heap.size w wr ∧ (∀ i, i < ws.length → wr.cell? ⟨bW, oW + i, none⟩ = some (.string (gS ws i))) ∧ bW < wr.heap.size) (fun iv _ => ws.length - (intOf iv).toNat)
            case atStart => exact ⟨0, some ⟨w1.heap.size, 0, none⟩, 1, Nat.zero_le _, rfl, B4, by simpa using o4, fun q hq => by have hq' : w1.heap.size = q := Option.some.inj hq; omega, D4, hb4', HCW.out, hbW⟩
            case round =>
              obtain ⟨j, a, k, hj, rfl, B5, o5, hne, D5, hb5, hcell, hbw⟩ := hrel
              clear B4 D4 o4 hb4'
              obtain ⟨wo, rfl⟩ : ∃ wo : World, wo = wr := ⟨_, rfl⟩
              by_cases hlt : j < ws.length
              · have hki : (j : Int) < (ws.length : Int) := by omega
                have hk0 : (0 : Int) ≤ (j : Int) := by omega
                have dW := hcell j hlt
                obtain ⟨hx, hxs⟩ := parts_at HSW.out hlt
                rw [lB_len] at hxs
                have HX := Lib.hid (show valI (lB (gS ws j)) = valI (gT (splitL 44 (lB y1)) j) by rw [hx])
                have HCELL := Lib.hid hcell
                clear hx hcell
                generalize gS ws j = x at *
                have HNX := Lib.hid (map_step (l := splitL 44 (lB y1)) (j := j) (by have := HWL.out; omega))
                obtain ⟨v, hv⟩ : ∃ v, valI (gT (splitL 44 (lB y1)) j) = v := ⟨_, rfl⟩
                rw [hv] at HX HNX
                have HLO := Lib.hid (HST3.out j hj)
                clear hv
                generalize ((splitL 44 (lB y1)).map valI).take j = L at *
                have l5 := B5.lt
                have c5 := B5.cell 0
                have f5 := B5.free 0
                have HNE := Lib.hid hne
                clear hne
                have hbase : w.heap.size + 1 ≤ wo.heap.size := by have := D5.lt; omega
                have hO6 : OwnI (wo.drew.alloc (.cells #[.int .i64 v] 2)) (w.heap.size + 1) (.slice a (j + 1) k) (n :: L) := (o5.below (Below.refl wo.heap.size wo).drew (Nat.le_refl _)).below ((Below.refl wo.drew.heap.size wo.drew).alloc (Nat.le_refl _) _) (Nat.le_refl _)
                go_upto_region 11 with fail
                go_region_law (first
                  | (refine step_push rfl (.tmp 51) (.tmp 57) 24 rfl (w.heap.size + 1) 2 i0 Tryd.underlying24 hi hz0 hz1 hz2 (.slice a (j + 1) k) (n :: L) v wo.heap.size rfl hO6 rfl (Blk.new wo.drew _ _) (by rw [HLO.out]; omega) (by simp; omega) ?_; intro g2 cap2 w6 hO7 hk6 hw6 hl6; rw [HLO.out] at hO7 ⊢; have B6 := ((B5.drewN 1).alloc (.cells #[.int .i64 v] 2)).keeps hk6 (fun e => (HNE.out _ e).2 rfl); have c6 := B6.cell 0; have f6 := B6.free 0)
                  | (go_simp; go_at_call 34; (with_reducible refine (l01Value_c x _ (by omega)).mono ?_); rintro e w5 ⟨rfl, rfl⟩; rw [HX.out])
                  | fail)
                all_goals
                  have hbd : Below wo.heap.size wo (wo.drew.alloc (.cells #[.int .i64 v] 2)) := ((Below.refl _ _).drew).alloc (Nat.le_refl _) _
                  have hne7 : ∀ q, (Value.slice (some ⟨g2, 0, none⟩) (j + 1 + 1) cap2).ownBlock = some q → q ≠ bW ∧ q ≠ w1.heap.size + 1 := fun q hq => by
                    have hq' : g2 = q := Option.some.inj hq
                    rcases hw6 with h | h
                    · have := HNE.out g2 h
                      omega
                    · simp at h; omega
                  have D6 := (D5.stays hbd).keeps hk6 (fun e => by have := (o5.block _ e).1; omega)
                  have hb6 := (below_step hb5 hbd).trans (hk6.below (B := w.heap.size) (below_step hb5 hbd).size (fun b e => by have := (o5.block _ e).1; omega))
                  have hcc := fun i (hi : i < ws.length) => (hk6.cell (p := ⟨bW, oW + i, none⟩) (Nat.lt_of_lt_of_le hbw hbd.size) (fun e => (HNE.out _ e).1 rfl)).trans ((hbd.cell (p := ⟨bW, oW + i, none⟩) hbw).trans (HCELL.out i hi))
                  have hbw6 : bW < w6.heap.size := Nat.lt_of_lt_of_le (Nat.lt_of_lt_of_le hbw hbd.size) hk6.size
                  have HF := Lib.hid (show ∃ (a' : Option Addr) (k' : Nat), Blk (w6.setCell ⟨w1.heap.size + 1, 0, none⟩ (.slice (some ⟨g2, 0, none⟩) (j + 1 + 1) cap2)) (w1.heap.size + 1) 26 #[.slice a' (j + 1 + 1) k'] ∧ OwnI (w6.setCell ⟨w1.heap.size + 1, 0, none⟩ (.slice (some ⟨g2, 0, none⟩) (j + 1 + 1) cap2)) (w.heap.size + 1) (.slice a' (j + 1 + 1) k') (n :: L ++ [v]) ∧ (∀ q, (Value.slice a' (j + 1 + 1) k').ownBlock = some q → q ≠ bW ∧ q ≠ w1.heap.size + 1) ∧ Blk (w6.setCell ⟨w1.heap.size + 1, 0, none⟩ (.slice (some ⟨g2, 0, none⟩) (j + 1 + 1) cap2)) w.heap.size 26 #[.slice none 0 0] ∧ Below w.heap.size w (w6.setCell ⟨w1.heap.size + 1, 0, none⟩ (.slice (some ⟨g2, 0, none⟩) (j + 1 + 1) cap2)) ∧ (∀ i, i < ws.length → (w6.setCell ⟨w1.heap.size + 1, 0, none⟩ (.slice (some ⟨g2, 0, none⟩) (j + 1 + 1) cap2)).cell? ⟨bW, oW + i, none⟩ = some (.string (gS ws i))) ∧ bW < (w6.setCell ⟨w1.heap.size + 1, 0, none⟩ (.slice (some ⟨g2, 0, none⟩) (j + 1 + 1) cap2)).heap.size from
                    ⟨_, _, B6.set 0 _, hO7.other (g := w1.heap.size + 1) (fun q hq => (hne7 q hq).2) 0 _, hne7, D6.other (g' := w1.heap.size + 1) (by omega) 0 _, hb6.setCell (p := ⟨w1.heap.size + 1, 0, none⟩) (by simp; omega) _, fun i hi => by rw [World.cell?_setCell_other _ _ _ _ (by intro h; simp only [Addr.mk.injEq] at h; omega)]; exact hcc i hi, by simpa using hbw6⟩)
                  clear hbd hne7 D6 hb6 hcc hbw6 B6 c6 f6 hO7 hk6 hw6 hl6
                  clear B5 o5 D5 hb5 HCELL dW hO6 c5 f5
                  obtain ⟨a', k', B7, o7, hne7, D7, hb7, hc7, hbw7⟩ := HF.out
                  rw [show n :: L ++ [v] = n :: (L ++ [v]) from rfl, ← HNX.out] at o7
                  have HG := Lib.hid (And.intro B7 (And.intro o7 (And.intro hne7 (And.intro D7 (And.intro hb7 (And.intro hc7 hbw7))))))
                  clear B7 o7 hne7 D7 hb7 hc7 hbw7 HF
                  go_wp2
                  go_roundw
                  case rel => exact ⟨j + 1, a', k', by omega, by go_num, HG.out⟩
                  case measure => simp [intOf]; omega
              · have hke : j = ws.length := by omega
                have hki : ¬ (j : Int) < (ws.length : Int) := by omega
                have hall : n :: ((splitL 44 (lB y1)).map valI).take j = spT u := by
                  rw [HST2.out, List.take_of_length_le (by rw [List.length_map, HWL.out]; omega)]
                rw [hall] at o5
                have hlen := HST3.out j hj
                rw [hall] at hlen
                have HF := Lib.hid (show CutT w wo u (w1.heap.size + 1) from ⟨a, j + 1, k, B5, o5, hlen, fun q hq => (hne q hq).2, D5, by omega, hb5⟩)
                clear hall o5 B5 D5 hb5 hne hcell hbw hke hlen hj
                go_wp2
                go_meet
                exact HF.out
          · have h2b : ((hh.length : Int) == 2) = false := beq_eq_false_iff_ne.2 (by omega)
            have HF := Lib.hid (show CutT w w3 u (w1.heap.size + 1) from
              ⟨some ⟨w1.heap.size, 0, none⟩, 1, 1, B3, by rw [HST.out, if_neg (by rw [HHL.out]; exact h2)]; exact o2, by rw [HST.out, if_neg (by rw [HHL.out]; exact h2)]; rfl, fun q hq => by have hq' : w1.heap.size = q := Option.some.inj hq; omega, D3, by omega, hb3⟩)
            clear B3 o2 D3 hb3
            go_wp2
            go_meet
            exact HF.out
        case rest =>
          obtain ⟨a6, m6, k6, B6, o6, hl6, hne6, D6, hNn, hb6⟩ := hcut
          clear B3 o2 D3 hb3 HC3 HST HY1
          have HL6 := Lib.hid hl6
          have hz6 : w1.heap.size + 1 < wc.heap.size := B6.lt
          clear hl6
          by_cases hg2 : 2 < hh.length
          · have hg2b : (hh.length : Int) > 2 := by omega
            obtain ⟨rfl, rfl⟩ := pb_no HR.out HFR.out (fun h => by have := h.1; rw [HHL.out] at this; omega)
            clear HR HFR o6 B6 hne6 hg2
            have f0 := D6.free 0
            have e0 := D6.cell 0
            have q0 := (D6.set 0 (.slice none 0 0)).cell 0
            have hfin := hb6.setCell (p := ⟨w.heap.size, 0, none⟩) (Nat.le_refl _) (.slice none 0 0)
            go_wp2
            exact bodyPost_ret (v := .tuple #[.agg #[.slice none 0 0], .int .i64 6]) (by simp [results, Tryd.results11, go_sem, q0]) rfl (retBC_err hfin)
          · have hg2b : ¬ (hh.length : Int) > 2 := by omega
            have H2 := Lib.hid (show (splitL 59 u).length ≤ 2 by rw [HHL.out]; omega)
            obtain ⟨L, hL⟩ : ∃ L, spT u = L := ⟨_, rfl⟩
            rw [hL] at o6 HL6
            have HL := Lib.hid hL
            clear hL hg2
            have c6 := B6.cell 0
            go_wp2_with fail
            refine (l03Is_c _ L _ o6.rd).mono ?_
            rintro e w7 ⟨rfl, hb7⟩
            have D7 := D6.stays hb7
            have B7 := B6.stays hb7
            have o7 := o6.below hb7 (Nat.le_refl _)
            have hb8 := below_step hb6 hb7
            have hz7 : wc.heap.size ≤ w7.heap.size := hb7.size
            clear c6 B6 D6 o6 hb6 hb7 hne6
            cases hcl : braB L
            · obtain ⟨rfl, rfl⟩ := pb_no HR.out HFR.out (fun h => by have := h.2.1; rw [HL.out, hcl] at this; cases this)
              clear HR HFR o7 B7 hcl HL
              have f0 := D7.free 0
              have e0 := D7.cell 0
              have q0 := (D7.set 0 (.slice none 0 0)).cell 0
              have hfin := hb8.setCell (p := ⟨w.heap.size, 0, none⟩) (Nat.le_refl _) (.slice none 0 0)
              go_wp2
              exact bodyPost_ret (v := .tuple #[.agg #[.slice none 0 0], .int .i64 6]) (by simp [results, Tryd.results11, go_sem, q0]) rfl (retBC_err hfin)
            · have hok := braB_iff.1 hcl
              have c7 := B7.cell 0
              go_wp2_with fail
              refine (l03Text_c _ L _ o7.rd ⟨hok.len, by have := bra_len hok; omega⟩ (fun i hi => by have := hok.num i hi; omega)).mono ?_
              rintro e w9 ⟨t, rfl, ht, hb9⟩
              have D9 := D7.stays hb9
              have B9 := B7.stays hb9
              have o9 := o7.below hb9 (Nat.le_refl _)
              have hbw := below_step hb8 hb9
              have hz9 : w7.heap.size ≤ w9.heap.size := hb9.size
              clear c7 B7 D7 o7 hb8 hb9
              by_cases hts : t = s
              · obtain ⟨hT, rfl⟩ := pb_uniq HR.out hok (by rw [← ht, hts])
                subst hT
                have hne : (t.toList == s.toList) = true := by rw [hts]; exact beq_self_eq_true _
                have c7 := B9.cell 0
                have f0 := D9.free 0
                have e0 := D9.cell 0
                have q0 := (D9.set 0 (.slice a6 m6 k6)).cell 0
                have HF := Lib.hid (show RetBC w T 0 (.returned (.tuple #[.agg #[.slice a6 m6 k6], .int .i64 0])) (w9.setCell ⟨w.heap.size, 0, none⟩ (.slice a6 m6 k6)) from
                  ⟨a6, k6, by rw [HL6.out], by rw [HL6.out]; exact (o9.other (g := w.heap.size) (fun q hq => by have := (o9.block q hq).1; omega) 0 _).base_le (by omega), hbw.setCell (p := ⟨w.heap.size, 0, none⟩) (Nat.le_refl _) _⟩)
                clear HR HFR HL hcl o9 B9 D9 hbw hok ht hts
                go_wp2
                exact bodyPost_ret (v := .tuple #[.agg #[.slice a6 m6 k6], .int .i64 0]) (by simp [results, Tryd.results11, go_sem, q0]) rfl HF.out
              · obtain ⟨rfl, rfl⟩ := pb_no HR.out HFR.out (fun h => hts (lB_inj (by rw [ht, ← HL.out]; exact h.2.2)))
                have hne : (t.toList == s.toList) = false := by
                  rw [beq_eq_false_iff_ne]
                  intro e
                  rw [toList_lB, toList_lB] at e
                  exact hts (lB_inj e)
                clear HR HFR o9 B9 hcl HL hok ht hts
                have f0 := D9.free 0
                have e0 := D9.cell 0
                have q0 := (D9.set 0 (.slice none 0 0)).cell 0
                have hfin := hbw.setCell (p := ⟨w.heap.size, 0, none⟩) (Nat.le_refl _) (.slice none 0 0)
                go_wp2
                exact bodyPost_ret (v := .tuple #[.agg #[.slice none 0 0], .int .i64 6]) (by simp [results, Tryd.results11, go_sem, q0]) rfl (retBC_err hfin)
      · have b41 : (((s[s.size - 1]'hl).toNat : Int) != 41) = true := by
          rw [bne_iff_ne]
          intro e
          exact h41 (UInt8.toNat_inj.1 (by have : (41 : UInt8).toNat = 41 := rfl; omega))
        obtain ⟨rfl, rfl⟩ := pb_fr HR.out (fr_bytes_no fun _ h => h41 h.2)
        clear HR h41 h40 h3
        go_enter Tryd.func11, Tryd.ntmps11
        go_upto_region 1 with fail
        generalize w.alloc (.cells #[.slice none 0 0] 26) = w0 at *
        have f0 := D.free 0
        have e0 := D.cell 0
        have q0 := (D.set 0 (.slice none 0 0)).cell 0
        have hfin := hb0.setCell (p := ⟨w.heap.size, 0, none⟩) (Nat.le_refl _) (.slice none 0 0)
        go_wp2
        exact bodyPost_ret (v := .tuple #[.agg #[.slice none 0 0], .int .i64 6]) (by simp [results, Tryd.results11, go_sem, q0]) rfl (retBC_err hfin)
    · have b40 : (((s[0]'hp).toNat : Int) != 40) = true := by
        rw [bne_iff_ne]
        intro e
        exact h40 (UInt8.toNat_inj.1 (by have : (40 : UInt8).toNat = 40 := rfl; omega))
      obtain ⟨rfl, rfl⟩ := pb_fr HR.out (fr_bytes_no fun _ h => h40 h.1)
      clear HR h40 h3
      go_enter Tryd.func11, Tryd.ntmps11
      go_upto_region 1 with fail
      generalize w.alloc (.cells #[.slice none 0 0] 26) = w0 at *
      have f0 := D.free 0
      have e0 := D.cell 0
      have q0 := (D.set 0 (.slice none 0 0)).cell 0
      have hfin := hb0.setCell (p := ⟨w.heap.size, 0, none⟩) (Nat.le_refl _) (.slice none 0 0)
      go_wp2
      exact bodyPost_ret (v := .tuple #[.agg #[.slice none 0 0], .int .i64 6]) (by simp [results, Tryd.results11, go_sem, q0]) rfl (retBC_err hfin)
end Go.Proofs.YtglghdkjppcedaaDoor

/- Branches of exponents: the terms that are needed. No program in sight. -/
namespace Go.Proofs.YtglghdkjppcedaaDoor
open Go.RowKit

theorem gI_snocL {T : List Int} {x : Int} {i : Nat} (h : i < T.length) : gI (T ++ [x]) i = gI T i := by
  rw [gI_lt (by simp; omega), gI_lt h, List.getElem_append_left h]
theorem gI_snocR (T : List Int) (x : Int) : gI (T ++ [x]) T.length = x := by
  rw [gI_lt (by simp)]; simp
theorem eI_snocL {T : List Int} {x : Int} : ∀ i, i < T.length → eI (T ++ [x]) i = eI T i := by
  intro i
  induction i with
  | zero => intro h; exact gI_snocL h
  | succ i ih =>
    intro h
    rw [eI_succ, eI_succ, ih (by omega), gI_snocL h]
theorem eI_snocR {T : List Int} {x : Int} (h : 0 < T.length) : eI (T ++ [x]) T.length = gcdI (eI T (T.length - 1)) x := by
  obtain ⟨k, hk⟩ : ∃ k, T.length = k + 1 := ⟨T.length - 1, by omega⟩
  have e := gI_snocR T x
  rw [hk] at e ⊢
  rw [eI_succ, e, eI_snocL _ (by omega), Nat.add_sub_cancel]
theorem gcdI_mod {e x : Int} (he : 0 < e) (h : x % e = 0) : gcdI e x = e := by
  unfold gcdI
  have h1 : e.natAbs ∣ x.natAbs := Int.natAbs_dvd_natAbs.2 (Int.dvd_of_emod_eq_zero h)
  rw [Nat.gcd_eq_left h1]
  omega
theorem gcdI_lt {e x : Int} (he : 0 < e) (h : ¬ x % e = 0) : gcdI e x < e := by
  have h1 := gcdI_le_left (b := x) he
  by_cases h2 : gcdI e x = e
  · exfalso
    have h3 := gcdI_dvd_right e x
    rw [h2] at h3
    exact h (Int.emod_eq_zero_of_dvd h3)
  · omega
/-- The divisor behind k exponents. -/
def bE (n : Int) (L : List Int) : Nat → Int
  | 0 => n
  | k + 1 => gcdI (bE n L k) (gI L k)
/-- The terms behind k exponents. -/
def bT (n : Int) (L : List Int) : Nat → List Int
  | 0 => [n]
  | k + 1 => if gI L k % bE n L k = 0 then bT n L k else bT n L k ++ [gI L k]
theorem bE_pos {n : Int} (L : List Int) (h : 0 < n) : ∀ k, 0 < bE n L k := by
  intro k
  induction k with
  | zero => exact h
  | succ k ih => exact gcdI_pos ih
theorem bE_le {n : Int} (L : List Int) (h : 0 < n) : ∀ k, bE n L k ≤ n := by
  intro k
  induction k with
  | zero => exact Int.le_refl _
  | succ k ih => exact Int.le_trans (gcdI_le_left (bE_pos L h k)) ih
theorem bT_no {n : Int} {L : List Int} {k : Nat} (h : gI L k % bE n L k = 0) : bT n L (k + 1) = bT n L k := by
  show (if _ then _ else _) = _
  rw [if_pos h]
theorem bT_yes {n : Int} {L : List Int} {k : Nat} (h : ¬ gI L k % bE n L k = 0) : bT n L (k + 1) = bT n L k ++ [gI L k] := by
  show (if _ then _ else _) = _
  rw [if_neg h]
theorem bE_no {n : Int} {L : List Int} {k : Nat} (hn : 0 < n) (h : gI L k % bE n L k = 0) : bE n L (k + 1) = bE n L k := gcdI_mod (bE_pos L hn k) h
/-- What the terms behind k exponents are. -/
structure BoI (n : Int) (L : List Int) (k : Nat) (T : List Int) : Prop where
  len : 0 < T.length
  size : T.length ≤ k + 1
  zero : gI T 0 = n
  asc : ∀ i, 1 ≤ i → i + 1 < T.length → gI T i < gI T (i + 1)
  mem : ∀ i, 1 ≤ i → i < T.length → ∃ j, j < k ∧ gI T i = gI L j
  fall : ∀ i, i + 1 < T.length → eI T (i + 1) < eI T i
  last : eI T (T.length - 1) = bE n L k
  one : 1 < T.length → ¬ gI T 1 % n = 0
theorem asc_lt {L : List Int} (h : ∀ i, i + 1 < L.length → gI L i < gI L (i + 1)) {j k : Nat} (hjk : j < k) (hk : k < L.length) : gI L j < gI L k := by
  induction k with
  | zero => omega
  | succ k ih =>
    have h1 := h k hk
    by_cases e : j = k
    · subst e; exact h1
    · have := ih (by omega) (by omega)
      omega
theorem boI_step {n : Int} {L T : List Int} {k : Nat} (hn : 0 < n) (hasc : ∀ i, i + 1 < L.length → gI L i < gI L (i + 1)) (hk : k < L.length) (h : BoI n L k T) (hT : T = bT n L k) : BoI n L (k + 1) (bT n L (k + 1)) := by
  by_cases hd : gI L k % bE n L k = 0
  · rw [bT_no hd, ← hT]
    exact ⟨h.len, by have := h.size; omega, h.zero, h.asc, fun i h1 hi => by obtain ⟨j, hj, e⟩ := h.mem i h1 hi; exact ⟨j, by omega, e⟩, h.fall, by rw [bE_no hn hd]; exact h.last, h.one⟩
  · rw [bT_yes hd, ← hT]
    have hl := h.len
    have hlt := gcdI_lt (bE_pos L hn k) hd
    refine ⟨by simp, by have := h.size; simp; omega, by rw [gI_snocL hl]; exact h.zero, ?_, ?_, ?_, ?_, ?_⟩
    · intro i h1 hi
      simp only [List.length_append, List.length_singleton] at hi
      by_cases e : i + 1 = T.length
      · rw [e, gI_snocR, gI_snocL (by omega)]
        obtain ⟨j, hj, e2⟩ := h.mem i h1 (by omega)
        rw [e2]
        exact asc_lt hasc hj hk
      · rw [gI_snocL (by omega), gI_snocL (by omega)]
        exact h.asc i h1 (by omega)
    · intro i h1 hi
      simp only [List.length_append, List.length_singleton] at hi
      by_cases e : i = T.length
      · exact ⟨k, by omega, by rw [e, gI_snocR]⟩
      · obtain ⟨j, hj, e2⟩ := h.mem i h1 (by omega)
        exact ⟨j, by omega, by rw [gI_snocL (by omega), e2]⟩
    · intro i hi
      simp only [List.length_append, List.length_singleton] at hi
      by_cases e : i + 1 = T.length
      · rw [e, eI_snocR hl, eI_snocL _ (by omega), show i = T.length - 1 by omega, h.last]
        exact hlt
      · rw [eI_snocL _ (by omega), eI_snocL _ (by omega)]
        exact h.fall i (by omega)
    · simp only [List.length_append, List.length_singleton, Nat.add_sub_cancel]
      rw [eI_snocR hl, h.last]
      rfl
    · intro _
      by_cases e : T.length = 1
      · have e1 : gI (T ++ [gI L k]) 1 = gI L k := by rw [← e]; exact gI_snocR _ _
        have e2 : bE n L k = n := by rw [← h.last, e]; exact h.zero
        rw [e1, ← e2]; exact hd
      · rw [gI_snocL (by omega)]
        exact h.one (by omega)
theorem boI_all {n : Int} {L : List Int} (hn : 0 < n) (hasc : ∀ i, i + 1 < L.length → gI L i < gI L (i + 1)) : ∀ k, k ≤ L.length → BoI n L k (bT n L k) := by
  intro k
  induction k with
  | zero =>
    intro _
    exact ⟨by simp [bT], by simp [bT], rfl, fun i h1 hi => by simp [bT] at hi, fun i h1 hi => by simp [bT] at hi; omega, fun i hi => by simp [bT] at hi, rfl, fun h => by simp [bT] at h⟩
  | succ k ih =>
    intro hk
    exact boI_step hn hasc (by omega) (ih (by omega)) rfl

/-- The numbers are in their ranges. -/
def boR (n : Int) (L : List Int) : Bool := inB n 1 64 && (decide (L.length ≤ 64) && (ascB L && allIn L 1 2000))
def boF (n : Int) (L : List Int) : List Int := bT n L L.length
def boB (n : Int) (L : List Int) : Bool := boR n L && braB (boF n L)
def boC (n : Int) (L : List Int) : Int := if boR n L = true then (if braB (boF n L) = true then 0 else 5) else 2
theorem boR_iff {n : Int} {L : List Int} : boR n L = true ↔ (1 ≤ n ∧ n ≤ 64) ∧ L.length ≤ 64 ∧ (∀ i, i + 1 < L.length → gI L i < gI L (i + 1)) ∧ ∀ i, i < L.length → 1 ≤ gI L i ∧ gI L i ≤ 2000 := by
  unfold boR
  simp only [Bool.and_eq_true, decide_eq_true_eq, inB_iff, ascB_iff, allIn_iff]
theorem boC_no {n : Int} {L : List Int} (h : boR n L = false) : boC n L = 2 ∧ boB n L = false := by
  unfold boC boB
  rw [h]
  exact ⟨rfl, rfl⟩
theorem boC_bad {n : Int} {L : List Int} (h : boR n L = true) (h2 : braB (boF n L) = false) : boC n L = 5 ∧ boB n L = false := by
  unfold boC boB
  rw [h, h2]
  exact ⟨rfl, rfl⟩
theorem boC_ok {n : Int} {L : List Int} (h : boR n L = true) (h2 : braB (boF n L) = true) : boC n L = 0 ∧ boB n L = true := by
  unfold boC boB
  rw [h, h2]
  exact ⟨rfl, rfl⟩
/-- What the program asks at the end. -/
theorem bra_boe {n : Int} {L : List Int} (h : boR n L = true) : braB (boF n L) = true ↔ bE n L L.length ≤ 1 ∧ (1 < (boF n L).length → n ≤ gI (boF n L) 1) := by
  obtain ⟨h1, _, h3, h4⟩ := boR_iff.1 h
  have hI := boI_all (n := n) (by omega) h3 L.length (Nat.le_refl _)
  rw [braB_iff]
  unfold boF at *
  constructor
  · intro hb
    refine ⟨by rw [← hI.last, hb.last]; exact Int.le_refl _, fun hl => ?_⟩
    have h5 : gI (bT n L L.length) 0 < gI (bT n L L.length) 1 := hb.asc 0 (by omega)
    rw [hI.zero] at h5
    omega
  · rintro ⟨he, hl⟩
    refine ⟨hI.len, by rw [hI.zero]; exact h1, fun i hi => ?_, fun i hi => ?_, hI.fall, by rw [hI.last]; have := bE_pos L (n := n) (by omega) L.length; omega⟩
    · by_cases e : i = 0
      · subst e
        have h5 := hl hi
        have h6 := hI.one hi
        rw [hI.zero]
        by_cases e2 : gI (bT n L L.length) 1 = n
        · rw [e2] at h6
          exact absurd (Int.emod_self) h6
        · show n < gI (bT n L L.length) 1
          omega
      · exact hI.asc i (by omega) hi
    · by_cases e : i = 0
      · subst e; rw [hI.zero]; omega
      · obtain ⟨j, hj, e2⟩ := hI.mem i (by omega) hi
        rw [e2]; exact h4 j hj
/-- The terms are exponents. -/
theorem boe_mem {n : Int} {L : List Int} (h : boR n L = true) {i : Nat} (h1 : 1 ≤ i) (hi : i < (boF n L).length) : gI (boF n L) i ∈ L := by
  obtain ⟨h1', _, h3, _⟩ := boR_iff.1 h
  obtain ⟨j, hj, e⟩ := (boI_all (n := n) (by omega) h3 L.length (Nat.le_refl _)).mem i h1 hi
  unfold boF
  rw [e]
  exact gI_mem hj
theorem boe_len {n : Int} {L : List Int} (hn : 0 < n) (h3 : ∀ i, i + 1 < L.length → gI L i < gI L (i + 1)) {k : Nat} (hk : k ≤ L.length) : 0 < (bT n L k).length ∧ (bT n L k).length ≤ k + 1 :=
  ⟨(boI_all hn h3 k hk).len, (boI_all hn h3 k hk).size⟩
end Go.Proofs.YtglghdkjppcedaaDoor
