/- Contract: spec.BranchOfExponents. -/
import Derived.Test.YtglghdkjppcedaaDoorPart11
import Derived.Deep.RegionLaw
import Derived.Test.YtglghdkjppcedaaDoorPart10
namespace Go.Proofs.YtglghdkjppcedaaDoor
open Go.RowKit

theorem boR_bad1 {n : Int} {L : List Int} {j : Nat} (hj : j < L.length) (h : inB (gI L j) 1 2000 = false) : boR n L = false := by
  cases hb : boR n L
  · rfl
  · have := (boR_iff.1 hb).2.2.2 j hj
    rw [inB_iff.2 this] at h
    cases h
theorem boR_bad2 {n : Int} {L : List Int} {j : Nat} (hj : j + 1 < L.length) (h : gI L (j + 1) ≤ gI L j) : boR n L = false := by
  cases hb : boR n L
  · rfl
  · have := (boR_iff.1 hb).2.2.1 j hj
    omega
set_option maxRecDepth 100000 in
set_option maxHeartbeats 4000000 in
theorem specBoe_c (n : Int) (v : Value) (L : List Int) (w : World) (h : Rd w v L) (hn9 : -1000000000000 ≤ n ∧ n ≤ 1000000000000) (hl9 : L.length ≤ 1000000) :
    Calls Tryd.prog 14 #[.int .i64 n, v] w (RetBC w (okL (boB n L) (boF n L)) (boC n L)) := by
  obtain ⟨i0, hi, hz0, hz1, hz2⟩ := info_parts Tryd.infoI
  obtain ⟨av, kv, rfl⟩ := h.len0
  have D := Blk.new w 26 #[.slice none 0 0]
  have hb0 : Below w.heap.size w (w.alloc (.cells #[.slice none 0 0] 26)) := (Below.refl _ _).alloc (Nat.le_refl _) _
  have HBR := Lib.hid (show boR n L = (inB n 1 64 && (decide (L.length ≤ 64) && (ascB L && allIn L 1 2000))) from rfl)
  go_enter Tryd.func14, Tryd.ntmps14
  go_upto_region 1 with fail
  generalize w.alloc (.cells #[.slice none 0 0] 26) = w0 at *
  go_wp2_with fail
  refine (l01In_c n 1 64 _).mono ?_
  rintro e w1 ⟨rfl, rfl⟩
  cases hin : inB n 1 64
  · obtain ⟨e1, e2⟩ := boC_no (n := n) (L := L) (by rw [HBR.out, hin]; rfl)
    clear HBR hin
    have HE1 := Lib.hid e1
    have HE2 := Lib.hid e2
    clear e1 e2
    have f0 := D.free 0
    have e0' := D.cell 0
    have q0 := (D.set 0 (.slice none 0 0)).cell 0
    have hfin := hb0.setCell (p := ⟨w.heap.size, 0, none⟩) (Nat.le_refl _) (.slice none 0 0)
    go_wp2
    exact bodyPost_ret (v := .tuple #[.agg #[.slice none 0 0], .int .i64 2]) (by simp [results, Tryd.results14, go_sem, q0]) rfl (by rw [HE1.out, HE2.out, okL_false rfl]; exact retBC_err hfin)
  · by_cases h64 : L.length ≤ 64
    · have h64g : ¬ (L.length : Int) > 64 := by omega
      have HRD := Lib.hid h
      have HIN := Lib.hid hin
      clear h hin
      go_wp2_with fail
      go_loopw [6] (fun iv wr => ∃ j : Nat, j ≤ L.length ∧ iv = .int .i64 (j : Int) ∧ (∀ q, q < j → 1 ≤ gI L q ∧ gI L q ≤ 2000) ∧ (∀ q, q + 1 < j → gI L q < gI L (q + 1)) ∧ Blk wr w.heap.size 26 #[.slice none 0 0] ∧ Below w.heap.size w wr) (fun iv _ => L.length - (intOf iv).toNat)
      case atStart => exact ⟨0, Nat.zero_le _, rfl, fun q hq => by omega, fun q hq => by omega, D, hb0⟩
      case round =>
        obtain ⟨j, hj, rfl, hr1, hr2, D1, hb1⟩ := hrel
        clear D hb0
        obtain ⟨wo, rfl⟩ : ∃ wo : World, wo = wr := ⟨_, rfl⟩
        have HR1 := Lib.hid hr1
        have HR2 := Lib.hid hr2
        clear hr1 hr2
        by_cases hlt : j < L.length
        · have hki : (j : Int) < (L.length : Int) := by omega
          have hk0 : (0 : Int) ≤ (j : Int) := by omega
          obtain ⟨bL, oL, cL, heL, _, _, hbL, hcL⟩ := HRD.out.cells (by omega)
          injection heL with f1 _ f3
          subst f1 f3
          have dL := (hb1.cell (p := ⟨bL, oL + j, none⟩) hbL).trans (hcL j hlt)
          have hbd := below_step hb1 (Below.refl wo.heap.size wo).drew
          have hDN : ∀ m, Below w.heap.size w (wo.drewN m) := fun m => below_drewN hb1 m
          have HDN := Lib.hid hDN
          have HD1 := Lib.hid (fun m => D1.drewN m)
          clear hbd hDN
          cases hxi : inB (gI L j) 1 2000
          · obtain ⟨e1, e2⟩ := boC_no (n := n) (L := L) (boR_bad1 hlt hxi)
            have HE1 := Lib.hid e1
            have HE2 := Lib.hid e2
            clear e1 e2 hcL HR1 HR2
            generalize gI L j = x at *
            go_wp2_with fail
            go_quiet ((go_at_call 40; exact quiet_eq ((l01In_c _ _ _ _).mono fun e w' ⟨he, hw'⟩ => ⟨by rw [he, hxi], hw'⟩)))
            have D2 := HD1.out nq
            have hb2 := HDN.out nq
            clear HD1 HDN D1 hb1 dL
            generalize wo.drewN nq = w2 at *
            have f0 := D2.free 0
            have e0' := D2.cell 0
            have q0 := (D2.set 0 (.slice none 0 0)).cell 0
            have hfin := hb2.setCell (p := ⟨w.heap.size, 0, none⟩) (Nat.le_refl _) (.slice none 0 0)
            go_wp2
            exact bodyPost_ret (v := .tuple #[.agg #[.slice none 0 0], .int .i64 2]) (by simp [results, Tryd.results14, go_sem, q0]) rfl (by rw [HE1.out, HE2.out, okL_false rfl]; exact retBC_err hfin)
          · have hx12 := inB_iff.1 hxi
            have HNEXT := Lib.hid (show ∀ q, q < j + 1 → 1 ≤ gI L q ∧ gI L q ≤ 2000 from fun q hq => by
              by_cases e : q = j
              · subst e; exact hx12
              · exact HR1.out q (by omega))
            by_cases hj0 : j = 0
            · subst hj0
              have HN2 := Lib.hid (show ∀ q, q + 1 < 0 + 1 → gI L q < gI L (q + 1) from fun q hq => by omega)
              clear hcL HR1 HR2
              generalize gI L 0 = x at *
              rw [Nat.add_zero] at dL
              have hki0 : (0 : Int) < (L.length : Int) := by omega
              have hji : ((0 : Nat) : Int) = 0 := rfl
              rw [hji]
              clear hji hki hk0
              go_wp2_with fail
              go_quiet ((go_at_call 40; exact quiet_eq ((l01In_c _ _ _ _).mono fun e w' ⟨he, hw'⟩ => ⟨by rw [he, hxi], hw'⟩)))
              go_wp2
              go_roundw
              case rel => exact ⟨0 + 1, by omega, by go_num, HNEXT.out, HN2.out, HD1.out _, HDN.out _⟩
              case measure => simp [intOf]; omega
            · obtain ⟨i, rfl⟩ : ∃ i, j = i + 1 := ⟨j - 1, by omega⟩
              have dP := (hb1.cell (p := ⟨bL, oL + i, none⟩) hbL).trans (hcL i (by omega))
              have hji : ((i + 1 : Nat) : Int) = (i : Int) + 1 := by omega
              have f2 : IntKind.i64.wrap (i : Int) = (i : Int) := IntWalk.i64_in _ (by omega)
              have f5 : (0 : Int) ≤ (i : Int) := by omega
              have f6 : (i : Int) < (L.length : Int) := by omega
              have f7 : ((i : Int) + 1).toNat = i + 1 := by omega
              have f8 : (i : Int) + 1 - 1 = (i : Int) := by omega
              have f9 : (i : Int) + 1 < (L.length : Int) := by omega
              have f10 : (0 : Int) < (i : Int) + 1 := by omega
              have f11 : (0 : Int) ≤ (i : Int) + 1 := by omega
              have HJI := Lib.hid hji
              rw [hji]
              clear hji hki hk0 hj0
              by_cases hle : gI L (i + 1) ≤ gI L i
              · obtain ⟨e1, e2⟩ := boC_no (n := n) (L := L) (boR_bad2 hlt hle)
                have HE1 := Lib.hid e1
                have HE2 := Lib.hid e2
                clear e1 e2 hcL HR1 HR2 HNEXT
                generalize gI L (i + 1) = x at *
                generalize gI L i = y at *
                go_wp2_with fail
                go_quiet ((go_at_call 40; exact quiet_eq ((l01In_c _ _ _ _).mono fun e w' ⟨he, hw'⟩ => ⟨by rw [he, hxi], hw'⟩)))
                have D2 := HD1.out nq
                have hb2 := HDN.out nq
                clear HD1 HDN D1 hb1 dL dP
                generalize wo.drewN nq = w2 at *
                have f0 := D2.free 0
                have e0' := D2.cell 0
                have q0 := (D2.set 0 (.slice none 0 0)).cell 0
                have hfin := hb2.setCell (p := ⟨w.heap.size, 0, none⟩) (Nat.le_refl _) (.slice none 0 0)
                go_wp2
                exact bodyPost_ret (v := .tuple #[.agg #[.slice none 0 0], .int .i64 2]) (by simp [results, Tryd.results14, go_sem, q0]) rfl (by rw [HE1.out, HE2.out, okL_false rfl]; exact retBC_err hfin)
              · have HN2 := Lib.hid (show ∀ q, q + 1 < i + 1 + 1 → gI L q < gI L (q + 1) from fun q hq => by
                  by_cases e : q = i
                  · subst e; omega
                  · exact HR2.out q (by omega))
                clear hcL HR1 HR2
                generalize hx1 : gI L (i + 1) = x at *
                generalize hy1 : gI L i = y at *
                clear hx1 hy1
                go_wp2_with fail
                go_quiet ((go_at_call 40; exact quiet_eq ((l01In_c _ _ _ _).mono fun e w' ⟨he, hw'⟩ => ⟨by rw [he, hxi], hw'⟩)))
                go_wp2
                go_roundw
                case rel => exact ⟨i + 1 + 1, by omega, by go_num, HNEXT.out, HN2.out, HD1.out _, HDN.out _⟩
                case measure => simp [intOf]; omega
        · have hki : ¬ (j : Int) < (L.length : Int) := by omega
          have hje : j = L.length := by omega
          have HR := Lib.hid (show boR n L = true from boR_iff.2 ⟨inB_iff.1 HIN.out, h64, fun q hq => HR2.out q (by omega), fun q hq => HR1.out q (by omega)⟩)
          clear HR1 HR2 hje HIN HBR
          have hq := boR_iff.1 HR.out
          have hnn := hq.1
          have HNUM := Lib.hid hq.2.2.2
          have HLEN := Lib.hid (fun k (hk : k ≤ L.length) => boe_len (n := n) (by omega) hq.2.2.1 hk)
          have HPOS := Lib.hid (fun k => And.intro (bE_pos L (n := n) (by omega) k) (bE_le L (n := n) (by omega) k))
          have hs2 : w.heap.size + 1 ≤ wo.heap.size := by have := D1.lt; omega
          have o2 := (own_one (e := 2) wo (w.heap.size + 1) hs2 n).below ((Below.refl (wo.alloc (.cells #[.int .i64 n] 2)).heap.size _).alloc (Nat.le_refl _) (.cells #[.slice (some ⟨wo.heap.size, 0, none⟩) 1 1] 26)) (Nat.le_refl _)
          have hal : Below wo.heap.size wo ((wo.alloc (.cells #[.int .i64 n] 2)).alloc (.cells #[.slice (some ⟨wo.heap.size, 0, none⟩) 1 1] 26)) := ((Below.refl _ _).alloc (Nat.le_refl _) _).alloc (by simp) _
          have B3 := Blk.new' (w := wo.alloc (.cells #[.int .i64 n] 2)) (t := 26) (cs := #[.slice (some ⟨wo.heap.size, 0, none⟩) 1 1]) (g := wo.heap.size + 1) (by simp)
          have D3 := D1.stays hal
          have hb3 := below_step hb1 hal
          clear hq D1 hb1 hal
          go_upto_region 9 with fail
          generalize (wo.alloc (.cells #[.int .i64 n] 2)).alloc (.cells #[.slice (some ⟨wo.heap.size, 0, none⟩) 1 1] 26) = w3 at *
          go_wp2_with fail
          go_loopw [8, 9] (fun ev iv wr => ∃ (j m : Nat) (a : Option Addr) (k : Nat), j ≤ L.length ∧ iv = .int .i64 (j : Int) ∧ ev = .int .i64 (bE n L j) ∧ Blk wr (wo.heap.size + 1) 26 #[.slice a m k] ∧ OwnI wr (w.heap.size + 1) (.slice a m k) (bT n L j) ∧ (bT n L j).length = m ∧ (∀ q, (Value.slice a m k).ownBlock = some q → q ≠ wo.heap.size + 1) ∧ Blk wr w.heap.size 26 #[.slice none 0 0] ∧ Below w.heap.size w wr) (fun _ iv _ => L.length - (intOf iv).toNat)
          case atStart => exact ⟨0, 1, some ⟨wo.heap.size, 0, none⟩, 1, Nat.zero_le _, rfl, rfl, B3, o2, rfl, fun q hq => by have hq' : wo.heap.size = q := Option.some.inj hq; omega, D3, hb3⟩
          case round =>
            obtain ⟨j, m, a, k, hj, rfl, rfl, B5, o5, hm, hne, D5, hb5⟩ := hrel
            clear B3 o2 D3 hb3
            obtain ⟨wp, rfl⟩ : ∃ wp : World, wp = wr := ⟨_, rfl⟩
            have HM := Lib.hid hm
            clear hm
            by_cases hlt : j < L.length
            · have hki : (j : Int) < (L.length : Int) := by omega
              have hk0 : (0 : Int) ≤ (j : Int) := by omega
              obtain ⟨bL, oL, cL, heL, _, _, hbL, hcL⟩ := HRD.out.cells (by omega)
              injection heL with f1 _ f3
              subst f1 f3
              have dL := (hb5.cell (p := ⟨bL, oL + j, none⟩) hbL).trans (hcL j hlt)
              have hx := HNUM.out j hlt
              obtain ⟨hp1, hp2⟩ := HPOS.out j
              have HS1 := Lib.hid (fun hd => And.intro (bT_no (n := n) (L := L) (k := j) hd) (bE_no (n := n) (L := L) (k := j) (by omega) hd))
              have HS2 := Lib.hid (fun hd => bT_yes (n := n) (L := L) (k := j) hd)
              have HS3 := Lib.hid (show bE n L (j + 1) = gcdI (bE n L j) (gI L j) from rfl)
              have HBD := Lib.hid (HLEN.out j hj)
              generalize bT n L j = T at *
              generalize bE n L j = e0 at *
              generalize gI L j = x at *
              clear hcL
              have hez : ¬ e0 = 0 := by omega
              by_cases hd : x % e0 = 0
              · obtain ⟨hs1, hs2'⟩ := HS1.out hd
                have HF := Lib.hid (show Blk wp (wo.heap.size + 1) 26 #[.slice a m k] ∧ OwnI wp (w.heap.size + 1) (.slice a m k) (bT n L (j + 1)) ∧ (bT n L (j + 1)).length = m ∧ (∀ q, (Value.slice a m k).ownBlock = some q → q ≠ wo.heap.size + 1) ∧ Blk wp w.heap.size 26 #[.slice none 0 0] ∧ Below w.heap.size w wp from ⟨B5, by rw [hs1]; exact o5, by rw [hs1]; exact HM.out, hne, D5, hb5⟩)
                have HE := Lib.hid hs2'
                have hdt : x.tmod e0 = 0 := by rw [Int.tmod_eq_emod_of_nonneg (by omega)]; exact hd
                clear hs1 hs2' HS1 HS2 HS3 B5 o5 hne D5 hb5
                go_wp2
                go_roundw
                case rel => exact ⟨j + 1, m, a, k, by omega, by go_num, by rw [HE.out], HF.out⟩
                case measure => simp [intOf]; omega
              · have hdt : ¬ x.tmod e0 = 0 := by rw [Int.tmod_eq_emod_of_nonneg (by omega)]; exact hd
                have HN := Lib.hid (HS2.out hd)
                have hdb : (x % e0 != 0) = true := by rw [bne_iff_ne]; exact hd
                clear HS1 HS2 hd
                go_wp2_with fail
                refine (l01Gcd_c e0 x _ (by omega) (by omega) (by omega) (by omega)).mono ?_
                rintro e w8 ⟨rfl, rfl⟩
                rw [← HS3.out]
                have l5 := B5.lt
                have c5 := B5.cell 0
                have f5 := B5.free 0
                have hz : w.heap.size + 1 ≤ wp.heap.size := by have := D5.lt; omega
                have HNE := Lib.hid hne
                clear hne HS3
                have hO6 : OwnI (wp.drew.alloc (.cells #[.int .i64 x] 2)) (w.heap.size + 1) (.slice a m k) T := (o5.below (Below.refl wp.heap.size wp).drew (Nat.le_refl _)).below ((Below.refl wp.drew.heap.size wp.drew).alloc (Nat.le_refl _) _) (Nat.le_refl _)
                go_upto_region 14 with fail
                go_region_law (first
                  | (refine step_push rfl (.tmp 72) (.tmp 77) 24 rfl (w.heap.size + 1) 2 i0 Tryd.underlying24 hi hz0 hz1 hz2 (.slice a m k) T x wp.heap.size rfl hO6 rfl (Blk.new wp.drew _ _) (by have := HBD.out; omega) (by simp; omega) ?_; intro g2 cap2 w6 hO7 hk6 hw6 hl6; rw [HM.out] at hO7 ⊢; have B6 := ((B5.drewN 1).alloc (.cells #[.int .i64 x] 2)).keeps hk6 (fun e => HNE.out _ e rfl); have c6 := B6.cell 0; have f6 := B6.free 0)
                  | fail)
                all_goals
                  have hbd : Below wp.heap.size wp (wp.drew.alloc (.cells #[.int .i64 x] 2)) := ((Below.refl _ _).drew).alloc (Nat.le_refl _) _
                  have hne7 : ∀ q, (Value.slice (some ⟨g2, 0, none⟩) (m + 1) cap2).ownBlock = some q → q ≠ wo.heap.size + 1 := fun q hq => by
                    have hq' : g2 = q := Option.some.inj hq
                    rcases hw6 with h | h
                    · exact HNE.out q (by rw [h, hq'])
                    · simp at h; omega
                  have B7 := B6.set 0 (.slice (some ⟨g2, 0, none⟩) (m + 1) cap2)
                  have D7 := ((D5.stays hbd).keeps hk6 (fun e => by have := (o5.block _ e).1; omega)).other (g' := wo.heap.size + 1) (by omega) 0 (.slice (some ⟨g2, 0, none⟩) (m + 1) cap2)
                  have o7 := hO7.other (g := wo.heap.size + 1) hne7 0 (.slice (some ⟨g2, 0, none⟩) (m + 1) cap2)
                  have hb7 := ((below_step hb5 hbd).trans (hk6.below (B := w.heap.size) (below_step hb5 hbd).size (fun b e => by have := (o5.block _ e).1; omega))).setCell (p := ⟨wo.heap.size + 1, 0, none⟩) (by simp; omega) (.slice (some ⟨g2, 0, none⟩) (m + 1) cap2)
                  have HF := Lib.hid (show Blk (w6.setCell ⟨wo.heap.size + 1, 0, none⟩ (.slice (some ⟨g2, 0, none⟩) (m + 1) cap2)) (wo.heap.size + 1) 26 #[.slice (some ⟨g2, 0, none⟩) (m + 1) cap2] ∧ OwnI (w6.setCell ⟨wo.heap.size + 1, 0, none⟩ (.slice (some ⟨g2, 0, none⟩) (m + 1) cap2)) (w.heap.size + 1) (.slice (some ⟨g2, 0, none⟩) (m + 1) cap2) (bT n L (j + 1)) ∧ (bT n L (j + 1)).length = m + 1 ∧ (∀ q, (Value.slice (some ⟨g2, 0, none⟩) (m + 1) cap2).ownBlock = some q → q ≠ wo.heap.size + 1) ∧ Blk (w6.setCell ⟨wo.heap.size + 1, 0, none⟩ (.slice (some ⟨g2, 0, none⟩) (m + 1) cap2)) w.heap.size 26 #[.slice none 0 0] ∧ Below w.heap.size w (w6.setCell ⟨wo.heap.size + 1, 0, none⟩ (.slice (some ⟨g2, 0, none⟩) (m + 1) cap2)) from ⟨B7, by rw [HN.out]; exact o7, by rw [HN.out, List.length_append, HM.out]; rfl, hne7, D7, hb7⟩)
                  clear B7 o7 hne7 D7 hb7 hbd B6 c6 f6 hO7 hk6 hw6 hl6 B5 D5 o5 hb5 HNE c5 f5 hO6 HN
                  go_wp2
                  go_roundw
                  case rel => exact ⟨j + 1, m + 1, _, _, by omega, by go_num, rfl, HF.out⟩
                  case measure => simp [intOf]; omega
            · have hke : j = L.length := by omega
              have hki : ¬ (j : Int) < (L.length : Int) := by omega
              subst hke
              obtain ⟨T, hT⟩ : ∃ T, boF n L = T := ⟨_, rfl⟩
              have hT2 : bT n L L.length = T := hT
              rw [hT2] at o5 HM
              have HFT := Lib.hid hT
              clear hT hT2 HPOS HLEN HNUM HRD hj
              have c5 := B5.cell 0
              go_wp2_with fail
              refine (l03Is_c _ T _ o5.rd).mono ?_
              rintro e w7 ⟨rfl, hb7⟩
              have D7 := D5.stays hb7
              have B7 := B5.stays hb7
              have o7 := o5.below hb7 (Nat.le_refl _)
              have hb8 := below_step hb5 hb7
              clear c5 B5 D5 o5 hb5 hb7 hne
              cases hcl : braB T
              · obtain ⟨e1, e2⟩ := boC_bad HR.out (by rw [HFT.out]; exact hcl)
                clear HR HFT hcl o7 B7 HM
                have HE1 := Lib.hid e1
                have HE2 := Lib.hid e2
                clear e1 e2
                have f0 := D7.free 0
                have e0' := D7.cell 0
                have q0 := (D7.set 0 (.slice none 0 0)).cell 0
                have hfin := hb8.setCell (p := ⟨w.heap.size, 0, none⟩) (Nat.le_refl _) (.slice none 0 0)
                go_wp2
                exact bodyPost_ret (v := .tuple #[.agg #[.slice none 0 0], .int .i64 5]) (by simp [results, Tryd.results14, go_sem, q0]) rfl (by rw [HE1.out, HE2.out, okL_false rfl]; exact retBC_err hfin)
              · obtain ⟨e1, e2⟩ := boC_ok HR.out (by rw [HFT.out]; exact hcl)
                have HE1 := Lib.hid e1
                have HE2 := Lib.hid e2
                clear e1 e2
                have c7 := B7.cell 0
                have f0 := D7.free 0
                have e0' := D7.cell 0
                have q0 := (D7.set 0 (.slice a m k)).cell 0
                have HF := Lib.hid (show RetBC w T 0 (.returned (.tuple #[.agg #[.slice a m k], .int .i64 0])) (w7.setCell ⟨w.heap.size, 0, none⟩ (.slice a m k)) from
                  ⟨a, k, by rw [HM.out], by rw [HM.out]; exact (o7.other (g := w.heap.size) (fun q hq => by have := (o7.block q hq).1; omega) 0 _).base_le (by omega), hb8.setCell (p := ⟨w.heap.size, 0, none⟩) (Nat.le_refl _) _⟩)
                clear HR hcl o7 B7 D7 hb8 HM
                go_wp2
                exact bodyPost_ret (v := .tuple #[.agg #[.slice a m k], .int .i64 0]) (by simp [results, Tryd.results14, go_sem, q0]) rfl (by rw [HE1.out, HE2.out, okL_true rfl, HFT.out]; exact HF.out)
    · have h64g : (L.length : Int) > 64 := by omega
      obtain ⟨e1, e2⟩ := boC_no (n := n) (L := L) (by rw [HBR.out, decide_eq_false h64]; simp)
      clear HBR hin h64
      have HE1 := Lib.hid e1
      have HE2 := Lib.hid e2
      clear e1 e2
      have f0 := D.free 0
      have e0' := D.cell 0
      have q0 := (D.set 0 (.slice none 0 0)).cell 0
      have hfin := hb0.setCell (p := ⟨w.heap.size, 0, none⟩) (Nat.le_refl _) (.slice none 0 0)
      go_wp2
      exact bodyPost_ret (v := .tuple #[.agg #[.slice none 0 0], .int .i64 2]) (by simp [results, Tryd.results14, go_sem, q0]) rfl (by rw [HE1.out, HE2.out, okL_false rfl]; exact retBC_err hfin)
end Go.Proofs.YtglghdkjppcedaaDoor

/- Turned characteristics: their branches, and the Milnor number in both coordinates. No program in sight. -/
namespace Go.Proofs.YtglghdkjppcedaaDoor
open Go.RowKit

theorem gcdI_addT {a b d : Int} (h : a ∣ d) : gcdI a (b + d) = gcdI a b := by
  unfold gcdI
  congr 1
  obtain ⟨c, rfl⟩ := h
  rw [show (b + a * c).natAbs = (b + c * a).natAbs by rw [Int.mul_comm]]
  exact Int.gcd_add_mul_left_right a b c |> fun h => by
    first
      | exact h
      | (rw [Int.mul_comm c a]; exact h)
theorem gcdI_symT (x y : Int) : gcdI x y = gcdI y x := by unfold gcdI; rw [Nat.gcd_comm]

/-- A turned characteristic. -/
def tuR (L : List Int) : Bool := decide (2 ≤ L.length) && (inB (gI L 0) 2 64 && (inB (gI L 1) 1 64 && (decide (gI L 1 < gI L 0) && (ascB (L.drop 1) && (allIn (L.drop 1) 1 2000 && fallB L)))))
structure TuOk (L : List Int) : Prop where
  len : 2 ≤ L.length
  zero : 2 ≤ gI L 0 ∧ gI L 0 ≤ 64
  one : 1 ≤ gI L 1 ∧ gI L 1 < gI L 0
  asc : ∀ i, 1 ≤ i → i + 1 < L.length → gI L i < gI L (i + 1)
  num : ∀ i, i < L.length → 1 ≤ gI L i ∧ gI L i ≤ 2000
  fall : ∀ i, i + 1 < L.length → eI L (i + 1) < eI L i
  last : eI L (L.length - 1) = 1
theorem gI_dropT {L : List Int} {k i : Nat} (h : k + i < L.length) : gI (L.drop k) i = gI L (k + i) := by
  rw [gI_lt (by simp; omega), gI_lt h]; simp
theorem tuR_iff {L : List Int} : tuR L = true ↔ TuOk L := by
  unfold tuR
  simp only [Bool.and_eq_true, decide_eq_true_eq, inB_iff, ascB_iff, allIn_iff, fallB_iff]
  constructor
  · rintro ⟨h1, h2, h3, h4, h5, h6, h7, h8⟩
    refine ⟨h1, h2, ⟨h3.1, h4⟩, fun i hi hl => ?_, fun i hl => ?_, h7, h8⟩
    · have := h5 (i - 1) (by simp; omega)
      rw [gI_dropT (by omega), gI_dropT (by omega), show 1 + (i - 1) = i by omega, show 1 + (i - 1 + 1) = i + 1 by omega] at this
      exact this
    · by_cases e : i = 0
      · subst e; omega
      · have := h6 (i - 1) (by simp; omega)
        rw [gI_dropT (by omega), show 1 + (i - 1) = i by omega] at this
        exact this
  · intro h
    have hz := h.zero
    have ho := h.one
    refine ⟨h.len, h.zero, ⟨ho.1, by omega⟩, ho.2, fun i hi => ?_, fun i hi => ?_, h.fall, h.last⟩
    · simp at hi
      rw [gI_dropT (by omega), gI_dropT (by omega), show 1 + (i + 1) = 1 + i + 1 by omega]
      exact h.asc (1 + i) (by omega) (by omega)
    · simp at hi
      rw [gI_dropT (by omega)]
      exact h.num (1 + i) (by omega)
/-- The first terms of the branch. -/
def tuH (L : List Int) : List Int := if gI L 0 % gI L 1 = 0 then [gI L 1] else [gI L 1, gI L 0]
/-- The first k of the others. -/
def tuM (L : List Int) (k : Nat) : List Int := ((L.drop 2).take k).map (fun x => x + (gI L 0 - gI L 1))
def tuK (L : List Int) (k : Nat) : List Int := tuH L ++ tuM L k
def tuF (L : List Int) : List Int := tuK L (L.length - 2)
theorem tuM_len {L : List Int} {k : Nat} (hk : k + 2 ≤ L.length) : (tuM L k).length = k := by
  unfold tuM
  simp
  omega
theorem tuM_succ {L : List Int} {k : Nat} (hk : k + 2 < L.length) : tuM L (k + 1) = tuM L k ++ [gI L (k + 2) + (gI L 0 - gI L 1)] := by
  have hl : k < (L.drop 2).length := by simp; omega
  unfold tuM
  rw [List.take_succ_eq_append_getElem hl, List.map_append, List.map_singleton]
  congr 3
  rw [gI_lt (by omega)]
  simp [Nat.add_comm]
theorem tuK_zero (L : List Int) : tuK L 0 = tuH L := by unfold tuK tuM; simp
theorem tuK_succ {L : List Int} {k : Nat} (hk : k + 2 < L.length) : tuK L (k + 1) = tuK L k ++ [gI L (k + 2) + (gI L 0 - gI L 1)] := by
  unfold tuK
  rw [tuM_succ hk, List.append_assoc]
theorem tuM_at {L : List Int} {k j : Nat} (hk : k + 2 ≤ L.length) (hj : j < k) : gI (tuM L k) j = gI L (j + 2) + (gI L 0 - gI L 1) := by
  unfold tuM
  rw [gI_lt (by simp; omega), List.getElem_map, gI_lt (show j + 2 < L.length by omega)]
  simp [Nat.add_comm]
theorem tuH_or (L : List Int) : ∃ g, (tuH L).length = g + 1 ∧ ((g = 0 ∧ gI L 0 % gI L 1 = 0 ∧ tuH L = [gI L 1]) ∨ (g = 1 ∧ ¬ gI L 0 % gI L 1 = 0 ∧ tuH L = [gI L 1, gI L 0])) := by
  by_cases h : gI L 0 % gI L 1 = 0
  · have e : tuH L = [gI L 1] := by unfold tuH; rw [if_pos h]
    exact ⟨0, by rw [e]; rfl, .inl ⟨rfl, h, e⟩⟩
  · have e : tuH L = [gI L 1, gI L 0] := by unfold tuH; rw [if_neg h]
    exact ⟨1, by rw [e]; rfl, .inr ⟨rfl, h, e⟩⟩
theorem tuK_len {L : List Int} {k : Nat} (hk : k + 2 ≤ L.length) : (tuK L k).length = (tuH L).length + k := by
  unfold tuK
  rw [List.length_append, tuM_len hk]
theorem gI_appL {A B : List Int} {i : Nat} (h : i < A.length) : gI (A ++ B) i = gI A i := by
  rw [gI_lt (by simp; omega), gI_lt h, List.getElem_append_left h]
theorem gI_appR {A B : List Int} {i : Nat} (h : i < B.length) : gI (A ++ B) (A.length + i) = gI B i := by
  rw [gI_lt (by simp; omega), gI_lt h, List.getElem_append_right (by omega)]
  congr 1
  omega
theorem tuF_low {L : List Int} {i : Nat} (h : i < (tuH L).length) : gI (tuF L) i = gI (tuH L) i := gI_appL h
theorem tuF_at {L : List Int} {j : Nat} (hj : j + 2 < L.length) : gI (tuF L) ((tuH L).length + j) = gI L (j + 2) + (gI L 0 - gI L 1) := by
  unfold tuF tuK
  rw [gI_appR (by rw [tuM_len (by omega)]; omega), tuM_at (by omega) (by omega)]
/-- The divisors of both. -/
theorem tu_eI {L : List Int} (h : TuOk L) {g : Nat} (hg : (tuH L).length = g + 1) (hor : (g = 0 ∧ gI L 0 % gI L 1 = 0 ∧ tuH L = [gI L 1]) ∨ (g = 1 ∧ ¬ gI L 0 % gI L 1 = 0 ∧ tuH L = [gI L 1, gI L 0])) : ∀ j, j + 1 < L.length → eI (tuF L) (j + g) = eI L (j + 1) := by
  have ho := h.one
  intro j
  induction j with
  | zero =>
    intro _
    rcases hor with ⟨rfl, hd, e⟩ | ⟨rfl, hd, e⟩
    · show gI (tuF L) 0 = gcdI (gI L 0) (gI L 1)
      rw [tuF_low (by omega), e, gcdI_symT, gcdI_mod (by omega) hd]
      rfl
    · show gcdI (gI (tuF L) 0) (gI (tuF L) 1) = gcdI (gI L 0) (gI L 1)
      rw [tuF_low (by omega), tuF_low (by omega), e, gcdI_symT]
      rfl
  | succ j ih =>
    intro hj
    have e1 : j + 1 + g = j + g + 1 := by omega
    rw [e1, eI_succ, eI_succ, ih (by omega)]
    have e2 : j + g + 1 = (tuH L).length + j := by omega
    rw [e2, tuF_at hj]
    refine gcdI_addT ?_
    have h1 : eI L (j + 1) ∣ eI L 1 := eI_dvd L (by omega)
    have h0 : eI L 1 ∣ eI L 0 := eI_dvd L (by omega)
    exact Int.dvd_sub (Int.dvd_trans h1 h0) (Int.dvd_trans h1 (eI_dvd_term L 1))
theorem tuF_len {L : List Int} (h : TuOk L) {g : Nat} (hg : (tuH L).length = g + 1) : (tuF L).length = L.length - 1 + g := by
  have := h.len
  unfold tuF
  rw [tuK_len (by omega), hg]
  omega
theorem tu_asc {L : List Int} (h : TuOk L) : ∀ i, i + 1 < (tuF L).length → gI (tuF L) i < gI (tuF L) (i + 1) := by
  obtain ⟨g, hg, hor⟩ := tuH_or L
  have hl := h.len
  have ho := h.one
  intro i hi
  rw [tuF_len h hg] at hi
  by_cases h1 : i < g
  · rcases hor with ⟨rfl, hd, e⟩ | ⟨rfl, hd, e⟩
    · omega
    · have e0 : i = 0 := by omega
      subst e0
      rw [tuF_low (by omega), tuF_low (by omega), e]
      show gI L 1 < gI L 0
      exact ho.2
  · obtain ⟨j, rfl⟩ : ∃ j, i = j + g := ⟨i - g, by omega⟩
    rw [show j + g + 1 = (tuH L).length + j by omega, tuF_at (by omega)]
    by_cases hj : j = 0
    · subst hj
      have h2 := h.asc 1 (by omega) (by omega)
      rcases hor with ⟨rfl, hd, e⟩ | ⟨rfl, hd, e⟩
      · rw [tuF_low (by omega), e]
        show gI L 1 < gI L (0 + 2) + (gI L 0 - gI L 1)
        have : gI L 1 < gI L (0 + 2) := h2
        omega
      · rw [tuF_low (by omega), e]
        show gI L 0 < gI L (0 + 2) + (gI L 0 - gI L 1)
        have : gI L 1 < gI L (0 + 2) := h2
        omega
    · obtain ⟨q, rfl⟩ : ∃ q, j = q + 1 := ⟨j - 1, by omega⟩
      rw [show q + 1 + g = (tuH L).length + q by omega, tuF_at (by omega)]
      have := h.asc (q + 2) (by omega) (by omega)
      rw [show q + 1 + 2 = q + 2 + 1 by omega]
      omega
theorem tu_zero {L : List Int} : gI (tuF L) 0 = gI L 1 := by
  obtain ⟨g, hg, hor⟩ := tuH_or L
  rw [tuF_low (by omega)]
  rcases hor with ⟨_, _, e⟩ | ⟨_, _, e⟩ <;> rw [e] <;> rfl
/-- When the branch is one. -/
theorem tu_bra {L : List Int} (h : TuOk L) : braB (tuF L) = true ↔ ∀ j, j + 2 < L.length → gI L (j + 2) + (gI L 0 - gI L 1) ≤ 2000 := by
  obtain ⟨g, hg, hor⟩ := tuH_or L
  have hl := h.len
  have ho := h.one
  have hz := h.zero
  have hfl := tuF_len h hg
  rw [braB_iff]
  constructor
  · intro hb j hj
    have := hb.num ((tuH L).length + j) (by omega)
    rw [tuF_at hj] at this
    omega
  · intro h2
    have hasc := tu_asc h
    have hlow : ∀ i, i < (tuF L).length → 1 ≤ gI (tuF L) i := by
      intro i
      induction i with
      | zero => intro _; rw [tu_zero]; omega
      | succ i ih =>
        intro hi
        have := ih (by omega)
        have := hasc i hi
        omega
    refine ⟨by omega, by rw [tu_zero]; omega, hasc, fun i hi => ⟨hlow i hi, ?_⟩, fun i hi => ?_, ?_⟩
    · by_cases h1 : i < g + 1
      · rw [tuF_low (by omega)]
        rcases hor with ⟨rfl, hd, e⟩ | ⟨rfl, hd, e⟩
        · have : i = 0 := by omega
          subst this
          rw [e]; show gI L 1 ≤ 2000; omega
        · rw [e]
          rcases (show i = 0 ∨ i = 1 by omega) with rfl | rfl
          · show gI L 1 ≤ 2000; omega
          · show gI L 0 ≤ 2000; omega
      · obtain ⟨j, rfl⟩ : ∃ j, i = (tuH L).length + j := ⟨i - (tuH L).length, by omega⟩
        rw [tuF_at (by omega)]
        exact h2 j (by omega)
    · by_cases h1 : i < g
      · rcases hor with ⟨rfl, hd, e⟩ | ⟨rfl, hd, e⟩
        · omega
        · have e0 : i = 0 := by omega
          subst e0
          have h3 := tu_eI h hg (.inr ⟨rfl, hd, e⟩) 0 (by omega)
          rw [show 0 + 1 = 1 from rfl] at h3 ⊢
          rw [h3]
          show gcdI (gI L 0) (gI L 1) < gI (tuF L) 0
          rw [tu_zero, gcdI_symT]
          exact gcdI_lt (by omega) hd
      · obtain ⟨j, rfl⟩ : ∃ j, i = j + g := ⟨i - g, by omega⟩
        rw [show j + g + 1 = j + 1 + g by omega, tu_eI h hg hor (j + 1) (by omega), tu_eI h hg hor j (by omega)]
        exact h.fall (j + 1) (by omega)
    · rw [hfl, show L.length - 1 + g - 1 = L.length - 2 + g by omega, tu_eI h hg hor _ (by omega), show L.length - 2 + 1 = L.length - 1 by omega]
      exact h.last
/-- The sum of all (e(i-1) - e(i)) (b(i) - 1). -/
def mS (T : List Int) : Nat → Int
  | 0 => 0
  | k + 1 => mS T k + (eI T k - eI T (k + 1)) * (gI T (k + 1) - 1)
theorem mS_succ (T : List Int) (k : Nat) : mS T (k + 1) = mS T k + (eI T k - eI T (k + 1)) * (gI T (k + 1) - 1) := rfl
theorem mS_turn {L : List Int} (h : TuOk L) {g : Nat} (hg : (tuH L).length = g + 1) (hor : (g = 0 ∧ gI L 0 % gI L 1 = 0 ∧ tuH L = [gI L 1]) ∨ (g = 1 ∧ ¬ gI L 0 % gI L 1 = 0 ∧ tuH L = [gI L 1, gI L 0])) : ∀ j, j + 1 < L.length → mS (tuF L) (j + g) - mS L (j + 1) = (gI L 0 - gI L 1) * (1 - eI L (j + 1)) := by
  have ho := h.one
  intro j
  induction j with
  | zero =>
    intro hj
    have he := tu_eI h hg hor 0 hj
    rw [show (0 : Nat) + 1 = 1 from rfl] at *
    have m1 : mS L 1 = 0 + (gI L 0 - eI L 1) * (gI L 1 - 1) := rfl
    rw [m1]
    rcases hor with ⟨rfl, hd, e⟩ | ⟨rfl, hd, e⟩
    · have e1 : eI L 1 = gI L 1 := by
        rw [← he]; exact tu_zero
      have m0 : mS (tuF L) (0 + 0) = 0 := rfl
      rw [m0, e1]
      grind
    · have m2 : mS (tuF L) (0 + 1) = 0 + (gI (tuF L) 0 - eI (tuF L) 1) * (gI (tuF L) 1 - 1) := rfl
      have e2 : gI (tuF L) 1 = gI L 0 := by rw [tuF_low (by omega), e]; rfl
      rw [m2, show eI (tuF L) 1 = eI L 1 from he, tu_zero, e2]
      generalize eI L 1 = e9
      grind
  | succ j ih =>
    intro hj
    have h1 := ih (by omega)
    have e1 := tu_eI h hg hor j (by omega)
    have e2 := tu_eI h hg hor (j + 1) hj
    rw [show j + 1 + g = j + g + 1 by omega] at e2 ⊢
    rw [mS_succ, mS_succ, e1, e2, show j + g + 1 = (tuH L).length + j by omega, tuF_at hj]
    generalize eI L (j + 1 + 1) = x
    generalize eI L (j + 1) = y at *
    generalize mS (tuF L) (j + g) = a at *
    rw [show j + 1 + 1 = j + 2 from rfl]
    generalize gI L (j + 2) = z
    generalize mS L (j + 1) = b at *
    grind
/-- The Milnor numbers are the same. -/
theorem mS_both {L : List Int} (h : TuOk L) : mS (tuF L) ((tuF L).length - 1) = mS L (L.length - 1) := by
  obtain ⟨g, hg, hor⟩ := tuH_or L
  have hl := h.len
  have hfl := tuF_len h hg
  have h1 := mS_turn h hg hor (L.length - 2) (by omega)
  rw [show L.length - 2 + 1 = L.length - 1 by omega, h.last] at h1
  rw [hfl, show L.length - 1 + g - 1 = L.length - 2 + g by omega]
  have : (gI L 0 - gI L 1) * (1 - 1) = 0 := by simp
  omega
theorem mS_bd {L : List Int} (h : TuOk L) : ∀ k, k < L.length → 0 ≤ mS L k ∧ mS L k ≤ 128000 * (k : Int) := by
  have hz := h.zero
  intro k
  induction k with
  | zero => intro _; exact ⟨Int.le_refl _, Int.le_refl _⟩
  | succ k ih =>
    intro hk
    have h1 := ih (by omega)
    have h2 := h.num (k + 1) hk
    have h3 := h.fall k hk
    have h4 := eI_pos (T := L) (by omega) (k + 1)
    have h5 := eI_le0 (T := L) (by omega) k
    rw [mS_succ]
    have h6 : 0 ≤ (eI L k - eI L (k + 1)) * (gI L (k + 1) - 1) := Int.mul_nonneg (by omega) (by omega)
    have h7 : (eI L k - eI L (k + 1)) * (gI L (k + 1) - 1) ≤ 64 * 2000 := Int.mul_le_mul (by omega) (by omega) (by omega) (by omega)
    omega
def tuB (L : List Int) : Bool := tuR L && braB (tuF L)
def tuC (L : List Int) : Int := if tuR L = true then (if braB (tuF L) = true then 0 else 5) else 2
theorem tuC_no {L : List Int} (h : tuR L = false) : tuC L = 2 ∧ tuB L = false := by
  unfold tuC tuB
  rw [h]
  exact ⟨rfl, rfl⟩
theorem tuC_bad {L : List Int} (h : tuR L = true) (h2 : braB (tuF L) = false) : tuC L = 5 ∧ tuB L = false := by
  unfold tuC tuB
  rw [h, h2]
  exact ⟨rfl, rfl⟩
theorem tuC_ok {L : List Int} (h : tuR L = true) (h2 : braB (tuF L) = true) : tuC L = 0 ∧ tuB L = true := by
  unfold tuC tuB
  rw [h, h2]
  exact ⟨rfl, rfl⟩
end Go.Proofs.YtglghdkjppcedaaDoor
