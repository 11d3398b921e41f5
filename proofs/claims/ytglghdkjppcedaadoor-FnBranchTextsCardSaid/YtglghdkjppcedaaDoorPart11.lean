/- Contract: impl.BranchOfExponents. -/
import Derived.Test.YtglghdkjppcedaaDoorPart10
import Derived.Test.YtglghdkjppcedaaDoorPart7
namespace Go.Proofs.YtglghdkjppcedaaDoor
open Go.RowKit

set_option maxRecDepth 100000 in
set_option maxHeartbeats 4000000 in
theorem implBoe_c (n : Int) (v : Value) (L : List Int) (w : World) (h : Rd w v L) (hn9 : -1000000000000 ≤ n ∧ n ≤ 1000000000000) (hl9 : L.length ≤ 1000000) :
    Calls Tryd.prog 13 #[.int .i64 n, v] w (RetBC w (okL (boB n L) (boF n L)) (boC n L)) := by
  obtain ⟨i0, hi, hz0, hz1, hz2⟩ := info_parts Tryd.infoI
  obtain ⟨av, kv, rfl⟩ := h.len0
  have D := Blk.new w 26 #[.slice none 0 0]
  have hb0 : Below w.heap.size w (w.alloc (.cells #[.slice none 0 0] 26)) := (Below.refl _ _).alloc (Nat.le_refl _) _
  have hsz : (w.alloc (.cells #[.slice none 0 0] 26)).heap.size = w.heap.size + 1 := by simp
  have h1 := h.below hb0 (Nat.le_refl _)
  have HBR := Lib.hid (show boR n L = (inB n 1 64 && (decide (L.length ≤ 64) && (ascB L && allIn L 1 2000))) from rfl)
  go_enter Tryd.func13, Tryd.ntmps13
  go_upto_region 1 with fail
  generalize w.alloc (.cells #[.slice none 0 0] 26) = w0 at *
  go_wp2_with fail
  refine (inRange_c n 1 64 _).mono ?_
  rintro e w1 ⟨rfl, rfl⟩
  cases hin : inB n 1 64
  · obtain ⟨e1, e2⟩ := boC_no (n := n) (L := L) (by rw [HBR.out, hin]; rfl)
    have HE1 := Lib.hid e1
    have HE2 := Lib.hid e2
    clear e1 e2
    clear HBR hin
    have f0 := D.free 0
    have e0 := D.cell 0
    have q0 := (D.set 0 (.slice none 0 0)).cell 0
    have hfin := hb0.setCell (p := ⟨w.heap.size, 0, none⟩) (Nat.le_refl _) (.slice none 0 0)
    go_wp2
    exact bodyPost_ret (v := .tuple #[.agg #[.slice none 0 0], .int .i64 2]) (by simp [results, Tryd.results13, go_sem, q0]) rfl (by rw [HE1.out, HE2.out, okL_false rfl]; exact retBC_err hfin)
  · by_cases h64 : L.length ≤ 64
    · have h64g : ¬ (L.length : Int) > 64 := by omega
      go_wp2_with fail
      refine (ascends_c _ L _ h1).mono ?_
      rintro e w2 ⟨rfl, hd2⟩
      have D2 := D.stays (hd2.below _)
      have hb2 := below_step hb0 (hd2.below _)
      have h2 := h1.below (hd2.below w0.heap.size) (Nat.le_refl _)
      have hs2 : w.heap.size + 1 ≤ w2.heap.size := by have := (hd2.below w0.heap.size).size; omega
      clear D hb0 h1 hd2 hsz
      cases has : ascB L
      · obtain ⟨e1, e2⟩ := boC_no (n := n) (L := L) (by rw [HBR.out, has]; simp)
        have HE1 := Lib.hid e1
        have HE2 := Lib.hid e2
        clear e1 e2
        clear HBR hin has
        have f0 := D2.free 0
        have e0 := D2.cell 0
        have q0 := (D2.set 0 (.slice none 0 0)).cell 0
        have hfin := hb2.setCell (p := ⟨w.heap.size, 0, none⟩) (Nat.le_refl _) (.slice none 0 0)
        go_wp2
        exact bodyPost_ret (v := .tuple #[.agg #[.slice none 0 0], .int .i64 2]) (by simp [results, Tryd.results13, go_sem, q0]) rfl (by rw [HE1.out, HE2.out, okL_false rfl]; exact retBC_err hfin)
      · go_wp2_with fail
        refine (within_c _ L 1 2000 _ h2).mono ?_
        rintro e w3 ⟨rfl, rfl⟩
        cases hwi : allIn L 1 2000
        · obtain ⟨e1, e2⟩ := boC_no (n := n) (L := L) (by rw [HBR.out, hwi]; simp)
          have HE1 := Lib.hid e1
          have HE2 := Lib.hid e2
          clear e1 e2
          clear HBR hin has hwi
          have f0 := D2.free 0
          have e0 := D2.cell 0
          have q0 := (D2.set 0 (.slice none 0 0)).cell 0
          have hfin := hb2.setCell (p := ⟨w.heap.size, 0, none⟩) (Nat.le_refl _) (.slice none 0 0)
          go_wp2
          exact bodyPost_ret (v := .tuple #[.agg #[.slice none 0 0], .int .i64 2]) (by simp [results, Tryd.results13, go_sem, q0]) rfl (by rw [HE1.out, HE2.out, okL_false rfl]; exact retBC_err hfin)
        · have HR := Lib.hid (show boR n L = true by rw [HBR.out, hin, has, hwi]; simp; exact h64)
          clear HBR hin has hwi
          have hq := boR_iff.1 HR.out
          have hnn := hq.1
          have HNUM := Lib.hid hq.2.2.2
          have HLEN := Lib.hid (fun k (hk : k ≤ L.length) => boe_len (n := n) (by omega) hq.2.2.1 hk)
          have HPOS := Lib.hid (fun k => And.intro (bE_pos L (n := n) (by omega) k) (bE_le L (n := n) (by omega) k))
          clear hq
          have o2 := (own_one (e := 2) w2 (w.heap.size + 1) hs2 n).below ((Below.refl (w2.alloc (.cells #[.int .i64 n] 2)).heap.size _).alloc (Nat.le_refl _) (.cells #[.slice (some ⟨w2.heap.size, 0, none⟩) 1 1] 26)) (Nat.le_refl _)
          have hal : Below w2.heap.size w2 ((w2.alloc (.cells #[.int .i64 n] 2)).alloc (.cells #[.slice (some ⟨w2.heap.size, 0, none⟩) 1 1] 26)) := ((Below.refl _ _).alloc (Nat.le_refl _) _).alloc (by simp) _
          have B3 := Blk.new' (w := w2.alloc (.cells #[.int .i64 n] 2)) (t := 26) (cs := #[.slice (some ⟨w2.heap.size, 0, none⟩) 1 1]) (g := w2.heap.size + 1) (by simp)
          have D3 := D2.stays hal
          have hb3 := below_step hb2 hal
          clear D2 hb2 hal h2
          go_upto_region 4 with fail
          generalize (w2.alloc (.cells #[.int .i64 n] 2)).alloc (.cells #[.slice (some ⟨w2.heap.size, 0, none⟩) 1 1] 26) = w3 at *
          have HRD := Lib.hid h
          clear h
          go_wp2_with fail
          go_loopw [7, 35] (fun ev iv wr => ∃ (j m : Nat) (a : Option Addr) (k : Nat), j ≤ L.length ∧ iv = .int .i64 (j : Int) ∧ ev = .int .i64 (bE n L j) ∧ Blk wr (w2.heap.size + 1) 26 #[.slice a m k] ∧ OwnI wr (w.heap.size + 1) (.slice a m k) (bT n L j) ∧ (bT n L j).length = m ∧ (∀ q, (Value.slice a m k).ownBlock = some q → q ≠ w2.heap.size + 1) ∧ Blk wr w.heap.size 26 #[.slice none 0 0] ∧ Below w.heap.size w wr) (fun _ iv _ => L.length - (intOf iv).toNat)
          case atStart => exact ⟨0, 1, some ⟨w2.heap.size, 0, none⟩, 1, Nat.zero_le _, rfl, rfl, B3, o2, rfl, fun q hq => by have hq' : w2.heap.size = q := Option.some.inj hq; omega, D3, hb3⟩
          case round =>
            obtain ⟨j, m, a, k, hj, rfl, rfl, B5, o5, hm, hne, D5, hb5⟩ := hrel
            clear B3 o2 D3 hb3
            obtain ⟨wo, rfl⟩ : ∃ wo : World, wo = wr := ⟨_, rfl⟩
            have HM := Lib.hid hm
            clear hm
            by_cases hlt : j < L.length
            · have hki : (j : Int) < (L.length : Int) := by omega
              have hk0 : (0 : Int) ≤ (j : Int) := by omega
              obtain ⟨bL, oL, cL, heL, _, _, hbL, hcL⟩ := HRD.out.cells (by omega)
              injection heL with f1 _ f3
              subst f1 f3
              have dL := (hb5.cell (p := ⟨bL, oL + j, none⟩) hbL).trans (hcL j hlt)
              have hx := HNUM.out j hlt
              obtain ⟨hp1, hp2⟩ := HPOS.out j
              have HS1 := Lib.hid (fun hd => And.intro (bT_no (n := n) (L := L) (k := j) hd) (bE_no (n := n) (L := L) (k := j) (by omega) hd))
              have HS2 := Lib.hid (fun hd => bT_yes (n := n) (L := L) (k := j) hd)
              have HS3 := Lib.hid (show bE n L (j + 1) = gcdI (bE n L j) (gI L j) from rfl)
              have HBD := Lib.hid (HLEN.out j hj)
              generalize bT n L j = T at *
              generalize bE n L j = e0 at *
              generalize gI L j = x at *
              clear hcL
              have hez : ¬ e0 = 0 := by omega
              by_cases hd : x % e0 = 0
              · obtain ⟨hs1, hs2'⟩ := HS1.out hd
                have HF := Lib.hid (show Blk wo (w2.heap.size + 1) 26 #[.slice a m k] ∧ OwnI wo (w.heap.size + 1) (.slice a m k) (bT n L (j + 1)) ∧ (bT n L (j + 1)).length = m ∧ (∀ q, (Value.slice a m k).ownBlock = some q → q ≠ w2.heap.size + 1) ∧ Blk wo w.heap.size 26 #[.slice none 0 0] ∧ Below w.heap.size w wo from ⟨B5, by rw [hs1]; exact o5, by rw [hs1]; exact HM.out, hne, D5, hb5⟩)
                have HE := Lib.hid hs2'
                clear hs1 hs2' HS1 HS2 HS3 B5 o5 hne D5 hb5
                by_cases he1 : e0 > 1
                · have hdt : x.tmod e0 = 0 := by rw [Int.tmod_eq_emod_of_nonneg (by omega)]; exact hd
                  go_wp2
                  go_roundw
                  case rel => exact ⟨j + 1, m, a, k, by omega, by go_num, by rw [HE.out], HF.out⟩
                  case measure => simp [intOf]; omega
                · go_wp2
                  go_roundw
                  case rel => exact ⟨j + 1, m, a, k, by omega, by go_num, by rw [HE.out], HF.out⟩
                  case measure => simp [intOf]; omega
              · have he1 : e0 > 1 := by
                  apply Classical.byContradiction
                  intro hc
                  have : e0 = 1 := by omega
                  rw [this] at hd
                  omega
                have hdt : ¬ x.tmod e0 = 0 := by rw [Int.tmod_eq_emod_of_nonneg (by omega)]; exact hd
                have HN := Lib.hid (HS2.out hd)
                have hdb : (x % e0 != 0) = true := by rw [bne_iff_ne]; exact hd
                clear HS1 HS2 hd
                have l5 := B5.lt
                have c5 := B5.cell 0
                have f5 := B5.free 0
                have hz : w.heap.size + 1 ≤ wo.heap.size := by have := D5.lt; omega
                have HNE := Lib.hid hne
                clear hne
                go_upto_region 10 with (at_builtin; refine wpList_pushL rfl (.tmp 48) (.tmp 50) 24 rfl (w.heap.size + 1) 2 i0 Tryd.underlying24 hi hz0 hz1 hz2 (.slice a m k) T x rfl o5 rfl (by have := HBD.out; omega) hz ?_; intro g2 kg2 w6 ho hk2 hl; rw [HM.out] at ho ⊢; have hcell := (hk2.cell (p := ⟨w2.heap.size + 1, 0, none⟩) l5 (fun e => HNE.out _ e rfl)).trans c5; have hfree := (hk2.frozen (p := ⟨w2.heap.size + 1, 0, none⟩) l5 (fun e => HNE.out _ e rfl)).trans f5)
                have hne7 : ∀ q, (Value.slice (some ⟨g2, 0, none⟩) (m + 1) kg2).ownBlock = some q → q ≠ w2.heap.size + 1 := fun q hq => by
                  have hq' : g2 = q := Option.some.inj hq
                  rcases hl with h | h
                  · exact HNE.out q (by rw [h, hq'])
                  · omega
                have B7 := (B5.keeps hk2 (fun e => HNE.out _ e rfl)).set 0 (.slice (some ⟨g2, 0, none⟩) (m + 1) kg2)
                have D7 := (D5.keeps hk2 (fun e => by have := (o5.block _ e).1; omega)).other (g' := w2.heap.size + 1) (by omega) 0 (.slice (some ⟨g2, 0, none⟩) (m + 1) kg2)
                have o7 := ho.other (g := w2.heap.size + 1) hne7 0 (.slice (some ⟨g2, 0, none⟩) (m + 1) kg2)
                have hb7 := (hb5.trans (hk2.below (B := w.heap.size) (by omega) (fun b e => by have := (o5.block _ e).1; omega))).setCell (p := ⟨w2.heap.size + 1, 0, none⟩) (by simp; omega) (.slice (some ⟨g2, 0, none⟩) (m + 1) kg2)
                clear B5 D5 o5 hb5 hcell hfree ho hk2 hl c5 f5 HNE
                generalize w6.setCell ⟨w2.heap.size + 1, 0, none⟩ (.slice (some ⟨g2, 0, none⟩) (m + 1) kg2) = w7 at *
                go_wp2_with fail
                refine (divisor_c e0 x _ (by omega) (by omega) (by omega) (by omega)).mono ?_
                rintro e w8 ⟨rfl, hd8⟩
                have hb8 := hd8.below w7.heap.size
                have HF := Lib.hid (show Blk w8 (w2.heap.size + 1) 26 #[.slice (some ⟨g2, 0, none⟩) (m + 1) kg2] ∧ OwnI w8 (w.heap.size + 1) (.slice (some ⟨g2, 0, none⟩) (m + 1) kg2) (bT n L (j + 1)) ∧ (bT n L (j + 1)).length = m + 1 ∧ (∀ q, (Value.slice (some ⟨g2, 0, none⟩) (m + 1) kg2).ownBlock = some q → q ≠ w2.heap.size + 1) ∧ Blk w8 w.heap.size 26 #[.slice none 0 0] ∧ Below w.heap.size w w8 from ⟨B7.stays hb8, by rw [HN.out]; exact o7.below hb8 (Nat.le_refl _), by rw [HN.out, List.length_append, HM.out]; rfl, hne7, D7.stays hb8, below_step hb7 hb8⟩)
                rw [← HS3.out]
                clear B7 o7 hne7 D7 hb7 hd8 hb8 HS3 HN
                go_wp2
                go_roundw
                case rel => exact ⟨j + 1, m + 1, _, _, by omega, by go_num, rfl, HF.out⟩
                case measure => simp [intOf]; omega
            · have hke : j = L.length := by omega
              have hki : ¬ (j : Int) < (L.length : Int) := by omega
              subst hke
              obtain ⟨T, hT⟩ : ∃ T, boF n L = T := ⟨_, rfl⟩
              have hT2 : bT n L L.length = T := hT
              obtain ⟨e0, he0⟩ : ∃ e0, bE n L L.length = e0 := ⟨_, rfl⟩
              rw [hT2] at o5 HM
              rw [he0]
              have HFT := Lib.hid hT
              have HEE := Lib.hid he0
              clear hT hT2 he0 HPOS HLEN HNUM HRD hj
              by_cases hE : e0 > 1
              · skip
                obtain ⟨e1, e2⟩ := boC_bad HR.out (by
                  cases hbb : braB (boF n L)
                  · rfl
                  · exfalso
                    have := (bra_boe HR.out).1 hbb
                    rw [HFT.out] at this
                    rw [HEE.out] at this
                    omega)
                have HE1 := Lib.hid e1
                have HE2 := Lib.hid e2
                clear e1 e2
                have f0 := D5.free 0
                have e0' := D5.cell 0
                have q0 := (D5.set 0 (.slice none 0 0)).cell 0
                have hfin := hb5.setCell (p := ⟨w.heap.size, 0, none⟩) (Nat.le_refl _) (.slice none 0 0)
                clear HR HFT HEE HM o5 B5 hne
                go_wp2
                exact bodyPost_ret (v := .tuple #[.agg #[.slice none 0 0], .int .i64 5]) (by simp [results, Tryd.results13, go_sem, q0]) rfl (by rw [HE1.out, HE2.out, okL_false rfl]; exact retBC_err hfin)
                
              · by_cases hm1 : 1 < m
                · have hm1g : (m : Int) > 1 := by omega
                  have hoT := o5
                  rw [← HM.out] at hoT
                  obtain ⟨gx, kx, he, hgx, hgx2, _, _⟩ := Own.pos hoT (by rw [HM.out]; omega)
                  injection he with f1 f2 f3
                  subst f1 f3
                  have d1 := hoT.cell 1 (by rw [HM.out]; omega)
                  have c5 := B5.cell 0
                  have HT1 := Lib.hid (show 1 < T.length by rw [HM.out]; exact hm1)
                  clear hoT f2
                  generalize hx1 : gI T 1 = x1 at *
                  have HX1 := Lib.hid hx1
                  clear hx1
                  by_cases hlo : x1 < n
                  · skip
                    obtain ⟨e1, e2⟩ := boC_bad HR.out (by
                      cases hbb : braB (boF n L)
                      · rfl
                      · exfalso
                        have := (bra_boe HR.out).1 hbb
                        rw [HFT.out] at this
                        rw [HEE.out] at this
                        have h9 := this.2 HT1.out
                        rw [HX1.out] at h9
                        omega)
                    have HE1 := Lib.hid e1
                    have HE2 := Lib.hid e2
                    clear e1 e2
                    have f0 := D5.free 0
                    have e0' := D5.cell 0
                    have q0 := (D5.set 0 (.slice none 0 0)).cell 0
                    have hfin := hb5.setCell (p := ⟨w.heap.size, 0, none⟩) (Nat.le_refl _) (.slice none 0 0)
                    clear HX1 HT1 HR HFT HEE HM o5 B5 hne
                    go_wp2
                    exact bodyPost_ret (v := .tuple #[.agg #[.slice none 0 0], .int .i64 5]) (by simp [results, Tryd.results13, go_sem, q0]) rfl (by rw [HE1.out, HE2.out, okL_false rfl]; exact retBC_err hfin)
                    
                  · skip
                    obtain ⟨e1, e2⟩ := boC_ok HR.out ((bra_boe HR.out).2 (by rw [HFT.out, HEE.out]; exact ⟨by omega, fun _ => by rw [HX1.out]; omega⟩))
                    have HE1 := Lib.hid e1
                    have HE2 := Lib.hid e2
                    clear e1 e2
                    have f0 := D5.free 0
                    have e0' := D5.cell 0
                    have q0 := (D5.set 0 (.slice (some ⟨gx, 0, none⟩) m k)).cell 0
                    have HF := Lib.hid (show RetBC w T 0 (.returned (.tuple #[.agg #[.slice (some ⟨gx, 0, none⟩) m k], .int .i64 0])) (wo.setCell ⟨w.heap.size, 0, none⟩ (.slice (some ⟨gx, 0, none⟩) m k)) from
                      ⟨some ⟨gx, 0, none⟩, k, by rw [HM.out], by rw [HM.out]; exact (o5.other (g := w.heap.size) (fun q hq => by have := (o5.block q hq).1; omega) 0 _).base_le (by omega), hb5.setCell (p := ⟨w.heap.size, 0, none⟩) (Nat.le_refl _) _⟩)
                    clear HX1 HT1 HR HEE HM o5 B5 D5 hb5 hne
                    go_wp2
                    exact bodyPost_ret (v := .tuple #[.agg #[.slice (some ⟨gx, 0, none⟩) m k], .int .i64 0]) (by simp [results, Tryd.results13, go_sem, q0]) rfl (by rw [HE1.out, HE2.out, okL_true rfl, HFT.out]; exact HF.out)
                    
                · have hm1g : ¬ (m : Int) > 1 := by omega
                  have c5 := B5.cell 0
                  obtain ⟨e1, e2⟩ := boC_ok HR.out ((bra_boe HR.out).2 (by rw [HFT.out, HEE.out]; exact ⟨by omega, fun h => by rw [HM.out] at h; omega⟩))
                  have HE1 := Lib.hid e1
                  have HE2 := Lib.hid e2
                  clear e1 e2
                  have f0 := D5.free 0
                  have e0' := D5.cell 0
                  have q0 := (D5.set 0 (.slice a m k)).cell 0
                  have HF := Lib.hid (show RetBC w T 0 (.returned (.tuple #[.agg #[.slice a m k], .int .i64 0])) (wo.setCell ⟨w.heap.size, 0, none⟩ (.slice a m k)) from
                    ⟨a, k, by rw [HM.out], by rw [HM.out]; exact (o5.other (g := w.heap.size) (fun q hq => by have := (o5.block q hq).1; omega) 0 _).base_le (by omega), hb5.setCell (p := ⟨w.heap.size, 0, none⟩) (Nat.le_refl _) _⟩)
                  clear HR HEE HM o5 B5 D5 hb5 hne
                  go_wp2
                  exact bodyPost_ret (v := .tuple #[.agg #[.slice a m k], .int .i64 0]) (by simp [results, Tryd.results13, go_sem, q0]) rfl (by rw [HE1.out, HE2.out, okL_true rfl, HFT.out]; exact HF.out)
    · have h64g : (L.length : Int) > 64 := by omega
      obtain ⟨e1, e2⟩ := boC_no (n := n) (L := L) (by rw [HBR.out, decide_eq_false h64]; simp)
      have HE1 := Lib.hid e1
      have HE2 := Lib.hid e2
      clear e1 e2
      clear HBR hin h64
      have f0 := D.free 0
      have e0 := D.cell 0
      have q0 := (D.set 0 (.slice none 0 0)).cell 0
      have hfin := hb0.setCell (p := ⟨w.heap.size, 0, none⟩) (Nat.le_refl _) (.slice none 0 0)
      go_wp2
      exact bodyPost_ret (v := .tuple #[.agg #[.slice none 0 0], .int .i64 2]) (by simp [results, Tryd.results13, go_sem, q0]) rfl (by rw [HE1.out, HE2.out, okL_false rfl]; exact retBC_err hfin)
end Go.Proofs.YtglghdkjppcedaaDoor
