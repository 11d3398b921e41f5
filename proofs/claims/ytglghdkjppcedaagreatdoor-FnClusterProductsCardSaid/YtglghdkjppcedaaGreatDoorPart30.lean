/- Contract: spec.ParseCluster. -/
import Derived.Test.YtglghdkjppcedaaGreatDoorPart28
import Derived.Test.YtglghdkjppcedaaGreatDoorPart29
import Derived.Test.YtglghdkjppcedaaGreatDoorPart4
import Derived.Deep.RegionLaw
import Derived.Shelf.Strings.OnBuilder
import Derived.Shelf.LaysM
import Derived.Shelf.Strconv.Itoa4
import Derived.Test.YtglghdkjppcedaaGreatDoorProg
namespace Go.Proofs.YtglghdkjppcedaaGreatDoor
open Go.RowKit

set_option maxRecDepth 100000 in
set_option maxHeartbeats 8000000 in
theorem specPC_c (s : ByteArray) (P S W : List Int) (c : Int) (w : World) (hs : s.size ≤ 137438953472) (hR : PcR (lB s) P S W c) :
    Calls Tryz.prog 24 #[.string s] w (RetCC w P S W c) := by
  obtain ⟨i0, hi, hz0, hz1, hz2⟩ := info_parts Tryz.infoI
  have HR := Lib.hid hR
  clear hR
  have D := Blk.new w 26 #[.slice none 0 0, .slice none 0 0, .slice none 0 0]
  have hb0 : Below w.heap.size w (w.alloc (.cells #[.slice none 0 0, .slice none 0 0, .slice none 0 0] 26)) := (Below.refl _ _).alloc (Nat.le_refl _) _
  go_enter Tryz.func24, Tryz.ntmps24
  go_wp2_with fail
  generalize w.alloc (.cells #[.slice none 0 0, .slice none 0 0, .slice none 0 0] 26) = w0 at *
  have hz0' : w.heap.size < w0.heap.size := D.lt
  refine (l01Split_c s 32 _ hs).mono ?_
  rintro e w1 ⟨a, k, ss, rfl, hrd, hsp, hnew, hb⟩
  have D1 := (D.stays hb).alloc (.cells #[.slice none 0 0, .slice none 0 0, .slice none 0 0] 26)
  have C1 : ClB (w1.alloc (.cells #[.slice none 0 0, .slice none 0 0, .slice none 0 0] 26)) w1.heap.size (w1.heap.size + 1) (.slice none 0 0) (.slice none 0 0) (.slice none 0 0) [] [] [] := clB_nil (Blk.new w1 _ _)
  have hB1 := below_step hb0 hb
  have hz1' : w.heap.size < w1.heap.size := by have := hb.size; omega
  have HSP := Lib.hid hsp
  clear D hb0 hb hsp
  have hls : ss.length ≤ 137438953473 := by
    have h1 := congrArg List.length HSP.out
    have h2 := spl_size 32 _ (lB s) (Nat.le_refl _)
    rw [List.length_map] at h1
    rw [lB_len] at h2
    omega
  have hpos : 0 < ss.length := by
    have h1 := congrArg List.length HSP.out
    have h2 := spl_ne 32 (lB s)
    rw [List.length_map] at h1
    cases hq : splitL 32 (lB s) with
    | nil => exact absurd hq h2
    | cons x r => rw [hq] at h1; simp at h1; omega
  obtain ⟨bS, oS, cS, he, hbS, hcS⟩ := hrd.cells hpos
  injection he with e1 _ e3
  subst e1 e3
  have HCS := Lib.hid hcS
  have HLEN := Lib.hid (show (splitL 32 (lB s)).length = ss.length by rw [← HSP.out]; simp)
  have hB2 := below_step hB1 ((Below.refl w1.heap.size w1).alloc (Nat.le_refl _) (.cells #[.slice none 0 0, .slice none 0 0, .slice none 0 0] 26))
  clear hcS hrd hnew hB1
  go_wp2_with fail
  go_loopw [6] (fun iv wr => ∃ (k : Nat) (a b d : Option Addr) (ca cb cd : Nat), k ≤ ss.length ∧ iv = .int .i64 (k : Int) ∧ ClB wr w1.heap.size (w1.heap.size + 1) (.slice a k ca) (.slice b k cb) (.slice d k cd) ((spPs (lB s)).take k) ((spSs (lB s)).take k) ((spWs (lB s)).take k) ∧ Blk wr w.heap.size 26 #[.slice none 0 0, .slice none 0 0, .slice none 0 0] ∧ Keeps (fun q => q = w1.heap.size) (w1.alloc (.cells #[.slice none 0 0, .slice none 0 0, .slice none 0 0] 26)) wr) (fun iv _ => ss.length - (intOf iv).toNat)
  case atStart => exact ⟨0, none, none, none, 0, 0, 0, Nat.zero_le _, rfl, by simpa using C1, D1, Keeps.refl _ _⟩
  case round =>
    obtain ⟨k, a, b, d, ca, cb, cd, hk, rfl, hC, hD, hK⟩ := hrel
    obtain ⟨wo, rfl⟩ : ∃ wo : World, wo = wr := ⟨_, rfl⟩
    clear C1 D1
    by_cases hlt : k < ss.length
    · have hki : (k : Int) < (ss.length : Int) := by omega
      have hk0 : (0 : Int) ≤ (k : Int) := by omega
      have dS := HCS.out k hlt
      rw [← ((Below.refl w1.heap.size w1).alloc (Nat.le_refl _) (.cells #[.slice none 0 0, .slice none 0 0, .slice none 0 0] 26)).cell (p := ⟨bS, oS + k, none⟩) hbS, ← hK.cell (p := ⟨bS, oS + k, none⟩) (by simp; omega) (by show ¬ bS = w1.heap.size; omega)] at dS
      obtain ⟨hx, hxs⟩ := parts_at HSP.out hlt
      rw [lB_len] at hxs
      have HX := Lib.hid hx
      clear hx
      generalize gS ss k = x at *
      go_wp2_with fail
      refine (l01Split_c x 58 _ (by omega)).mono ?_
      rintro e w2 ⟨ah, kh, hh, rfl, hrh, hsh, hnh, hbh⟩
      have hC2 := hC.below hbh
      have hD2 := hD.stays hbh
      have hK2 := hK.trans (Keeps.of_below hbh)
      have HSH := Lib.hid hsh
      clear dS hC hD hK hbh hsh
      have hhp : 0 < hh.length := by
        have h1 := congrArg List.length HSH.out
        have h2 := spl_ne 58 (lB x)
        rw [List.length_map] at h1
        cases hq : splitL 58 (lB x) with
        | nil => exact absurd hq h2
        | cons y r => rw [hq] at h1; simp at h1; omega
      have hhl : (splitL 58 (lB x)).length = hh.length := by rw [← HSH.out]; simp
      obtain ⟨bH, oH, cH, heh, hbH, hcH⟩ := hrh.cells hhp
      injection heh with f1 _ f3
      subst f1 f3
      have HHL := Lib.hid hhl
      have HCH := Lib.hid hcH
      have HNH := Lib.hid hnh
      clear hhl hcH hnh
      go_upto_if 27 with fail
      go_cut [8, 9, 10] from 14 to 63 (fun s8 s9 _ wc => s8 = .int .i64 (spS (lB x)) ∧ s9 = .int .i64 (spP (lB x)) ∧ ClB wc w1.heap.size (w1.heap.size + 1) (.slice a k ca) (.slice b k cb) (.slice d k cd) ((spPs (lB s)).take k) ((spSs (lB s)).take k) ((spWs (lB s)).take k) ∧ Blk wc w.heap.size 26 #[.slice none 0 0, .slice none 0 0, .slice none 0 0] ∧ Keeps (fun q => q = w1.heap.size) (w1.alloc (.cells #[.slice none 0 0, .slice none 0 0, .slice none 0 0] 26)) wc ∧ RdT wc (.slice (some ⟨bH, oH, none⟩) hh.length kh) hh)
      case first =>
        by_cases h2 : hh.length = 2
        · have h2b : ((hh.length : Int) == 2) = true := by rw [h2]; rfl
          obtain ⟨hy, hys⟩ := parts_at HSH.out (show 1 < hh.length by omega)
          rw [lB_len] at hys
          have d1 := HCH.out 1 (by omega)
          have hg1 : (1 : Int) < (hh.length : Int) := by omega
          have HP : Hid (spP (lB x) = valI (gT (splitL 44 (lB (gS hh 1))) 0) ∧ spS (lB x) = if (splitL 44 (lB (gS hh 1))).length = 2 then valI (gT (splitL 44 (lB (gS hh 1))) 1) else -1) := Lib.hid (by
            rw [hy]; unfold spP spS; rw [if_pos (by rw [HHL.out, h2]), if_pos (by rw [HHL.out, h2])]; exact ⟨rfl, rfl⟩)
          clear hy h2
          generalize gS hh 1 = y at *
          go_wp2_with fail
          refine (l01Split_c y 44 _ (by omega)).mono ?_
          rintro e w3 ⟨ap, kp, pp, rfl, hrp, hsp3, _, hb3⟩
          have hC3 := hC2.below hb3
          have hD3 := hD2.stays hb3
          have hK3 := hK2.trans (Keeps.of_below hb3)
          have hr3 := hrh.below hb3 (Nat.le_refl _)
          have hpp : 0 < pp.length := by
            have h1 := congrArg List.length hsp3
            have h3 := spl_ne 44 (lB y)
            rw [List.length_map] at h1
            cases hq : splitL 44 (lB y) with
            | nil => exact absurd hq h3
            | cons z r => rw [hq] at h1; simp at h1; omega
          have hpl : (splitL 44 (lB y)).length = pp.length := by rw [← hsp3]; simp
          obtain ⟨bP, oP, cP, hep, hbP, hcP⟩ := hrp.cells hpp
          injection hep with g1 _ g3
          subst g1 g3
          obtain ⟨hz0, hzs0⟩ := parts_at hsp3 hpp
          rw [lB_len] at hzs0
          have dp0 := hcP 0 hpp
          rw [Nat.add_zero] at dp0
          have hg2 : (0 : Int) < (pp.length : Int) := by omega
          rw [← hz0] at HP
          have HF : Hid (ClB w3 w1.heap.size (w1.heap.size + 1) (.slice a k ca) (.slice b k cb) (.slice d k cd) ((spPs (lB s)).take k) ((spSs (lB s)).take k) ((spWs (lB s)).take k) ∧ Blk w3 w.heap.size 26 #[.slice none 0 0, .slice none 0 0, .slice none 0 0] ∧ Keeps (fun q => q = w1.heap.size) (w1.alloc (.cells #[.slice none 0 0, .slice none 0 0, .slice none 0 0] 26)) w3 ∧ RdT w3 (.slice (some ⟨bH, oH, none⟩) hh.length kh) hh) := Lib.hid ⟨hC3, hD3, hK3, hr3⟩
          have HSP3 := Lib.hid hsp3
          have HPL := Lib.hid hpl
          have HCP := Lib.hid hcP
          clear hC3 hD3 hK3 hr3 hz0 hpl hsp3 hcP hC2 hD2 hK2 hb3 d1
          generalize gS pp 0 = z0 at *
          go_wp2_with fail
          refine (l01Value_c z0 _ (by omega)).mono ?_
          rintro e w4 ⟨rfl, rfl⟩
          by_cases h3 : pp.length = 2
          · have h3b : ((pp.length : Int) == 2) = true := by rw [h3]; rfl
            obtain ⟨hz1, hzs1⟩ := parts_at HSP3.out (show 1 < pp.length by omega)
            rw [lB_len] at hzs1
            have dp1 := HCP.out 1 (by omega)
            have hg3 : (1 : Int) < (pp.length : Int) := by omega
            have HP2 : Hid (spP (lB x) = valI (lB z0) ∧ spS (lB x) = valI (lB (gS pp 1))) := Lib.hid ⟨HP.out.1, by rw [HP.out.2, if_pos (by rw [HPL.out, h3]), hz1]⟩
            clear hz1 HP dp0 h3
            generalize gS pp 1 = z1 at *
            go_wp2_with fail
            refine (l01Value_c z1 _ (by omega)).mono ?_
            rintro e w5 ⟨rfl, rfl⟩
            go_wp2
            go_meet
            exact ⟨by rw [HP2.out.2], by rw [HP2.out.1], HF.out⟩
          · have h3b : ((pp.length : Int) == 2) = false := beq_eq_false_iff_ne.2 (by omega)
            have HP2 : Hid (spP (lB x) = valI (lB z0) ∧ spS (lB x) = -1) := Lib.hid ⟨HP.out.1, by rw [HP.out.2, if_neg (by rw [HPL.out]; exact h3)]⟩
            clear HP dp0
            go_wp2
            go_meet
            exact ⟨by rw [HP2.out.2], by rw [HP2.out.1], HF.out⟩
        · have h2b : ((hh.length : Int) == 2) = false := beq_eq_false_iff_ne.2 (by omega)
          have HP : Hid (spP (lB x) = -1 ∧ spS (lB x) = -1) := Lib.hid (by
            unfold spP spS; rw [if_neg (by rw [HHL.out]; exact h2), if_neg (by rw [HHL.out]; exact h2)]; exact ⟨rfl, rfl⟩)
          have HF : Hid (ClB w2 w1.heap.size (w1.heap.size + 1) (.slice a k ca) (.slice b k cb) (.slice d k cd) ((spPs (lB s)).take k) ((spSs (lB s)).take k) ((spWs (lB s)).take k) ∧ Blk w2 w.heap.size 26 #[.slice none 0 0, .slice none 0 0, .slice none 0 0] ∧ Keeps (fun q => q = w1.heap.size) (w1.alloc (.cells #[.slice none 0 0, .slice none 0 0, .slice none 0 0] 26)) w2 ∧ RdT w2 (.slice (some ⟨bH, oH, none⟩) hh.length kh) hh) := Lib.hid ⟨hC2, hD2, hK2, hrh⟩
          clear hC2 hD2 hK2 hrh
          go_wp2
          go_meet
          exact ⟨by rw [HP.out.2], by rw [HP.out.1], HF.out⟩
      case rest =>
        obtain ⟨rfl, rfl, hC3, hD3, hK3, hr3⟩ := hcut
        clear hC2 hD2 hK2 hrh
        obtain ⟨bq, oq, cq, hqe, hbq, hcq⟩ := hr3.cells hhp
        injection hqe with f1 _ f3
        injection f1 with f1
        injection f1 with f4 f5
        subst f4 f5 f3
        have dh := hcq 0 hhp
        rw [Nat.add_zero] at dh
        obtain ⟨hy0, hys0⟩ := parts_at HSH.out hhp
        rw [lB_len] at hys0
        have HW : Hid (spW (lB x) = intI (lB (gS hh 0))) := Lib.hid (by unfold spW; rw [hy0])
        have hg0 : (0 : Int) < (hh.length : Int) := by omega
        have c2 := hC3.blk.cell 2
        clear hcq hy0 hr3
        generalize gS hh 0 = y at *
        have hlW : ((spWs (lB s)).take k).length = k := by simp [spWs]; have := HLEN.out; omega
        have nW : (spWs (lB s)).take (k + 1) = (spWs (lB s)).take k ++ [intI (lB y)] := by
          have hks : k < (splitL 32 (lB s)).length := by rw [HLEN.out]; exact hlt
          rw [take_gI (by simpa [spWs] using hks)]; unfold spWs; rw [gI_mapT hks, ← HX.out, HW.out]
        have NW := Lib.hid nW
        have HLW := Lib.hid hlW
        clear nW hlW HW
        generalize (spWs (lB s)).take k = WA at *
        obtain ⟨v, hv⟩ : ∃ v, intI (lB y) = v := ⟨_, rfl⟩
        rw [hv] at NW
        have HV := Lib.hid hv
        clear hv
        have l4 := hC3.blk.lt
        have f2 := hC3.blk.free 2
        have hbase : w1.heap.size + 1 ≤ wc.heap.size := by have := hK3.size; simp at this; omega
        have hO6 : OwnI (wc.drew.alloc (.cells #[.int .i64 v] 2)) (w1.heap.size + 1) (.slice d k cd) WA := (hC3.own.c.below (Below.refl wc.heap.size wc).drew (Nat.le_refl _)).below ((Below.refl wc.drew.heap.size wc.drew).alloc (Nat.le_refl _) _) (Nat.le_refl _)
        go_upto_region 11 with fail
        go_cut [] from 14 to 63 (fun wx => ∃ (d' : Option Addr) (cd' : Nat), ClB wx w1.heap.size (w1.heap.size + 1) (.slice a k ca) (.slice b k cb) (.slice d' (k + 1) cd') ((spPs (lB s)).take k) ((spSs (lB s)).take k) (WA ++ [v]) ∧ Blk wx w.heap.size 26 #[.slice none 0 0, .slice none 0 0, .slice none 0 0] ∧ Keeps (fun q => q = w1.heap.size) (w1.alloc (.cells #[.slice none 0 0, .slice none 0 0, .slice none 0 0] 26)) wx)
        case first =>
          go_region_law (first
            | (refine step_push rfl (.tmp 44) (.tmp 49) 24 rfl (w1.heap.size + 1) 2 i0 Tryz.underlying24 hi hz0 hz1 hz2 (.slice d k cd) WA v wc.heap.size rfl hO6 rfl (Blk.new wc.drew _ _) (by rw [HLW.out]; omega) (by simp; omega) ?_; intro g2 cap2 w6 hO7 hk6 hw6 hl6; rw [HLW.out] at hO7 ⊢; have B6 := ((hC3.blk.drewN 1).alloc (.cells #[.int .i64 v] 2)).keeps hk6 (fun e => hC3.ne _ (.inr (.inr e)) rfl); have c6 := B6.cell 2; have f6 := B6.free 2)
            | (go_simp; go_at_call 62; (with_reducible refine (l07Integer_c y _ (by omega)).mono ?_); rintro e w5 ⟨rfl, rfl⟩; rw [HV.out])
            | fail)
          all_goals
            have hC4 := ((hC3.below (Below.refl wc.heap.size wc).drew).below ((Below.refl wc.drew.heap.size wc.drew).alloc (Nat.le_refl _) (.cells #[.int .i64 v] 2))).push2 hO7 hk6 (hw6.imp_right (fun e => by rw [e]; exact Nat.le_refl _))
            have hkk := keeps_push (gb := w1.heap.size) (base := w1.heap.size + 1) (j := 2) (u := .slice (some ⟨g2, 0, none⟩) (k + 1) cap2) hk6 (fun q e => (hC3.own.c.block q e).1)
            have hK4 := ((hK3.trans (Keeps.of_below (Below.refl wc.heap.size wc).drew)).alloc (.cells #[.int .i64 v] 2)).joinK hkk (fun q hq e => by simp at hq; omega)
            have hD4 := ((hD3.drewN 1).alloc (.cells #[.int .i64 v] 2)).keeps hkk (by omega)
            go_wp2
            go_meet
            exact ⟨_, _, hC4, hD4, hK4⟩
        case rest =>
          obtain ⟨d2, cd2, hC4, hD4, hK4⟩ := hcut
          obtain ⟨wx, rfl⟩ : ∃ wx : World, wx = wc := ⟨_, rfl⟩
          clear hC3 hD3 hK3 hO6 dh c2 f2
          have hks : k < (splitL 32 (lB s)).length := by rw [HLEN.out]; exact hlt
          have hLP : ((spPs (lB s)).take k).length = k := by simp [spPs]; omega
          have hLS : ((spSs (lB s)).take k).length = k := by simp [spSs]; omega
          have nP : (spPs (lB s)).take (k + 1) = (spPs (lB s)).take k ++ [spP (lB x)] := by rw [take_gI (by simpa [spPs] using hks)]; unfold spPs; rw [gI_mapT hks, ← HX.out]
          have nS : (spSs (lB s)).take (k + 1) = (spSs (lB s)).take k ++ [spS (lB x)] := by rw [take_gI (by simpa [spSs] using hks)]; unfold spSs; rw [gI_mapT hks, ← HX.out]
          generalize (spPs (lB s)).take k = PA at *
          generalize (spSs (lB s)).take k = SA at *
          have NP := Lib.hid nP
          have NS := Lib.hid nS
          have HLPA := Lib.hid hLP
          have HLSA := Lib.hid hLS
          clear nP nS hLP hLS hks
          have l4 := hC4.blk.lt
          have c0 := hC4.blk.cell 0
          have f0 := hC4.blk.free 0
          have hz : w1.heap.size + 1 ≤ wx.heap.size := by have := hK4.size; simp at this; omega
          go_upto_region 13 with (at_builtin; refine wpList_pushL rfl (.tmp 53) (.tmp 55) 24 rfl (w1.heap.size + 1) 2 i0 Tryz.underlying24 hi hz0 hz1 hz2 (.slice a k ca) PA (spP (lB x)) rfl hC4.own.a rfl (by rw [HLPA.out]; omega) hz ?_; intro g0 kg0 w5 ho hk2 hl; rw [HLPA.out] at ho ⊢; have hcell := (hk2.cell (p := ⟨w1.heap.size, 0, none⟩) l4 (fun e => hC4.ne _ (.inl e) rfl)).trans c0; have hfree := (hk2.frozen (p := ⟨w1.heap.size, 0, none⟩) l4 (fun e => hC4.ne _ (.inl e) rfl)).trans f0)
          have hC5 := hC4.push0 ho hk2 hl
          have hkk := keeps_push (gb := w1.heap.size) (base := w1.heap.size + 1) (j := 0) (u := .slice (some ⟨g0, 0, none⟩) (k + 1) kg0) hk2 (fun k e => (hC4.own.a.block k e).1)
          have hK5 := hK4.joinK hkk (fun q hq e => by simp at hq; omega)
          have hD5 := hD4.keeps hkk (by omega)
          clear hC4 hK4 hD4 ho hk2 hl hcell hfree c0 f0 hkk
          generalize w5.setCell ⟨w1.heap.size, 0, none⟩ (.slice (some ⟨g0, 0, none⟩) (k + 1) kg0) = w6 at *
          have l4 := hC5.blk.lt
          have c0 := hC5.blk.cell 1
          have f0 := hC5.blk.free 1
          have hz : w1.heap.size + 1 ≤ w6.heap.size := by have := hK5.size; simp at this; omega
          go_wp2_with (at_builtin; refine wpList_pushL rfl (.tmp 59) (.tmp 61) 24 rfl (w1.heap.size + 1) 2 i0 Tryz.underlying24 hi hz0 hz1 hz2 (.slice b k cb) SA (spS (lB x)) rfl hC5.own.b rfl (by rw [HLSA.out]; omega) hz ?_; intro g1 kg1 w7 ho hk2 hl; rw [HLSA.out] at ho ⊢; have hcell := (hk2.cell (p := ⟨w1.heap.size, 1, none⟩) l4 (fun e => hC5.ne _ (.inr (.inl e)) rfl)).trans c0; have hfree := (hk2.frozen (p := ⟨w1.heap.size, 1, none⟩) l4 (fun e => hC5.ne _ (.inr (.inl e)) rfl)).trans f0)
          have hC6 := hC5.push1 ho hk2 hl
          have hkk := keeps_push (gb := w1.heap.size) (base := w1.heap.size + 1) (j := 1) (u := .slice (some ⟨g1, 0, none⟩) (k + 1) kg1) hk2 (fun k e => (hC5.own.b.block k e).1)
          have hK6 := hK5.joinK hkk (fun q hq e => by simp at hq; omega)
          have hD6 := hD5.keeps hkk (by omega)
          clear hC5 hK5 hD5 ho hk2 hl hcell hfree c0 f0 hkk
          generalize w7.setCell ⟨w1.heap.size, 1, none⟩ (.slice (some ⟨g1, 0, none⟩) (k + 1) kg1) = w8 at *
          rw [← NP.out, ← NS.out, ← NW.out] at hC6
          go_roundw
          case rel => exact ⟨k + 1, _, _, _, _, _, _, by omega, by go_num, hC6, hD6, hK6⟩
          case measure => simp [intOf]; omega
    · have hke : k = ss.length := by omega
      have hki : ¬ (k : Int) < (ss.length : Int) := by omega
      have eP : (spPs (lB s)).take k = spPs (lB s) := List.take_of_length_le (by simp [spPs]; have := HLEN.out; omega)
      have eS : (spSs (lB s)).take k = spSs (lB s) := List.take_of_length_le (by simp [spSs]; have := HLEN.out; omega)
      have eW : (spWs (lB s)).take k = spWs (lB s) := List.take_of_length_le (by simp [spWs]; have := HLEN.out; omega)
      rw [eP, eS, eW] at hC
      have lP : (spPs (lB s)).length = k := by simp [spPs]; have := HLEN.out; omega
      have lS : (spSs (lB s)).length = k := by simp [spSs]; have := HLEN.out; omega
      have lW : (spWs (lB s)).length = k := by simp [spWs]; have := HLEN.out; omega
      have LP := Lib.hid lP
      have LS := Lib.hid lS
      have LW := Lib.hid lW
      have hBw := hB2.trans (hK.below (B := w.heap.size) hB2.size (fun q e => by omega))
      have c0 := hC.blk.cell 0
      have c1 := hC.blk.cell 1
      have c2 := hC.blk.cell 2
      have hzz : w1.heap.size + 1 ≤ wo.heap.size := by have := hK.size; simp at this; omega
      clear eP eS eW lP lS lW hke hK
      go_wp2_with fail
      refine (l07Is_c _ _ _ (spPs (lB s)) (spSs (lB s)) (spWs (lB s)) _ hC.own.a.rd hC.own.b.rd hC.own.c.rd).mono ?_
      rintro e w2 ⟨rfl, hb2⟩
      have hC2 := hC.below hb2
      have hD2 := hD.stays hb2
      have hBw := below_step hBw hb2
      have hz2 := hb2.size
      clear c0 c1 c2 hC hD hb2
      cases hcl : cluB (spPs (lB s)) (spSs (lB s)) (spWs (lB s))
      · obtain ⟨rfl, rfl, rfl, rfl⟩ := pc_no HR.out (fun h => by have := h.1; rw [hcl] at this; cases this)
        have f0 := hD2.free 0
        have f1 := hD2.free 1
        have f2 := hD2.free 2
        have e0 := hD2.cell 0
        have e1 := hD2.cell 1
        have e2 := hD2.cell 2
        have q0 := (((hD2.set 0 (.slice none 0 0)).set 1 (.slice none 0 0)).set 2 (.slice none 0 0)).cell 0
        have q1 := (((hD2.set 0 (.slice none 0 0)).set 1 (.slice none 0 0)).set 2 (.slice none 0 0)).cell 1
        have q2 := (((hD2.set 0 (.slice none 0 0)).set 1 (.slice none 0 0)).set 2 (.slice none 0 0)).cell 2
        have hfin := (((hBw.setCell (p := ⟨w.heap.size, 0, none⟩) (Nat.le_refl _) (.slice none 0 0)).setCell (p := ⟨w.heap.size, 1, none⟩) (Nat.le_refl _) (.slice none 0 0)).setCell (p := ⟨w.heap.size, 2, none⟩) (Nat.le_refl _) (.slice none 0 0))
        clear hC2 hcl
        go_wp2
        exact bodyPost_ret (v := .tuple #[.agg #[.slice none 0 0, .slice none 0 0, .slice none 0 0], .int .i64 6]) (by simp [results, Tryz.results24, go_sem, q0, q1, q2]) rfl (retCC_err hfin)
      · have hok := cluB_iff.1 hcl
        have c0 := hC2.blk.cell 0
        have c1 := hC2.blk.cell 1
        have c2 := hC2.blk.cell 2
        go_wp2_with fail
        refine (l07Text_c _ _ _ (spPs (lB s)) (spSs (lB s)) (spWs (lB s)) _ hC2.own.a.rd hC2.own.b.rd hC2.own.c.rd hok).mono ?_
        rintro e w3 ⟨t, rfl, ht, hb3⟩
        have hC3 := hC2.below hb3
        have hD3 := hD2.stays hb3
        have hBw := below_step hBw hb3
        have hz3 := hb3.size
        clear c0 c1 c2 hC2 hD2 hb3
        by_cases hts : t = s
        · obtain ⟨rfl, rfl, rfl, rfl⟩ := pc_yes HR.out hcl (by rw [← ht, hts])
          have hne : (t.toList == s.toList) = true := by rw [hts]; exact beq_self_eq_true _
          generalize spPs (lB s) = PA at *
          generalize spSs (lB s) = SA at *
          generalize spWs (lB s) = WA at *
          have c0 := hC3.blk.cell 0
          have c1 := hC3.blk.cell 1
          have c2 := hC3.blk.cell 2
          have f0 := hD3.free 0
          have f1 := hD3.free 1
          have f2 := hD3.free 2
          have e0 := hD3.cell 0
          have e1 := hD3.cell 1
          have e2 := hD3.cell 2
          have F := ((hD3.set 0 (.slice a k ca)).set 1 (.slice b k cb)).set 2 (.slice d k cd)
          have q0 := F.cell 0
          have q1 := F.cell 1
          have q2 := F.cell 2
          have hk5 : Keeps (fun q => q = w.heap.size) w3 (((w3.setCell ⟨w.heap.size, 0, none⟩ (.slice a k ca)).setCell ⟨w.heap.size, 1, none⟩ (.slice b k cb)).setCell ⟨w.heap.size, 2, none⟩ (.slice d k cd)) := (((Keeps.refl (fun q => q = w.heap.size) w3).setCell (p := ⟨w.heap.size, 0, none⟩) rfl _).setCell (p := ⟨w.heap.size, 1, none⟩) rfl _).setCell (p := ⟨w.heap.size, 2, none⟩) rfl _
          have ho5 := (hC3.own.keeps hk5 (fun g hg e => by have := (hC3.own.block g hg).1; omega)).base_le (base' := w.heap.size) (by omega)
          have hfin : Below w.heap.size w _ := hBw.trans (hk5.below hBw.size (fun q e => by omega))
          have HF : Hid (RetCC w PA SA WA 0 (.returned (.tuple #[.agg #[.slice a k ca, .slice b k cb, .slice d k cd], .int .i64 0])) (((w3.setCell ⟨w.heap.size, 0, none⟩ (.slice a k ca)).setCell ⟨w.heap.size, 1, none⟩ (.slice b k cb)).setCell ⟨w.heap.size, 2, none⟩ (.slice d k cd))) := Lib.hid ⟨a, ca, b, cb, d, cd, by rw [LP.out, LS.out, LW.out], by rw [LP.out, LS.out, LW.out]; exact ho5, hfin⟩
          clear hC3 hBw hcl hk5 ho5 hfin F ht hts hok
          go_wp2
          exact bodyPost_ret (v := .tuple #[.agg #[.slice a k ca, .slice b k cb, .slice d k cd], .int .i64 0]) (by simp [results, Tryz.results24, go_sem, q0, q1, q2]) rfl HF.out
        · obtain ⟨rfl, rfl, rfl, rfl⟩ := pc_no HR.out (fun h => hts (lB_inj (by rw [ht]; exact h.2)))
          have hne : (t.toList == s.toList) = false := by
            rw [beq_eq_false_iff_ne]
            intro e
            rw [toList_lB, toList_lB] at e
            exact hts (lB_inj e)
          have f0 := hD3.free 0
          have f1 := hD3.free 1
          have f2 := hD3.free 2
          have e0 := hD3.cell 0
          have e1 := hD3.cell 1
          have e2 := hD3.cell 2
          have q0 := (((hD3.set 0 (.slice none 0 0)).set 1 (.slice none 0 0)).set 2 (.slice none 0 0)).cell 0
          have q1 := (((hD3.set 0 (.slice none 0 0)).set 1 (.slice none 0 0)).set 2 (.slice none 0 0)).cell 1
          have q2 := (((hD3.set 0 (.slice none 0 0)).set 1 (.slice none 0 0)).set 2 (.slice none 0 0)).cell 2
          have hfin := (((hBw.setCell (p := ⟨w.heap.size, 0, none⟩) (Nat.le_refl _) (.slice none 0 0)).setCell (p := ⟨w.heap.size, 1, none⟩) (Nat.le_refl _) (.slice none 0 0)).setCell (p := ⟨w.heap.size, 2, none⟩) (Nat.le_refl _) (.slice none 0 0))
          clear hC3 hcl ht hts hok
          go_wp2
          exact bodyPost_ret (v := .tuple #[.agg #[.slice none 0 0, .slice none 0 0, .slice none 0 0], .int .i64 6]) (by simp [results, Tryz.results24, go_sem, q0, q1, q2]) rfl (retCC_err hfin)
end Go.Proofs.YtglghdkjppcedaaGreatDoor

/- The library's contracts of strings.Join and strconv.FormatInt at this program, as the shelf's command lays them. -/
namespace Go.Proofs
def Tryz.lays156_ren : Go.Shelf.Ren := ⟨fun | 156 => 83 | 165 => 88 | 166 => 89 | 169 => 90 | 240 => 93 | 241 => 94 | 276 => 101 | 277 => 102 | n => n, fun | 31 => 73 | 9 => 9 | 3 => 3 | 4 => 4 | 0 => 0 | 20 => 20 | 72 => 102 | 76 => 106 | 70 => 100 | 37 => 22 | 75 => 105 | 127 => 110 | 164 => 119 | 5 => 5 | 80 => 108 | n => n, fun | n => n⟩
theorem Tryz.lays156 : Go.Proofs.Lays.n156 Tryz.prog Tryz.lays156_ren := {
  mixed := by kernel_rfl
  f156 := Tryz.func83.trans (congrArg some (by kernel_rfl))
  f165 := Tryz.func88.trans (congrArg some (by kernel_rfl))
  f166 := Tryz.func89.trans (congrArg some (by kernel_rfl))
  f169 := Tryz.func90.trans (congrArg some (by kernel_rfl))
  f240 := Tryz.func93.trans (congrArg some (by kernel_rfl))
  f241 := Tryz.func94.trans (congrArg some (by kernel_rfl))
  f276 := Tryz.func101.trans (congrArg some (by kernel_rfl))
  f277 := Tryz.func102.trans (congrArg some (by kernel_rfl))
  t0 := Tryz.underlying0
  a0 := Tryz.isAgg0
  z0 := Tryz.sizeOf0
  v0 := Tryz.zeroValue0
  t3 := Tryz.underlying3
  a3 := Tryz.isAgg3
  z3 := Tryz.sizeOf3
  v3 := Tryz.zeroValue3
  t4 := Tryz.underlying4
  a4 := Tryz.isAgg4
  z4 := Tryz.sizeOf4
  v4 := Tryz.zeroValue4
  t9 := Tryz.underlying9
  a9 := Tryz.isAgg9
  z9 := Tryz.sizeOf9
  v9 := Tryz.zeroValue9
  t20 := Tryz.underlying20
  a20 := Tryz.isAgg20
  z20 := Tryz.sizeOf20
  v20 := Tryz.zeroValue20
  t31 := Tryz.underlying73
  a31 := Tryz.isAgg73
  z31 := Tryz.sizeOf73
  v31 := Tryz.zeroValue73
  t37 := Tryz.underlying22
  a37 := Tryz.isAgg22
  z37 := Tryz.sizeOf22
  v37 := Tryz.zeroValue22
  t70 := Tryz.underlying100
  a70 := Tryz.isAgg100
  z70 := Tryz.sizeOf100
  v70 := Tryz.zeroValue100
  t72 := Tryz.underlying102
  a72 := Tryz.isAgg102
  z72 := Tryz.sizeOf102
  v72 := Tryz.zeroValue102
  t75 := Tryz.underlying105
  a75 := Tryz.isAgg105
  z75 := Tryz.sizeOf105
  v75 := Tryz.zeroValue105
  t76 := Tryz.underlying106
  a76 := Tryz.isAgg106
  z76 := Tryz.sizeOf106
  v76 := Tryz.zeroValue106
  t127 := Tryz.underlying110
  a127 := Tryz.isAgg110
  z127 := Tryz.sizeOf110
  v127 := Tryz.zeroValue110
  t164 := Tryz.underlying119
  a164 := Tryz.isAgg119
  z164 := Tryz.sizeOf119
  v164 := Tryz.zeroValue119 }
theorem Tryz.Builder_Extra_156 : Builder.Extra Tryz.prog Tryz.lays156_ren := {
  sizeBuilder := by kernel_rfl
  liesBuilder := by kernel_rfl
  t5 := Tryz.underlying5
  a5 := Tryz.isAgg5
  z5 := Tryz.sizeOf5
  v5 := Tryz.zeroValue5
  infoByte := by kernel_rfl
  cellsByte := by kernel_rfl
  sizeByte := by kernel_rfl
  neB5 := by decide }
open Go.RowKit in
/-- strings.Join: "Join concatenates the elements of its first argument to create a single string. The separator string sep is placed between elements in the resulting string.": HOWEVER MANY ELEMENTS. Below the heap's end the world is as it was. (LAID: no walk: one application.) -/
theorem Tryz.strings_Join (bk o c : Nat) (xs : List ByteArray) (sep : ByteArray) (w : World) (hcells : ∀ (j : Nat) x, xs[j]? = some x → w.cell? ⟨bk, o + j, none⟩ = some (.string x)) (hbk : bk < w.heap.size) (hN : xs.length ≤ 140737488355328) (hcap : xs.length ≤ c) (hlen : (Lib.join (xs.map (·.data.toList)) sep.data.toList).length ≤ 140737488355328) :
    Calls Tryz.prog 83 #[.slice (some ⟨bk, o, none⟩) xs.length c, .string sep] w fun e w' => e = .returned (.string ⟨(Lib.join (xs.map (·.data.toList)) sep.data.toList).toArray⟩) ∧ Below w.heap.size w w' := Any.strings_Join Tryz.lays156 Tryz.Builder_Extra_156 bk o c xs sep w hcells hbk hN hcap hlen
def Tryz.laysM173_ren : Go.Shelf.Ren := ⟨fun | 173 => 87 | 246 => 92 | 283 => 97 | 284 => 98 | 285 => 99 | 286 => 100 | 129 => 105 | 317 => 104 | 318 => 106 | 319 => 107 | 320 => 108 | 337 => 109 | 338 => 110 | n => n, fun | 2 => 2 | 3 => 3 | 9 => 9 | 4 => 4 | 171 => 114 | 0 => 0 | 53 => 78 | 37 => 22 | 5 => 5 | 173 => 117 | 212 => 125 | 51 => 126 | 20 => 20 | 213 => 127 | 46 => 81 | 232 => 131 | 233 => 132 | n => n, fun | 17 => 0 | 18 => 2 | 19 => 3 | n => n⟩
theorem Tryz.laysM173 : Go.Proofs.LaysM.n173 Tryz.prog Tryz.laysM173_ren := {
  mixed := by kernel_rfl
  f129 := Tryz.func105.trans (congrArg some (by kernel_rfl))
  f173 := Tryz.func87.trans (congrArg some (by kernel_rfl))
  f246 := Tryz.func92.trans (congrArg some (by kernel_rfl))
  f283 := Tryz.func97.trans (congrArg some (by kernel_rfl))
  f284 := Tryz.func98.trans (congrArg some (by kernel_rfl))
  f285 := Tryz.func99.trans (congrArg some (by kernel_rfl))
  f286 := Tryz.func100.trans (congrArg some (by kernel_rfl))
  f317 := Tryz.func104.trans (congrArg some (by kernel_rfl))
  f318 := Tryz.func106.trans (congrArg some (by kernel_rfl))
  f319 := Tryz.func107.trans (congrArg some (by kernel_rfl))
  f320 := Tryz.func108.trans (congrArg some (by kernel_rfl))
  f337 := Tryz.func109.trans (congrArg some (by kernel_rfl))
  f338 := Tryz.func110.trans (congrArg some (by kernel_rfl))
  t0 := Tryz.underlying0
  a0 := Tryz.isAgg0
  z0 := Tryz.sizeOf0
  v0 := Tryz.zeroValue0
  t2 := Tryz.underlying2
  a2 := Tryz.isAgg2
  z2 := Tryz.sizeOf2
  v2 := Tryz.zeroValue2
  t3 := Tryz.underlying3
  a3 := Tryz.isAgg3
  z3 := Tryz.sizeOf3
  v3 := Tryz.zeroValue3
  t4 := Tryz.underlying4
  a4 := Tryz.isAgg4
  z4 := Tryz.sizeOf4
  v4 := Tryz.zeroValue4
  t5 := Tryz.underlying5
  a5 := Tryz.isAgg5
  z5 := Tryz.sizeOf5
  v5 := Tryz.zeroValue5
  t9 := Tryz.underlying9
  a9 := Tryz.isAgg9
  z9 := Tryz.sizeOf9
  v9 := Tryz.zeroValue9
  t20 := Tryz.underlying20
  a20 := Tryz.isAgg20
  z20 := Tryz.sizeOf20
  v20 := Tryz.zeroValue20
  t37 := Tryz.underlying22
  a37 := Tryz.isAgg22
  z37 := Tryz.sizeOf22
  v37 := Tryz.zeroValue22
  t46 := Tryz.underlying81
  a46 := Tryz.isAgg81
  z46 := Tryz.sizeOf81
  v46 := Tryz.zeroValue81
  t51 := Tryz.underlying126
  a51 := Tryz.isAgg126
  z51 := Tryz.sizeOf126
  v51 := Tryz.zeroValue126
  t53 := Tryz.underlying78
  a53 := Tryz.isAgg78
  z53 := Tryz.sizeOf78
  v53 := Tryz.zeroValue78
  t171 := Tryz.underlying114
  a171 := Tryz.isAgg114
  z171 := Tryz.sizeOf114
  v171 := Tryz.zeroValue114
  t173 := Tryz.underlying117
  a173 := Tryz.isAgg117
  z173 := Tryz.sizeOf117
  v173 := Tryz.zeroValue117
  t212 := Tryz.underlying125
  a212 := Tryz.isAgg125
  z212 := Tryz.sizeOf125
  v212 := Tryz.zeroValue125
  t213 := Tryz.underlying127
  a213 := Tryz.isAgg127
  z213 := Tryz.sizeOf127
  t232 := Tryz.underlying131
  a232 := Tryz.isAgg131
  z232 := Tryz.sizeOf131
  v232 := Tryz.zeroValue131
  t233 := Tryz.underlying132
  a233 := Tryz.isAgg132
  z233 := Tryz.sizeOf132
  v233 := Tryz.zeroValue132
  g17 := by kernel_rfl
  g18 := by kernel_rfl
  g19 := by kernel_rfl
  i0 := by kernel_rfl
  i2 := by kernel_rfl
  i3 := by kernel_rfl
  i4 := by kernel_rfl
  i5 := by kernel_rfl
  i9 := by kernel_rfl
  i20 := by kernel_rfl
  i37 := by kernel_rfl
  i46 := by kernel_rfl
  i51 := by kernel_rfl
  i53 := by kernel_rfl
  i171 := by kernel_rfl
  i173 := by kernel_rfl
  i212 := by kernel_rfl
  i232 := by kernel_rfl
  i233 := by kernel_rfl
  m17 := by kernel_rfl
  m18 := by kernel_rfl
  m19 := by kernel_rfl }
open Go.RowKit Go.Sort Go.Lib in
/-- strconv.FormatInt: "FormatInt returns the string representation of i in the given base": AT BASE 10: i's decimal numeral, for every int64. (LAID: no walk: one application.) -/
theorem Tryz.strconv_FormatInt_10 (n : Int) (h0 : -9223372036854775808 ≤ n) (h1 : n ≤ 9223372036854775807) (w : World) (htab : Lib.TabIs Tryz.prog w "internal/strconv.uint64pow10" .u64 Lib.pow10Tab) :
    Calls Tryz.prog 87 #[.int .i64 n, .int .i64 10] w fun e w' => e = .returned (.string ⟨(Lib.itoa n).toArray⟩) ∧ ∃ k os, w' = grow (w.drewN k) os := Any.strconv_FormatInt_10 Tryz.laysM173 n h0 h1 w htab
end Go.Proofs
