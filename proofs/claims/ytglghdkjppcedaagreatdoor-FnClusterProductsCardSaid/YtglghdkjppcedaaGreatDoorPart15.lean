/- Contracts: AddClusters, the reference. -/
import Derived.Test.YtglghdkjppcedaaGreatDoorPart14
import Derived.Deep.RegionHeld3
import Derived.Test.YtglghdkjppcedaaGreatDoorPart6
import Derived.Test.YtglghdkjppcedaaGreatDoorPart2
import Derived.Test.YtglghdkjppcedaaGreatDoorPart7
import Derived.Test.YtglghdkjppcedaaGreatDoorPart8
import Derived.Test.YtglghdkjppcedaaGreatDoorPart12
namespace Go.Proofs.YtglghdkjppcedaaGreatDoor
open Go.RowKit

set_option maxRecDepth 100000 in
set_option maxHeartbeats 600000 in
theorem specAdd_1 (p s q p' s' q' : Value) (P S W P' S' W' : List Int) (w : World) (hp : Rd w p P) (hs : Rd w s S) (hq : Rd w q W) (hp' : Rd w p' P') (hs' : Rd w s' S') (hq' : Rd w q' W') (h0 : pairC P S W P' S' W' ≠ 0) :
    Calls Tryz.prog 19 #[.agg #[p, s, q], .agg #[p', s', q']] w (RetCC w [] [] [] (pairC P S W P' S' W')) := by
  have hd : (pairC P S W P' S' W' != 0) = true := by simpa using h0
  clear h0
  obtain ⟨a0, k0, rfl⟩ := hp.len0
  obtain ⟨a1, k1, rfl⟩ := hs.len0
  obtain ⟨a2, k2, rfl⟩ := hq.len0
  obtain ⟨a3, k3, rfl⟩ := hp'.len0
  obtain ⟨a4, k4, rfl⟩ := hs'.len0
  obtain ⟨a5, k5, rfl⟩ := hq'.len0
  have B0 : Blk (((w.alloc (.cells #[.slice a0 P.length k0, .slice a1 S.length k1, .slice a2 W.length k2] 26)).alloc (.cells #[.slice a3 P'.length k3, .slice a4 S'.length k4, .slice a5 W'.length k5] 26)).alloc (.cells #[.slice none 0 0, .slice none 0 0, .slice none 0 0] 26)) w.heap.size 26 #[.slice a0 P.length k0, .slice a1 S.length k1, .slice a2 W.length k2] := ((Blk.new w _ _).alloc _).alloc _
  have B1 : Blk (((w.alloc (.cells #[.slice a0 P.length k0, .slice a1 S.length k1, .slice a2 W.length k2] 26)).alloc (.cells #[.slice a3 P'.length k3, .slice a4 S'.length k4, .slice a5 W'.length k5] 26)).alloc (.cells #[.slice none 0 0, .slice none 0 0, .slice none 0 0] 26)) (w.heap.size + 1) 26 #[.slice a3 P'.length k3, .slice a4 S'.length k4, .slice a5 W'.length k5] := (Blk.new' (by simp)).alloc _
  have D : Blk (((w.alloc (.cells #[.slice a0 P.length k0, .slice a1 S.length k1, .slice a2 W.length k2] 26)).alloc (.cells #[.slice a3 P'.length k3, .slice a4 S'.length k4, .slice a5 W'.length k5] 26)).alloc (.cells #[.slice none 0 0, .slice none 0 0, .slice none 0 0] 26)) (w.heap.size + 2) 26 #[.slice none 0 0, .slice none 0 0, .slice none 0 0] := Blk.new' (by simp)
  have fr : Below w.heap.size w (((w.alloc (.cells #[.slice a0 P.length k0, .slice a1 S.length k1, .slice a2 W.length k2] 26)).alloc (.cells #[.slice a3 P'.length k3, .slice a4 S'.length k4, .slice a5 W'.length k5] 26)).alloc (.cells #[.slice none 0 0, .slice none 0 0, .slice none 0 0] 26)) := (((Below.refl _ _).alloc (Nat.le_refl _) _).alloc (by simp) _).alloc (by simp; omega) _
  have sz : w.heap.size + 3 ≤ (((w.alloc (.cells #[.slice a0 P.length k0, .slice a1 S.length k1, .slice a2 W.length k2] 26)).alloc (.cells #[.slice a3 P'.length k3, .slice a4 S'.length k4, .slice a5 W'.length k5] 26)).alloc (.cells #[.slice none 0 0, .slice none 0 0, .slice none 0 0] 26)).heap.size := by simp
  have c0 := B0.cell 0
  have c1 := B0.cell 1
  have c2 := B0.cell 2
  have d0 := B1.cell 0
  have d1 := B1.cell 1
  have d2 := B1.cell 2
  go_enter Tryz.func19, Tryz.ntmps19
  go_wp2_with fail
  refine (l07Alike_c _ _ _ _ _ _ P S W P' S' W' _ (hp.below fr (Nat.le_refl _)) (hs.below fr (Nat.le_refl _)) (hq.below fr (Nat.le_refl _)) (hp'.below fr (Nat.le_refl _)) (hs'.below fr (Nat.le_refl _)) (hq'.below fr (Nat.le_refl _))).mono ?_
  rintro e w1 ⟨rfl, hb⟩
  have B0 := B0.stays hb
  have B1 := B1.stays hb
  have D := D.stays hb
  have fr := below_step fr hb
  have sz := Nat.le_trans sz (Below.size hb)
  clear c0 c1 c2 d0 d1 d2
  have f0 := D.free 0
  have f1 := D.free 1
  have f2 := D.free 2
  have e0 := D.cell 0
  have e1 := D.cell 1
  have e2 := D.cell 2
  go_wp2
  have q0 := (((D.set 0 (.slice none 0 0)).set 1 (.slice none 0 0)).set 2 (.slice none 0 0)).cell 0
  have q1 := (((D.set 0 (.slice none 0 0)).set 1 (.slice none 0 0)).set 2 (.slice none 0 0)).cell 1
  have q2 := (((D.set 0 (.slice none 0 0)).set 1 (.slice none 0 0)).set 2 (.slice none 0 0)).cell 2
  refine bodyPost_ret (v := .tuple #[.agg #[.slice none 0 0, .slice none 0 0, .slice none 0 0], .int .i64 (pairC P S W P' S' W')]) (by simp [results, Tryz.results19, go_sem, q0, q1, q2]) rfl ⟨none, 0, none, 0, none, 0, rfl, own3_nil _ _ _, ?_⟩
  exact ((fr.setCell (p := ⟨w.heap.size + 2, 0, none⟩) (Nat.le_add_right _ _) _).setCell (p := ⟨w.heap.size + 2, 1, none⟩) (Nat.le_add_right _ _) _).setCell (p := ⟨w.heap.size + 2, 2, none⟩) (Nat.le_add_right _ _) _

set_option maxRecDepth 100000 in
set_option maxHeartbeats 4000000 in
theorem specAdd_2 (p s q p' s' q' : Value) (P S W P' S' W' : List Int) (w : World) (hp : Rd w p P) (hs : Rd w s S) (hq : Rd w q W) (hp' : Rd w p' P') (hs' : Rd w s' S') (hq' : Rd w q' W') (fb : Bool) (h1 : cluB P S W = true) (h2 : cluB P' S' W' = true) (h3 : likeB P S P' S' = true) (hw0 : cluB P S (adTo W W' W.length) = fb) :
    Calls Tryz.prog 19 #[.agg #[p, s, q], .agg #[p', s', q']] w (RetCC w (okL fb P) (okL fb S) (okL fb (adTo W W' W.length)) (okC fb 3)) := by
  obtain ⟨i0, hi, hz0, hz1, hz2⟩ := info_parts Tryz.infoI
  have hcl := cluB_iff.1 h1
  have hcl' := cluB_iff.1 h2
  have hlk := likeB_iff.1 h3
  have hpc := Lib.hid (pairC_0 h1 h2 h3)
  have hlw := Lib.hid (show W'.length = W.length by have e1 := hcl.1; have e2 := hcl'.1; rw [← hlk.1] at e2; omega)
  have hW0 : 0 < W.length := by have := hcl.1; omega
  have hW1 : 0 < W'.length := by have := hcl'.1; omega
  have hW24 : W.length ≤ 24 := by have := hcl.1; omega
  have hn1 := Lib.hid hcl.2.1
  have hn2 := Lib.hid hcl'.2.1
  have HC := Lib.hid hcl
  have hwy := Lib.hid hw0
  clear hcl hcl' hlk hw0 h1 h2 h3
  obtain ⟨a0, k0, rfl⟩ := hp.len0
  obtain ⟨a1, k1, rfl⟩ := hs.len0
  obtain ⟨b2, o2, k2, rfl, _, _, hbk2, hck2⟩ := hq.cells hW0
  obtain ⟨a3, k3, rfl⟩ := hp'.len0
  obtain ⟨a4, k4, rfl⟩ := hs'.len0
  obtain ⟨b5, o5, k5, rfl, _, _, hbk5, hck5⟩ := hq'.cells hW1
  have B0 : Blk (((w.alloc (.cells #[.slice a0 P.length k0, .slice a1 S.length k1, .slice (some ⟨b2, o2, none⟩) W.length k2] 26)).alloc (.cells #[.slice a3 P'.length k3, .slice a4 S'.length k4, .slice (some ⟨b5, o5, none⟩) W'.length k5] 26)).alloc (.cells #[.slice none 0 0, .slice none 0 0, .slice none 0 0] 26)) w.heap.size 26 #[.slice a0 P.length k0, .slice a1 S.length k1, .slice (some ⟨b2, o2, none⟩) W.length k2] := ((Blk.new w _ _).alloc _).alloc _
  have B1 : Blk (((w.alloc (.cells #[.slice a0 P.length k0, .slice a1 S.length k1, .slice (some ⟨b2, o2, none⟩) W.length k2] 26)).alloc (.cells #[.slice a3 P'.length k3, .slice a4 S'.length k4, .slice (some ⟨b5, o5, none⟩) W'.length k5] 26)).alloc (.cells #[.slice none 0 0, .slice none 0 0, .slice none 0 0] 26)) (w.heap.size + 1) 26 #[.slice a3 P'.length k3, .slice a4 S'.length k4, .slice (some ⟨b5, o5, none⟩) W'.length k5] := (Blk.new' (by simp)).alloc _
  have D : Blk (((w.alloc (.cells #[.slice a0 P.length k0, .slice a1 S.length k1, .slice (some ⟨b2, o2, none⟩) W.length k2] 26)).alloc (.cells #[.slice a3 P'.length k3, .slice a4 S'.length k4, .slice (some ⟨b5, o5, none⟩) W'.length k5] 26)).alloc (.cells #[.slice none 0 0, .slice none 0 0, .slice none 0 0] 26)) (w.heap.size + 2) 26 #[.slice none 0 0, .slice none 0 0, .slice none 0 0] := Blk.new' (by simp)
  have fr : Below w.heap.size w (((w.alloc (.cells #[.slice a0 P.length k0, .slice a1 S.length k1, .slice (some ⟨b2, o2, none⟩) W.length k2] 26)).alloc (.cells #[.slice a3 P'.length k3, .slice a4 S'.length k4, .slice (some ⟨b5, o5, none⟩) W'.length k5] 26)).alloc (.cells #[.slice none 0 0, .slice none 0 0, .slice none 0 0] 26)) := (((Below.refl _ _).alloc (Nat.le_refl _) _).alloc (by simp) _).alloc (by simp; omega) _
  have sz : w.heap.size + 3 ≤ (((w.alloc (.cells #[.slice a0 P.length k0, .slice a1 S.length k1, .slice (some ⟨b2, o2, none⟩) W.length k2] 26)).alloc (.cells #[.slice a3 P'.length k3, .slice a4 S'.length k4, .slice (some ⟨b5, o5, none⟩) W'.length k5] 26)).alloc (.cells #[.slice none 0 0, .slice none 0 0, .slice none 0 0] 26)).heap.size := by simp
  have c0 := B0.cell 0
  have c1 := B0.cell 1
  have c2 := B0.cell 2
  have d0 := B1.cell 0
  have d1 := B1.cell 1
  have d2 := B1.cell 2
  go_enter Tryz.func19, Tryz.ntmps19
  go_wp2_with fail
  refine (l07Alike_c _ _ _ _ _ _ P S W P' S' W' _ (hp.below fr (Nat.le_refl _)) (hs.below fr (Nat.le_refl _)) (hq.below fr (Nat.le_refl _)) (hp'.below fr (Nat.le_refl _)) (hs'.below fr (Nat.le_refl _)) (hq'.below fr (Nat.le_refl _))).mono ?_
  rintro e w1 ⟨rfl, hb⟩
  have B0 := B0.stays hb
  have B1 := B1.stays hb
  have D := D.stays hb
  have fr := below_step fr hb
  have sz := Nat.le_trans sz (Below.size hb)
  clear c0 c1 c2 d0 d1 d2
  rw [hpc.out]
  have g0 := own_empty_at w1 (w.heap.size + 3) w1.heap.size rfl sz
  have hal : Below w1.heap.size w1 (w1.alloc (.cells #[] 2)) := (Below.refl _ _).alloc (Nat.le_refl _) _
  have B0 := B0.stays hal
  have B1 := B1.stays hal
  have D := D.stays hal
  have fr := below_step fr hal
  have sz := Nat.le_trans sz (Below.size hal)
  have c2 := B0.cell 2
  have d2 := B1.cell 2
  go_wp2
  clear c2 d2
  go_loopw [7, 8] (fun v i wr => ∃ k : Nat, ∃ g c : Nat, k ≤ W.length ∧ i = .int .i64 k ∧ v = .slice (some ⟨g, 0, none⟩) k c ∧ OwnI wr (w.heap.size + 3) (.slice (some ⟨g, 0, none⟩) k c) (adTo W W' k) ∧ Below w.heap.size w wr ∧ Blk wr w.heap.size 26 #[.slice a0 P.length k0, .slice a1 S.length k1, .slice (some ⟨b2, o2, none⟩) W.length k2] ∧ Blk wr (w.heap.size + 1) 26 #[.slice a3 P'.length k3, .slice a4 S'.length k4, .slice (some ⟨b5, o5, none⟩) W'.length k5] ∧ Blk wr (w.heap.size + 2) 26 #[.slice none 0 0, .slice none 0 0, .slice none 0 0] ∧ w.heap.size + 3 ≤ wr.heap.size) (fun _ i _ => W.length - (intOf i).toNat)
  case atStart => exact ⟨0, _, _, Nat.zero_le _, rfl, rfl, g0, fr, B0, B1, D, sz⟩
  case round =>
    obtain ⟨k, g, c, hk, rfl, rfl, ho5, fr5, C0, C1, D5, sz5⟩ := hrel
    clear g0 fr B0 B1 D sz hal
    obtain ⟨wo, rfl⟩ : ∃ wo : World, wo = wr := ⟨_, rfl⟩
    have c2 := C0.cell 2
    have d2 := C1.cell 2
    by_cases hlt : k < W.length
    · have hlt' : k < W'.length := by have := hlw.out; omega
      have hkW : (k : Int) < (W.length : Int) := by omega
      have hkW' : (k : Int) < (W'.length : Int) := by omega
      have k00 : (0 : Int) ≤ (k : Int) := Int.natCast_nonneg _
      have hgb := ho5.block g rfl
      have dx : wo.cell? ⟨b2, o2 + k, none⟩ = some (.int .i64 (gI W k)) := by rw [fr5.cell (p := ⟨b2, o2 + k, none⟩) hbk2]; exact hck2 k hlt
      have dv : wo.cell? ⟨b5, o5 + k, none⟩ = some (.int .i64 (gI W' k)) := by rw [fr5.cell (p := ⟨b5, o5 + k, none⟩) hbk5]; exact hck5 k hlt'
      have n1 := hn1.out k hlt
      have n2 := hn2.out k hlt'
      have HY := Lib.hid (adTo_succ W W' k)
      have HX := Lib.hid (show ∀ X : World, Below w.heap.size w X → X.cell? ⟨b2, o2 + k, none⟩ = some (.int .i64 (gI W k)) ∧ X.cell? ⟨b5, o5 + k, none⟩ = some (.int .i64 (gI W' k)) from fun X hX => ⟨by rw [hX.cell (p := ⟨b2, o2 + k, none⟩) hbk2]; exact hck2 k hlt, by rw [hX.cell (p := ⟨b5, o5 + k, none⟩) hbk5]; exact hck5 k hlt'⟩)
      generalize gI W k = x at dx n1 HY HX
      generalize gI W' k = y at dv n2 HY HX
      obtain ⟨x1, x2⟩ := n1
      obtain ⟨y1, y2⟩ := n2
      have e4 : IntKind.i64.wrap (x + y) = x + y := IntWalk.i64_in _ (by omega)
      have hal : Below wo.heap.size wo ((wo.alloc (.cells #[.int .i64 (x + y)] 2)).drew) := ((Below.refl _ _).alloc (Nat.le_refl _) _).drew
      have hO := ho5.below hal (Nat.le_refl _)
      have E0 := C0.stays hal
      have E1 := C1.stays hal
      have ED := D5.stays hal
      have frE := below_step fr5 hal
      go_wp2_with fail
      have HS0 : wo.drew.cell? ⟨w.heap.size, 2, none⟩ = some (.slice (some ⟨b2, o2, none⟩) W.length k2) ∧ wo.drew.cell? ⟨w.heap.size + 1, 2, none⟩ = some (.slice (some ⟨b5, o5, none⟩) W'.length k5) ∧ wo.drew.cell? ⟨b2, o2 + k, none⟩ = some (.int .i64 x) ∧ wo.drew.cell? ⟨b5, o5 + k, none⟩ = some (.int .i64 y) := ⟨(C0.stays (Below.refl _ _).drew).cell 2, (C1.stays (Below.refl _ _).drew).cell 2, HX.out _ (below_step fr5 (Below.refl _ _).drew)⟩
      have HS1 : ((wo.alloc (.cells #[.int .i64 (x + y)] 2)).drew).cell? ⟨w.heap.size, 2, none⟩ = some (.slice (some ⟨b2, o2, none⟩) W.length k2) ∧ ((wo.alloc (.cells #[.int .i64 (x + y)] 2)).drew).cell? ⟨w.heap.size + 1, 2, none⟩ = some (.slice (some ⟨b5, o5, none⟩) W'.length k5) ∧ ((wo.alloc (.cells #[.int .i64 (x + y)] 2)).drew).cell? ⟨b2, o2 + k, none⟩ = some (.int .i64 x) ∧ ((wo.alloc (.cells #[.int .i64 (x + y)] 2)).drew).cell? ⟨b5, o5 + k, none⟩ = some (.int .i64 y) := ⟨E0.cell 2, E1.cell 2, HX.out _ frE⟩
      clear c2 d2 dx dv
      go_region_held3 (fun w' => w'.cell? ⟨w.heap.size, 2, none⟩ = some (.slice (some ⟨b2, o2, none⟩) W.length k2) ∧ w'.cell? ⟨w.heap.size + 1, 2, none⟩ = some (.slice (some ⟨b5, o5, none⟩) W'.length k5) ∧ w'.cell? ⟨b2, o2 + k, none⟩ = some (.int .i64 x) ∧ w'.cell? ⟨b5, o5 + k, none⟩ = some (.int .i64 y))
        (first | assumption | exact HS2 | exact HS1 | exact HS0)
        (first | (refine step_pushS rfl (.tmp 26) (.tmp 38) 24 rfl (w.heap.size + 3) 2 i0 Tryz.underlying24 hi hz0 hz1 hz2 g k c (adTo W W' k) (x + y) wo.heap.size (adTo_len _ _ _) rfl hO rfl (Blk.new wo _ _) (by omega) (by simp; omega) ?_; intro g2 c2 w2 h1 h2 h3 h4 h5; have F0 := E0.keeps h2 (by omega); have F1 := E1.keeps h2 (by omega); have FD := ED.keeps h2 (by omega); have frF := frE.trans (h2.below (by have := Below.size frE; omega) (fun b hb => by omega)); have HS2 : w2.cell? ⟨w.heap.size, 2, none⟩ = some (.slice (some ⟨b2, o2, none⟩) W.length k2) ∧ w2.cell? ⟨w.heap.size + 1, 2, none⟩ = some (.slice (some ⟨b5, o5, none⟩) W'.length k5) ∧ w2.cell? ⟨b2, o2 + k, none⟩ = some (.int .i64 x) ∧ w2.cell? ⟨b5, o5 + k, none⟩ = some (.int .i64 y) := ⟨F0.cell 2, F1.cell 2, HX.out _ frF⟩))
      all_goals
        rw [← HY.out] at h1
        have hsz2 := h2.size
        simp at hsz2
        clear h2 h3 h4 h5 hO HS0 HS1 HS2 E0 E1 ED frE
        go_wp2
        go_roundw
        case rel => exact ⟨k + 1, g2, c2, by omega, by go_num, rfl, h1, frF, F0, F1, FD, by omega⟩
        case measure => simp [intOf]; omega
    · have hk' : k = W.length := by omega
      subst hk'
      have c0 := C0.cell 0
      have c1 := C0.cell 1
      have pL := ho5.block
      go_wp2_with fail
      refine (l07With_c _ _ _ _ _ _ P S W _ (hp.below fr5 (Nat.le_refl _)) (hs.below fr5 (Nat.le_refl _)) HC.out).mono ?_
      rintro e v2 ⟨b1, j1, b2', j2, rfl, o1, o2', ap, hq2⟩
      have G2 := D5.stays hq2
      have fr6 := below_step fr5 hq2
      have hz3 := hq2.size
      have pP := o1.block
      have pS := o2'.block
      have o3 := ho5.below hq2 (Nat.le_refl _)
      clear c0 c1 c2 d2
      go_wp2_with fail
      refine (l07Fit_v fb _ _ _ _ _ _ _ P S (adTo W W' W.length) _ o1.rd o2'.rd o3.rd (adTo_len _ _ _) hwy.out).mono ?_
      rintro e v3 ⟨rfl, hq3⟩
      have G3 := G2.stays hq3
      have fr7 := below_step fr6 hq3
      have hz4 := hq3.size
      have o4 := o1.below hq3 (Nat.le_refl _)
      have o5' := o2'.below hq3 (Nat.le_refl _)
      have o6 := o3.below hq3 (Nat.le_refl _)
      have D8 := G3.alloc (.cells #[.slice (oA fb b1) (oN fb P.length) (oN fb j1), .slice (oA fb b2') (oN fb S.length) (oN fb j2), .slice (oA fb (some ⟨g, 0, none⟩)) (oN fb W.length) (oN fb c)] 26)
      have E8 := Blk.new v3 26 #[.slice (oA fb b1) (oN fb P.length) (oN fb j1), .slice (oA fb b2') (oN fb S.length) (oN fb j2), .slice (oA fb (some ⟨g, 0, none⟩)) (oN fb W.length) (oN fb c)]
      have ha8 : Below v3.heap.size v3 (v3.alloc (.cells #[.slice (oA fb b1) (oN fb P.length) (oN fb j1), .slice (oA fb b2') (oN fb S.length) (oN fb j2), .slice (oA fb (some ⟨g, 0, none⟩)) (oN fb W.length) (oN fb c)] 26)) := (Below.refl _ _).alloc (Nat.le_refl _) _
      have fr8 := below_step fr7 ha8
      have o7 := o4.below ha8 (Nat.le_refl _)
      have o8 := o5'.below ha8 (Nat.le_refl _)
      have o9 := o6.below ha8 (Nat.le_refl _)
      have ho8 : Own3 2 (v3.alloc (.cells #[.slice (oA fb b1) (oN fb P.length) (oN fb j1), .slice (oA fb b2') (oN fb S.length) (oN fb j2), .slice (oA fb (some ⟨g, 0, none⟩)) (oN fb W.length) (oN fb c)] 26)) (w.heap.size + 3) (.slice (oA fb b1) (oN fb P.length) (oN fb j1)) (.slice (oA fb b2') (oN fb S.length) (oN fb j2)) (.slice (oA fb (some ⟨g, 0, none⟩)) (oN fb W.length) (oN fb c)) (okL fb P) (okL fb S) (okL fb (adTo W W' W.length)) := own3_fit fb ⟨o7.base_le (by omega), o8.base_le (by omega), o9, ap, fun k h1 h2 => by have := pP k h1; have := pL k h2; omega, fun k h1 h2 => by have := pS k h1; have := pL k h2; omega⟩
      have g0 := E8.cell 0
      have g1 := E8.cell 1
      have g2 := E8.cell 2
      have f0 := D8.free 0
      have f1 := D8.free 1
      have f2 := D8.free 2
      have e0 := D8.cell 0
      have e1 := D8.cell 1
      have e2 := D8.cell 2
      go_wp2
      have F := ((D8.set 0 (.slice (oA fb b1) (oN fb P.length) (oN fb j1))).set 1 (.slice (oA fb b2') (oN fb S.length) (oN fb j2))).set 2 (.slice (oA fb (some ⟨g, 0, none⟩)) (oN fb W.length) (oN fb c))
      have q0 := F.cell 0
      have q1 := F.cell 1
      have q2 := F.cell 2
      have hK : Keeps (fun k => k = w.heap.size + 2) (v3.alloc (.cells #[.slice (oA fb b1) (oN fb P.length) (oN fb j1), .slice (oA fb b2') (oN fb S.length) (oN fb j2), .slice (oA fb (some ⟨g, 0, none⟩)) (oN fb W.length) (oN fb c)] 26)) ((((v3.alloc (.cells #[.slice (oA fb b1) (oN fb P.length) (oN fb j1), .slice (oA fb b2') (oN fb S.length) (oN fb j2), .slice (oA fb (some ⟨g, 0, none⟩)) (oN fb W.length) (oN fb c)] 26)).setCell ⟨w.heap.size + 2, 0, none⟩ (.slice (oA fb b1) (oN fb P.length) (oN fb j1))).setCell ⟨w.heap.size + 2, 1, none⟩ (.slice (oA fb b2') (oN fb S.length) (oN fb j2))).setCell ⟨w.heap.size + 2, 2, none⟩ (.slice (oA fb (some ⟨g, 0, none⟩)) (oN fb W.length) (oN fb c))) := ((((Keeps.refl (fun k => k = w.heap.size + 2) (v3.alloc (.cells #[.slice (oA fb b1) (oN fb P.length) (oN fb j1), .slice (oA fb b2') (oN fb S.length) (oN fb j2), .slice (oA fb (some ⟨g, 0, none⟩)) (oN fb W.length) (oN fb c)] 26))).setCell (p := ⟨w.heap.size + 2, 0, none⟩) rfl _).setCell (p := ⟨w.heap.size + 2, 1, none⟩) rfl _).setCell (p := ⟨w.heap.size + 2, 2, none⟩) rfl _)
      refine bodyPost_ret (v := .tuple #[.agg #[.slice (oA fb b1) (oN fb P.length) (oN fb j1), .slice (oA fb b2') (oN fb S.length) (oN fb j2), .slice (oA fb (some ⟨g, 0, none⟩)) (oN fb W.length) (oN fb c)], .int .i64 (okC fb 3)]) (by simp [results, Tryz.results19, go_sem, q0, q1, q2]) rfl (retCC_fit (adTo_len _ _ _) ?_ ?_)
      · exact (ho8.keeps hK (fun k hk e => by have := (ho8.block k hk).1; omega)).base_le (by omega)
      · exact fr8.trans (hK.below (by have := Below.size fr8; omega) (fun k hk => by omega))

end Go.Proofs.YtglghdkjppcedaaGreatDoor

/- Contracts: AddClusters, the program and the reference. -/
namespace Go.Proofs.YtglghdkjppcedaaGreatDoor
open Go.RowKit

/-- May two clusters be added? -/
def adB (P S W P' S' W' : List Int) : Bool := pairB P S W P' S' W' && allIn (adTo W W' W.length) (-100000) 100000
def adC (P S W P' S' W' : List Int) : Int := if pairB P S W P' S' W' then okC (allIn (adTo W W' W.length) (-100000) 100000) 3 else pairC P S W P' S' W'
theorem ad_no {P S W P' S' W' : List Int} (h : pairB P S W P' S' W' = false) : adB P S W P' S' W' = false ∧ adC P S W P' S' W' = pairC P S W P' S' W' := by simp [adB, adC, h]
theorem ad_yes {P S W P' S' W' : List Int} (h : pairB P S W P' S' W' = true) : adB P S W P' S' W' = allIn (adTo W W' W.length) (-100000) 100000 ∧ adC P S W P' S' W' = okC (allIn (adTo W W' W.length) (-100000) 100000) 3 := by simp [adB, adC, h]
theorem implAdd_c (p s q p' s' q' : Value) (P S W P' S' W' : List Int) (w : World) (hp : Rd w p P) (hs : Rd w s S) (hq : Rd w q W) (hp' : Rd w p' P') (hs' : Rd w s' S') (hq' : Rd w q' W') :
    Calls Tryz.prog 18 #[.agg #[p, s, q], .agg #[p', s', q']] w (RetCC w (okL (adB P S W P' S' W') P) (okL (adB P S W P' S' W') S) (okL (adB P S W P' S' W') (adTo W W' W.length)) (adC P S W P' S' W')) := by
  cases h1 : cluB P S W
  · obtain ⟨e1, e2⟩ := ad_no (show pairB P S W P' S' W' = false by simp [pairB, h1])
    rw [e1, e2, pairC_1a h1]
    exact implAdd_1 p s q p' s' q' P S W P' S' W' w hp hs hq hp' hs' hq' h1
  · cases h2 : cluB P' S' W'
    · obtain ⟨e1, e2⟩ := ad_no (show pairB P S W P' S' W' = false by simp [pairB, h2])
      rw [e1, e2, pairC_1b h2]
      exact implAdd_2 p s q p' s' q' P S W P' S' W' w hp hs hq hp' hs' hq' h1 h2
    · cases h3 : likeB P S P' S'
      · obtain ⟨e1, e2⟩ := ad_no (show pairB P S W P' S' W' = false by simp [pairB, h3])
        rw [e1, e2, pairC_2 h1 h2 h3]
        exact implAdd_3 p s q p' s' q' P S W P' S' W' w hp hs hq hp' hs' hq' h1 h2 h3
      · obtain ⟨e1, e2⟩ := ad_yes (pairB_iff.2 ⟨h1, h2, h3⟩)
        rw [e1, e2]
        exact implAdd_4 p s q p' s' q' P S W P' S' W' w hp hs hq hp' hs' hq' h1 h2 h3
theorem specAdd_c (p s q p' s' q' : Value) (P S W P' S' W' : List Int) (w : World) (hp : Rd w p P) (hs : Rd w s S) (hq : Rd w q W) (hp' : Rd w p' P') (hs' : Rd w s' S') (hq' : Rd w q' W') :
    Calls Tryz.prog 19 #[.agg #[p, s, q], .agg #[p', s', q']] w (RetCC w (okL (adB P S W P' S' W') P) (okL (adB P S W P' S' W') S) (okL (adB P S W P' S' W') (adTo W W' W.length)) (adC P S W P' S' W')) := by
  rcases pairC_or P S W P' S' W' with ⟨hb, h0⟩ | ⟨hb, h0⟩
  · obtain ⟨e1, e2⟩ := ad_yes hb
    obtain ⟨h1, h2, h3⟩ := pairB_iff.1 hb
    have hc := cluB_iff.1 h1
    rw [e1, e2]
    exact specAdd_2 p s q p' s' q' P S W P' S' W' w hp hs hq hp' hs' hq' _ h1 h2 h3 (cluB_with hc (by rw [adTo_len]; exact hc.1.2.2.2))
  · obtain ⟨e1, e2⟩ := ad_no hb
    rw [e1, e2]
    exact specAdd_1 p s q p' s' q' P S W P' S' W' w hp hs hq hp' hs' hq' h0
end Go.Proofs.YtglghdkjppcedaaGreatDoor

/- Contracts: DeltaOfCluster. -/
namespace Go.Proofs.YtglghdkjppcedaaGreatDoor
open Go.RowKit

/-- x (x - 1) / 2 -/
def tri (x : Int) : Int := x * (x - 1) / 2
theorem tri_nn (x : Int) : 0 ≤ x * (x - 1) := by
  rcases Int.lt_or_le 0 x with h | h
  · exact Int.mul_nonneg (by omega) (by omega)
  · exact Int.mul_nonneg_of_nonpos_of_nonpos (by omega) (by omega)
theorem tri_prod (x : Int) (h : -100000 ≤ x ∧ x ≤ 100000) : 0 ≤ x * (x - 1) ∧ x * (x - 1) ≤ 10000100000 := by
  have h1 := tri_nn x
  have h2 := mul_abs_le (x := x) (y := x - 1) (B := 100000) (C := 100001) (by omega) (by omega)
  omega
theorem tri_bd (x : Int) (h : -100000 ≤ x ∧ x ≤ 100000) : 0 ≤ tri x ∧ tri x ≤ 10000100000 := by
  have h1 := tri_prod x h
  unfold tri
  omega
/-- The sum of all x (x - 1) / 2. -/
def deltaL (xs : List Int) : Int := sumTo (fun i => tri (gI xs i)) xs.length

set_option maxHeartbeats 1000000 in
theorem deltaOf_c (v : Value) (xs : List Int) (w : World) (h : Rd w v xs) (hb : ∀ i, i < xs.length → -100000 ≤ gI xs i ∧ gI xs i ≤ 100000) (hn : xs.length ≤ 10000) :
    Calls Tryz.prog 54 #[v] w fun e w' => e = .returned (.int .i64 (deltaL xs)) ∧ w = w' := by
  obtain ⟨a, cap, rfl, hcap1, hcap2, hrd⟩ := h
  go_enter Tryz.func54, Tryz.ntmps54
  go_wp2
  go_loop [3, 5, 8] (fun n _ i => ∃ k : Nat, k ≤ xs.length ∧ i = .int .i64 k ∧ n = .int .i64 (sumTo (fun i => tri (gI xs i)) k)) (fun _ _ i => xs.length - (intOf i).toNat)
  case atStart => exact ⟨0, Nat.zero_le _, rfl, rfl⟩
  case round =>
    obtain ⟨k, hk, rfl, rfl⟩ := hrel
    by_cases hlt : k < xs.length
    · obtain ⟨b, off, rfl, hbl, hcs⟩ := hrd (ne_of_lt_len hlt)
      have hc := hcs k hlt
      have hx := tri_prod _ (hb k hlt)
      have hs := sumTo_bound (f := fun i => tri (gI xs i)) (n := k) 0 10000100000 (fun i hi => tri_bd _ (hb i (by omega)))
      have HS := Lib.hid (sumTo_succ (fun i => tri (gI xs i)) k)
      have hbk := hb k hlt
      clear hcs hrd hb
      generalize sumTo (fun i => tri (gI xs i)) k = s at hs HS
      generalize gI xs k = x at hc hx HS hbk
      have hs1 : 0 ≤ s := by omega
      have hs2 : s ≤ 100001000000000 := by omega
      clear hs
      obtain ⟨hx1, hx2⟩ := hx
      obtain ⟨hb1, hb2⟩ := hbk
      go_wp2
      go_round
      case rel => exact ⟨k + 1, by omega, by go_num, by rw [HS.out]; rfl⟩
      case measure => simp [intOf]; omega
    · go_wp2
      have hk' : k = xs.length := by omega
      subst hk'
      go_ret
      exact ⟨rfl, rfl⟩

set_option maxHeartbeats 1000000 in
theorem implDeltaOfCluster_yes (p s q : Value) (P S W : List Int) (w : World) (hp : Rd w p P) (hs : Rd w s S) (hq : Rd w q W) (hc : cluB P S W = true) :
    Calls Tryz.prog 21 #[.agg #[p, s, q]] w fun e w' => e = .returned (.tuple #[.int .i64 (deltaL W), .int .i64 0]) ∧ Below w.heap.size w w' := by
  have hx := Boxed.start w 26 #[p, s, q]
  have hcl := cluB_iff.1 hc
  obtain ⟨aq, kq, rfl⟩ := hq.len0
  go_enter Tryz.func21, Tryz.ntmps21
  go_wp2_with fail
  refine (implIsCluster_c _ _ _ P S W _ (hx.rd hp) (hx.rd hs) (hx.rd hq)).mono ?_
  rintro e w1 ⟨rfl, hb⟩
  have hx1 := hx.trans hb
  have c2 := hx1.cell 2
  go_wp2_with fail
  refine (deltaOf_c _ W _ (hx1.rd hq) hcl.2.1 (by have := hcl.1; omega)).mono ?_
  rintro e w2 ⟨rfl, rfl⟩
  go_wp2
  go_ret2
  exact ⟨rfl, hx1.below⟩

theorem implDeltaOfCluster_no (p s q : Value) (P S W : List Int) (w : World) (hp : Rd w p P) (hs : Rd w s S) (hq : Rd w q W) (hc : cluB P S W = false) :
    Calls Tryz.prog 21 #[.agg #[p, s, q]] w fun e w' => e = .returned (.tuple #[.int .i64 0, .int .i64 1]) ∧ Below w.heap.size w w' := by
  have hx := Boxed.start w 26 #[p, s, q]
  obtain ⟨a1, k1, rfl⟩ := hp.len0
  obtain ⟨a2, k2, rfl⟩ := hs.len0
  obtain ⟨a3, k3, rfl⟩ := hq.len0
  go_enter Tryz.func21, Tryz.ntmps21
  go_wp2_with fail
  refine (implIsCluster_c _ _ _ P S W _ (hx.rd hp) (hx.rd hs) (hx.rd hq)).mono ?_
  rintro e w1 ⟨rfl, hb⟩
  go_wp2
  go_ret2
  exact ⟨rfl, (hx.trans hb).below⟩

theorem implDeltaOfCluster_c (p s q : Value) (P S W : List Int) (w : World) (hp : Rd w p P) (hs : Rd w s S) (hq : Rd w q W) :
    Calls Tryz.prog 21 #[.agg #[p, s, q]] w fun e w' => e = .returned (.tuple #[.int .i64 (okN (cluB P S W) (deltaL W)), .int .i64 (okC (cluB P S W) 1)]) ∧ Below w.heap.size w w' := by
  cases hc : cluB P S W
  · rw [okN_false rfl, okC_false rfl]; exact implDeltaOfCluster_no p s q P S W w hp hs hq hc
  · rw [okN_true rfl, okC_true rfl]; exact implDeltaOfCluster_yes p s q P S W w hp hs hq hc

end Go.Proofs.YtglghdkjppcedaaGreatDoor

/- The plain law of FnClusterProducts: excesses, orders, products, delta invariants. -/
namespace Go.Proofs.YtglghdkjppcedaaGreatDoor
open Go.RowKit

/-- The intersection matrix times the orders: the opposites of the excesses. -/
theorem em_ord {P S W : List Int} (hc : CluOk P S W) (A : Nat → Int) {i : Nat} (hi : i < P.length) : sumTo (fun k => gI (emRow P S i) k * gI (ordTo A P S P.length) k) P.length = -exF P S A i := by
  have e1 : sumTo (fun k => gI (emRow P S i) k * gI (ordTo A P S P.length) k) P.length = sumTo (fun k => -(sumTo (fun r => gI (pmRow P S P.length r) i * (gI (pmRow P S P.length r) k * gI (ordTo A P S P.length) k)) P.length)) P.length := sumTo_congr fun k hk => by
    rw [gI_emRow hk]
    unfold emI
    rw [Int.neg_mul, ← sumTo_mul_r]
    congr 1
    exact sumTo_congr fun r _ => Int.mul_assoc _ _ _
  rw [e1, sumTo_neg, sumTo_swap]
  congr 1
  rw [sumTo_congr (g := fun r => gI (pmRow P S P.length r) i * A r) (fun r hr => by rw [sumTo_mul, pm_ord hc hr]), pm_col hc hi]
theorem ox_ok {P S W O : List Int} (h : oxC P S W O = 0) : oxB P S W O = true ∧ CluOk P S W ∧ O.length = P.length ∧ CluOk P S (linTo P S O P.length) := by
  cases hc : cluB P S W
  · rw [(oxB_1 (O := O) hc).2] at h; cases h
  · cases he : excB P O
    · rw [(oxB_2 hc he).2] at h; cases h
    · obtain ⟨b1, b2⟩ := oxB_3 hc he
      rw [b2] at h
      cases ha : allIn (linTo P S O P.length) (-100000) 100000
      · rw [ha] at h; simp [okC] at h
      · rw [ha] at b1
        have hok := cluB_iff.1 hc
        have hl : O.length = P.length := by simp [excB] at he; exact he.1
        refine ⟨b1, hok, hl, ⟨⟨hok.1.1, hok.1.2.1, hok.1.2.2.1, by simp [linTo]⟩, fun i hi => allIn_iff.1 ha i hi, hok.2.2⟩⟩
theorem prod_row {P S W O : List Int} (hc : CluOk P S W) (hl : O.length = P.length) {i : Nat} (hi : i < P.length) : dotTo (emRow P S i) (ordTo (fun j => gI (linTo P S O P.length) j) P S P.length) P.length = -gI O i := by
  have h1 := em_ord hc (fun j => gI (linTo P S O P.length) j) hi
  have h2 : exF P S (fun j => gI (linTo P S O P.length) j) i = gI O i := by
    rw [← exL_at hc (by simp [linTo]) hi]
    show gI (exTo (proxL P S) (linTo P S O P.length) P.length) i = _
    rw [exL_lin hc hl]
  rw [h2] at h1
  exact h1
theorem prod_simple {P S W : List Int} (hc : CluOk P S W) {i : Nat} (hi : i < P.length) : dotTo W (mRow P S i) W.length = gI (ordTo (fun j => gI W j) P S P.length) i := by
  have h1 := ord_dot hc (fun j => gI W j) i hi
  have hl : W.length = P.length := hc.1.2.2.2
  unfold dotTo
  rw [hl]
  show _ = ordF P S (fun j => gI W j) i
  rw [h1]
  exact sumTo_congr fun j hj => by rw [gI_mRow hj]
theorem tri_twoP (x : Int) : 2 * tri x = x * (x - 1) := by
  unfold tri
  have h : (2 : Int) ∣ x * (x - 1) := by
    rcases (show x % 2 = 0 ∨ x % 2 = 1 by omega) with h | h
    · exact Int.dvd_trans (Int.dvd_of_emod_eq_zero h) (Int.dvd_mul_right _ _)
    · exact Int.dvd_trans (Int.dvd_of_emod_eq_zero (show (x - 1) % 2 = 0 by omega)) (Int.dvd_mul_left _ _)
  exact Int.mul_ediv_cancel' h
theorem tri_sum (x y : Int) : tri (x + y) = tri x + tri y + x * y := by
  have h1 := tri_twoP (x + y)
  have h2 := tri_twoP x
  have h3 := tri_twoP y
  have e : (x + y) * (x + y - 1) = x * (x - 1) + y * (y - 1) + 2 * (x * y) := by grind
  rw [e] at h1
  omega
/-- The delta invariant of a sum. -/
theorem delta_sum {W W' : List Int} (hl : W'.length = W.length) : deltaL (adTo W W' W.length) = deltaL W + deltaL W' + dotTo W W' W.length := by
  unfold deltaL dotTo
  have e : (adTo W W' W.length).length = W.length := by simp [adTo]
  rw [e, hl, ← sumTo_add, ← sumTo_add]
  exact sumTo_congr fun i hi => by rw [gI_adTo hi, tri_sum]
theorem ad_ok {P S W P' S' W' : List Int} (h : adC P S W P' S' W' = 0) : adB P S W P' S' W' = true ∧ CluOk P S W ∧ CluOk P' S' W' ∧ likeB P S P' S' = true ∧ CluOk P S (adTo W W' W.length) := by
  rcases pairC_or P S W P' S' W' with ⟨hb, h0⟩ | ⟨hb, h0⟩
  · obtain ⟨e1, e2⟩ := ad_yes hb
    rw [e2] at h
    obtain ⟨c1, c2, c3⟩ := pairB_iff.1 hb
    cases ha : allIn (adTo W W' W.length) (-100000) 100000
    · rw [ha] at h; simp [okC] at h
    · have hok := cluB_iff.1 c1
      exact ⟨by rw [e1, ha], hok, cluB_iff.1 c2, c3, ⟨⟨hok.1.1, hok.1.2.1, hok.1.2.2.1, by rw [← hok.1.2.2.2]; simp [adTo]⟩, fun i hi => allIn_iff.1 ha i hi, hok.2.2⟩⟩
  · rw [(ad_no hb).2] at h
    exact absurd h h0
end Go.Proofs.YtglghdkjppcedaaGreatDoor
