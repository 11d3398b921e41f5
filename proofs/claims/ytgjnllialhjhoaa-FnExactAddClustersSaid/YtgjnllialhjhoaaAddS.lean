/- Contracts: AddClusters, the reference. -/
import Derived.Test.YtgjnllialhjhoaaAdd
import Derived.Test.YtgjnllialhjhoaaPushS
import Derived.Deep.RegionHeld3
namespace Go.Proofs.Ytgjnllialhjhoaa
open Go.RowKit

set_option maxRecDepth 100000 in
set_option maxHeartbeats 600000 in
theorem specAdd_1 (p s q p' s' q' : Value) (P S W P' S' W' : List Int) (w : World) (hp : Rd w p P) (hs : Rd w s S) (hq : Rd w q W) (hp' : Rd w p' P') (hs' : Rd w s' S') (hq' : Rd w q' W') (h0 : pairC P S W P' S' W' ≠ 0) :
    Calls Try.prog 44 #[.agg #[p, s, q], .agg #[p', s', q']] w (RetCC w [] [] [] (pairC P S W P' S' W')) := by
  have hd : (pairC P S W P' S' W' != 0) = true := by simpa using h0
  clear h0
  obtain ⟨a0, k0, rfl⟩ := hp.len0
  obtain ⟨a1, k1, rfl⟩ := hs.len0
  obtain ⟨a2, k2, rfl⟩ := hq.len0
  obtain ⟨a3, k3, rfl⟩ := hp'.len0
  obtain ⟨a4, k4, rfl⟩ := hs'.len0
  obtain ⟨a5, k5, rfl⟩ := hq'.len0
  have B0 : Blk (((w.alloc (.cells #[.slice a0 P.length k0, .slice a1 S.length k1, .slice a2 W.length k2] 51)).alloc (.cells #[.slice a3 P'.length k3, .slice a4 S'.length k4, .slice a5 W'.length k5] 51)).alloc (.cells #[.slice none 0 0, .slice none 0 0, .slice none 0 0] 51)) w.heap.size 51 #[.slice a0 P.length k0, .slice a1 S.length k1, .slice a2 W.length k2] := ((Blk.new w _ _).alloc _).alloc _
  have B1 : Blk (((w.alloc (.cells #[.slice a0 P.length k0, .slice a1 S.length k1, .slice a2 W.length k2] 51)).alloc (.cells #[.slice a3 P'.length k3, .slice a4 S'.length k4, .slice a5 W'.length k5] 51)).alloc (.cells #[.slice none 0 0, .slice none 0 0, .slice none 0 0] 51)) (w.heap.size + 1) 51 #[.slice a3 P'.length k3, .slice a4 S'.length k4, .slice a5 W'.length k5] := (Blk.new' (by simp)).alloc _
  have D : Blk (((w.alloc (.cells #[.slice a0 P.length k0, .slice a1 S.length k1, .slice a2 W.length k2] 51)).alloc (.cells #[.slice a3 P'.length k3, .slice a4 S'.length k4, .slice a5 W'.length k5] 51)).alloc (.cells #[.slice none 0 0, .slice none 0 0, .slice none 0 0] 51)) (w.heap.size + 2) 51 #[.slice none 0 0, .slice none 0 0, .slice none 0 0] := Blk.new' (by simp)
  have fr : Below w.heap.size w (((w.alloc (.cells #[.slice a0 P.length k0, .slice a1 S.length k1, .slice a2 W.length k2] 51)).alloc (.cells #[.slice a3 P'.length k3, .slice a4 S'.length k4, .slice a5 W'.length k5] 51)).alloc (.cells #[.slice none 0 0, .slice none 0 0, .slice none 0 0] 51)) := (((Below.refl _ _).alloc (Nat.le_refl _) _).alloc (by simp) _).alloc (by simp; omega) _
  have sz : w.heap.size + 3 ≤ (((w.alloc (.cells #[.slice a0 P.length k0, .slice a1 S.length k1, .slice a2 W.length k2] 51)).alloc (.cells #[.slice a3 P'.length k3, .slice a4 S'.length k4, .slice a5 W'.length k5] 51)).alloc (.cells #[.slice none 0 0, .slice none 0 0, .slice none 0 0] 51)).heap.size := by simp
  have c0 := B0.cell 0
  have c1 := B0.cell 1
  have c2 := B0.cell 2
  have d0 := B1.cell 0
  have d1 := B1.cell 1
  have d2 := B1.cell 2
  go_enter Try.func44, Try.ntmps44
  go_wp2_with fail
  refine (l07Alike_c _ _ _ _ _ _ P S W P' S' W' _ (hp.below fr (Nat.le_refl _)) (hs.below fr (Nat.le_refl _)) (hq.below fr (Nat.le_refl _)) (hp'.below fr (Nat.le_refl _)) (hs'.below fr (Nat.le_refl _)) (hq'.below fr (Nat.le_refl _))).mono ?_
  rintro e w1 ⟨rfl, hb⟩
  have B0 := B0.stays hb
  have B1 := B1.stays hb
  have D := D.stays hb
  have fr := below_step fr hb
  have sz := Nat.le_trans sz (Below.size hb)
  clear c0 c1 c2 d0 d1 d2
  have f0 := D.free 0
  have f1 := D.free 1
  have f2 := D.free 2
  have e0 := D.cell 0
  have e1 := D.cell 1
  have e2 := D.cell 2
  go_wp2
  have q0 := (((D.set 0 (.slice none 0 0)).set 1 (.slice none 0 0)).set 2 (.slice none 0 0)).cell 0
  have q1 := (((D.set 0 (.slice none 0 0)).set 1 (.slice none 0 0)).set 2 (.slice none 0 0)).cell 1
  have q2 := (((D.set 0 (.slice none 0 0)).set 1 (.slice none 0 0)).set 2 (.slice none 0 0)).cell 2
  refine bodyPost_ret (v := .tuple #[.agg #[.slice none 0 0, .slice none 0 0, .slice none 0 0], .int .i64 (pairC P S W P' S' W')]) (by simp [results, Try.results44, go_sem, q0, q1, q2]) rfl ⟨none, 0, none, 0, none, 0, rfl, own3_nil _ _ _, ?_⟩
  exact ((fr.setCell (p := ⟨w.heap.size + 2, 0, none⟩) (Nat.le_add_right _ _) _).setCell (p := ⟨w.heap.size + 2, 1, none⟩) (Nat.le_add_right _ _) _).setCell (p := ⟨w.heap.size + 2, 2, none⟩) (Nat.le_add_right _ _) _

set_option maxRecDepth 100000 in
set_option maxHeartbeats 4000000 in
theorem specAdd_2 (p s q p' s' q' : Value) (P S W P' S' W' : List Int) (w : World) (hp : Rd w p P) (hs : Rd w s S) (hq : Rd w q W) (hp' : Rd w p' P') (hs' : Rd w s' S') (hq' : Rd w q' W') (fb : Bool) (h1 : cluB P S W = true) (h2 : cluB P' S' W' = true) (h3 : likeB P S P' S' = true) (hw0 : cluB P S (adTo W W' W.length) = fb) :
    Calls Try.prog 44 #[.agg #[p, s, q], .agg #[p', s', q']] w (RetCC w (okL fb P) (okL fb S) (okL fb (adTo W W' W.length)) (okC fb 3)) := by
  obtain ⟨i0, hi, hz0, hz1, hz2⟩ := info_parts Try.infoI
  have hcl := cluB_iff.1 h1
  have hcl' := cluB_iff.1 h2
  have hlk := likeB_iff.1 h3
  have hpc := Lib.hid (pairC_0 h1 h2 h3)
  have hlw := Lib.hid (show W'.length = W.length by have e1 := hcl.1; have e2 := hcl'.1; rw [← hlk.1] at e2; omega)
  have hW0 : 0 < W.length := by have := hcl.1; omega
  have hW1 : 0 < W'.length := by have := hcl'.1; omega
  have hW24 : W.length ≤ 24 := by have := hcl.1; omega
  have hn1 := Lib.hid hcl.2.1
  have hn2 := Lib.hid hcl'.2.1
  have HC := Lib.hid hcl
  have hwy := Lib.hid hw0
  clear hcl hcl' hlk hw0 h1 h2 h3
  obtain ⟨a0, k0, rfl⟩ := hp.len0
  obtain ⟨a1, k1, rfl⟩ := hs.len0
  obtain ⟨b2, o2, k2, rfl, _, _, hbk2, hck2⟩ := hq.cells hW0
  obtain ⟨a3, k3, rfl⟩ := hp'.len0
  obtain ⟨a4, k4, rfl⟩ := hs'.len0
  obtain ⟨b5, o5, k5, rfl, _, _, hbk5, hck5⟩ := hq'.cells hW1
  have B0 : Blk (((w.alloc (.cells #[.slice a0 P.length k0, .slice a1 S.length k1, .slice (some ⟨b2, o2, none⟩) W.length k2] 51)).alloc (.cells #[.slice a3 P'.length k3, .slice a4 S'.length k4, .slice (some ⟨b5, o5, none⟩) W'.length k5] 51)).alloc (.cells #[.slice none 0 0, .slice none 0 0, .slice none 0 0] 51)) w.heap.size 51 #[.slice a0 P.length k0, .slice a1 S.length k1, .slice (some ⟨b2, o2, none⟩) W.length k2] := ((Blk.new w _ _).alloc _).alloc _
  have B1 : Blk (((w.alloc (.cells #[.slice a0 P.length k0, .slice a1 S.length k1, .slice (some ⟨b2, o2, none⟩) W.length k2] 51)).alloc (.cells #[.slice a3 P'.length k3, .slice a4 S'.length k4, .slice (some ⟨b5, o5, none⟩) W'.length k5] 51)).alloc (.cells #[.slice none 0 0, .slice none 0 0, .slice none 0 0] 51)) (w.heap.size + 1) 51 #[.slice a3 P'.length k3, .slice a4 S'.length k4, .slice (some ⟨b5, o5, none⟩) W'.length k5] := (Blk.new' (by simp)).alloc _
  have D : Blk (((w.alloc (.cells #[.slice a0 P.length k0, .slice a1 S.length k1, .slice (some ⟨b2, o2, none⟩) W.length k2] 51)).alloc (.cells #[.slice a3 P'.length k3, .slice a4 S'.length k4, .slice (some ⟨b5, o5, none⟩) W'.length k5] 51)).alloc (.cells #[.slice none 0 0, .slice none 0 0, .slice none 0 0] 51)) (w.heap.size + 2) 51 #[.slice none 0 0, .slice none 0 0, .slice none 0 0] := Blk.new' (by simp)
  have fr : Below w.heap.size w (((w.alloc (.cells #[.slice a0 P.length k0, .slice a1 S.length k1, .slice (some ⟨b2, o2, none⟩) W.length k2] 51)).alloc (.cells #[.slice a3 P'.length k3, .slice a4 S'.length k4, .slice (some ⟨b5, o5, none⟩) W'.length k5] 51)).alloc (.cells #[.slice none 0 0, .slice none 0 0, .slice none 0 0] 51)) := (((Below.refl _ _).alloc (Nat.le_refl _) _).alloc (by simp) _).alloc (by simp; omega) _
  have sz : w.heap.size + 3 ≤ (((w.alloc (.cells #[.slice a0 P.length k0, .slice a1 S.length k1, .slice (some ⟨b2, o2, none⟩) W.length k2] 51)).alloc (.cells #[.slice a3 P'.length k3, .slice a4 S'.length k4, .slice (some ⟨b5, o5, none⟩) W'.length k5] 51)).alloc (.cells #[.slice none 0 0, .slice none 0 0, .slice none 0 0] 51)).heap.size := by simp
  have c0 := B0.cell 0
  have c1 := B0.cell 1
  have c2 := B0.cell 2
  have d0 := B1.cell 0
  have d1 := B1.cell 1
  have d2 := B1.cell 2
  go_enter Try.func44, Try.ntmps44
  go_wp2_with fail
  refine (l07Alike_c _ _ _ _ _ _ P S W P' S' W' _ (hp.below fr (Nat.le_refl _)) (hs.below fr (Nat.le_refl _)) (hq.below fr (Nat.le_refl _)) (hp'.below fr (Nat.le_refl _)) (hs'.below fr (Nat.le_refl _)) (hq'.below fr (Nat.le_refl _))).mono ?_
  rintro e w1 ⟨rfl, hb⟩
  have B0 := B0.stays hb
  have B1 := B1.stays hb
  have D := D.stays hb
  have fr := below_step fr hb
  have sz := Nat.le_trans sz (Below.size hb)
  clear c0 c1 c2 d0 d1 d2
  rw [hpc.out]
  have g0 := own_empty_at w1 (w.heap.size + 3) w1.heap.size rfl sz
  have hal : Below w1.heap.size w1 (w1.alloc (.cells #[] 2)) := (Below.refl _ _).alloc (Nat.le_refl _) _
  have B0 := B0.stays hal
  have B1 := B1.stays hal
  have D := D.stays hal
  have fr := below_step fr hal
  have sz := Nat.le_trans sz (Below.size hal)
  have c2 := B0.cell 2
  have d2 := B1.cell 2
  go_wp2
  clear c2 d2
  go_loopw [7, 8] (fun v i wr => ∃ k : Nat, ∃ g c : Nat, k ≤ W.length ∧ i = .int .i64 k ∧ v = .slice (some ⟨g, 0, none⟩) k c ∧ OwnI wr (w.heap.size + 3) (.slice (some ⟨g, 0, none⟩) k c) (adTo W W' k) ∧ Below w.heap.size w wr ∧ Blk wr w.heap.size 51 #[.slice a0 P.length k0, .slice a1 S.length k1, .slice (some ⟨b2, o2, none⟩) W.length k2] ∧ Blk wr (w.heap.size + 1) 51 #[.slice a3 P'.length k3, .slice a4 S'.length k4, .slice (some ⟨b5, o5, none⟩) W'.length k5] ∧ Blk wr (w.heap.size + 2) 51 #[.slice none 0 0, .slice none 0 0, .slice none 0 0] ∧ w.heap.size + 3 ≤ wr.heap.size) (fun _ i _ => W.length - (intOf i).toNat)
  case atStart => exact ⟨0, _, _, Nat.zero_le _, rfl, rfl, g0, fr, B0, B1, D, sz⟩
  case round =>
    obtain ⟨k, g, c, hk, rfl, rfl, ho5, fr5, C0, C1, D5, sz5⟩ := hrel
    clear g0 fr B0 B1 D sz hal
    obtain ⟨wo, rfl⟩ : ∃ wo : World, wo = wr := ⟨_, rfl⟩
    have c2 := C0.cell 2
    have d2 := C1.cell 2
    by_cases hlt : k < W.length
    · have hlt' : k < W'.length := by have := hlw.out; omega
      have hkW : (k : Int) < (W.length : Int) := by omega
      have hkW' : (k : Int) < (W'.length : Int) := by omega
      have k00 : (0 : Int) ≤ (k : Int) := Int.natCast_nonneg _
      have hgb := ho5.block g rfl
      have dx : wo.cell? ⟨b2, o2 + k, none⟩ = some (.int .i64 (gI W k)) := by rw [fr5.cell (p := ⟨b2, o2 + k, none⟩) hbk2]; exact hck2 k hlt
      have dv : wo.cell? ⟨b5, o5 + k, none⟩ = some (.int .i64 (gI W' k)) := by rw [fr5.cell (p := ⟨b5, o5 + k, none⟩) hbk5]; exact hck5 k hlt'
      have n1 := hn1.out k hlt
      have n2 := hn2.out k hlt'
      have HY := Lib.hid (adTo_succ W W' k)
      have HX := Lib.hid (show ∀ X : World, Below w.heap.size w X → X.cell? ⟨b2, o2 + k, none⟩ = some (.int .i64 (gI W k)) ∧ X.cell? ⟨b5, o5 + k, none⟩ = some (.int .i64 (gI W' k)) from fun X hX => ⟨by rw [hX.cell (p := ⟨b2, o2 + k, none⟩) hbk2]; exact hck2 k hlt, by rw [hX.cell (p := ⟨b5, o5 + k, none⟩) hbk5]; exact hck5 k hlt'⟩)
      generalize gI W k = x at dx n1 HY HX
      generalize gI W' k = y at dv n2 HY HX
      obtain ⟨x1, x2⟩ := n1
      obtain ⟨y1, y2⟩ := n2
      have e4 : IntKind.i64.wrap (x + y) = x + y := IntWalk.i64_in _ (by omega)
      have hal : Below wo.heap.size wo ((wo.alloc (.cells #[.int .i64 (x + y)] 2)).drew) := ((Below.refl _ _).alloc (Nat.le_refl _) _).drew
      have hO := ho5.below hal (Nat.le_refl _)
      have E0 := C0.stays hal
      have E1 := C1.stays hal
      have ED := D5.stays hal
      have frE := below_step fr5 hal
      go_wp2_with fail
      have HS0 : wo.drew.cell? ⟨w.heap.size, 2, none⟩ = some (.slice (some ⟨b2, o2, none⟩) W.length k2) ∧ wo.drew.cell? ⟨w.heap.size + 1, 2, none⟩ = some (.slice (some ⟨b5, o5, none⟩) W'.length k5) ∧ wo.drew.cell? ⟨b2, o2 + k, none⟩ = some (.int .i64 x) ∧ wo.drew.cell? ⟨b5, o5 + k, none⟩ = some (.int .i64 y) := ⟨(C0.stays (Below.refl _ _).drew).cell 2, (C1.stays (Below.refl _ _).drew).cell 2, HX.out _ (below_step fr5 (Below.refl _ _).drew)⟩
      have HS1 : ((wo.alloc (.cells #[.int .i64 (x + y)] 2)).drew).cell? ⟨w.heap.size, 2, none⟩ = some (.slice (some ⟨b2, o2, none⟩) W.length k2) ∧ ((wo.alloc (.cells #[.int .i64 (x + y)] 2)).drew).cell? ⟨w.heap.size + 1, 2, none⟩ = some (.slice (some ⟨b5, o5, none⟩) W'.length k5) ∧ ((wo.alloc (.cells #[.int .i64 (x + y)] 2)).drew).cell? ⟨b2, o2 + k, none⟩ = some (.int .i64 x) ∧ ((wo.alloc (.cells #[.int .i64 (x + y)] 2)).drew).cell? ⟨b5, o5 + k, none⟩ = some (.int .i64 y) := ⟨E0.cell 2, E1.cell 2, HX.out _ frE⟩
      clear c2 d2 dx dv
      go_region_held3 (fun w' => w'.cell? ⟨w.heap.size, 2, none⟩ = some (.slice (some ⟨b2, o2, none⟩) W.length k2) ∧ w'.cell? ⟨w.heap.size + 1, 2, none⟩ = some (.slice (some ⟨b5, o5, none⟩) W'.length k5) ∧ w'.cell? ⟨b2, o2 + k, none⟩ = some (.int .i64 x) ∧ w'.cell? ⟨b5, o5 + k, none⟩ = some (.int .i64 y))
        (first | assumption | exact HS2 | exact HS1 | exact HS0)
        (first | (refine step_pushS rfl (.tmp 26) (.tmp 38) 22 rfl (w.heap.size + 3) 2 i0 Try.underlying22 hi hz0 hz1 hz2 g k c (adTo W W' k) (x + y) wo.heap.size (adTo_len _ _ _) rfl hO rfl (Blk.new wo _ _) (by omega) (by simp; omega) ?_; intro g2 c2 w2 h1 h2 h3 h4 h5; have F0 := E0.keeps h2 (by omega); have F1 := E1.keeps h2 (by omega); have FD := ED.keeps h2 (by omega); have frF := frE.trans (h2.below (by have := Below.size frE; omega) (fun b hb => by omega)); have HS2 : w2.cell? ⟨w.heap.size, 2, none⟩ = some (.slice (some ⟨b2, o2, none⟩) W.length k2) ∧ w2.cell? ⟨w.heap.size + 1, 2, none⟩ = some (.slice (some ⟨b5, o5, none⟩) W'.length k5) ∧ w2.cell? ⟨b2, o2 + k, none⟩ = some (.int .i64 x) ∧ w2.cell? ⟨b5, o5 + k, none⟩ = some (.int .i64 y) := ⟨F0.cell 2, F1.cell 2, HX.out _ frF⟩))
      all_goals
        rw [← HY.out] at h1
        have hsz2 := h2.size
        simp at hsz2
        clear h2 h3 h4 h5 hO HS0 HS1 HS2 E0 E1 ED frE
        go_wp2
        go_roundw
        case rel => exact ⟨k + 1, g2, c2, by omega, by go_num, rfl, h1, frF, F0, F1, FD, by omega⟩
        case measure => simp [intOf]; omega
    · have hk' : k = W.length := by omega
      subst hk'
      have c0 := C0.cell 0
      have c1 := C0.cell 1
      have pL := ho5.block
      go_wp2_with fail
      refine (l07With_c _ _ _ _ _ _ P S W _ (hp.below fr5 (Nat.le_refl _)) (hs.below fr5 (Nat.le_refl _)) HC.out).mono ?_
      rintro e v2 ⟨b1, j1, b2', j2, rfl, o1, o2', ap, hq2⟩
      have G2 := D5.stays hq2
      have fr6 := below_step fr5 hq2
      have hz3 := hq2.size
      have pP := o1.block
      have pS := o2'.block
      have o3 := ho5.below hq2 (Nat.le_refl _)
      clear c0 c1 c2 d2
      go_wp2_with fail
      refine (l07Fit_v fb _ _ _ _ _ _ _ P S (adTo W W' W.length) _ o1.rd o2'.rd o3.rd (adTo_len _ _ _) hwy.out).mono ?_
      rintro e v3 ⟨rfl, hq3⟩
      have G3 := G2.stays hq3
      have fr7 := below_step fr6 hq3
      have hz4 := hq3.size
      have o4 := o1.below hq3 (Nat.le_refl _)
      have o5' := o2'.below hq3 (Nat.le_refl _)
      have o6 := o3.below hq3 (Nat.le_refl _)
      have D8 := G3.alloc (.cells #[.slice (oA fb b1) (oN fb P.length) (oN fb j1), .slice (oA fb b2') (oN fb S.length) (oN fb j2), .slice (oA fb (some ⟨g, 0, none⟩)) (oN fb W.length) (oN fb c)] 51)
      have E8 := Blk.new v3 51 #[.slice (oA fb b1) (oN fb P.length) (oN fb j1), .slice (oA fb b2') (oN fb S.length) (oN fb j2), .slice (oA fb (some ⟨g, 0, none⟩)) (oN fb W.length) (oN fb c)]
      have ha8 : Below v3.heap.size v3 (v3.alloc (.cells #[.slice (oA fb b1) (oN fb P.length) (oN fb j1), .slice (oA fb b2') (oN fb S.length) (oN fb j2), .slice (oA fb (some ⟨g, 0, none⟩)) (oN fb W.length) (oN fb c)] 51)) := (Below.refl _ _).alloc (Nat.le_refl _) _
      have fr8 := below_step fr7 ha8
      have o7 := o4.below ha8 (Nat.le_refl _)
      have o8 := o5'.below ha8 (Nat.le_refl _)
      have o9 := o6.below ha8 (Nat.le_refl _)
      have ho8 : Own3 2 (v3.alloc (.cells #[.slice (oA fb b1) (oN fb P.length) (oN fb j1), .slice (oA fb b2') (oN fb S.length) (oN fb j2), .slice (oA fb (some ⟨g, 0, none⟩)) (oN fb W.length) (oN fb c)] 51)) (w.heap.size + 3) (.slice (oA fb b1) (oN fb P.length) (oN fb j1)) (.slice (oA fb b2') (oN fb S.length) (oN fb j2)) (.slice (oA fb (some ⟨g, 0, none⟩)) (oN fb W.length) (oN fb c)) (okL fb P) (okL fb S) (okL fb (adTo W W' W.length)) := own3_fit fb ⟨o7.base_le (by omega), o8.base_le (by omega), o9, ap, fun k h1 h2 => by have := pP k h1; have := pL k h2; omega, fun k h1 h2 => by have := pS k h1; have := pL k h2; omega⟩
      have g0 := E8.cell 0
      have g1 := E8.cell 1
      have g2 := E8.cell 2
      have f0 := D8.free 0
      have f1 := D8.free 1
      have f2 := D8.free 2
      have e0 := D8.cell 0
      have e1 := D8.cell 1
      have e2 := D8.cell 2
      go_wp2
      have F := ((D8.set 0 (.slice (oA fb b1) (oN fb P.length) (oN fb j1))).set 1 (.slice (oA fb b2') (oN fb S.length) (oN fb j2))).set 2 (.slice (oA fb (some ⟨g, 0, none⟩)) (oN fb W.length) (oN fb c))
      have q0 := F.cell 0
      have q1 := F.cell 1
      have q2 := F.cell 2
      have hK : Keeps (fun k => k = w.heap.size + 2) (v3.alloc (.cells #[.slice (oA fb b1) (oN fb P.length) (oN fb j1), .slice (oA fb b2') (oN fb S.length) (oN fb j2), .slice (oA fb (some ⟨g, 0, none⟩)) (oN fb W.length) (oN fb c)] 51)) ((((v3.alloc (.cells #[.slice (oA fb b1) (oN fb P.length) (oN fb j1), .slice (oA fb b2') (oN fb S.length) (oN fb j2), .slice (oA fb (some ⟨g, 0, none⟩)) (oN fb W.length) (oN fb c)] 51)).setCell ⟨w.heap.size + 2, 0, none⟩ (.slice (oA fb b1) (oN fb P.length) (oN fb j1))).setCell ⟨w.heap.size + 2, 1, none⟩ (.slice (oA fb b2') (oN fb S.length) (oN fb j2))).setCell ⟨w.heap.size + 2, 2, none⟩ (.slice (oA fb (some ⟨g, 0, none⟩)) (oN fb W.length) (oN fb c))) := ((((Keeps.refl (fun k => k = w.heap.size + 2) (v3.alloc (.cells #[.slice (oA fb b1) (oN fb P.length) (oN fb j1), .slice (oA fb b2') (oN fb S.length) (oN fb j2), .slice (oA fb (some ⟨g, 0, none⟩)) (oN fb W.length) (oN fb c)] 51))).setCell (p := ⟨w.heap.size + 2, 0, none⟩) rfl _).setCell (p := ⟨w.heap.size + 2, 1, none⟩) rfl _).setCell (p := ⟨w.heap.size + 2, 2, none⟩) rfl _)
      refine bodyPost_ret (v := .tuple #[.agg #[.slice (oA fb b1) (oN fb P.length) (oN fb j1), .slice (oA fb b2') (oN fb S.length) (oN fb j2), .slice (oA fb (some ⟨g, 0, none⟩)) (oN fb W.length) (oN fb c)], .int .i64 (okC fb 3)]) (by simp [results, Try.results44, go_sem, q0, q1, q2]) rfl (retCC_fit (adTo_len _ _ _) ?_ ?_)
      · exact (ho8.keeps hK (fun k hk e => by have := (ho8.block k hk).1; omega)).base_le (by omega)
      · exact fr8.trans (hK.below (by have := Below.size fr8; omega) (fun k hk => by omega))

end Go.Proofs.Ytgjnllialhjhoaa
