/- Contracts: AddClusters, the program. -/
import Derived.Test.YtglghdkjppcedaaGreatDoorPart13
import Derived.Test.YtglghdkjppcedaaGreatDoorPart9
import Derived.Test.YtglghdkjppcedaaGreatDoorPart3
import Derived.Test.YtglghdkjppcedaaGreatDoorPart1
import Derived.Test.YtglghdkjppcedaaGreatDoorPart6
import Derived.ArgAppend
namespace Go.Proofs.YtglghdkjppcedaaGreatDoor
open Go.RowKit

/-- The first k sums. -/
def adTo (W W' : List Int) (k : Nat) : List Int := (List.range k).map fun i => gI W i + gI W' i
@[simp] theorem adTo_len (W W' : List Int) (k : Nat) : (adTo W W' k).length = k := by simp [adTo]
theorem adTo_succ (W W' : List Int) (k : Nat) : adTo W W' (k + 1) = adTo W W' k ++ [gI W k + gI W' k] := by simp [adTo, List.range_succ]
theorem gI_adTo {W W' : List Int} {k i : Nat} (h : i < k) : gI (adTo W W' k) i = gI W i + gI W' i := by rw [gI_lt (by simpa using h)]; simp [adTo]
def aiTo (W W' : List Int) (k : Nat) : List Int := (List.range W.length).map fun i => if i < k then gI W i + gI W' i else gI W i
@[simp] theorem aiTo_len (W W' : List Int) (k : Nat) : (aiTo W W' k).length = W.length := by simp [aiTo]
theorem gI_aiTo {W W' : List Int} {k i : Nat} (h : i < W.length) : gI (aiTo W W' k) i = if i < k then gI W i + gI W' i else gI W i := by rw [gI_lt (by simpa using h)]; simp [aiTo]
theorem aiTo_zero (W W' : List Int) : aiTo W W' 0 = W := gI_ext (by simp) (fun i hi => by rw [gI_aiTo (by simpa using hi), if_neg (by omega)])
theorem aiTo_all (W W' : List Int) : aiTo W W' W.length = adTo W W' W.length := gI_ext (by simp) (fun i hi => by
  have hi' : i < W.length := by simpa using hi
  rw [gI_aiTo hi', gI_adTo hi', if_pos hi'])
theorem aiTo_step {W W' : List Int} {k : Nat} (hk : k < W.length) : (aiTo W W' k).set k (gI W k + gI W' k) = aiTo W W' (k + 1) := by
  apply gI_ext (by simp)
  intro i hi
  have hi' : i < W.length := by simpa using hi
  rw [gI_set, gI_aiTo hi', gI_aiTo hi', aiTo_len]
  by_cases e : k = i
  · subst e; rw [if_pos ⟨rfl, hk⟩, if_pos (by omega)]
  · rw [if_neg (fun h => e h.1)]
    by_cases e2 : i < k
    · rw [if_pos e2, if_pos (by omega)]
    · rw [if_neg e2, if_neg (by omega)]

set_option maxRecDepth 100000 in
set_option maxHeartbeats 600000 in
theorem implAdd_1 (p s q p' s' q' : Value) (P S W P' S' W' : List Int) (w : World) (hp : Rd w p P) (hs : Rd w s S) (hq : Rd w q W) (hp' : Rd w p' P') (hs' : Rd w s' S') (hq' : Rd w q' W') (h1 : cluB P S W = false) :
    Calls Tryz.prog 18 #[.agg #[p, s, q], .agg #[p', s', q']] w (RetCC w [] [] [] 1) := by
  obtain ⟨a0, k0, rfl⟩ := hp.len0
  obtain ⟨a1, k1, rfl⟩ := hs.len0
  obtain ⟨a2, k2, rfl⟩ := hq.len0
  obtain ⟨a3, k3, rfl⟩ := hp'.len0
  obtain ⟨a4, k4, rfl⟩ := hs'.len0
  obtain ⟨a5, k5, rfl⟩ := hq'.len0
  have B0 : Blk (((w.alloc (.cells #[.slice a0 P.length k0, .slice a1 S.length k1, .slice a2 W.length k2] 26)).alloc (.cells #[.slice a3 P'.length k3, .slice a4 S'.length k4, .slice a5 W'.length k5] 26)).alloc (.cells #[.slice none 0 0, .slice none 0 0, .slice none 0 0] 26)) w.heap.size 26 #[.slice a0 P.length k0, .slice a1 S.length k1, .slice a2 W.length k2] := ((Blk.new w _ _).alloc _).alloc _
  have B1 : Blk (((w.alloc (.cells #[.slice a0 P.length k0, .slice a1 S.length k1, .slice a2 W.length k2] 26)).alloc (.cells #[.slice a3 P'.length k3, .slice a4 S'.length k4, .slice a5 W'.length k5] 26)).alloc (.cells #[.slice none 0 0, .slice none 0 0, .slice none 0 0] 26)) (w.heap.size + 1) 26 #[.slice a3 P'.length k3, .slice a4 S'.length k4, .slice a5 W'.length k5] := (Blk.new' (by simp)).alloc _
  have D : Blk (((w.alloc (.cells #[.slice a0 P.length k0, .slice a1 S.length k1, .slice a2 W.length k2] 26)).alloc (.cells #[.slice a3 P'.length k3, .slice a4 S'.length k4, .slice a5 W'.length k5] 26)).alloc (.cells #[.slice none 0 0, .slice none 0 0, .slice none 0 0] 26)) (w.heap.size + 2) 26 #[.slice none 0 0, .slice none 0 0, .slice none 0 0] := Blk.new' (by simp)
  have fr : Below w.heap.size w (((w.alloc (.cells #[.slice a0 P.length k0, .slice a1 S.length k1, .slice a2 W.length k2] 26)).alloc (.cells #[.slice a3 P'.length k3, .slice a4 S'.length k4, .slice a5 W'.length k5] 26)).alloc (.cells #[.slice none 0 0, .slice none 0 0, .slice none 0 0] 26)) := (((Below.refl _ _).alloc (Nat.le_refl _) _).alloc (by simp) _).alloc (by simp; omega) _
  have sz : w.heap.size + 3 ≤ (((w.alloc (.cells #[.slice a0 P.length k0, .slice a1 S.length k1, .slice a2 W.length k2] 26)).alloc (.cells #[.slice a3 P'.length k3, .slice a4 S'.length k4, .slice a5 W'.length k5] 26)).alloc (.cells #[.slice none 0 0, .slice none 0 0, .slice none 0 0] 26)).heap.size := by simp
  have c0 := B0.cell 0
  have c1 := B0.cell 1
  have c2 := B0.cell 2
  have d0 := B1.cell 0
  have d1 := B1.cell 1
  have d2 := B1.cell 2
  go_enter Tryz.func18, Tryz.ntmps18
  go_wp2_with fail
  refine (implIsCluster_c _ _ _ P S W _ (hp.below fr (Nat.le_refl _)) (hs.below fr (Nat.le_refl _)) (hq.below fr (Nat.le_refl _))).mono ?_
  rintro e w1 ⟨rfl, hb⟩
  rw [h1]
  have B0 := B0.stays hb
  have B1 := B1.stays hb
  have D := D.stays hb
  have fr := below_step fr hb
  have sz := Nat.le_trans sz (Below.size hb)
  clear c0 c1 c2 d0 d1 d2
  have f0 := D.free 0
  have f1 := D.free 1
  have f2 := D.free 2
  have e0 := D.cell 0
  have e1 := D.cell 1
  have e2 := D.cell 2
  go_wp2
  have q0 := (((D.set 0 (.slice none 0 0)).set 1 (.slice none 0 0)).set 2 (.slice none 0 0)).cell 0
  have q1 := (((D.set 0 (.slice none 0 0)).set 1 (.slice none 0 0)).set 2 (.slice none 0 0)).cell 1
  have q2 := (((D.set 0 (.slice none 0 0)).set 1 (.slice none 0 0)).set 2 (.slice none 0 0)).cell 2
  refine bodyPost_ret (v := .tuple #[.agg #[.slice none 0 0, .slice none 0 0, .slice none 0 0], .int .i64 (1)]) (by simp [results, Tryz.results18, go_sem, q0, q1, q2]) rfl ⟨none, 0, none, 0, none, 0, rfl, own3_nil _ _ _, ?_⟩
  exact ((fr.setCell (p := ⟨w.heap.size + 2, 0, none⟩) (Nat.le_add_right _ _) _).setCell (p := ⟨w.heap.size + 2, 1, none⟩) (Nat.le_add_right _ _) _).setCell (p := ⟨w.heap.size + 2, 2, none⟩) (Nat.le_add_right _ _) _

set_option maxRecDepth 100000 in
set_option maxHeartbeats 600000 in
theorem implAdd_2 (p s q p' s' q' : Value) (P S W P' S' W' : List Int) (w : World) (hp : Rd w p P) (hs : Rd w s S) (hq : Rd w q W) (hp' : Rd w p' P') (hs' : Rd w s' S') (hq' : Rd w q' W') (h1 : cluB P S W = true) (h2 : cluB P' S' W' = false) :
    Calls Tryz.prog 18 #[.agg #[p, s, q], .agg #[p', s', q']] w (RetCC w [] [] [] 1) := by
  obtain ⟨a0, k0, rfl⟩ := hp.len0
  obtain ⟨a1, k1, rfl⟩ := hs.len0
  obtain ⟨a2, k2, rfl⟩ := hq.len0
  obtain ⟨a3, k3, rfl⟩ := hp'.len0
  obtain ⟨a4, k4, rfl⟩ := hs'.len0
  obtain ⟨a5, k5, rfl⟩ := hq'.len0
  have B0 : Blk (((w.alloc (.cells #[.slice a0 P.length k0, .slice a1 S.length k1, .slice a2 W.length k2] 26)).alloc (.cells #[.slice a3 P'.length k3, .slice a4 S'.length k4, .slice a5 W'.length k5] 26)).alloc (.cells #[.slice none 0 0, .slice none 0 0, .slice none 0 0] 26)) w.heap.size 26 #[.slice a0 P.length k0, .slice a1 S.length k1, .slice a2 W.length k2] := ((Blk.new w _ _).alloc _).alloc _
  have B1 : Blk (((w.alloc (.cells #[.slice a0 P.length k0, .slice a1 S.length k1, .slice a2 W.length k2] 26)).alloc (.cells #[.slice a3 P'.length k3, .slice a4 S'.length k4, .slice a5 W'.length k5] 26)).alloc (.cells #[.slice none 0 0, .slice none 0 0, .slice none 0 0] 26)) (w.heap.size + 1) 26 #[.slice a3 P'.length k3, .slice a4 S'.length k4, .slice a5 W'.length k5] := (Blk.new' (by simp)).alloc _
  have D : Blk (((w.alloc (.cells #[.slice a0 P.length k0, .slice a1 S.length k1, .slice a2 W.length k2] 26)).alloc (.cells #[.slice a3 P'.length k3, .slice a4 S'.length k4, .slice a5 W'.length k5] 26)).alloc (.cells #[.slice none 0 0, .slice none 0 0, .slice none 0 0] 26)) (w.heap.size + 2) 26 #[.slice none 0 0, .slice none 0 0, .slice none 0 0] := Blk.new' (by simp)
  have fr : Below w.heap.size w (((w.alloc (.cells #[.slice a0 P.length k0, .slice a1 S.length k1, .slice a2 W.length k2] 26)).alloc (.cells #[.slice a3 P'.length k3, .slice a4 S'.length k4, .slice a5 W'.length k5] 26)).alloc (.cells #[.slice none 0 0, .slice none 0 0, .slice none 0 0] 26)) := (((Below.refl _ _).alloc (Nat.le_refl _) _).alloc (by simp) _).alloc (by simp; omega) _
  have sz : w.heap.size + 3 ≤ (((w.alloc (.cells #[.slice a0 P.length k0, .slice a1 S.length k1, .slice a2 W.length k2] 26)).alloc (.cells #[.slice a3 P'.length k3, .slice a4 S'.length k4, .slice a5 W'.length k5] 26)).alloc (.cells #[.slice none 0 0, .slice none 0 0, .slice none 0 0] 26)).heap.size := by simp
  have c0 := B0.cell 0
  have c1 := B0.cell 1
  have c2 := B0.cell 2
  have d0 := B1.cell 0
  have d1 := B1.cell 1
  have d2 := B1.cell 2
  go_enter Tryz.func18, Tryz.ntmps18
  go_wp2_with fail
  refine (implIsCluster_c _ _ _ P S W _ (hp.below fr (Nat.le_refl _)) (hs.below fr (Nat.le_refl _)) (hq.below fr (Nat.le_refl _))).mono ?_
  rintro e w1 ⟨rfl, hb⟩
  rw [h1]
  have B0 := B0.stays hb
  have B1 := B1.stays hb
  have D := D.stays hb
  have fr := below_step fr hb
  have sz := Nat.le_trans sz (Below.size hb)
  clear c0 c1 c2 d0 d1 d2
  have c0 := B0.cell 0
  have c1 := B0.cell 1
  have c2 := B0.cell 2
  have d0 := B1.cell 0
  have d1 := B1.cell 1
  have d2 := B1.cell 2
  go_wp2_with fail
  refine (implIsCluster_c _ _ _ P' S' W' _ (hp'.below fr (Nat.le_refl _)) (hs'.below fr (Nat.le_refl _)) (hq'.below fr (Nat.le_refl _))).mono ?_
  rintro e w2 ⟨rfl, hb⟩
  rw [h2]
  have B0 := B0.stays hb
  have B1 := B1.stays hb
  have D := D.stays hb
  have fr := below_step fr hb
  have sz := Nat.le_trans sz (Below.size hb)
  clear c0 c1 c2 d0 d1 d2
  have f0 := D.free 0
  have f1 := D.free 1
  have f2 := D.free 2
  have e0 := D.cell 0
  have e1 := D.cell 1
  have e2 := D.cell 2
  go_wp2
  have q0 := (((D.set 0 (.slice none 0 0)).set 1 (.slice none 0 0)).set 2 (.slice none 0 0)).cell 0
  have q1 := (((D.set 0 (.slice none 0 0)).set 1 (.slice none 0 0)).set 2 (.slice none 0 0)).cell 1
  have q2 := (((D.set 0 (.slice none 0 0)).set 1 (.slice none 0 0)).set 2 (.slice none 0 0)).cell 2
  refine bodyPost_ret (v := .tuple #[.agg #[.slice none 0 0, .slice none 0 0, .slice none 0 0], .int .i64 (1)]) (by simp [results, Tryz.results18, go_sem, q0, q1, q2]) rfl ⟨none, 0, none, 0, none, 0, rfl, own3_nil _ _ _, ?_⟩
  exact ((fr.setCell (p := ⟨w.heap.size + 2, 0, none⟩) (Nat.le_add_right _ _) _).setCell (p := ⟨w.heap.size + 2, 1, none⟩) (Nat.le_add_right _ _) _).setCell (p := ⟨w.heap.size + 2, 2, none⟩) (Nat.le_add_right _ _) _

set_option maxRecDepth 100000 in
set_option maxHeartbeats 600000 in
theorem implAdd_3 (p s q p' s' q' : Value) (P S W P' S' W' : List Int) (w : World) (hp : Rd w p P) (hs : Rd w s S) (hq : Rd w q W) (hp' : Rd w p' P') (hs' : Rd w s' S') (hq' : Rd w q' W') (h1 : cluB P S W = true) (h2 : cluB P' S' W' = true) (h3 : likeB P S P' S' = false) :
    Calls Tryz.prog 18 #[.agg #[p, s, q], .agg #[p', s', q']] w (RetCC w [] [] [] 2) := by
  obtain ⟨a0, k0, rfl⟩ := hp.len0
  obtain ⟨a1, k1, rfl⟩ := hs.len0
  obtain ⟨a2, k2, rfl⟩ := hq.len0
  obtain ⟨a3, k3, rfl⟩ := hp'.len0
  obtain ⟨a4, k4, rfl⟩ := hs'.len0
  obtain ⟨a5, k5, rfl⟩ := hq'.len0
  have B0 : Blk (((w.alloc (.cells #[.slice a0 P.length k0, .slice a1 S.length k1, .slice a2 W.length k2] 26)).alloc (.cells #[.slice a3 P'.length k3, .slice a4 S'.length k4, .slice a5 W'.length k5] 26)).alloc (.cells #[.slice none 0 0, .slice none 0 0, .slice none 0 0] 26)) w.heap.size 26 #[.slice a0 P.length k0, .slice a1 S.length k1, .slice a2 W.length k2] := ((Blk.new w _ _).alloc _).alloc _
  have B1 : Blk (((w.alloc (.cells #[.slice a0 P.length k0, .slice a1 S.length k1, .slice a2 W.length k2] 26)).alloc (.cells #[.slice a3 P'.length k3, .slice a4 S'.length k4, .slice a5 W'.length k5] 26)).alloc (.cells #[.slice none 0 0, .slice none 0 0, .slice none 0 0] 26)) (w.heap.size + 1) 26 #[.slice a3 P'.length k3, .slice a4 S'.length k4, .slice a5 W'.length k5] := (Blk.new' (by simp)).alloc _
  have D : Blk (((w.alloc (.cells #[.slice a0 P.length k0, .slice a1 S.length k1, .slice a2 W.length k2] 26)).alloc (.cells #[.slice a3 P'.length k3, .slice a4 S'.length k4, .slice a5 W'.length k5] 26)).alloc (.cells #[.slice none 0 0, .slice none 0 0, .slice none 0 0] 26)) (w.heap.size + 2) 26 #[.slice none 0 0, .slice none 0 0, .slice none 0 0] := Blk.new' (by simp)
  have fr : Below w.heap.size w (((w.alloc (.cells #[.slice a0 P.length k0, .slice a1 S.length k1, .slice a2 W.length k2] 26)).alloc (.cells #[.slice a3 P'.length k3, .slice a4 S'.length k4, .slice a5 W'.length k5] 26)).alloc (.cells #[.slice none 0 0, .slice none 0 0, .slice none 0 0] 26)) := (((Below.refl _ _).alloc (Nat.le_refl _) _).alloc (by simp) _).alloc (by simp; omega) _
  have sz : w.heap.size + 3 ≤ (((w.alloc (.cells #[.slice a0 P.length k0, .slice a1 S.length k1, .slice a2 W.length k2] 26)).alloc (.cells #[.slice a3 P'.length k3, .slice a4 S'.length k4, .slice a5 W'.length k5] 26)).alloc (.cells #[.slice none 0 0, .slice none 0 0, .slice none 0 0] 26)).heap.size := by simp
  have c0 := B0.cell 0
  have c1 := B0.cell 1
  have c2 := B0.cell 2
  have d0 := B1.cell 0
  have d1 := B1.cell 1
  have d2 := B1.cell 2
  go_enter Tryz.func18, Tryz.ntmps18
  go_wp2_with fail
  refine (implIsCluster_c _ _ _ P S W _ (hp.below fr (Nat.le_refl _)) (hs.below fr (Nat.le_refl _)) (hq.below fr (Nat.le_refl _))).mono ?_
  rintro e w1 ⟨rfl, hb⟩
  rw [h1]
  have B0 := B0.stays hb
  have B1 := B1.stays hb
  have D := D.stays hb
  have fr := below_step fr hb
  have sz := Nat.le_trans sz (Below.size hb)
  clear c0 c1 c2 d0 d1 d2
  have c0 := B0.cell 0
  have c1 := B0.cell 1
  have c2 := B0.cell 2
  have d0 := B1.cell 0
  have d1 := B1.cell 1
  have d2 := B1.cell 2
  go_wp2_with fail
  refine (implIsCluster_c _ _ _ P' S' W' _ (hp'.below fr (Nat.le_refl _)) (hs'.below fr (Nat.le_refl _)) (hq'.below fr (Nat.le_refl _))).mono ?_
  rintro e w2 ⟨rfl, hb⟩
  rw [h2]
  have B0 := B0.stays hb
  have B1 := B1.stays hb
  have D := D.stays hb
  have fr := below_step fr hb
  have sz := Nat.le_trans sz (Below.size hb)
  clear c0 c1 c2 d0 d1 d2
  have c0 := B0.cell 0
  have c1 := B0.cell 1
  have c2 := B0.cell 2
  have d0 := B1.cell 0
  have d1 := B1.cell 1
  have d2 := B1.cell 2
  go_wp2_with fail
  refine (alike_c _ _ _ _ _ _ P S W P' S' W' _ (hp.below fr (Nat.le_refl _)) (hs.below fr (Nat.le_refl _)) (hq.below fr (Nat.le_refl _)) (hp'.below fr (Nat.le_refl _)) (hs'.below fr (Nat.le_refl _)) (hq'.below fr (Nat.le_refl _))).mono ?_
  rintro e w3 ⟨rfl, hb⟩
  rw [h3]
  have B0 := B0.stays hb
  have B1 := B1.stays hb
  have D := D.stays hb
  have fr := below_step fr hb
  have sz := Nat.le_trans sz (Below.size hb)
  clear c0 c1 c2 d0 d1 d2
  have f0 := D.free 0
  have f1 := D.free 1
  have f2 := D.free 2
  have e0 := D.cell 0
  have e1 := D.cell 1
  have e2 := D.cell 2
  go_wp2
  have q0 := (((D.set 0 (.slice none 0 0)).set 1 (.slice none 0 0)).set 2 (.slice none 0 0)).cell 0
  have q1 := (((D.set 0 (.slice none 0 0)).set 1 (.slice none 0 0)).set 2 (.slice none 0 0)).cell 1
  have q2 := (((D.set 0 (.slice none 0 0)).set 1 (.slice none 0 0)).set 2 (.slice none 0 0)).cell 2
  refine bodyPost_ret (v := .tuple #[.agg #[.slice none 0 0, .slice none 0 0, .slice none 0 0], .int .i64 (2)]) (by simp [results, Tryz.results18, go_sem, q0, q1, q2]) rfl ⟨none, 0, none, 0, none, 0, rfl, own3_nil _ _ _, ?_⟩
  exact ((fr.setCell (p := ⟨w.heap.size + 2, 0, none⟩) (Nat.le_add_right _ _) _).setCell (p := ⟨w.heap.size + 2, 1, none⟩) (Nat.le_add_right _ _) _).setCell (p := ⟨w.heap.size + 2, 2, none⟩) (Nat.le_add_right _ _) _

set_option maxRecDepth 100000 in
set_option maxHeartbeats 2000000 in
theorem implAdd_4 (p s q p' s' q' : Value) (P S W P' S' W' : List Int) (w : World) (hp : Rd w p P) (hs : Rd w s S) (hq : Rd w q W) (hp' : Rd w p' P') (hs' : Rd w s' S') (hq' : Rd w q' W') (h1 : cluB P S W = true) (h2 : cluB P' S' W' = true) (h3 : likeB P S P' S' = true) :
    Calls Tryz.prog 18 #[.agg #[p, s, q], .agg #[p', s', q']] w (RetCC w (okL (allIn (adTo W W' W.length) (-100000) 100000) P) (okL (allIn (adTo W W' W.length) (-100000) 100000) S) (okL (allIn (adTo W W' W.length) (-100000) 100000) (adTo W W' W.length)) (okC (allIn (adTo W W' W.length) (-100000) 100000) 3)) := by
  have hcl := cluB_iff.1 h1
  have hcl' := cluB_iff.1 h2
  have hlk := likeB_iff.1 h3
  have hlw := Lib.hid (show W'.length = W.length by have e1 := hcl.1; have e2 := hcl'.1; rw [← hlk.1] at e2; omega)
  have hW0 : 0 < W.length := by have := hcl.1; omega
  have hW1 : 0 < W'.length := by have := hcl'.1; omega
  have hWn : W.length ≤ 1000000 := by have := hcl.1; omega
  have hn1 := Lib.hid hcl.2.1
  have hn2 := Lib.hid hcl'.2.1
  have HC := Lib.hid hcl
  clear hcl hcl' hlk
  obtain ⟨a0, k0, rfl⟩ := hp.len0
  obtain ⟨a1, k1, rfl⟩ := hs.len0
  obtain ⟨b2, o2, k2, rfl, _, _, hbk2, hck2⟩ := hq.cells hW0
  obtain ⟨a3, k3, rfl⟩ := hp'.len0
  obtain ⟨a4, k4, rfl⟩ := hs'.len0
  obtain ⟨b5, o5, k5, rfl, _, _, hbk5, hck5⟩ := hq'.cells hW1
  have B0 : Blk (((w.alloc (.cells #[.slice a0 P.length k0, .slice a1 S.length k1, .slice (some ⟨b2, o2, none⟩) W.length k2] 26)).alloc (.cells #[.slice a3 P'.length k3, .slice a4 S'.length k4, .slice (some ⟨b5, o5, none⟩) W'.length k5] 26)).alloc (.cells #[.slice none 0 0, .slice none 0 0, .slice none 0 0] 26)) w.heap.size 26 #[.slice a0 P.length k0, .slice a1 S.length k1, .slice (some ⟨b2, o2, none⟩) W.length k2] := ((Blk.new w _ _).alloc _).alloc _
  have B1 : Blk (((w.alloc (.cells #[.slice a0 P.length k0, .slice a1 S.length k1, .slice (some ⟨b2, o2, none⟩) W.length k2] 26)).alloc (.cells #[.slice a3 P'.length k3, .slice a4 S'.length k4, .slice (some ⟨b5, o5, none⟩) W'.length k5] 26)).alloc (.cells #[.slice none 0 0, .slice none 0 0, .slice none 0 0] 26)) (w.heap.size + 1) 26 #[.slice a3 P'.length k3, .slice a4 S'.length k4, .slice (some ⟨b5, o5, none⟩) W'.length k5] := (Blk.new' (by simp)).alloc _
  have D : Blk (((w.alloc (.cells #[.slice a0 P.length k0, .slice a1 S.length k1, .slice (some ⟨b2, o2, none⟩) W.length k2] 26)).alloc (.cells #[.slice a3 P'.length k3, .slice a4 S'.length k4, .slice (some ⟨b5, o5, none⟩) W'.length k5] 26)).alloc (.cells #[.slice none 0 0, .slice none 0 0, .slice none 0 0] 26)) (w.heap.size + 2) 26 #[.slice none 0 0, .slice none 0 0, .slice none 0 0] := Blk.new' (by simp)
  have fr : Below w.heap.size w (((w.alloc (.cells #[.slice a0 P.length k0, .slice a1 S.length k1, .slice (some ⟨b2, o2, none⟩) W.length k2] 26)).alloc (.cells #[.slice a3 P'.length k3, .slice a4 S'.length k4, .slice (some ⟨b5, o5, none⟩) W'.length k5] 26)).alloc (.cells #[.slice none 0 0, .slice none 0 0, .slice none 0 0] 26)) := (((Below.refl _ _).alloc (Nat.le_refl _) _).alloc (by simp) _).alloc (by simp; omega) _
  have sz : w.heap.size + 3 ≤ (((w.alloc (.cells #[.slice a0 P.length k0, .slice a1 S.length k1, .slice (some ⟨b2, o2, none⟩) W.length k2] 26)).alloc (.cells #[.slice a3 P'.length k3, .slice a4 S'.length k4, .slice (some ⟨b5, o5, none⟩) W'.length k5] 26)).alloc (.cells #[.slice none 0 0, .slice none 0 0, .slice none 0 0] 26)).heap.size := by simp
  have c0 := B0.cell 0
  have c1 := B0.cell 1
  have c2 := B0.cell 2
  have d0 := B1.cell 0
  have d1 := B1.cell 1
  have d2 := B1.cell 2
  go_enter Tryz.func18, Tryz.ntmps18
  go_wp2_with fail
  refine (implIsCluster_c _ _ _ P S W _ (hp.below fr (Nat.le_refl _)) (hs.below fr (Nat.le_refl _)) (hq.below fr (Nat.le_refl _))).mono ?_
  rintro e w1 ⟨rfl, hb⟩
  rw [h1]
  have B0 := B0.stays hb
  have B1 := B1.stays hb
  have D := D.stays hb
  have fr := below_step fr hb
  have sz := Nat.le_trans sz (Below.size hb)
  clear c0 c1 c2 d0 d1 d2
  have c0 := B0.cell 0
  have c1 := B0.cell 1
  have c2 := B0.cell 2
  have d0 := B1.cell 0
  have d1 := B1.cell 1
  have d2 := B1.cell 2
  go_wp2_with fail
  refine (implIsCluster_c _ _ _ P' S' W' _ (hp'.below fr (Nat.le_refl _)) (hs'.below fr (Nat.le_refl _)) (hq'.below fr (Nat.le_refl _))).mono ?_
  rintro e w2 ⟨rfl, hb⟩
  rw [h2]
  have B0 := B0.stays hb
  have B1 := B1.stays hb
  have D := D.stays hb
  have fr := below_step fr hb
  have sz := Nat.le_trans sz (Below.size hb)
  clear c0 c1 c2 d0 d1 d2
  have c0 := B0.cell 0
  have c1 := B0.cell 1
  have c2 := B0.cell 2
  have d0 := B1.cell 0
  have d1 := B1.cell 1
  have d2 := B1.cell 2
  go_wp2_with fail
  refine (alike_c _ _ _ _ _ _ P S W P' S' W' _ (hp.below fr (Nat.le_refl _)) (hs.below fr (Nat.le_refl _)) (hq.below fr (Nat.le_refl _)) (hp'.below fr (Nat.le_refl _)) (hs'.below fr (Nat.le_refl _)) (hq'.below fr (Nat.le_refl _))).mono ?_
  rintro e w3 ⟨rfl, hb⟩
  rw [h3]
  have B0 := B0.stays hb
  have B1 := B1.stays hb
  have D := D.stays hb
  have fr := below_step fr hb
  have sz := Nat.le_trans sz (Below.size hb)
  clear c0 c1 c2 d0 d1 d2
  have c0 := B0.cell 0
  have c1 := B0.cell 1
  have c2 := B0.cell 2
  have d0 := B1.cell 0
  have d1 := B1.cell 1
  have d2 := B1.cell 2
  go_wp2_with fail
  refine (clone_c _ W _ (hq.below fr (Nat.le_refl _)) hW0 hWn).mono ?_
  rintro e w4 ⟨g, kc, rfl, ho, hb⟩
  obtain ⟨g', gc, hge, hg0, hg1, _, _⟩ := Own.pos ho hW0
  injection hge with hge1 hge2 hge3
  subst hge1 hge3
  clear hge2
  have hg3 : w.heap.size + 3 ≤ g' := by omega
  have ho := ho.base_le sz
  have B0 := B0.stays hb
  have B1 := B1.stays hb
  have D := D.stays hb
  have fr := below_step fr hb
  have sz := Nat.le_trans sz (Below.size hb)
  clear c0 c1 c2 d0 d1 d2
  have c0 := B0.cell 0
  have c1 := B0.cell 1
  have c2 := B0.cell 2
  have d0 := B1.cell 0
  have d1 := B1.cell 1
  have d2 := B1.cell 2
  go_wp2_with fail
  clear c0 c1 c2 d0 d1 d2
  go_loopw [7, 8, 29] (fun _ _ i wr => ∃ k : Nat, k ≤ W.length ∧ i = .int .i64 k ∧ OwnI wr (w.heap.size + 3) (.slice (some ⟨g', 0, none⟩) W.length kc) (aiTo W W' k) ∧ Below w.heap.size w wr ∧ Blk wr w.heap.size 26 #[.slice a0 P.length k0, .slice a1 S.length k1, .slice (some ⟨b2, o2, none⟩) W.length k2] ∧ Blk wr (w.heap.size + 1) 26 #[.slice a3 P'.length k3, .slice a4 S'.length k4, .slice (some ⟨b5, o5, none⟩) W'.length k5] ∧ Blk wr (w.heap.size + 2) 26 #[.slice none 0 0, .slice none 0 0, .slice none 0 0] ∧ w.heap.size + 3 ≤ wr.heap.size) (fun _ _ i _ => W.length - (intOf i).toNat)
  case atStart => exact ⟨0, Nat.zero_le _, rfl, by rw [aiTo_zero]; exact ho, fr, B0, B1, D, sz⟩
  case round =>
    obtain ⟨k, hk, rfl, ho5, fr5, C0, C1, D5, sz5⟩ := hrel
    clear ho fr B0 B1 D sz
    obtain ⟨wo, rfl⟩ : ∃ wo : World, wo = wr := ⟨_, rfl⟩
    by_cases hlt : k < W.length
    · have hlt' : k < W'.length := by have := hlw.out; omega
      have hkW : (k : Int) < (W.length : Int) := by omega
      have hkW' : (k : Int) < (W'.length : Int) := by omega
      have dv : wo.cell? ⟨b5, o5 + k, none⟩ = some (.int .i64 (gI W' k)) := by rw [fr5.cell (p := ⟨b5, o5 + k, none⟩) hbk5]; exact hck5 k hlt'
      have hO : OwnI wo (w.heap.size + 3) (.slice (some ⟨g', 0, none⟩) (aiTo W W' k).length kc) (aiTo W W' k) := by rw [aiTo_len]; exact ho5
      have dz := hO.cell k (by rw [aiTo_len]; exact hlt)
      rw [gI_aiTo hlt, if_neg (by omega)] at dz
      have fz := hO.free k
      have hset := hO.set k (gI W k + gI W' k)
      rw [aiTo_step hlt, aiTo_len] at hset
      have n1 := hn1.out k hlt
      have n2 := hn2.out k hlt'
      have C0' := C0.other (g' := g') (by omega) k (.int .i64 (gI W k + gI W' k))
      have C1' := C1.other (g' := g') (by omega) k (.int .i64 (gI W k + gI W' k))
      have D5' := D5.other (g' := g') (by omega) k (.int .i64 (gI W k + gI W' k))
      have fr5' := fr5.setCell (p := ⟨g', k, none⟩) (by show w.heap.size ≤ g'; omega) (.int .i64 (gI W k + gI W' k))
      have HS := Lib.hid hset
      have H0 := Lib.hid C0'
      have H1 := Lib.hid C1'
      have HD := Lib.hid D5'
      have HF := Lib.hid fr5'
      clear hset C0' C1' D5' fr5' hO ho5 fr5 C0 C1 D5
      generalize gI W k = x at dz n1 HS H0 H1 HD HF
      generalize gI W' k = y at dv n2 HS H0 H1 HD HF
      obtain ⟨x1, x2⟩ := n1
      obtain ⟨y1, y2⟩ := n2
      go_wp2
      go_roundw
      case rel => exact ⟨k + 1, by omega, by go_num, HS.out, HF.out, H0.out, H1.out, HD.out, by simpa using sz5⟩
      case measure => simp [intOf]; omega
    · have hk' : k = W.length := by omega
      subst hk'
      rw [aiTo_all] at ho5
      have c0 := C0.cell 0
      have c1 := C0.cell 1
      have c2 := C0.cell 2
      have hge : ¬ W.length < W'.length := by have := hlw.out; omega
      go_wp2_with fail
      refine (checkedWeightsN_c W.length _ _ _ _ _ P S W (adTo W W' W.length) (w.heap.size + 3) _ (hp.below fr5 (Nat.le_refl _)) (hs.below fr5 (Nat.le_refl _)) HC.out ho5 sz5 (adTo_len _ _ _)).mono ?_
      rintro e w6 ⟨b1, j1, b2', j2, b3, j3, rfl, ho3, hb6⟩
      have D6 := D5.stays hb6
      have fr6 := below_step fr5 hb6
      clear c0 c1 c2
      have f0 := D6.free 0
      have f1 := D6.free 1
      have f2 := D6.free 2
      have e0 := D6.cell 0
      have e1 := D6.cell 1
      have e2 := D6.cell 2
      go_wp2
      have F := ((D6.set 0 (.slice b1 (okL (allIn (adTo W W' W.length) (-100000) 100000) P).length j1)).set 1 (.slice b2' (okL (allIn (adTo W W' W.length) (-100000) 100000) S).length j2)).set 2 (.slice b3 (okL (allIn (adTo W W' W.length) (-100000) 100000) (adTo W W' W.length)).length j3)
      have q0 := F.cell 0
      have q1 := F.cell 1
      have q2 := F.cell 2
      have hK : Keeps (fun k => k = w.heap.size + 2) w6 (((w6.setCell ⟨w.heap.size + 2, 0, none⟩ (.slice b1 (okL (allIn (adTo W W' W.length) (-100000) 100000) P).length j1)).setCell ⟨w.heap.size + 2, 1, none⟩ (.slice b2' (okL (allIn (adTo W W' W.length) (-100000) 100000) S).length j2)).setCell ⟨w.heap.size + 2, 2, none⟩ (.slice b3 (okL (allIn (adTo W W' W.length) (-100000) 100000) (adTo W W' W.length)).length j3)) := ((((Keeps.refl (fun k => k = w.heap.size + 2) w6).setCell (p := ⟨w.heap.size + 2, 0, none⟩) rfl _).setCell (p := ⟨w.heap.size + 2, 1, none⟩) rfl _).setCell (p := ⟨w.heap.size + 2, 2, none⟩) rfl _)
      refine bodyPost_ret (v := .tuple #[.agg #[.slice b1 (okL (allIn (adTo W W' W.length) (-100000) 100000) P).length j1, .slice b2' (okL (allIn (adTo W W' W.length) (-100000) 100000) S).length j2, .slice b3 (okL (allIn (adTo W W' W.length) (-100000) 100000) (adTo W W' W.length)).length j3], .int .i64 (okC (allIn (adTo W W' W.length) (-100000) 100000) 3)]) (by simp [results, Tryz.results18, go_sem, q0, q1, q2]) rfl ⟨_, _, _, _, _, _, rfl, ?_, ?_⟩
      · exact (ho3.keeps hK (fun k hk e => by have := (ho3.block k hk).1; omega)).base_le (by omega)
      · exact fr6.trans (hK.below (by have := Below.size fr6; omega) (fun k hk => by omega))

end Go.Proofs.YtglghdkjppcedaaGreatDoor

/- One number put behind an owned slice, and where the result lies. No program in sight. -/
namespace Go.Proofs.YtglghdkjppcedaaGreatDoor
open Go.RowKit

theorem wpList_pushL {P : Program} {w : World} {ops : Array Oper} {rest : List Oper} {o : Oper} {a : Act} {Q : Exit → Act → World → Prop} (hgd : o.guard = none) (s x : Operand) (t : TypeId)
    (ho : o.op = .call { callee := .builtin .append, args := #[s, x], argTypes := #[t, t] })
    (base : Nat) (e : TypeId) (i : TypeInfo) (ht : P.underlying t = some (.slice e)) (hi : P.info? e = some i) (hz : i.zero = some (.int .i64 0)) (hsize : i.size = 1) (hby : i.bytes = 8)
    (v : Value) (xs : List Int) (y : Int) (hs : a.eval s = v) (hown : Own e w base v xs) (hx : a.eval x = .slice (some ⟨w.heap.size, 0, none⟩) 1 1)
    (hlen : xs.length ≤ 1000000000000) (hbase : base ≤ w.heap.size)
    (h : ∀ g cap w', Own e w' base (.slice (some ⟨g, 0, none⟩) (xs.length + 1) cap) (xs ++ [y]) → Keeps (fun k => v.ownBlock = some k) w w' → (v.ownBlock = some g ∨ w.heap.size ≤ g) → wpList P ops Q rest (a.put o.dst (.slice (some ⟨g, 0, none⟩) (xs.length + 1) cap)) w') :
    wpList P ops Q (o :: rest) a (w.alloc (.cells #[.int .i64 y] e)) := by
  refine wpList_append_lies _ hgd s x t ho base e i (.int .i64 0) 1 8 ht hi hz hsize hby rfl (by decide) v xs.length (xs.map (Value.int .i64)) hs (World.ownsRow.alloc hown _) ⟨w.heap.size, 0, none⟩ 1 1 [.int .i64 y] hx rfl (cell_one_new _ _ _) ?_ (by omega) ?_ ?_ ?_ _ rfl ?_
  · intro u hu; simp at hu; subst hu; rfl
  · unfold maxLen; omega
  · omega
  · simp; omega
  · intro g cap w' ho' hg hl _
    refine h g cap w' (own_append ho') ?_ (hl.imp id (fun h => by rw [h]; simp))
    have h1 : Keeps (fun k => v.ownBlock = some k) w (w.alloc (.cells #[.int .i64 y] e)) := Keeps.of_below ((Below.refl _ _).alloc (Nat.le_refl _) _)
    exact h1.trans (Keeps.of_grown hg)
end Go.Proofs.YtglghdkjppcedaaGreatDoor

/- One number put behind an owned slice, at a step of a region; what was read of the slice stays to be read. No program in sight. -/
namespace Go.Proofs.YtglghdkjppcedaaGreatDoor
open Go.RowKit

theorem step_pushS {P : Program} {w : World} {ops : Array Oper} {o : Oper} {a : Act} {K : Act → World → Prop} {Q : Exit → Act → World → Prop} {E : Prop} (hgd : o.guard = none) (s x : Operand) (t : TypeId)
    (ho : o.op = .call { callee := .builtin .append, args := #[s, x], argTypes := #[t, t] })
    (base : Nat) (e : TypeId) (i : TypeInfo) (ht : P.underlying t = some (.slice e)) (hi : P.info? e = some i) (hz : i.zero = some (.int .i64 0)) (hsize : i.size = 1) (hby : i.bytes = 8)
    (g n cap : Nat) (xs : List Int) (y : Int) (h : Nat) (hn : xs.length = n) (hs : a.eval s = .slice (some ⟨g, 0, none⟩) n cap) (hown : Own e w base (.slice (some ⟨g, 0, none⟩) n cap) xs) (hx : a.eval x = .slice (some ⟨h, 0, none⟩) 1 1) (hblk : Blk w h e #[.int .i64 y])
    (hlen : n ≤ 1000000000000) (hbase : base ≤ w.heap.size)
    (hK : ∀ g2 cap2 w', Own e w' base (.slice (some ⟨g2, 0, none⟩) (n + 1) cap2) (xs ++ [y]) → Keeps (fun k => k = g) w w' → (g = g2 ∨ g2 = w.heap.size) → g2 < w'.heap.size → (∀ i, i < n → w'.cell? ⟨g, i, none⟩ = some (.int .i64 (gI xs i))) → K (a.put o.dst (.slice (some ⟨g2, 0, none⟩) (n + 1) cap2)) w') :
    if Region.wanted o (yielded ops a.tmps) = true then Oper.wp P o a w K Q else E := by
  subst hn
  have hw : Region.wanted o (yielded ops a.tmps) = true := by simp [Region.wanted, hgd]
  rw [if_pos hw]
  have hnews : ∀ j u, ([Value.int .i64 y])[j]? = some u → w.cell? ((⟨h, 0, none⟩ : Addr).add j) = some u := World.news_of_block (cs := #[.int .i64 y]) (t := e) (fr := (0, 0)) hblk
  have h1c : ∀ u ∈ [Value.int .i64 y], u.oneCell' = true := by intro u hu; simp at hu; subst hu; rfl
  have h63 : xs.length + 1 ≤ maxLen := by unfold maxLen; omega
  obtain ⟨g2, cap2, w', hr, h2, h3, h4, h5⟩ := run_append_lies (P := P) w t o.type base e i (.int .i64 0) 1 8 ht hi hz hsize hby rfl (by decide) (.slice (some ⟨g, 0, none⟩) xs.length cap) xs.length (xs.map (Value.int .i64)) hown ⟨h, 0, none⟩ 1 1 [.int .i64 y] rfl hnews h1c (by omega) h63 (by omega) hbase w.heap.size rfl
  have hO := own_append h2
  have hkeep : Keeps (fun k => k = g) w w' := (Keeps.of_grown h3).mono (fun k hk => by simp [Value.ownBlock] at hk; omega)
  have hlies : g = g2 ∨ g2 = w.heap.size := h4.imp (fun h => by simpa [Value.ownBlock] using h) id
  have hgl : g < w.heap.size := (hown.block g rfl).2
  have hcells : ∀ i, i < xs.length → w'.cell? ⟨g, i, none⟩ = some (.int .i64 (gI xs i)) := by
    intro k hk
    have hwc := hown.cell k hk
    by_cases hroom : xs.length + 1 ≤ cap
    · rcases hlies with rfl | hnew
      · have := Own.cell (xs := xs ++ [y]) (w := w') (by rw [List.length_append]; exact hO) k (by simp; omega)
        rw [this, gI_app_lt hk]
      · exfalso
        rcases hown.2 with ⟨hv, _⟩ | ⟨g', cap', cur, hv, _, hcur, hle, _, hsz, _⟩
        · cases hv
        · injection hv with hv1 _ hv3
          injection hv1 with hv1
          injection hv1 with hv1
          subst hv1
          subst hv3
          have hrr := run_append_room (P := P) (w := w) t o.type e i ht hi g xs.length cap cur hcur ⟨h, 0, none⟩ 1 1 [.int .i64 y] (by rw [hsize]; rfl) hnews h1c hroom (by rw [hsize]; simp; omega)
          rw [hrr] at hr
          injection hr with hr1 _
          injection hr1 with hr1 _ _
          injection hr1 with hr1
          injection hr1 with hr1
          omega
    · obtain ⟨v'', w'', hr2, _, hgr⟩ := run_append_arg_grows (P := P) (w := w) t o.type e i (.int .i64 0) 1 8 ht hi hz hsize hby rfl (by decide) ⟨g, 0, none⟩ xs.length cap (xs.map (Value.int .i64)) (by simp) (fun j u hj => by
        have hjl : j < xs.length := by
          have := (List.getElem?_eq_some_iff.1 hj).1
          simpa using this
        rw [Addr.add_lit, Nat.zero_add, hown.cell j hjl]
        rw [List.getElem?_map, gI_some hjl] at hj
        simpa using hj) ⟨h, 0, none⟩ 1 1 [.int .i64 y] rfl hnews (by omega) h63 (by omega)
      rw [hr2] at hr
      injection hr with _ hr1
      subst hr1
      have := (Keeps.of_grown hgr).cell (p := ⟨g, k, none⟩) hgl (by simp)
      rw [this, hwc]
  unfold Oper.wp
  simp [execOp, ho, resolve, invoke, builtin, hs, hx, hr, Result.andThen]
  exact hK g2 cap2 w' hO hkeep hlies h5 hcells
end Go.Proofs.YtglghdkjppcedaaGreatDoor
