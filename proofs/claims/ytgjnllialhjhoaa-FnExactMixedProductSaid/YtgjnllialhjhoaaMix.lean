/- Contracts: MixedProduct, SquareOfCluster. -/
import Derived.Test.YtgjnllialhjhoaaCod
import Derived.Test.YtgjnllialhjhoaaMul
namespace Go.Proofs.Ytgjnllialhjhoaa
open Go.RowKit

theorem unloadedCluster_yes (p s q : Value) (P S W : List Int) (w : World) (hp : Rd w p P) (hs : Rd w s S) (hq : Rd w q W) (hc : cluB P S W = true) (h : uwB P S W = true) :
    Calls Try.prog 105 #[.agg #[p, s, q]] w (RetCC w P S (unlL P S W) 0) := by
  have h1 := unloadedCluster_c p s q P S W w hp hs hq hc
  rwa [okL_true h, okL_true h, okL_true h, okC_true h] at h1
theorem unloadedCluster_no (p s q : Value) (P S W : List Int) (w : World) (hp : Rd w p P) (hs : Rd w s S) (hq : Rd w q W) (hc : cluB P S W = true) (h : uwB P S W = false) :
    Calls Try.prog 105 #[.agg #[p, s, q]] w (RetCC w [] [] [] 3) := by
  have h1 := unloadedCluster_c p s q P S W w hp hs hq hc
  rwa [okL_false h, okL_false h, okL_false h, okC_false h] at h1
theorem specUC_ok (p s q : Value) (P S W : List Int) (w : World) (hp : Rd w p P) (hs : Rd w s S) (hq : Rd w q W) (hc : cluB P S W = true) (h : uwB P S W = true) :
    Calls Try.prog 58 #[.agg #[p, s, q]] w (RetCC w P S (unlL P S W) 0) := specUC_yes p s q P S W w hp hs hq (by simp [ucB, hc, h])
theorem specUC_lim (p s q : Value) (P S W : List Int) (w : World) (hp : Rd w p P) (hs : Rd w s S) (hq : Rd w q W) (hc : cluB P S W = true) (h : uwB P S W = false) :
    Calls Try.prog 58 #[.agg #[p, s, q]] w (RetCC w [] [] [] 3) := by
  have h1 := specUC_no p s q P S W w hp hs hq (by simp [ucB, hc, h])
  rwa [show ucC P S W = 3 by simp [ucC, hc, okC, h]] at h1
theorem uw_num {P S W : List Int} (h : uwB P S W = true) : ∀ i, i < (unlL P S W).length → -100000 ≤ gI (unlL P S W) i ∧ gI (unlL P S W) i ≤ 100000 := allIn_iff.1 h

def mxB (P S W P' S' W' : List Int) : Bool := pairB P S W P' S' W' && (uwB P S W && uwB P' S' W')
def mxC (P S W P' S' W' : List Int) : Int := if pairB P S W P' S' W' = true then (if (uwB P S W && uwB P' S' W') = true then 0 else 3) else pairC P S W P' S' W'
def mxV (P S W P' S' W' : List Int) : Int := dotTo (unlL P S W) (unlL P' S' W') (unlL P S W).length
theorem mx_bad {P S W P' S' W' : List Int} (h : pairB P S W P' S' W' = false) : mxB P S W P' S' W' = false ∧ mxC P S W P' S' W' = pairC P S W P' S' W' := by simp [mxB, mxC, h]
theorem mx_lim {P S W P' S' W' : List Int} (h : pairB P S W P' S' W' = true) (h2 : (uwB P S W && uwB P' S' W') = false) : mxB P S W P' S' W' = false ∧ mxC P S W P' S' W' = 3 := by simp only [mxB, mxC, h, h2]; simp
theorem mx_ok {P S W P' S' W' : List Int} (h : pairB P S W P' S' W' = true) (h1 : uwB P S W = true) (h2 : uwB P' S' W' = true) : mxB P S W P' S' W' = true ∧ mxC P S W P' S' W' = 0 := by simp [mxB, mxC, h, h1, h2]
theorem likeB_self (P S : List Int) : likeB P S P S = true := likeB_iff.2 ⟨rfl, rfl⟩
theorem mx_self (P S W : List Int) : mxB P S W P S W = ucB P S W ∧ mxC P S W P S W = ucC P S W := by
  unfold mxB mxC ucB ucC pairB pairC
  rw [likeB_self]
  cases cluB P S W <;> cases uwB P S W <;> simp [okC]

set_option maxRecDepth 100000 in
set_option maxHeartbeats 2000000 in
theorem implMixed_c (p s q p' s' q' : Value) (P S W P' S' W' : List Int) (w : World) (hp : Rd w p P) (hs : Rd w s S) (hq : Rd w q W) (hp' : Rd w p' P') (hs' : Rd w s' S') (hq' : Rd w q' W') :
    Calls Try.prog 66 #[.agg #[p, s, q], .agg #[p', s', q']] w (fun e w' => e = .returned (.tuple #[.int .i64 (okN (mxB P S W P' S' W') (mxV P S W P' S' W')), .int .i64 (mxC P S W P' S' W')]) ∧ Below w.heap.size w w') := by
  obtain ⟨a0, k0, rfl⟩ := hp.len0
  obtain ⟨a1, k1, rfl⟩ := hs.len0
  obtain ⟨a2, k2, rfl⟩ := hq.len0
  obtain ⟨a3, k3, rfl⟩ := hp'.len0
  obtain ⟨a4, k4, rfl⟩ := hs'.len0
  obtain ⟨a5, k5, rfl⟩ := hq'.len0
  cases g1 : cluB P S W
  · skip
    obtain ⟨e1, e2⟩ := mx_bad (show pairB P S W P' S' W' = false from by simp [pairB, g1])
    rw [okN_false e1, e2, pairC_1a g1]
    clear e1 e2
    have B0 := Blk.new w 51 #[.slice a0 P.length k0, .slice a1 S.length k1, .slice a2 W.length k2]
    have hal : Below w.heap.size w (w.alloc (.cells #[.slice a0 P.length k0, .slice a1 S.length k1, .slice a2 W.length k2] 51)) := (Below.refl _ _).alloc (Nat.le_refl _) _
    have fr : Below w.heap.size w (w.alloc (.cells #[.slice a0 P.length k0, .slice a1 S.length k1, .slice a2 W.length k2] 51)) := hal
    have B0 := B0.alloc (.cells #[.slice a3 P'.length k3, .slice a4 S'.length k4, .slice a5 W'.length k5] 51)
    have B1 := Blk.new (w.alloc (.cells #[.slice a0 P.length k0, .slice a1 S.length k1, .slice a2 W.length k2] 51)) 51 #[.slice a3 P'.length k3, .slice a4 S'.length k4, .slice a5 W'.length k5]
    simp only [World.size_alloc] at B1
    have hal : Below (w.alloc (.cells #[.slice a0 P.length k0, .slice a1 S.length k1, .slice a2 W.length k2] 51)).heap.size (w.alloc (.cells #[.slice a0 P.length k0, .slice a1 S.length k1, .slice a2 W.length k2] 51)) ((w.alloc (.cells #[.slice a0 P.length k0, .slice a1 S.length k1, .slice a2 W.length k2] 51)).alloc (.cells #[.slice a3 P'.length k3, .slice a4 S'.length k4, .slice a5 W'.length k5] 51)) := (Below.refl _ _).alloc (Nat.le_refl _) _
    have fr : Below w.heap.size w ((w.alloc (.cells #[.slice a0 P.length k0, .slice a1 S.length k1, .slice a2 W.length k2] 51)).alloc (.cells #[.slice a3 P'.length k3, .slice a4 S'.length k4, .slice a5 W'.length k5] 51)) := below_step fr hal
    have q_B0_0 := B0.cell 0
    have q_B0_1 := B0.cell 1
    have q_B0_2 := B0.cell 2
    have q_B1_0 := B1.cell 0
    have q_B1_1 := B1.cell 1
    have q_B1_2 := B1.cell 2
    go_enter Try.func66, Try.ntmps66
    go_wp2_with fail
    clear q_B0_0 q_B0_1 q_B0_2 q_B1_0 q_B1_1 q_B1_2
    refine (implIsCluster_c _ _ _ P S W _ (hp.below fr (Nat.le_refl _)) (hs.below fr (Nat.le_refl _)) (hq.below fr (Nat.le_refl _))).mono ?_
    rintro e w1 ⟨rfl, hbe⟩
    have B0 := B0.stays hbe
    have B1 := B1.stays hbe
    have sz1 := Below.size hbe
    have fr := below_step fr hbe
    rw [g1]
    have q_B0_0 := B0.cell 0
    have q_B0_1 := B0.cell 1
    have q_B0_2 := B0.cell 2
    have q_B1_0 := B1.cell 0
    have q_B1_1 := B1.cell 1
    have q_B1_2 := B1.cell 2
    go_wp2
    go_ret2
    exact ⟨rfl, fr⟩
  cases g2 : cluB P' S' W'
  · skip
    obtain ⟨e1, e2⟩ := mx_bad (show pairB P S W P' S' W' = false from by simp [pairB, g2])
    rw [okN_false e1, e2, pairC_1b g2]
    clear e1 e2
    have B0 := Blk.new w 51 #[.slice a0 P.length k0, .slice a1 S.length k1, .slice a2 W.length k2]
    have hal : Below w.heap.size w (w.alloc (.cells #[.slice a0 P.length k0, .slice a1 S.length k1, .slice a2 W.length k2] 51)) := (Below.refl _ _).alloc (Nat.le_refl _) _
    have fr : Below w.heap.size w (w.alloc (.cells #[.slice a0 P.length k0, .slice a1 S.length k1, .slice a2 W.length k2] 51)) := hal
    have B0 := B0.alloc (.cells #[.slice a3 P'.length k3, .slice a4 S'.length k4, .slice a5 W'.length k5] 51)
    have B1 := Blk.new (w.alloc (.cells #[.slice a0 P.length k0, .slice a1 S.length k1, .slice a2 W.length k2] 51)) 51 #[.slice a3 P'.length k3, .slice a4 S'.length k4, .slice a5 W'.length k5]
    simp only [World.size_alloc] at B1
    have hal : Below (w.alloc (.cells #[.slice a0 P.length k0, .slice a1 S.length k1, .slice a2 W.length k2] 51)).heap.size (w.alloc (.cells #[.slice a0 P.length k0, .slice a1 S.length k1, .slice a2 W.length k2] 51)) ((w.alloc (.cells #[.slice a0 P.length k0, .slice a1 S.length k1, .slice a2 W.length k2] 51)).alloc (.cells #[.slice a3 P'.length k3, .slice a4 S'.length k4, .slice a5 W'.length k5] 51)) := (Below.refl _ _).alloc (Nat.le_refl _) _
    have fr : Below w.heap.size w ((w.alloc (.cells #[.slice a0 P.length k0, .slice a1 S.length k1, .slice a2 W.length k2] 51)).alloc (.cells #[.slice a3 P'.length k3, .slice a4 S'.length k4, .slice a5 W'.length k5] 51)) := below_step fr hal
    have q_B0_0 := B0.cell 0
    have q_B0_1 := B0.cell 1
    have q_B0_2 := B0.cell 2
    have q_B1_0 := B1.cell 0
    have q_B1_1 := B1.cell 1
    have q_B1_2 := B1.cell 2
    go_enter Try.func66, Try.ntmps66
    go_wp2_with fail
    clear q_B0_0 q_B0_1 q_B0_2 q_B1_0 q_B1_1 q_B1_2
    refine (implIsCluster_c _ _ _ P S W _ (hp.below fr (Nat.le_refl _)) (hs.below fr (Nat.le_refl _)) (hq.below fr (Nat.le_refl _))).mono ?_
    rintro e w1 ⟨rfl, hbe⟩
    have B0 := B0.stays hbe
    have B1 := B1.stays hbe
    have sz1 := Below.size hbe
    have fr := below_step fr hbe
    rw [g1]
    have q_B0_0 := B0.cell 0
    have q_B0_1 := B0.cell 1
    have q_B0_2 := B0.cell 2
    have q_B1_0 := B1.cell 0
    have q_B1_1 := B1.cell 1
    have q_B1_2 := B1.cell 2
    go_wp2_with fail
    clear q_B0_0 q_B0_1 q_B0_2 q_B1_0 q_B1_1 q_B1_2
    refine (implIsCluster_c _ _ _ P' S' W' _ (hp'.below fr (Nat.le_refl _)) (hs'.below fr (Nat.le_refl _)) (hq'.below fr (Nat.le_refl _))).mono ?_
    rintro e w2 ⟨rfl, hbe⟩
    have B0 := B0.stays hbe
    have B1 := B1.stays hbe
    have sz2 := Below.size hbe
    have fr := below_step fr hbe
    rw [g2]
    have q_B0_0 := B0.cell 0
    have q_B0_1 := B0.cell 1
    have q_B0_2 := B0.cell 2
    have q_B1_0 := B1.cell 0
    have q_B1_1 := B1.cell 1
    have q_B1_2 := B1.cell 2
    go_wp2
    go_ret2
    exact ⟨rfl, fr⟩
  cases g3 : likeB P S P' S'
  · skip
    obtain ⟨e1, e2⟩ := mx_bad (show pairB P S W P' S' W' = false from by simp [pairB, g3])
    rw [okN_false e1, e2, pairC_2 g1 g2 g3]
    clear e1 e2
    have B0 := Blk.new w 51 #[.slice a0 P.length k0, .slice a1 S.length k1, .slice a2 W.length k2]
    have hal : Below w.heap.size w (w.alloc (.cells #[.slice a0 P.length k0, .slice a1 S.length k1, .slice a2 W.length k2] 51)) := (Below.refl _ _).alloc (Nat.le_refl _) _
    have fr : Below w.heap.size w (w.alloc (.cells #[.slice a0 P.length k0, .slice a1 S.length k1, .slice a2 W.length k2] 51)) := hal
    have B0 := B0.alloc (.cells #[.slice a3 P'.length k3, .slice a4 S'.length k4, .slice a5 W'.length k5] 51)
    have B1 := Blk.new (w.alloc (.cells #[.slice a0 P.length k0, .slice a1 S.length k1, .slice a2 W.length k2] 51)) 51 #[.slice a3 P'.length k3, .slice a4 S'.length k4, .slice a5 W'.length k5]
    simp only [World.size_alloc] at B1
    have hal : Below (w.alloc (.cells #[.slice a0 P.length k0, .slice a1 S.length k1, .slice a2 W.length k2] 51)).heap.size (w.alloc (.cells #[.slice a0 P.length k0, .slice a1 S.length k1, .slice a2 W.length k2] 51)) ((w.alloc (.cells #[.slice a0 P.length k0, .slice a1 S.length k1, .slice a2 W.length k2] 51)).alloc (.cells #[.slice a3 P'.length k3, .slice a4 S'.length k4, .slice a5 W'.length k5] 51)) := (Below.refl _ _).alloc (Nat.le_refl _) _
    have fr : Below w.heap.size w ((w.alloc (.cells #[.slice a0 P.length k0, .slice a1 S.length k1, .slice a2 W.length k2] 51)).alloc (.cells #[.slice a3 P'.length k3, .slice a4 S'.length k4, .slice a5 W'.length k5] 51)) := below_step fr hal
    have q_B0_0 := B0.cell 0
    have q_B0_1 := B0.cell 1
    have q_B0_2 := B0.cell 2
    have q_B1_0 := B1.cell 0
    have q_B1_1 := B1.cell 1
    have q_B1_2 := B1.cell 2
    go_enter Try.func66, Try.ntmps66
    go_wp2_with fail
    clear q_B0_0 q_B0_1 q_B0_2 q_B1_0 q_B1_1 q_B1_2
    refine (implIsCluster_c _ _ _ P S W _ (hp.below fr (Nat.le_refl _)) (hs.below fr (Nat.le_refl _)) (hq.below fr (Nat.le_refl _))).mono ?_
    rintro e w1 ⟨rfl, hbe⟩
    have B0 := B0.stays hbe
    have B1 := B1.stays hbe
    have sz1 := Below.size hbe
    have fr := below_step fr hbe
    rw [g1]
    have q_B0_0 := B0.cell 0
    have q_B0_1 := B0.cell 1
    have q_B0_2 := B0.cell 2
    have q_B1_0 := B1.cell 0
    have q_B1_1 := B1.cell 1
    have q_B1_2 := B1.cell 2
    go_wp2_with fail
    clear q_B0_0 q_B0_1 q_B0_2 q_B1_0 q_B1_1 q_B1_2
    refine (implIsCluster_c _ _ _ P' S' W' _ (hp'.below fr (Nat.le_refl _)) (hs'.below fr (Nat.le_refl _)) (hq'.below fr (Nat.le_refl _))).mono ?_
    rintro e w2 ⟨rfl, hbe⟩
    have B0 := B0.stays hbe
    have B1 := B1.stays hbe
    have sz2 := Below.size hbe
    have fr := below_step fr hbe
    rw [g2]
    have q_B0_0 := B0.cell 0
    have q_B0_1 := B0.cell 1
    have q_B0_2 := B0.cell 2
    have q_B1_0 := B1.cell 0
    have q_B1_1 := B1.cell 1
    have q_B1_2 := B1.cell 2
    go_wp2_with fail
    clear q_B0_0 q_B0_1 q_B0_2 q_B1_0 q_B1_1 q_B1_2
    refine (alike_c _ _ _ _ _ _ P S W P' S' W' _ (hp.below fr (Nat.le_refl _)) (hs.below fr (Nat.le_refl _)) (hq.below fr (Nat.le_refl _)) (hp'.below fr (Nat.le_refl _)) (hs'.below fr (Nat.le_refl _)) (hq'.below fr (Nat.le_refl _))).mono ?_
    rintro e w3 ⟨rfl, hbe⟩
    have B0 := B0.stays hbe
    have B1 := B1.stays hbe
    have sz3 := Below.size hbe
    have fr := below_step fr hbe
    rw [g3]
    have q_B0_0 := B0.cell 0
    have q_B0_1 := B0.cell 1
    have q_B0_2 := B0.cell 2
    have q_B1_0 := B1.cell 0
    have q_B1_1 := B1.cell 1
    have q_B1_2 := B1.cell 2
    go_wp2
    go_ret2
    exact ⟨rfl, fr⟩
  cases u1 : uwB P S W
  · skip
    have hpb : pairB P S W P' S' W' = true := by simp [pairB, g1, g2, g3]
    obtain ⟨e1, e2⟩ := mx_lim hpb (by simp [u1])
    rw [okN_false e1, e2]
    clear e1 e2 hpb
    have B0 := Blk.new w 51 #[.slice a0 P.length k0, .slice a1 S.length k1, .slice a2 W.length k2]
    have hal : Below w.heap.size w (w.alloc (.cells #[.slice a0 P.length k0, .slice a1 S.length k1, .slice a2 W.length k2] 51)) := (Below.refl _ _).alloc (Nat.le_refl _) _
    have fr : Below w.heap.size w (w.alloc (.cells #[.slice a0 P.length k0, .slice a1 S.length k1, .slice a2 W.length k2] 51)) := hal
    have B0 := B0.alloc (.cells #[.slice a3 P'.length k3, .slice a4 S'.length k4, .slice a5 W'.length k5] 51)
    have B1 := Blk.new (w.alloc (.cells #[.slice a0 P.length k0, .slice a1 S.length k1, .slice a2 W.length k2] 51)) 51 #[.slice a3 P'.length k3, .slice a4 S'.length k4, .slice a5 W'.length k5]
    simp only [World.size_alloc] at B1
    have hal : Below (w.alloc (.cells #[.slice a0 P.length k0, .slice a1 S.length k1, .slice a2 W.length k2] 51)).heap.size (w.alloc (.cells #[.slice a0 P.length k0, .slice a1 S.length k1, .slice a2 W.length k2] 51)) ((w.alloc (.cells #[.slice a0 P.length k0, .slice a1 S.length k1, .slice a2 W.length k2] 51)).alloc (.cells #[.slice a3 P'.length k3, .slice a4 S'.length k4, .slice a5 W'.length k5] 51)) := (Below.refl _ _).alloc (Nat.le_refl _) _
    have fr : Below w.heap.size w ((w.alloc (.cells #[.slice a0 P.length k0, .slice a1 S.length k1, .slice a2 W.length k2] 51)).alloc (.cells #[.slice a3 P'.length k3, .slice a4 S'.length k4, .slice a5 W'.length k5] 51)) := below_step fr hal
    have q_B0_0 := B0.cell 0
    have q_B0_1 := B0.cell 1
    have q_B0_2 := B0.cell 2
    have q_B1_0 := B1.cell 0
    have q_B1_1 := B1.cell 1
    have q_B1_2 := B1.cell 2
    go_enter Try.func66, Try.ntmps66
    go_wp2_with fail
    clear q_B0_0 q_B0_1 q_B0_2 q_B1_0 q_B1_1 q_B1_2
    refine (implIsCluster_c _ _ _ P S W _ (hp.below fr (Nat.le_refl _)) (hs.below fr (Nat.le_refl _)) (hq.below fr (Nat.le_refl _))).mono ?_
    rintro e w1 ⟨rfl, hbe⟩
    have B0 := B0.stays hbe
    have B1 := B1.stays hbe
    have sz1 := Below.size hbe
    have fr := below_step fr hbe
    rw [g1]
    have q_B0_0 := B0.cell 0
    have q_B0_1 := B0.cell 1
    have q_B0_2 := B0.cell 2
    have q_B1_0 := B1.cell 0
    have q_B1_1 := B1.cell 1
    have q_B1_2 := B1.cell 2
    go_wp2_with fail
    clear q_B0_0 q_B0_1 q_B0_2 q_B1_0 q_B1_1 q_B1_2
    refine (implIsCluster_c _ _ _ P' S' W' _ (hp'.below fr (Nat.le_refl _)) (hs'.below fr (Nat.le_refl _)) (hq'.below fr (Nat.le_refl _))).mono ?_
    rintro e w2 ⟨rfl, hbe⟩
    have B0 := B0.stays hbe
    have B1 := B1.stays hbe
    have sz2 := Below.size hbe
    have fr := below_step fr hbe
    rw [g2]
    have q_B0_0 := B0.cell 0
    have q_B0_1 := B0.cell 1
    have q_B0_2 := B0.cell 2
    have q_B1_0 := B1.cell 0
    have q_B1_1 := B1.cell 1
    have q_B1_2 := B1.cell 2
    go_wp2_with fail
    clear q_B0_0 q_B0_1 q_B0_2 q_B1_0 q_B1_1 q_B1_2
    refine (alike_c _ _ _ _ _ _ P S W P' S' W' _ (hp.below fr (Nat.le_refl _)) (hs.below fr (Nat.le_refl _)) (hq.below fr (Nat.le_refl _)) (hp'.below fr (Nat.le_refl _)) (hs'.below fr (Nat.le_refl _)) (hq'.below fr (Nat.le_refl _))).mono ?_
    rintro e w3 ⟨rfl, hbe⟩
    have B0 := B0.stays hbe
    have B1 := B1.stays hbe
    have sz3 := Below.size hbe
    have fr := below_step fr hbe
    rw [g3]
    have q_B0_0 := B0.cell 0
    have q_B0_1 := B0.cell 1
    have q_B0_2 := B0.cell 2
    have q_B1_0 := B1.cell 0
    have q_B1_1 := B1.cell 1
    have q_B1_2 := B1.cell 2
    go_wp2_with fail
    clear q_B0_0 q_B0_1 q_B0_2 q_B1_0 q_B1_1 q_B1_2
    refine (unloadedCluster_no _ _ _ P S W _ (hp.below fr (Nat.le_refl _)) (hs.below fr (Nat.le_refl _)) (hq.below fr (Nat.le_refl _)) g1 u1).mono ?_
    rintro e w4 ⟨xa, xi, xb, xj, xc, xk, rfl, x, hbe⟩
    have B0 := B0.stays hbe
    have B1 := B1.stays hbe
    have sz4 := Below.size hbe
    have fr := below_step fr hbe
    try simp only [List.length_nil]
    have B0 := B0.alloc (.cells #[.slice xa 0 xi, .slice xb 0 xj, .slice xc 0 xk] 51)
    have B1 := B1.alloc (.cells #[.slice xa 0 xi, .slice xb 0 xj, .slice xc 0 xk] 51)
    have Vx := Blk.new w4 51 #[.slice xa 0 xi, .slice xb 0 xj, .slice xc 0 xk]
    have hal : Below w4.heap.size w4 (w4.alloc (.cells #[.slice xa 0 xi, .slice xb 0 xj, .slice xc 0 xk] 51)) := (Below.refl _ _).alloc (Nat.le_refl _) _
    have x := x.below hal
    have fr := below_step fr hal
    have q_B0_0 := B0.cell 0
    have q_B0_1 := B0.cell 1
    have q_B0_2 := B0.cell 2
    have q_B1_0 := B1.cell 0
    have q_B1_1 := B1.cell 1
    have q_B1_2 := B1.cell 2
    have q_Vx_0 := Vx.cell 0
    have q_Vx_1 := Vx.cell 1
    have q_Vx_2 := Vx.cell 2
    go_wp2
    go_ret2
    exact ⟨rfl, fr⟩
  cases u2 : uwB P' S' W'
  · skip
    have hpb : pairB P S W P' S' W' = true := by simp [pairB, g1, g2, g3]
    obtain ⟨e1, e2⟩ := mx_lim hpb (by simp [u2])
    rw [okN_false e1, e2]
    clear e1 e2 hpb
    have B0 := Blk.new w 51 #[.slice a0 P.length k0, .slice a1 S.length k1, .slice a2 W.length k2]
    have hal : Below w.heap.size w (w.alloc (.cells #[.slice a0 P.length k0, .slice a1 S.length k1, .slice a2 W.length k2] 51)) := (Below.refl _ _).alloc (Nat.le_refl _) _
    have fr : Below w.heap.size w (w.alloc (.cells #[.slice a0 P.length k0, .slice a1 S.length k1, .slice a2 W.length k2] 51)) := hal
    have B0 := B0.alloc (.cells #[.slice a3 P'.length k3, .slice a4 S'.length k4, .slice a5 W'.length k5] 51)
    have B1 := Blk.new (w.alloc (.cells #[.slice a0 P.length k0, .slice a1 S.length k1, .slice a2 W.length k2] 51)) 51 #[.slice a3 P'.length k3, .slice a4 S'.length k4, .slice a5 W'.length k5]
    simp only [World.size_alloc] at B1
    have hal : Below (w.alloc (.cells #[.slice a0 P.length k0, .slice a1 S.length k1, .slice a2 W.length k2] 51)).heap.size (w.alloc (.cells #[.slice a0 P.length k0, .slice a1 S.length k1, .slice a2 W.length k2] 51)) ((w.alloc (.cells #[.slice a0 P.length k0, .slice a1 S.length k1, .slice a2 W.length k2] 51)).alloc (.cells #[.slice a3 P'.length k3, .slice a4 S'.length k4, .slice a5 W'.length k5] 51)) := (Below.refl _ _).alloc (Nat.le_refl _) _
    have fr : Below w.heap.size w ((w.alloc (.cells #[.slice a0 P.length k0, .slice a1 S.length k1, .slice a2 W.length k2] 51)).alloc (.cells #[.slice a3 P'.length k3, .slice a4 S'.length k4, .slice a5 W'.length k5] 51)) := below_step fr hal
    have q_B0_0 := B0.cell 0
    have q_B0_1 := B0.cell 1
    have q_B0_2 := B0.cell 2
    have q_B1_0 := B1.cell 0
    have q_B1_1 := B1.cell 1
    have q_B1_2 := B1.cell 2
    go_enter Try.func66, Try.ntmps66
    go_wp2_with fail
    clear q_B0_0 q_B0_1 q_B0_2 q_B1_0 q_B1_1 q_B1_2
    refine (implIsCluster_c _ _ _ P S W _ (hp.below fr (Nat.le_refl _)) (hs.below fr (Nat.le_refl _)) (hq.below fr (Nat.le_refl _))).mono ?_
    rintro e w1 ⟨rfl, hbe⟩
    have B0 := B0.stays hbe
    have B1 := B1.stays hbe
    have sz1 := Below.size hbe
    have fr := below_step fr hbe
    rw [g1]
    have q_B0_0 := B0.cell 0
    have q_B0_1 := B0.cell 1
    have q_B0_2 := B0.cell 2
    have q_B1_0 := B1.cell 0
    have q_B1_1 := B1.cell 1
    have q_B1_2 := B1.cell 2
    go_wp2_with fail
    clear q_B0_0 q_B0_1 q_B0_2 q_B1_0 q_B1_1 q_B1_2
    refine (implIsCluster_c _ _ _ P' S' W' _ (hp'.below fr (Nat.le_refl _)) (hs'.below fr (Nat.le_refl _)) (hq'.below fr (Nat.le_refl _))).mono ?_
    rintro e w2 ⟨rfl, hbe⟩
    have B0 := B0.stays hbe
    have B1 := B1.stays hbe
    have sz2 := Below.size hbe
    have fr := below_step fr hbe
    rw [g2]
    have q_B0_0 := B0.cell 0
    have q_B0_1 := B0.cell 1
    have q_B0_2 := B0.cell 2
    have q_B1_0 := B1.cell 0
    have q_B1_1 := B1.cell 1
    have q_B1_2 := B1.cell 2
    go_wp2_with fail
    clear q_B0_0 q_B0_1 q_B0_2 q_B1_0 q_B1_1 q_B1_2
    refine (alike_c _ _ _ _ _ _ P S W P' S' W' _ (hp.below fr (Nat.le_refl _)) (hs.below fr (Nat.le_refl _)) (hq.below fr (Nat.le_refl _)) (hp'.below fr (Nat.le_refl _)) (hs'.below fr (Nat.le_refl _)) (hq'.below fr (Nat.le_refl _))).mono ?_
    rintro e w3 ⟨rfl, hbe⟩
    have B0 := B0.stays hbe
    have B1 := B1.stays hbe
    have sz3 := Below.size hbe
    have fr := below_step fr hbe
    rw [g3]
    have q_B0_0 := B0.cell 0
    have q_B0_1 := B0.cell 1
    have q_B0_2 := B0.cell 2
    have q_B1_0 := B1.cell 0
    have q_B1_1 := B1.cell 1
    have q_B1_2 := B1.cell 2
    go_wp2_with fail
    clear q_B0_0 q_B0_1 q_B0_2 q_B1_0 q_B1_1 q_B1_2
    refine (unloadedCluster_yes _ _ _ P S W _ (hp.below fr (Nat.le_refl _)) (hs.below fr (Nat.le_refl _)) (hq.below fr (Nat.le_refl _)) g1 u1).mono ?_
    rintro e w4 ⟨xa, xi, xb, xj, xc, xk, rfl, x, hbe⟩
    have B0 := B0.stays hbe
    have B1 := B1.stays hbe
    have sz4 := Below.size hbe
    have fr := below_step fr hbe
    have B0 := B0.alloc (.cells #[.slice xa P.length xi, .slice xb S.length xj, .slice xc (unlL P S W).length xk] 51)
    have B1 := B1.alloc (.cells #[.slice xa P.length xi, .slice xb S.length xj, .slice xc (unlL P S W).length xk] 51)
    have Vx := Blk.new w4 51 #[.slice xa P.length xi, .slice xb S.length xj, .slice xc (unlL P S W).length xk]
    have hal : Below w4.heap.size w4 (w4.alloc (.cells #[.slice xa P.length xi, .slice xb S.length xj, .slice xc (unlL P S W).length xk] 51)) := (Below.refl _ _).alloc (Nat.le_refl _) _
    have x := x.below hal
    have fr := below_step fr hal
    have q_B0_0 := B0.cell 0
    have q_B0_1 := B0.cell 1
    have q_B0_2 := B0.cell 2
    have q_B1_0 := B1.cell 0
    have q_B1_1 := B1.cell 1
    have q_B1_2 := B1.cell 2
    have q_Vx_0 := Vx.cell 0
    have q_Vx_1 := Vx.cell 1
    have q_Vx_2 := Vx.cell 2
    go_wp2_with fail
    clear q_B0_0 q_B0_1 q_B0_2 q_B1_0 q_B1_1 q_B1_2 q_Vx_0 q_Vx_1 q_Vx_2
    refine (unloadedCluster_no _ _ _ P' S' W' _ (hp'.below fr (Nat.le_refl _)) (hs'.below fr (Nat.le_refl _)) (hq'.below fr (Nat.le_refl _)) g2 u2).mono ?_
    rintro e w5 ⟨ya, yi, yb, yj, yc, yk, rfl, y, hbe⟩
    have B0 := B0.stays hbe
    have B1 := B1.stays hbe
    have Vx := Vx.stays hbe
    have x := x.below hbe
    have sz5 := Below.size hbe
    have fr := below_step fr hbe
    try simp only [List.length_nil]
    have B0 := B0.alloc (.cells #[.slice ya 0 yi, .slice yb 0 yj, .slice yc 0 yk] 51)
    have B1 := B1.alloc (.cells #[.slice ya 0 yi, .slice yb 0 yj, .slice yc 0 yk] 51)
    have Vx := Vx.alloc (.cells #[.slice ya 0 yi, .slice yb 0 yj, .slice yc 0 yk] 51)
    have Vy := Blk.new w5 51 #[.slice ya 0 yi, .slice yb 0 yj, .slice yc 0 yk]
    have hal : Below w5.heap.size w5 (w5.alloc (.cells #[.slice ya 0 yi, .slice yb 0 yj, .slice yc 0 yk] 51)) := (Below.refl _ _).alloc (Nat.le_refl _) _
    have x := x.below hal
    have y := y.below hal
    have fr := below_step fr hal
    have q_B0_0 := B0.cell 0
    have q_B0_1 := B0.cell 1
    have q_B0_2 := B0.cell 2
    have q_B1_0 := B1.cell 0
    have q_B1_1 := B1.cell 1
    have q_B1_2 := B1.cell 2
    have q_Vx_0 := Vx.cell 0
    have q_Vx_1 := Vx.cell 1
    have q_Vx_2 := Vx.cell 2
    have q_Vy_0 := Vy.cell 0
    have q_Vy_1 := Vy.cell 1
    have q_Vy_2 := Vy.cell 2
    go_wp2
    go_ret2
    exact ⟨rfl, fr⟩
  · skip
    have hpb : pairB P S W P' S' W' = true := by simp [pairB, g1, g2, g3]
    obtain ⟨e1, e2⟩ := mx_ok hpb u1 u2
    rw [okN_true e1, e2]
    clear e1 e2 hpb
    have hk1 := cluB_iff.1 g1
    have hk2 := cluB_iff.1 g2
    have hPP := (likeB_iff.1 g3).1
    have hWW : (unlL P S W).length = (unlL P' S' W').length := by rw [unlL_len hk1, unlL_len hk2, hPP]
    have hW24 : (unlL P S W).length ≤ 10000 := by rw [unlL_len hk1]; have := hk1.1; omega
    have HW := Lib.hid hWW
    have HB := Lib.hid (uw_num u1)
    have HB' := Lib.hid (show ∀ i, i < (unlL P S W).length → -100000 ≤ gI (unlL P' S' W') i ∧ gI (unlL P' S' W') i ≤ 100000 from fun i hi => uw_num u2 i (by omega))
    clear hWW hk1 hk2 hPP
    have B0 := Blk.new w 51 #[.slice a0 P.length k0, .slice a1 S.length k1, .slice a2 W.length k2]
    have hal : Below w.heap.size w (w.alloc (.cells #[.slice a0 P.length k0, .slice a1 S.length k1, .slice a2 W.length k2] 51)) := (Below.refl _ _).alloc (Nat.le_refl _) _
    have fr : Below w.heap.size w (w.alloc (.cells #[.slice a0 P.length k0, .slice a1 S.length k1, .slice a2 W.length k2] 51)) := hal
    have B0 := B0.alloc (.cells #[.slice a3 P'.length k3, .slice a4 S'.length k4, .slice a5 W'.length k5] 51)
    have B1 := Blk.new (w.alloc (.cells #[.slice a0 P.length k0, .slice a1 S.length k1, .slice a2 W.length k2] 51)) 51 #[.slice a3 P'.length k3, .slice a4 S'.length k4, .slice a5 W'.length k5]
    simp only [World.size_alloc] at B1
    have hal : Below (w.alloc (.cells #[.slice a0 P.length k0, .slice a1 S.length k1, .slice a2 W.length k2] 51)).heap.size (w.alloc (.cells #[.slice a0 P.length k0, .slice a1 S.length k1, .slice a2 W.length k2] 51)) ((w.alloc (.cells #[.slice a0 P.length k0, .slice a1 S.length k1, .slice a2 W.length k2] 51)).alloc (.cells #[.slice a3 P'.length k3, .slice a4 S'.length k4, .slice a5 W'.length k5] 51)) := (Below.refl _ _).alloc (Nat.le_refl _) _
    have fr : Below w.heap.size w ((w.alloc (.cells #[.slice a0 P.length k0, .slice a1 S.length k1, .slice a2 W.length k2] 51)).alloc (.cells #[.slice a3 P'.length k3, .slice a4 S'.length k4, .slice a5 W'.length k5] 51)) := below_step fr hal
    have q_B0_0 := B0.cell 0
    have q_B0_1 := B0.cell 1
    have q_B0_2 := B0.cell 2
    have q_B1_0 := B1.cell 0
    have q_B1_1 := B1.cell 1
    have q_B1_2 := B1.cell 2
    go_enter Try.func66, Try.ntmps66
    go_wp2_with fail
    clear q_B0_0 q_B0_1 q_B0_2 q_B1_0 q_B1_1 q_B1_2
    refine (implIsCluster_c _ _ _ P S W _ (hp.below fr (Nat.le_refl _)) (hs.below fr (Nat.le_refl _)) (hq.below fr (Nat.le_refl _))).mono ?_
    rintro e w1 ⟨rfl, hbe⟩
    have B0 := B0.stays hbe
    have B1 := B1.stays hbe
    have sz1 := Below.size hbe
    have fr := below_step fr hbe
    rw [g1]
    have q_B0_0 := B0.cell 0
    have q_B0_1 := B0.cell 1
    have q_B0_2 := B0.cell 2
    have q_B1_0 := B1.cell 0
    have q_B1_1 := B1.cell 1
    have q_B1_2 := B1.cell 2
    go_wp2_with fail
    clear q_B0_0 q_B0_1 q_B0_2 q_B1_0 q_B1_1 q_B1_2
    refine (implIsCluster_c _ _ _ P' S' W' _ (hp'.below fr (Nat.le_refl _)) (hs'.below fr (Nat.le_refl _)) (hq'.below fr (Nat.le_refl _))).mono ?_
    rintro e w2 ⟨rfl, hbe⟩
    have B0 := B0.stays hbe
    have B1 := B1.stays hbe
    have sz2 := Below.size hbe
    have fr := below_step fr hbe
    rw [g2]
    have q_B0_0 := B0.cell 0
    have q_B0_1 := B0.cell 1
    have q_B0_2 := B0.cell 2
    have q_B1_0 := B1.cell 0
    have q_B1_1 := B1.cell 1
    have q_B1_2 := B1.cell 2
    go_wp2_with fail
    clear q_B0_0 q_B0_1 q_B0_2 q_B1_0 q_B1_1 q_B1_2
    refine (alike_c _ _ _ _ _ _ P S W P' S' W' _ (hp.below fr (Nat.le_refl _)) (hs.below fr (Nat.le_refl _)) (hq.below fr (Nat.le_refl _)) (hp'.below fr (Nat.le_refl _)) (hs'.below fr (Nat.le_refl _)) (hq'.below fr (Nat.le_refl _))).mono ?_
    rintro e w3 ⟨rfl, hbe⟩
    have B0 := B0.stays hbe
    have B1 := B1.stays hbe
    have sz3 := Below.size hbe
    have fr := below_step fr hbe
    rw [g3]
    have q_B0_0 := B0.cell 0
    have q_B0_1 := B0.cell 1
    have q_B0_2 := B0.cell 2
    have q_B1_0 := B1.cell 0
    have q_B1_1 := B1.cell 1
    have q_B1_2 := B1.cell 2
    go_wp2_with fail
    clear q_B0_0 q_B0_1 q_B0_2 q_B1_0 q_B1_1 q_B1_2
    refine (unloadedCluster_yes _ _ _ P S W _ (hp.below fr (Nat.le_refl _)) (hs.below fr (Nat.le_refl _)) (hq.below fr (Nat.le_refl _)) g1 u1).mono ?_
    rintro e w4 ⟨xa, xi, xb, xj, xc, xk, rfl, x, hbe⟩
    have B0 := B0.stays hbe
    have B1 := B1.stays hbe
    have sz4 := Below.size hbe
    have fr := below_step fr hbe
    have B0 := B0.alloc (.cells #[.slice xa P.length xi, .slice xb S.length xj, .slice xc (unlL P S W).length xk] 51)
    have B1 := B1.alloc (.cells #[.slice xa P.length xi, .slice xb S.length xj, .slice xc (unlL P S W).length xk] 51)
    have Vx := Blk.new w4 51 #[.slice xa P.length xi, .slice xb S.length xj, .slice xc (unlL P S W).length xk]
    have hal : Below w4.heap.size w4 (w4.alloc (.cells #[.slice xa P.length xi, .slice xb S.length xj, .slice xc (unlL P S W).length xk] 51)) := (Below.refl _ _).alloc (Nat.le_refl _) _
    have x := x.below hal
    have fr := below_step fr hal
    have q_B0_0 := B0.cell 0
    have q_B0_1 := B0.cell 1
    have q_B0_2 := B0.cell 2
    have q_B1_0 := B1.cell 0
    have q_B1_1 := B1.cell 1
    have q_B1_2 := B1.cell 2
    have q_Vx_0 := Vx.cell 0
    have q_Vx_1 := Vx.cell 1
    have q_Vx_2 := Vx.cell 2
    go_wp2_with fail
    clear q_B0_0 q_B0_1 q_B0_2 q_B1_0 q_B1_1 q_B1_2 q_Vx_0 q_Vx_1 q_Vx_2
    refine (unloadedCluster_yes _ _ _ P' S' W' _ (hp'.below fr (Nat.le_refl _)) (hs'.below fr (Nat.le_refl _)) (hq'.below fr (Nat.le_refl _)) g2 u2).mono ?_
    rintro e w5 ⟨ya, yi, yb, yj, yc, yk, rfl, y, hbe⟩
    have B0 := B0.stays hbe
    have B1 := B1.stays hbe
    have Vx := Vx.stays hbe
    have x := x.below hbe
    have sz5 := Below.size hbe
    have fr := below_step fr hbe
    have B0 := B0.alloc (.cells #[.slice ya P'.length yi, .slice yb S'.length yj, .slice yc (unlL P' S' W').length yk] 51)
    have B1 := B1.alloc (.cells #[.slice ya P'.length yi, .slice yb S'.length yj, .slice yc (unlL P' S' W').length yk] 51)
    have Vx := Vx.alloc (.cells #[.slice ya P'.length yi, .slice yb S'.length yj, .slice yc (unlL P' S' W').length yk] 51)
    have Vy := Blk.new w5 51 #[.slice ya P'.length yi, .slice yb S'.length yj, .slice yc (unlL P' S' W').length yk]
    have hal : Below w5.heap.size w5 (w5.alloc (.cells #[.slice ya P'.length yi, .slice yb S'.length yj, .slice yc (unlL P' S' W').length yk] 51)) := (Below.refl _ _).alloc (Nat.le_refl _) _
    have x := x.below hal
    have y := y.below hal
    have fr := below_step fr hal
    have q_B0_0 := B0.cell 0
    have q_B0_1 := B0.cell 1
    have q_B0_2 := B0.cell 2
    have q_B1_0 := B1.cell 0
    have q_B1_1 := B1.cell 1
    have q_B1_2 := B1.cell 2
    have q_Vx_0 := Vx.cell 0
    have q_Vx_1 := Vx.cell 1
    have q_Vx_2 := Vx.cell 2
    have q_Vy_0 := Vy.cell 0
    have q_Vy_1 := Vy.cell 1
    have q_Vy_2 := Vy.cell 2
    go_wp2_with fail
    clear q_B0_0 q_B0_1 q_B0_2 q_B1_0 q_B1_1 q_B1_2 q_Vx_0 q_Vx_1 q_Vx_2 q_Vy_0 q_Vy_1 q_Vy_2
    refine (scalar_c _ _ (unlL P S W) (unlL P' S' W') _ x.c.rd y.c.rd HW.out (by omega) HB.out HB'.out).mono ?_
    rintro e w9 ⟨rfl, hd⟩
    have fr := below_step fr (hd.below (w5.alloc (.cells #[.slice ya P'.length yi, .slice yb S'.length yj, .slice yc (unlL P' S' W').length yk] 51)).heap.size)
    go_wp2
    go_ret2
    exact ⟨rfl, fr⟩

set_option maxRecDepth 100000 in
set_option maxHeartbeats 2000000 in
theorem specMixed_c (p s q p' s' q' : Value) (P S W P' S' W' : List Int) (w : World) (hp : Rd w p P) (hs : Rd w s S) (hq : Rd w q W) (hp' : Rd w p' P') (hs' : Rd w s' S') (hq' : Rd w q' W') :
    Calls Try.prog 65 #[.agg #[p, s, q], .agg #[p', s', q']] w (fun e w' => e = .returned (.tuple #[.int .i64 (okN (mxB P S W P' S' W') (mxV P S W P' S' W')), .int .i64 (mxC P S W P' S' W')]) ∧ Below w.heap.size w w') := by
  obtain ⟨a0, k0, rfl⟩ := hp.len0
  obtain ⟨a1, k1, rfl⟩ := hs.len0
  obtain ⟨a2, k2, rfl⟩ := hq.len0
  obtain ⟨a3, k3, rfl⟩ := hp'.len0
  obtain ⟨a4, k4, rfl⟩ := hs'.len0
  obtain ⟨a5, k5, rfl⟩ := hq'.len0
  rcases pairC_or P S W P' S' W' with ⟨hb, h0⟩ | ⟨hb, hne⟩
  · obtain ⟨g1, g2, g3⟩ := pairB_iff.1 hb
    cases u1 : uwB P S W
    · skip
      obtain ⟨e1, e2⟩ := mx_lim hb (by simp [u1])
      rw [okN_false e1, e2]
      clear e1 e2
      have H0 := Lib.hid h0
      clear h0
      have B0 := Blk.new w 51 #[.slice a0 P.length k0, .slice a1 S.length k1, .slice a2 W.length k2]
      have hal : Below w.heap.size w (w.alloc (.cells #[.slice a0 P.length k0, .slice a1 S.length k1, .slice a2 W.length k2] 51)) := (Below.refl _ _).alloc (Nat.le_refl _) _
      have fr : Below w.heap.size w (w.alloc (.cells #[.slice a0 P.length k0, .slice a1 S.length k1, .slice a2 W.length k2] 51)) := hal
      have B0 := B0.alloc (.cells #[.slice a3 P'.length k3, .slice a4 S'.length k4, .slice a5 W'.length k5] 51)
      have B1 := Blk.new (w.alloc (.cells #[.slice a0 P.length k0, .slice a1 S.length k1, .slice a2 W.length k2] 51)) 51 #[.slice a3 P'.length k3, .slice a4 S'.length k4, .slice a5 W'.length k5]
      simp only [World.size_alloc] at B1
      have hal : Below (w.alloc (.cells #[.slice a0 P.length k0, .slice a1 S.length k1, .slice a2 W.length k2] 51)).heap.size (w.alloc (.cells #[.slice a0 P.length k0, .slice a1 S.length k1, .slice a2 W.length k2] 51)) ((w.alloc (.cells #[.slice a0 P.length k0, .slice a1 S.length k1, .slice a2 W.length k2] 51)).alloc (.cells #[.slice a3 P'.length k3, .slice a4 S'.length k4, .slice a5 W'.length k5] 51)) := (Below.refl _ _).alloc (Nat.le_refl _) _
      have fr : Below w.heap.size w ((w.alloc (.cells #[.slice a0 P.length k0, .slice a1 S.length k1, .slice a2 W.length k2] 51)).alloc (.cells #[.slice a3 P'.length k3, .slice a4 S'.length k4, .slice a5 W'.length k5] 51)) := below_step fr hal
      have q_B0_0 := B0.cell 0
      have q_B0_1 := B0.cell 1
      have q_B0_2 := B0.cell 2
      have q_B1_0 := B1.cell 0
      have q_B1_1 := B1.cell 1
      have q_B1_2 := B1.cell 2
      go_enter Try.func65, Try.ntmps65
      go_wp2_with fail
      clear q_B0_0 q_B0_1 q_B0_2 q_B1_0 q_B1_1 q_B1_2
      refine (l07Alike_c _ _ _ _ _ _ P S W P' S' W' _ (hp.below fr (Nat.le_refl _)) (hs.below fr (Nat.le_refl _)) (hq.below fr (Nat.le_refl _)) (hp'.below fr (Nat.le_refl _)) (hs'.below fr (Nat.le_refl _)) (hq'.below fr (Nat.le_refl _))).mono ?_
      rintro e w1 ⟨rfl, hbe⟩
      have B0 := B0.stays hbe
      have B1 := B1.stays hbe
      have sz1 := Below.size hbe
      have fr := below_step fr hbe
      rw [H0.out]
      have q_B0_0 := B0.cell 0
      have q_B0_1 := B0.cell 1
      have q_B0_2 := B0.cell 2
      have q_B1_0 := B1.cell 0
      have q_B1_1 := B1.cell 1
      have q_B1_2 := B1.cell 2
      go_wp2_with fail
      clear q_B0_0 q_B0_1 q_B0_2 q_B1_0 q_B1_1 q_B1_2
      refine (specUC_lim _ _ _ P S W _ (hp.below fr (Nat.le_refl _)) (hs.below fr (Nat.le_refl _)) (hq.below fr (Nat.le_refl _)) g1 u1).mono ?_
      rintro e w2 ⟨xa, xi, xb, xj, xc, xk, rfl, x, hbe⟩
      have B0 := B0.stays hbe
      have B1 := B1.stays hbe
      have sz2 := Below.size hbe
      have fr := below_step fr hbe
      try simp only [List.length_nil]
      have B0 := B0.alloc (.cells #[.slice xa 0 xi, .slice xb 0 xj, .slice xc 0 xk] 51)
      have B1 := B1.alloc (.cells #[.slice xa 0 xi, .slice xb 0 xj, .slice xc 0 xk] 51)
      have Vx := Blk.new w2 51 #[.slice xa 0 xi, .slice xb 0 xj, .slice xc 0 xk]
      have hal : Below w2.heap.size w2 (w2.alloc (.cells #[.slice xa 0 xi, .slice xb 0 xj, .slice xc 0 xk] 51)) := (Below.refl _ _).alloc (Nat.le_refl _) _
      have x := x.below hal
      have fr := below_step fr hal
      cases u2 : uwB P' S' W'
      · skip
        have q_B0_0 := B0.cell 0
        have q_B0_1 := B0.cell 1
        have q_B0_2 := B0.cell 2
        have q_B1_0 := B1.cell 0
        have q_B1_1 := B1.cell 1
        have q_B1_2 := B1.cell 2
        have q_Vx_0 := Vx.cell 0
        have q_Vx_1 := Vx.cell 1
        have q_Vx_2 := Vx.cell 2
        go_wp2_with fail
        clear q_B0_0 q_B0_1 q_B0_2 q_B1_0 q_B1_1 q_B1_2 q_Vx_0 q_Vx_1 q_Vx_2
        refine (specUC_lim _ _ _ P' S' W' _ (hp'.below fr (Nat.le_refl _)) (hs'.below fr (Nat.le_refl _)) (hq'.below fr (Nat.le_refl _)) g2 u2).mono ?_
        rintro e w3 ⟨ya, yi, yb, yj, yc, yk, rfl, y, hbe⟩
        have B0 := B0.stays hbe
        have B1 := B1.stays hbe
        have Vx := Vx.stays hbe
        have x := x.below hbe
        have sz3 := Below.size hbe
        have fr := below_step fr hbe
        try simp only [List.length_nil]
        have B0 := B0.alloc (.cells #[.slice ya 0 yi, .slice yb 0 yj, .slice yc 0 yk] 51)
        have B1 := B1.alloc (.cells #[.slice ya 0 yi, .slice yb 0 yj, .slice yc 0 yk] 51)
        have Vx := Vx.alloc (.cells #[.slice ya 0 yi, .slice yb 0 yj, .slice yc 0 yk] 51)
        have Vy := Blk.new w3 51 #[.slice ya 0 yi, .slice yb 0 yj, .slice yc 0 yk]
        have hal : Below w3.heap.size w3 (w3.alloc (.cells #[.slice ya 0 yi, .slice yb 0 yj, .slice yc 0 yk] 51)) := (Below.refl _ _).alloc (Nat.le_refl _) _
        have x := x.below hal
        have y := y.below hal
        have fr := below_step fr hal
        have q_B0_0 := B0.cell 0
        have q_B0_1 := B0.cell 1
        have q_B0_2 := B0.cell 2
        have q_B1_0 := B1.cell 0
        have q_B1_1 := B1.cell 1
        have q_B1_2 := B1.cell 2
        have q_Vx_0 := Vx.cell 0
        have q_Vx_1 := Vx.cell 1
        have q_Vx_2 := Vx.cell 2
        have q_Vy_0 := Vy.cell 0
        have q_Vy_1 := Vy.cell 1
        have q_Vy_2 := Vy.cell 2
        go_wp2
        go_ret2
        exact ⟨rfl, fr⟩
      · skip
        have q_B0_0 := B0.cell 0
        have q_B0_1 := B0.cell 1
        have q_B0_2 := B0.cell 2
        have q_B1_0 := B1.cell 0
        have q_B1_1 := B1.cell 1
        have q_B1_2 := B1.cell 2
        have q_Vx_0 := Vx.cell 0
        have q_Vx_1 := Vx.cell 1
        have q_Vx_2 := Vx.cell 2
        go_wp2_with fail
        clear q_B0_0 q_B0_1 q_B0_2 q_B1_0 q_B1_1 q_B1_2 q_Vx_0 q_Vx_1 q_Vx_2
        refine (specUC_ok _ _ _ P' S' W' _ (hp'.below fr (Nat.le_refl _)) (hs'.below fr (Nat.le_refl _)) (hq'.below fr (Nat.le_refl _)) g2 u2).mono ?_
        rintro e w3 ⟨ya, yi, yb, yj, yc, yk, rfl, y, hbe⟩
        have B0 := B0.stays hbe
        have B1 := B1.stays hbe
        have Vx := Vx.stays hbe
        have x := x.below hbe
        have sz3 := Below.size hbe
        have fr := below_step fr hbe
        have B0 := B0.alloc (.cells #[.slice ya P'.length yi, .slice yb S'.length yj, .slice yc (unlL P' S' W').length yk] 51)
        have B1 := B1.alloc (.cells #[.slice ya P'.length yi, .slice yb S'.length yj, .slice yc (unlL P' S' W').length yk] 51)
        have Vx := Vx.alloc (.cells #[.slice ya P'.length yi, .slice yb S'.length yj, .slice yc (unlL P' S' W').length yk] 51)
        have Vy := Blk.new w3 51 #[.slice ya P'.length yi, .slice yb S'.length yj, .slice yc (unlL P' S' W').length yk]
        have hal : Below w3.heap.size w3 (w3.alloc (.cells #[.slice ya P'.length yi, .slice yb S'.length yj, .slice yc (unlL P' S' W').length yk] 51)) := (Below.refl _ _).alloc (Nat.le_refl _) _
        have x := x.below hal
        have y := y.below hal
        have fr := below_step fr hal
        have q_B0_0 := B0.cell 0
        have q_B0_1 := B0.cell 1
        have q_B0_2 := B0.cell 2
        have q_B1_0 := B1.cell 0
        have q_B1_1 := B1.cell 1
        have q_B1_2 := B1.cell 2
        have q_Vx_0 := Vx.cell 0
        have q_Vx_1 := Vx.cell 1
        have q_Vx_2 := Vx.cell 2
        have q_Vy_0 := Vy.cell 0
        have q_Vy_1 := Vy.cell 1
        have q_Vy_2 := Vy.cell 2
        go_wp2
        go_ret2
        exact ⟨rfl, fr⟩
    cases u2 : uwB P' S' W'
    · skip
      obtain ⟨e1, e2⟩ := mx_lim hb (by simp [u2])
      rw [okN_false e1, e2]
      clear e1 e2
      have H0 := Lib.hid h0
      clear h0
      have B0 := Blk.new w 51 #[.slice a0 P.length k0, .slice a1 S.length k1, .slice a2 W.length k2]
      have hal : Below w.heap.size w (w.alloc (.cells #[.slice a0 P.length k0, .slice a1 S.length k1, .slice a2 W.length k2] 51)) := (Below.refl _ _).alloc (Nat.le_refl _) _
      have fr : Below w.heap.size w (w.alloc (.cells #[.slice a0 P.length k0, .slice a1 S.length k1, .slice a2 W.length k2] 51)) := hal
      have B0 := B0.alloc (.cells #[.slice a3 P'.length k3, .slice a4 S'.length k4, .slice a5 W'.length k5] 51)
      have B1 := Blk.new (w.alloc (.cells #[.slice a0 P.length k0, .slice a1 S.length k1, .slice a2 W.length k2] 51)) 51 #[.slice a3 P'.length k3, .slice a4 S'.length k4, .slice a5 W'.length k5]
      simp only [World.size_alloc] at B1
      have hal : Below (w.alloc (.cells #[.slice a0 P.length k0, .slice a1 S.length k1, .slice a2 W.length k2] 51)).heap.size (w.alloc (.cells #[.slice a0 P.length k0, .slice a1 S.length k1, .slice a2 W.length k2] 51)) ((w.alloc (.cells #[.slice a0 P.length k0, .slice a1 S.length k1, .slice a2 W.length k2] 51)).alloc (.cells #[.slice a3 P'.length k3, .slice a4 S'.length k4, .slice a5 W'.length k5] 51)) := (Below.refl _ _).alloc (Nat.le_refl _) _
      have fr : Below w.heap.size w ((w.alloc (.cells #[.slice a0 P.length k0, .slice a1 S.length k1, .slice a2 W.length k2] 51)).alloc (.cells #[.slice a3 P'.length k3, .slice a4 S'.length k4, .slice a5 W'.length k5] 51)) := below_step fr hal
      have q_B0_0 := B0.cell 0
      have q_B0_1 := B0.cell 1
      have q_B0_2 := B0.cell 2
      have q_B1_0 := B1.cell 0
      have q_B1_1 := B1.cell 1
      have q_B1_2 := B1.cell 2
      go_enter Try.func65, Try.ntmps65
      go_wp2_with fail
      clear q_B0_0 q_B0_1 q_B0_2 q_B1_0 q_B1_1 q_B1_2
      refine (l07Alike_c _ _ _ _ _ _ P S W P' S' W' _ (hp.below fr (Nat.le_refl _)) (hs.below fr (Nat.le_refl _)) (hq.below fr (Nat.le_refl _)) (hp'.below fr (Nat.le_refl _)) (hs'.below fr (Nat.le_refl _)) (hq'.below fr (Nat.le_refl _))).mono ?_
      rintro e w1 ⟨rfl, hbe⟩
      have B0 := B0.stays hbe
      have B1 := B1.stays hbe
      have sz1 := Below.size hbe
      have fr := below_step fr hbe
      rw [H0.out]
      have q_B0_0 := B0.cell 0
      have q_B0_1 := B0.cell 1
      have q_B0_2 := B0.cell 2
      have q_B1_0 := B1.cell 0
      have q_B1_1 := B1.cell 1
      have q_B1_2 := B1.cell 2
      go_wp2_with fail
      clear q_B0_0 q_B0_1 q_B0_2 q_B1_0 q_B1_1 q_B1_2
      refine (specUC_ok _ _ _ P S W _ (hp.below fr (Nat.le_refl _)) (hs.below fr (Nat.le_refl _)) (hq.below fr (Nat.le_refl _)) g1 u1).mono ?_
      rintro e w2 ⟨xa, xi, xb, xj, xc, xk, rfl, x, hbe⟩
      have B0 := B0.stays hbe
      have B1 := B1.stays hbe
      have sz2 := Below.size hbe
      have fr := below_step fr hbe
      have B0 := B0.alloc (.cells #[.slice xa P.length xi, .slice xb S.length xj, .slice xc (unlL P S W).length xk] 51)
      have B1 := B1.alloc (.cells #[.slice xa P.length xi, .slice xb S.length xj, .slice xc (unlL P S W).length xk] 51)
      have Vx := Blk.new w2 51 #[.slice xa P.length xi, .slice xb S.length xj, .slice xc (unlL P S W).length xk]
      have hal : Below w2.heap.size w2 (w2.alloc (.cells #[.slice xa P.length xi, .slice xb S.length xj, .slice xc (unlL P S W).length xk] 51)) := (Below.refl _ _).alloc (Nat.le_refl _) _
      have x := x.below hal
      have fr := below_step fr hal
      have q_B0_0 := B0.cell 0
      have q_B0_1 := B0.cell 1
      have q_B0_2 := B0.cell 2
      have q_B1_0 := B1.cell 0
      have q_B1_1 := B1.cell 1
      have q_B1_2 := B1.cell 2
      have q_Vx_0 := Vx.cell 0
      have q_Vx_1 := Vx.cell 1
      have q_Vx_2 := Vx.cell 2
      go_wp2_with fail
      clear q_B0_0 q_B0_1 q_B0_2 q_B1_0 q_B1_1 q_B1_2 q_Vx_0 q_Vx_1 q_Vx_2
      refine (specUC_lim _ _ _ P' S' W' _ (hp'.below fr (Nat.le_refl _)) (hs'.below fr (Nat.le_refl _)) (hq'.below fr (Nat.le_refl _)) g2 u2).mono ?_
      rintro e w3 ⟨ya, yi, yb, yj, yc, yk, rfl, y, hbe⟩
      have B0 := B0.stays hbe
      have B1 := B1.stays hbe
      have Vx := Vx.stays hbe
      have x := x.below hbe
      have sz3 := Below.size hbe
      have fr := below_step fr hbe
      try simp only [List.length_nil]
      have B0 := B0.alloc (.cells #[.slice ya 0 yi, .slice yb 0 yj, .slice yc 0 yk] 51)
      have B1 := B1.alloc (.cells #[.slice ya 0 yi, .slice yb 0 yj, .slice yc 0 yk] 51)
      have Vx := Vx.alloc (.cells #[.slice ya 0 yi, .slice yb 0 yj, .slice yc 0 yk] 51)
      have Vy := Blk.new w3 51 #[.slice ya 0 yi, .slice yb 0 yj, .slice yc 0 yk]
      have hal : Below w3.heap.size w3 (w3.alloc (.cells #[.slice ya 0 yi, .slice yb 0 yj, .slice yc 0 yk] 51)) := (Below.refl _ _).alloc (Nat.le_refl _) _
      have x := x.below hal
      have y := y.below hal
      have fr := below_step fr hal
      have q_B0_0 := B0.cell 0
      have q_B0_1 := B0.cell 1
      have q_B0_2 := B0.cell 2
      have q_B1_0 := B1.cell 0
      have q_B1_1 := B1.cell 1
      have q_B1_2 := B1.cell 2
      have q_Vx_0 := Vx.cell 0
      have q_Vx_1 := Vx.cell 1
      have q_Vx_2 := Vx.cell 2
      have q_Vy_0 := Vy.cell 0
      have q_Vy_1 := Vy.cell 1
      have q_Vy_2 := Vy.cell 2
      go_wp2
      go_ret2
      exact ⟨rfl, fr⟩
    · skip
      obtain ⟨e1, e2⟩ := mx_ok hb u1 u2
      rw [okN_true e1, e2]
      clear e1 e2
      have H0 := Lib.hid h0
      clear h0
      have hk1 := cluB_iff.1 g1
      have hk2 := cluB_iff.1 g2
      have hPP := (likeB_iff.1 g3).1
      have hWW : (unlL P S W).length = (unlL P' S' W').length := by rw [unlL_len hk1, unlL_len hk2, hPP]
      have hW24 : (unlL P S W).length ≤ 10000 := by rw [unlL_len hk1]; have := hk1.1; omega
      have HW := Lib.hid hWW
      have HB := Lib.hid (uw_num u1)
      have HB' := Lib.hid (show ∀ i, i < (unlL P S W).length → -100000 ≤ gI (unlL P' S' W') i ∧ gI (unlL P' S' W') i ≤ 100000 from fun i hi => uw_num u2 i (by omega))
      clear hWW hk1 hk2 hPP
      have B0 := Blk.new w 51 #[.slice a0 P.length k0, .slice a1 S.length k1, .slice a2 W.length k2]
      have hal : Below w.heap.size w (w.alloc (.cells #[.slice a0 P.length k0, .slice a1 S.length k1, .slice a2 W.length k2] 51)) := (Below.refl _ _).alloc (Nat.le_refl _) _
      have fr : Below w.heap.size w (w.alloc (.cells #[.slice a0 P.length k0, .slice a1 S.length k1, .slice a2 W.length k2] 51)) := hal
      have B0 := B0.alloc (.cells #[.slice a3 P'.length k3, .slice a4 S'.length k4, .slice a5 W'.length k5] 51)
      have B1 := Blk.new (w.alloc (.cells #[.slice a0 P.length k0, .slice a1 S.length k1, .slice a2 W.length k2] 51)) 51 #[.slice a3 P'.length k3, .slice a4 S'.length k4, .slice a5 W'.length k5]
      simp only [World.size_alloc] at B1
      have hal : Below (w.alloc (.cells #[.slice a0 P.length k0, .slice a1 S.length k1, .slice a2 W.length k2] 51)).heap.size (w.alloc (.cells #[.slice a0 P.length k0, .slice a1 S.length k1, .slice a2 W.length k2] 51)) ((w.alloc (.cells #[.slice a0 P.length k0, .slice a1 S.length k1, .slice a2 W.length k2] 51)).alloc (.cells #[.slice a3 P'.length k3, .slice a4 S'.length k4, .slice a5 W'.length k5] 51)) := (Below.refl _ _).alloc (Nat.le_refl _) _
      have fr : Below w.heap.size w ((w.alloc (.cells #[.slice a0 P.length k0, .slice a1 S.length k1, .slice a2 W.length k2] 51)).alloc (.cells #[.slice a3 P'.length k3, .slice a4 S'.length k4, .slice a5 W'.length k5] 51)) := below_step fr hal
      have q_B0_0 := B0.cell 0
      have q_B0_1 := B0.cell 1
      have q_B0_2 := B0.cell 2
      have q_B1_0 := B1.cell 0
      have q_B1_1 := B1.cell 1
      have q_B1_2 := B1.cell 2
      go_enter Try.func65, Try.ntmps65
      go_wp2_with fail
      clear q_B0_0 q_B0_1 q_B0_2 q_B1_0 q_B1_1 q_B1_2
      refine (l07Alike_c _ _ _ _ _ _ P S W P' S' W' _ (hp.below fr (Nat.le_refl _)) (hs.below fr (Nat.le_refl _)) (hq.below fr (Nat.le_refl _)) (hp'.below fr (Nat.le_refl _)) (hs'.below fr (Nat.le_refl _)) (hq'.below fr (Nat.le_refl _))).mono ?_
      rintro e w1 ⟨rfl, hbe⟩
      have B0 := B0.stays hbe
      have B1 := B1.stays hbe
      have sz1 := Below.size hbe
      have fr := below_step fr hbe
      rw [H0.out]
      have q_B0_0 := B0.cell 0
      have q_B0_1 := B0.cell 1
      have q_B0_2 := B0.cell 2
      have q_B1_0 := B1.cell 0
      have q_B1_1 := B1.cell 1
      have q_B1_2 := B1.cell 2
      go_wp2_with fail
      clear q_B0_0 q_B0_1 q_B0_2 q_B1_0 q_B1_1 q_B1_2
      refine (specUC_ok _ _ _ P S W _ (hp.below fr (Nat.le_refl _)) (hs.below fr (Nat.le_refl _)) (hq.below fr (Nat.le_refl _)) g1 u1).mono ?_
      rintro e w2 ⟨xa, xi, xb, xj, xc, xk, rfl, x, hbe⟩
      have B0 := B0.stays hbe
      have B1 := B1.stays hbe
      have sz2 := Below.size hbe
      have fr := below_step fr hbe
      have B0 := B0.alloc (.cells #[.slice xa P.length xi, .slice xb S.length xj, .slice xc (unlL P S W).length xk] 51)
      have B1 := B1.alloc (.cells #[.slice xa P.length xi, .slice xb S.length xj, .slice xc (unlL P S W).length xk] 51)
      have Vx := Blk.new w2 51 #[.slice xa P.length xi, .slice xb S.length xj, .slice xc (unlL P S W).length xk]
      have hal : Below w2.heap.size w2 (w2.alloc (.cells #[.slice xa P.length xi, .slice xb S.length xj, .slice xc (unlL P S W).length xk] 51)) := (Below.refl _ _).alloc (Nat.le_refl _) _
      have x := x.below hal
      have fr := below_step fr hal
      have q_B0_0 := B0.cell 0
      have q_B0_1 := B0.cell 1
      have q_B0_2 := B0.cell 2
      have q_B1_0 := B1.cell 0
      have q_B1_1 := B1.cell 1
      have q_B1_2 := B1.cell 2
      have q_Vx_0 := Vx.cell 0
      have q_Vx_1 := Vx.cell 1
      have q_Vx_2 := Vx.cell 2
      go_wp2_with fail
      clear q_B0_0 q_B0_1 q_B0_2 q_B1_0 q_B1_1 q_B1_2 q_Vx_0 q_Vx_1 q_Vx_2
      refine (specUC_ok _ _ _ P' S' W' _ (hp'.below fr (Nat.le_refl _)) (hs'.below fr (Nat.le_refl _)) (hq'.below fr (Nat.le_refl _)) g2 u2).mono ?_
      rintro e w3 ⟨ya, yi, yb, yj, yc, yk, rfl, y, hbe⟩
      have B0 := B0.stays hbe
      have B1 := B1.stays hbe
      have Vx := Vx.stays hbe
      have x := x.below hbe
      have sz3 := Below.size hbe
      have fr := below_step fr hbe
      have B0 := B0.alloc (.cells #[.slice ya P'.length yi, .slice yb S'.length yj, .slice yc (unlL P' S' W').length yk] 51)
      have B1 := B1.alloc (.cells #[.slice ya P'.length yi, .slice yb S'.length yj, .slice yc (unlL P' S' W').length yk] 51)
      have Vx := Vx.alloc (.cells #[.slice ya P'.length yi, .slice yb S'.length yj, .slice yc (unlL P' S' W').length yk] 51)
      have Vy := Blk.new w3 51 #[.slice ya P'.length yi, .slice yb S'.length yj, .slice yc (unlL P' S' W').length yk]
      have hal : Below w3.heap.size w3 (w3.alloc (.cells #[.slice ya P'.length yi, .slice yb S'.length yj, .slice yc (unlL P' S' W').length yk] 51)) := (Below.refl _ _).alloc (Nat.le_refl _) _
      have x := x.below hal
      have y := y.below hal
      have fr := below_step fr hal
      have q_B0_0 := B0.cell 0
      have q_B0_1 := B0.cell 1
      have q_B0_2 := B0.cell 2
      have q_B1_0 := B1.cell 0
      have q_B1_1 := B1.cell 1
      have q_B1_2 := B1.cell 2
      have q_Vx_0 := Vx.cell 0
      have q_Vx_1 := Vx.cell 1
      have q_Vx_2 := Vx.cell 2
      have q_Vy_0 := Vy.cell 0
      have q_Vy_1 := Vy.cell 1
      have q_Vy_2 := Vy.cell 2
      go_wp2_with fail
      clear q_B0_0 q_B0_1 q_B0_2 q_B1_0 q_B1_1 q_B1_2 q_Vx_0 q_Vx_1 q_Vx_2 q_Vy_0 q_Vy_1 q_Vy_2
      refine (l07Product_c _ _ (unlL P S W) (unlL P' S' W') _ x.c.rd y.c.rd HW.out (by omega) HB.out HB'.out).mono ?_
      rintro e w9 ⟨rfl, hd⟩
      have fr := below_step fr (hd.below (w3.alloc (.cells #[.slice ya P'.length yi, .slice yb S'.length yj, .slice yc (unlL P' S' W').length yk] 51)).heap.size)
      go_wp2
      go_ret2
      exact ⟨rfl, fr⟩
  · skip
    obtain ⟨e1, e2⟩ := mx_bad hb
    rw [okN_false e1, e2]
    clear e1 e2
    have hc : (pairC P S W P' S' W' != 0) = true := by simpa using hne
    clear hne
    have B0 := Blk.new w 51 #[.slice a0 P.length k0, .slice a1 S.length k1, .slice a2 W.length k2]
    have hal : Below w.heap.size w (w.alloc (.cells #[.slice a0 P.length k0, .slice a1 S.length k1, .slice a2 W.length k2] 51)) := (Below.refl _ _).alloc (Nat.le_refl _) _
    have fr : Below w.heap.size w (w.alloc (.cells #[.slice a0 P.length k0, .slice a1 S.length k1, .slice a2 W.length k2] 51)) := hal
    have B0 := B0.alloc (.cells #[.slice a3 P'.length k3, .slice a4 S'.length k4, .slice a5 W'.length k5] 51)
    have B1 := Blk.new (w.alloc (.cells #[.slice a0 P.length k0, .slice a1 S.length k1, .slice a2 W.length k2] 51)) 51 #[.slice a3 P'.length k3, .slice a4 S'.length k4, .slice a5 W'.length k5]
    simp only [World.size_alloc] at B1
    have hal : Below (w.alloc (.cells #[.slice a0 P.length k0, .slice a1 S.length k1, .slice a2 W.length k2] 51)).heap.size (w.alloc (.cells #[.slice a0 P.length k0, .slice a1 S.length k1, .slice a2 W.length k2] 51)) ((w.alloc (.cells #[.slice a0 P.length k0, .slice a1 S.length k1, .slice a2 W.length k2] 51)).alloc (.cells #[.slice a3 P'.length k3, .slice a4 S'.length k4, .slice a5 W'.length k5] 51)) := (Below.refl _ _).alloc (Nat.le_refl _) _
    have fr : Below w.heap.size w ((w.alloc (.cells #[.slice a0 P.length k0, .slice a1 S.length k1, .slice a2 W.length k2] 51)).alloc (.cells #[.slice a3 P'.length k3, .slice a4 S'.length k4, .slice a5 W'.length k5] 51)) := below_step fr hal
    have q_B0_0 := B0.cell 0
    have q_B0_1 := B0.cell 1
    have q_B0_2 := B0.cell 2
    have q_B1_0 := B1.cell 0
    have q_B1_1 := B1.cell 1
    have q_B1_2 := B1.cell 2
    go_enter Try.func65, Try.ntmps65
    go_wp2_with fail
    clear q_B0_0 q_B0_1 q_B0_2 q_B1_0 q_B1_1 q_B1_2
    refine (l07Alike_c _ _ _ _ _ _ P S W P' S' W' _ (hp.below fr (Nat.le_refl _)) (hs.below fr (Nat.le_refl _)) (hq.below fr (Nat.le_refl _)) (hp'.below fr (Nat.le_refl _)) (hs'.below fr (Nat.le_refl _)) (hq'.below fr (Nat.le_refl _))).mono ?_
    rintro e w1 ⟨rfl, hbe⟩
    have B0 := B0.stays hbe
    have B1 := B1.stays hbe
    have sz1 := Below.size hbe
    have fr := below_step fr hbe
    have q_B0_0 := B0.cell 0
    have q_B0_1 := B0.cell 1
    have q_B0_2 := B0.cell 2
    have q_B1_0 := B1.cell 0
    have q_B1_1 := B1.cell 1
    have q_B1_2 := B1.cell 2
    go_wp2
    go_ret2
    exact ⟨rfl, fr⟩

set_option maxRecDepth 100000 in
set_option maxHeartbeats 2000000 in
theorem implSquare_c (p s q : Value) (P S W : List Int) (w : World) (hp : Rd w p P) (hs : Rd w s S) (hq : Rd w q W) :
    Calls Try.prog 61 #[.agg #[p, s, q]] w (fun e w' => e = .returned (.tuple #[.int .i64 (okN (ucB P S W) (mxV P S W P S W)), .int .i64 (ucC P S W)]) ∧ Below w.heap.size w w') := by
  obtain ⟨a0, k0, rfl⟩ := hp.len0
  obtain ⟨a1, k1, rfl⟩ := hs.len0
  obtain ⟨a2, k2, rfl⟩ := hq.len0
  obtain ⟨e1, e2⟩ := mx_self P S W
  rw [← e1, ← e2]
  clear e1 e2
  have B0 := Blk.new w 51 #[.slice a0 P.length k0, .slice a1 S.length k1, .slice a2 W.length k2]
  have hal : Below w.heap.size w (w.alloc (.cells #[.slice a0 P.length k0, .slice a1 S.length k1, .slice a2 W.length k2] 51)) := (Below.refl _ _).alloc (Nat.le_refl _) _
  have fr : Below w.heap.size w (w.alloc (.cells #[.slice a0 P.length k0, .slice a1 S.length k1, .slice a2 W.length k2] 51)) := hal
  have q_B0_0 := B0.cell 0
  have q_B0_1 := B0.cell 1
  have q_B0_2 := B0.cell 2
  go_enter Try.func61, Try.ntmps61
  go_wp2_with fail
  clear q_B0_0 q_B0_1 q_B0_2
  refine (implMixed_c _ _ _ _ _ _ P S W P S W _ (hp.below fr (Nat.le_refl _)) (hs.below fr (Nat.le_refl _)) (hq.below fr (Nat.le_refl _)) (hp.below fr (Nat.le_refl _)) (hs.below fr (Nat.le_refl _)) (hq.below fr (Nat.le_refl _))).mono ?_
  rintro e w1 ⟨rfl, hbe⟩
  have B0 := B0.stays hbe
  have sz1 := Below.size hbe
  have fr := below_step fr hbe
  have q_B0_0 := B0.cell 0
  have q_B0_1 := B0.cell 1
  have q_B0_2 := B0.cell 2
  go_wp2
  go_ret2
  exact ⟨rfl, fr⟩

set_option maxRecDepth 100000 in
set_option maxHeartbeats 2000000 in
theorem specSquare_c (p s q : Value) (P S W : List Int) (w : World) (hp : Rd w p P) (hs : Rd w s S) (hq : Rd w q W) :
    Calls Try.prog 60 #[.agg #[p, s, q]] w (fun e w' => e = .returned (.tuple #[.int .i64 (okN (ucB P S W) (mxV P S W P S W)), .int .i64 (ucC P S W)]) ∧ Below w.heap.size w w') := by
  obtain ⟨a0, k0, rfl⟩ := hp.len0
  obtain ⟨a1, k1, rfl⟩ := hs.len0
  obtain ⟨a2, k2, rfl⟩ := hq.len0
  cases hc : ucB P S W
  · skip
    rw [okN_false rfl]
    have hcn := ucC_no hc
    have hd : (ucC P S W != 0) = true := by simpa using hcn
    clear hcn
    have B0 := Blk.new w 51 #[.slice a0 P.length k0, .slice a1 S.length k1, .slice a2 W.length k2]
    have hal : Below w.heap.size w (w.alloc (.cells #[.slice a0 P.length k0, .slice a1 S.length k1, .slice a2 W.length k2] 51)) := (Below.refl _ _).alloc (Nat.le_refl _) _
    have fr : Below w.heap.size w (w.alloc (.cells #[.slice a0 P.length k0, .slice a1 S.length k1, .slice a2 W.length k2] 51)) := hal
    have q_B0_0 := B0.cell 0
    have q_B0_1 := B0.cell 1
    have q_B0_2 := B0.cell 2
    go_enter Try.func60, Try.ntmps60
    go_wp2_with fail
    clear q_B0_0 q_B0_1 q_B0_2
    refine (specUC_no _ _ _ P S W _ (hp.below fr (Nat.le_refl _)) (hs.below fr (Nat.le_refl _)) (hq.below fr (Nat.le_refl _)) hc).mono ?_
    rintro e w1 ⟨xa, xi, xb, xj, xc, xk, rfl, x, hbe⟩
    have B0 := B0.stays hbe
    have sz1 := Below.size hbe
    have fr := below_step fr hbe
    try simp only [List.length_nil]
    have B0 := B0.alloc (.cells #[.slice xa 0 xi, .slice xb 0 xj, .slice xc 0 xk] 51)
    have Vx := Blk.new w1 51 #[.slice xa 0 xi, .slice xb 0 xj, .slice xc 0 xk]
    have hal : Below w1.heap.size w1 (w1.alloc (.cells #[.slice xa 0 xi, .slice xb 0 xj, .slice xc 0 xk] 51)) := (Below.refl _ _).alloc (Nat.le_refl _) _
    have x := x.below hal
    have fr := below_step fr hal
    have q_B0_0 := B0.cell 0
    have q_B0_1 := B0.cell 1
    have q_B0_2 := B0.cell 2
    have q_Vx_0 := Vx.cell 0
    have q_Vx_1 := Vx.cell 1
    have q_Vx_2 := Vx.cell 2
    go_wp2
    go_ret2
    exact ⟨rfl, fr⟩
  · skip
    rw [okN_true rfl, ucC_yes hc]
    have hk1 := ucB_clu hc
    have hW24 : (unlL P S W).length ≤ 10000 := by rw [unlL_len hk1]; have := hk1.1; omega
    have HB := Lib.hid (unl_num hc)
    have B0 := Blk.new w 51 #[.slice a0 P.length k0, .slice a1 S.length k1, .slice a2 W.length k2]
    have hal : Below w.heap.size w (w.alloc (.cells #[.slice a0 P.length k0, .slice a1 S.length k1, .slice a2 W.length k2] 51)) := (Below.refl _ _).alloc (Nat.le_refl _) _
    have fr : Below w.heap.size w (w.alloc (.cells #[.slice a0 P.length k0, .slice a1 S.length k1, .slice a2 W.length k2] 51)) := hal
    have q_B0_0 := B0.cell 0
    have q_B0_1 := B0.cell 1
    have q_B0_2 := B0.cell 2
    go_enter Try.func60, Try.ntmps60
    go_wp2_with fail
    clear q_B0_0 q_B0_1 q_B0_2
    refine (specUC_yes _ _ _ P S W _ (hp.below fr (Nat.le_refl _)) (hs.below fr (Nat.le_refl _)) (hq.below fr (Nat.le_refl _)) hc).mono ?_
    rintro e w1 ⟨xa, xi, xb, xj, xc, xk, rfl, x, hbe⟩
    have B0 := B0.stays hbe
    have sz1 := Below.size hbe
    have fr := below_step fr hbe
    have B0 := B0.alloc (.cells #[.slice xa P.length xi, .slice xb S.length xj, .slice xc (unlL P S W).length xk] 51)
    have Vx := Blk.new w1 51 #[.slice xa P.length xi, .slice xb S.length xj, .slice xc (unlL P S W).length xk]
    have hal : Below w1.heap.size w1 (w1.alloc (.cells #[.slice xa P.length xi, .slice xb S.length xj, .slice xc (unlL P S W).length xk] 51)) := (Below.refl _ _).alloc (Nat.le_refl _) _
    have x := x.below hal
    have fr := below_step fr hal
    have q_B0_0 := B0.cell 0
    have q_B0_1 := B0.cell 1
    have q_B0_2 := B0.cell 2
    have q_Vx_0 := Vx.cell 0
    have q_Vx_1 := Vx.cell 1
    have q_Vx_2 := Vx.cell 2
    go_wp2_with fail
    clear q_B0_0 q_B0_1 q_B0_2 q_Vx_0 q_Vx_1 q_Vx_2
    refine (l07Product_c _ _ (unlL P S W) (unlL P S W) _ x.c.rd x.c.rd rfl (by omega) HB.out HB.out).mono ?_
    rintro e w9 ⟨rfl, hd⟩
    have fr := below_step fr (hd.below (w1.alloc (.cells #[.slice xa P.length xi, .slice xb S.length xj, .slice xc (unlL P S W).length xk] 51)).heap.size)
    go_wp2
    go_ret2
    exact ⟨rfl, fr⟩
end Go.Proofs.Ytgjnllialhjhoaa
