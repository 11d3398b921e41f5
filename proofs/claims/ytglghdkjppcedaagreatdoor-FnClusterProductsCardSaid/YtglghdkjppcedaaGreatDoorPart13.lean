/- Contracts: the product of two clusters, and whether two clusters are alike. -/
import Derived.Test.YtglghdkjppcedaaGreatDoorPart6
import Derived.Test.YtglghdkjppcedaaGreatDoorPart2
import Derived.Test.YtglghdkjppcedaaGreatDoorPart12
namespace Go.Proofs.YtglghdkjppcedaaGreatDoor
open Go.RowKit

/-- The sum of the products of the first k numbers of two lists. -/
def dotTo (xs ys : List Int) (k : Nat) : Int := sumTo (fun i => gI xs i * gI ys i) k
theorem dotTo_succ (xs ys : List Int) (k : Nat) : dotTo xs ys (k + 1) = dotTo xs ys k + gI xs k * gI ys k := rfl
theorem dotTo_bd {xs ys : List Int} {k : Nat} (h1 : ∀ i, i < k → -100000 ≤ gI xs i ∧ gI xs i ≤ 100000) (h2 : ∀ i, i < k → -100000 ≤ gI ys i ∧ gI ys i ≤ 100000) (hk : k ≤ 10000) :
    -100000000000000 ≤ dotTo xs ys k ∧ dotTo xs ys k ≤ 100000000000000 := by
  have h := sumTo_bound (f := fun i => gI xs i * gI ys i) (n := k) (-10000000000) 10000000000 (fun i hi => mul_abs_le (B := 100000) (C := 100000) (h1 i hi) (h2 i hi))
  unfold dotTo
  omega

set_option maxHeartbeats 1000000 in
theorem l07Product_c (v u : Value) (xs ys : List Int) (w : World) (h : Rd w v xs) (h' : Rd w u ys) (hl : xs.length = ys.length) (hn : xs.length ≤ 10000) (b1 : ∀ i, i < xs.length → -100000 ≤ gI xs i ∧ gI xs i ≤ 100000) (b2 : ∀ i, i < xs.length → -100000 ≤ gI ys i ∧ gI ys i ≤ 100000) :
    Calls Tryz.prog 53 #[v, u] w fun e w' => e = .returned (.int .i64 (dotTo xs ys xs.length)) ∧ Drew w w' := by
  obtain ⟨a, cap, rfl, hcap1, hcap2, hrd⟩ := h
  obtain ⟨a', cap', rfl, hcap1', hcap2', hrd'⟩ := h'
  have hl1 : xs.length ≤ ys.length := by omega
  clear hl
  go_enter Tryz.func53, Tryz.ntmps53
  go_wp2
  go_loopw [5, 6] (fun n i wr => ∃ k : Nat, k ≤ xs.length ∧ i = .int .i64 k ∧ n = .int .i64 (dotTo xs ys k) ∧ Drew w wr) (fun _ i _ => xs.length - (intOf i).toNat)
  case atStart => exact ⟨0, Nat.zero_le _, rfl, rfl, Drew.refl _⟩
  case round =>
    obtain ⟨k, hk, rfl, rfl, n, rfl⟩ := hrel
    by_cases hlt : k < xs.length
    · have hlt' : k < ys.length := by omega
      obtain ⟨b, off, rfl, hbl, hcs⟩ := hrd (ne_of_lt_len hlt)
      obtain ⟨b', off', rfl, hbl', hcs'⟩ := hrd' (ne_of_lt_len hlt')
      have hc := hcs k hlt
      have hc' := hcs' k hlt'
      have hx := b1 k hlt
      have hy := b2 k hlt
      have hxy := mul_abs_le (B := 100000) (C := 100000) hx hy
      have hs := dotTo_bd (k := k) (fun i hi => b1 i (by omega)) (fun i hi => b2 i (by omega)) (by omega)
      have HS := Lib.hid (dotTo_succ xs ys k)
      clear hcs hcs' hrd hrd' b1 b2
      generalize dotTo xs ys k = s at hs HS
      generalize gI xs k = x at hc hx HS hxy
      generalize gI ys k = y at hc' hy HS hxy
      obtain ⟨hs1, hs2⟩ := hs
      obtain ⟨hx1, hx2⟩ := hx
      obtain ⟨hy1, hy2⟩ := hy
      obtain ⟨hz1, hz2⟩ := hxy
      have e2 : IntKind.i64.wrap (x * y) = x * y := IntWalk.i64_in _ (by omega)
      have e4 : IntKind.i64.wrap (s + x * y) = s + x * y := IntWalk.i64_in _ (by omega)
      go_wp2
      go_quiet (fail)
      go_wp2
      go_roundw
      case rel => exact ⟨k + 1, by omega, by go_num, by rw [HS.out], by first | exact Drew.one _ _ | exact Drew.two _ _ _⟩
      case measure => simp [intOf]; omega
    · go_wp2
      have hk' : k = xs.length := by omega
      subst hk'
      go_ret
      exact ⟨rfl, Drew.one _ _⟩

set_option maxHeartbeats 1000000 in
theorem scalar_c (v u : Value) (xs ys : List Int) (w : World) (h : Rd w v xs) (h' : Rd w u ys) (hl : xs.length = ys.length) (hn : xs.length ≤ 10000) (b1 : ∀ i, i < xs.length → -100000 ≤ gI xs i ∧ gI xs i ≤ 100000) (b2 : ∀ i, i < xs.length → -100000 ≤ gI ys i ∧ gI ys i ≤ 100000) :
    Calls Tryz.prog 49 #[v, u] w fun e w' => e = .returned (.int .i64 (dotTo xs ys xs.length)) ∧ Drew w w' := by
  obtain ⟨a, cap, rfl, hcap1, hcap2, hrd⟩ := h
  obtain ⟨a', cap', rfl, hcap1', hcap2', hrd'⟩ := h'
  have hl1 : xs.length ≤ ys.length := by omega
  clear hl
  go_enter Tryz.func49, Tryz.ntmps49
  go_wp2
  go_loopw [5, 6, 7, 10] (fun n _ _ i wr => ∃ k : Nat, k ≤ xs.length ∧ i = .int .i64 k ∧ n = .int .i64 (dotTo xs ys k) ∧ Drew w wr) (fun _ _ _ i _ => xs.length - (intOf i).toNat)
  case atStart => exact ⟨0, Nat.zero_le _, rfl, rfl, Drew.refl _⟩
  case round =>
    obtain ⟨k, hk, rfl, rfl, n, rfl⟩ := hrel
    by_cases hlt : k < xs.length
    · have hlt' : k < ys.length := by omega
      obtain ⟨b, off, rfl, hbl, hcs⟩ := hrd (ne_of_lt_len hlt)
      obtain ⟨b', off', rfl, hbl', hcs'⟩ := hrd' (ne_of_lt_len hlt')
      have hc := hcs k hlt
      have hc' := hcs' k hlt'
      have hx := b1 k hlt
      have hy := b2 k hlt
      have hxy := mul_abs_le (B := 100000) (C := 100000) hx hy
      have hs := dotTo_bd (k := k) (fun i hi => b1 i (by omega)) (fun i hi => b2 i (by omega)) (by omega)
      have HS := Lib.hid (dotTo_succ xs ys k)
      clear hcs hcs' hrd hrd' b1 b2
      generalize dotTo xs ys k = s at hs HS
      generalize gI xs k = x at hc hx HS hxy
      generalize gI ys k = y at hc' hy HS hxy
      obtain ⟨hs1, hs2⟩ := hs
      obtain ⟨hx1, hx2⟩ := hx
      obtain ⟨hy1, hy2⟩ := hy
      obtain ⟨hz1, hz2⟩ := hxy
      have e2 : IntKind.i64.wrap (x * y) = x * y := IntWalk.i64_in _ (by omega)
      have e4 : IntKind.i64.wrap (s + x * y) = s + x * y := IntWalk.i64_in _ (by omega)
      go_wp2
      go_roundw
      case rel => exact ⟨k + 1, by omega, by go_num, by rw [HS.out], by first | exact Drew.one _ _ | exact Drew.two _ _ _⟩
      case measure => simp [intOf]; omega
    · go_wp2
      have hk' : k = xs.length := by omega
      subst hk'
      go_ret
      exact ⟨rfl, Drew.one _ _⟩

/-- Have two clusters the same points? -/
def likeB (P S P' S' : List Int) : Bool := eqB P P' && eqB S S'
theorem likeB_iff {P S P' S' : List Int} : likeB P S P' S' = true ↔ P = P' ∧ S = S' := by simp [likeB, eqB]
/-- The code of two clusters that have to be alike. -/
def pairC (P S W P' S' W' : List Int) : Int := if cluB P S W = true ∧ cluB P' S' W' = true then (if likeB P S P' S' = true then 0 else 2) else 1
def pairB (P S W P' S' W' : List Int) : Bool := cluB P S W && cluB P' S' W' && likeB P S P' S'
theorem pairB_iff {P S W P' S' W' : List Int} : pairB P S W P' S' W' = true ↔ cluB P S W = true ∧ cluB P' S' W' = true ∧ likeB P S P' S' = true := by simp [pairB, and_assoc]
theorem pairC_0 {P S W P' S' W' : List Int} (h1 : cluB P S W = true) (h2 : cluB P' S' W' = true) (h3 : likeB P S P' S' = true) : pairC P S W P' S' W' = 0 := by simp [pairC, h1, h2, h3]
theorem pairC_2 {P S W P' S' W' : List Int} (h1 : cluB P S W = true) (h2 : cluB P' S' W' = true) (h3 : likeB P S P' S' = false) : pairC P S W P' S' W' = 2 := by simp [pairC, h1, h2, h3]
theorem pairC_1a {P S W P' S' W' : List Int} (h1 : cluB P S W = false) : pairC P S W P' S' W' = 1 := by simp [pairC, h1]
theorem pairC_1b {P S W P' S' W' : List Int} (h2 : cluB P' S' W' = false) : pairC P S W P' S' W' = 1 := by simp [pairC, h2]
theorem pairC_or (P S W P' S' W' : List Int) : (pairB P S W P' S' W' = true ∧ pairC P S W P' S' W' = 0) ∨ (pairB P S W P' S' W' = false ∧ pairC P S W P' S' W' ≠ 0) := by
  unfold pairB pairC
  cases cluB P S W <;> cases cluB P' S' W' <;> cases likeB P S P' S' <;> simp

set_option maxHeartbeats 1000000 in
theorem alike_c (p s q p' s' q' : Value) (P S W P' S' W' : List Int) (w : World) (hp : Rd w p P) (hs : Rd w s S) (hq : Rd w q W) (hp' : Rd w p' P') (hs' : Rd w s' S') (hq' : Rd w q' W') :
    Calls Tryz.prog 48 #[.agg #[p, s, q], .agg #[p', s', q']] w fun e w' => e = .returned (.bool (likeB P S P' S')) ∧ Below w.heap.size w w' := by
  obtain ⟨a0, k0, rfl⟩ := hp.len0
  obtain ⟨a1, k1, rfl⟩ := hs.len0
  obtain ⟨a2, k2, rfl⟩ := hq.len0
  obtain ⟨a3, k3, rfl⟩ := hp'.len0
  obtain ⟨a4, k4, rfl⟩ := hs'.len0
  obtain ⟨a5, k5, rfl⟩ := hq'.len0
  cases h1 : eqB P P'
  · skip
    have B0 := Blk.new w 26 #[.slice a0 P.length k0, .slice a1 S.length k1, .slice a2 W.length k2]
    have hal : Below w.heap.size w (w.alloc (.cells #[.slice a0 P.length k0, .slice a1 S.length k1, .slice a2 W.length k2] 26)) := (Below.refl _ _).alloc (Nat.le_refl _) _
    have fr : Below w.heap.size w (w.alloc (.cells #[.slice a0 P.length k0, .slice a1 S.length k1, .slice a2 W.length k2] 26)) := hal
    have B0 := B0.alloc (.cells #[.slice a3 P'.length k3, .slice a4 S'.length k4, .slice a5 W'.length k5] 26)
    have B1 := Blk.new (w.alloc (.cells #[.slice a0 P.length k0, .slice a1 S.length k1, .slice a2 W.length k2] 26)) 26 #[.slice a3 P'.length k3, .slice a4 S'.length k4, .slice a5 W'.length k5]
    simp only [World.size_alloc] at B1
    have hal : Below (w.alloc (.cells #[.slice a0 P.length k0, .slice a1 S.length k1, .slice a2 W.length k2] 26)).heap.size (w.alloc (.cells #[.slice a0 P.length k0, .slice a1 S.length k1, .slice a2 W.length k2] 26)) ((w.alloc (.cells #[.slice a0 P.length k0, .slice a1 S.length k1, .slice a2 W.length k2] 26)).alloc (.cells #[.slice a3 P'.length k3, .slice a4 S'.length k4, .slice a5 W'.length k5] 26)) := (Below.refl _ _).alloc (Nat.le_refl _) _
    have fr : Below w.heap.size w ((w.alloc (.cells #[.slice a0 P.length k0, .slice a1 S.length k1, .slice a2 W.length k2] 26)).alloc (.cells #[.slice a3 P'.length k3, .slice a4 S'.length k4, .slice a5 W'.length k5] 26)) := below_step fr hal
    have q_B0_0 := B0.cell 0
    have q_B0_1 := B0.cell 1
    have q_B0_2 := B0.cell 2
    have q_B1_0 := B1.cell 0
    have q_B1_1 := B1.cell 1
    have q_B1_2 := B1.cell 2
    go_enter Tryz.func48, Tryz.ntmps48
    go_wp2_with fail
    clear q_B0_0 q_B0_1 q_B0_2 q_B1_0 q_B1_1 q_B1_2
    refine (slicesEqual_c _ _ P P' _ (hp.below fr (Nat.le_refl _)) (hp'.below fr (Nat.le_refl _))).mono ?_
    rintro e w1 ⟨rfl, hd⟩
    have hbe := hd.below ((w.alloc (.cells #[.slice a0 P.length k0, .slice a1 S.length k1, .slice a2 W.length k2] 26)).alloc (.cells #[.slice a3 P'.length k3, .slice a4 S'.length k4, .slice a5 W'.length k5] 26)).heap.size
    have B0 := B0.stays hbe
    have B1 := B1.stays hbe
    have fr := below_step fr hbe
    have q_B0_0 := B0.cell 0
    have q_B0_1 := B0.cell 1
    have q_B0_2 := B0.cell 2
    have q_B1_0 := B1.cell 0
    have q_B1_1 := B1.cell 1
    have q_B1_2 := B1.cell 2
    go_wp2
    go_ret
    exact ⟨ret_bool (by simp [likeB, h1]), fr⟩
  · skip
    have B0 := Blk.new w 26 #[.slice a0 P.length k0, .slice a1 S.length k1, .slice a2 W.length k2]
    have hal : Below w.heap.size w (w.alloc (.cells #[.slice a0 P.length k0, .slice a1 S.length k1, .slice a2 W.length k2] 26)) := (Below.refl _ _).alloc (Nat.le_refl _) _
    have fr : Below w.heap.size w (w.alloc (.cells #[.slice a0 P.length k0, .slice a1 S.length k1, .slice a2 W.length k2] 26)) := hal
    have B0 := B0.alloc (.cells #[.slice a3 P'.length k3, .slice a4 S'.length k4, .slice a5 W'.length k5] 26)
    have B1 := Blk.new (w.alloc (.cells #[.slice a0 P.length k0, .slice a1 S.length k1, .slice a2 W.length k2] 26)) 26 #[.slice a3 P'.length k3, .slice a4 S'.length k4, .slice a5 W'.length k5]
    simp only [World.size_alloc] at B1
    have hal : Below (w.alloc (.cells #[.slice a0 P.length k0, .slice a1 S.length k1, .slice a2 W.length k2] 26)).heap.size (w.alloc (.cells #[.slice a0 P.length k0, .slice a1 S.length k1, .slice a2 W.length k2] 26)) ((w.alloc (.cells #[.slice a0 P.length k0, .slice a1 S.length k1, .slice a2 W.length k2] 26)).alloc (.cells #[.slice a3 P'.length k3, .slice a4 S'.length k4, .slice a5 W'.length k5] 26)) := (Below.refl _ _).alloc (Nat.le_refl _) _
    have fr : Below w.heap.size w ((w.alloc (.cells #[.slice a0 P.length k0, .slice a1 S.length k1, .slice a2 W.length k2] 26)).alloc (.cells #[.slice a3 P'.length k3, .slice a4 S'.length k4, .slice a5 W'.length k5] 26)) := below_step fr hal
    have q_B0_0 := B0.cell 0
    have q_B0_1 := B0.cell 1
    have q_B0_2 := B0.cell 2
    have q_B1_0 := B1.cell 0
    have q_B1_1 := B1.cell 1
    have q_B1_2 := B1.cell 2
    go_enter Tryz.func48, Tryz.ntmps48
    go_wp2_with fail
    clear q_B0_0 q_B0_1 q_B0_2 q_B1_0 q_B1_1 q_B1_2
    refine (slicesEqual_c _ _ P P' _ (hp.below fr (Nat.le_refl _)) (hp'.below fr (Nat.le_refl _))).mono ?_
    rintro e w1 ⟨rfl, hd⟩
    have hbe := hd.below ((w.alloc (.cells #[.slice a0 P.length k0, .slice a1 S.length k1, .slice a2 W.length k2] 26)).alloc (.cells #[.slice a3 P'.length k3, .slice a4 S'.length k4, .slice a5 W'.length k5] 26)).heap.size
    have B0 := B0.stays hbe
    have B1 := B1.stays hbe
    have fr := below_step fr hbe
    have q_B0_0 := B0.cell 0
    have q_B0_1 := B0.cell 1
    have q_B0_2 := B0.cell 2
    have q_B1_0 := B1.cell 0
    have q_B1_1 := B1.cell 1
    have q_B1_2 := B1.cell 2
    go_wp2_with fail
    clear q_B0_0 q_B0_1 q_B0_2 q_B1_0 q_B1_1 q_B1_2
    refine (slicesEqual_c _ _ S S' _ (hs.below fr (Nat.le_refl _)) (hs'.below fr (Nat.le_refl _))).mono ?_
    rintro e w2 ⟨rfl, hd⟩
    have hbe := hd.below w1.heap.size
    have fr := below_step fr hbe
    go_wp2
    go_ret
    exact ⟨ret_bool (by simp [likeB, h1]), fr⟩

set_option maxHeartbeats 1000000 in
theorem l07Alike_c (p s q p' s' q' : Value) (P S W P' S' W' : List Int) (w : World) (hp : Rd w p P) (hs : Rd w s S) (hq : Rd w q W) (hp' : Rd w p' P') (hs' : Rd w s' S') (hq' : Rd w q' W') :
    Calls Tryz.prog 52 #[.agg #[p, s, q], .agg #[p', s', q']] w fun e w' => e = .returned (.int .i64 (pairC P S W P' S' W')) ∧ Below w.heap.size w w' := by
  obtain ⟨a0, k0, rfl⟩ := hp.len0
  obtain ⟨a1, k1, rfl⟩ := hs.len0
  obtain ⟨a2, k2, rfl⟩ := hq.len0
  obtain ⟨a3, k3, rfl⟩ := hp'.len0
  obtain ⟨a4, k4, rfl⟩ := hs'.len0
  obtain ⟨a5, k5, rfl⟩ := hq'.len0
  cases h1 : cluB P S W
  · skip
    have B0 := Blk.new w 26 #[.slice a0 P.length k0, .slice a1 S.length k1, .slice a2 W.length k2]
    have hal : Below w.heap.size w (w.alloc (.cells #[.slice a0 P.length k0, .slice a1 S.length k1, .slice a2 W.length k2] 26)) := (Below.refl _ _).alloc (Nat.le_refl _) _
    have fr : Below w.heap.size w (w.alloc (.cells #[.slice a0 P.length k0, .slice a1 S.length k1, .slice a2 W.length k2] 26)) := hal
    have B0 := B0.alloc (.cells #[.slice a3 P'.length k3, .slice a4 S'.length k4, .slice a5 W'.length k5] 26)
    have B1 := Blk.new (w.alloc (.cells #[.slice a0 P.length k0, .slice a1 S.length k1, .slice a2 W.length k2] 26)) 26 #[.slice a3 P'.length k3, .slice a4 S'.length k4, .slice a5 W'.length k5]
    simp only [World.size_alloc] at B1
    have hal : Below (w.alloc (.cells #[.slice a0 P.length k0, .slice a1 S.length k1, .slice a2 W.length k2] 26)).heap.size (w.alloc (.cells #[.slice a0 P.length k0, .slice a1 S.length k1, .slice a2 W.length k2] 26)) ((w.alloc (.cells #[.slice a0 P.length k0, .slice a1 S.length k1, .slice a2 W.length k2] 26)).alloc (.cells #[.slice a3 P'.length k3, .slice a4 S'.length k4, .slice a5 W'.length k5] 26)) := (Below.refl _ _).alloc (Nat.le_refl _) _
    have fr : Below w.heap.size w ((w.alloc (.cells #[.slice a0 P.length k0, .slice a1 S.length k1, .slice a2 W.length k2] 26)).alloc (.cells #[.slice a3 P'.length k3, .slice a4 S'.length k4, .slice a5 W'.length k5] 26)) := below_step fr hal
    have q_B0_0 := B0.cell 0
    have q_B0_1 := B0.cell 1
    have q_B0_2 := B0.cell 2
    have q_B1_0 := B1.cell 0
    have q_B1_1 := B1.cell 1
    have q_B1_2 := B1.cell 2
    go_enter Tryz.func52, Tryz.ntmps52
    go_wp2_with fail
    clear q_B0_0 q_B0_1 q_B0_2 q_B1_0 q_B1_1 q_B1_2
    refine (l07Is_c _ _ _ P S W _ (hp.below fr (Nat.le_refl _)) (hs.below fr (Nat.le_refl _)) (hq.below fr (Nat.le_refl _))).mono ?_
    rintro e w1 ⟨rfl, hbe⟩
    have B0 := B0.stays hbe
    have B1 := B1.stays hbe
    have sz1 := Below.size hbe
    have fr := below_step fr hbe
    have q_B0_0 := B0.cell 0
    have q_B0_1 := B0.cell 1
    have q_B0_2 := B0.cell 2
    have q_B1_0 := B1.cell 0
    have q_B1_1 := B1.cell 1
    have q_B1_2 := B1.cell 2
    go_wp2
    go_ret
    exact ⟨ret_int (pairC_1a h1).symm, fr⟩
  cases h2 : cluB P' S' W'
  · skip
    have B0 := Blk.new w 26 #[.slice a0 P.length k0, .slice a1 S.length k1, .slice a2 W.length k2]
    have hal : Below w.heap.size w (w.alloc (.cells #[.slice a0 P.length k0, .slice a1 S.length k1, .slice a2 W.length k2] 26)) := (Below.refl _ _).alloc (Nat.le_refl _) _
    have fr : Below w.heap.size w (w.alloc (.cells #[.slice a0 P.length k0, .slice a1 S.length k1, .slice a2 W.length k2] 26)) := hal
    have B0 := B0.alloc (.cells #[.slice a3 P'.length k3, .slice a4 S'.length k4, .slice a5 W'.length k5] 26)
    have B1 := Blk.new (w.alloc (.cells #[.slice a0 P.length k0, .slice a1 S.length k1, .slice a2 W.length k2] 26)) 26 #[.slice a3 P'.length k3, .slice a4 S'.length k4, .slice a5 W'.length k5]
    simp only [World.size_alloc] at B1
    have hal : Below (w.alloc (.cells #[.slice a0 P.length k0, .slice a1 S.length k1, .slice a2 W.length k2] 26)).heap.size (w.alloc (.cells #[.slice a0 P.length k0, .slice a1 S.length k1, .slice a2 W.length k2] 26)) ((w.alloc (.cells #[.slice a0 P.length k0, .slice a1 S.length k1, .slice a2 W.length k2] 26)).alloc (.cells #[.slice a3 P'.length k3, .slice a4 S'.length k4, .slice a5 W'.length k5] 26)) := (Below.refl _ _).alloc (Nat.le_refl _) _
    have fr : Below w.heap.size w ((w.alloc (.cells #[.slice a0 P.length k0, .slice a1 S.length k1, .slice a2 W.length k2] 26)).alloc (.cells #[.slice a3 P'.length k3, .slice a4 S'.length k4, .slice a5 W'.length k5] 26)) := below_step fr hal
    have q_B0_0 := B0.cell 0
    have q_B0_1 := B0.cell 1
    have q_B0_2 := B0.cell 2
    have q_B1_0 := B1.cell 0
    have q_B1_1 := B1.cell 1
    have q_B1_2 := B1.cell 2
    go_enter Tryz.func52, Tryz.ntmps52
    go_wp2_with fail
    clear q_B0_0 q_B0_1 q_B0_2 q_B1_0 q_B1_1 q_B1_2
    refine (l07Is_c _ _ _ P S W _ (hp.below fr (Nat.le_refl _)) (hs.below fr (Nat.le_refl _)) (hq.below fr (Nat.le_refl _))).mono ?_
    rintro e w1 ⟨rfl, hbe⟩
    have B0 := B0.stays hbe
    have B1 := B1.stays hbe
    have sz1 := Below.size hbe
    have fr := below_step fr hbe
    have q_B0_0 := B0.cell 0
    have q_B0_1 := B0.cell 1
    have q_B0_2 := B0.cell 2
    have q_B1_0 := B1.cell 0
    have q_B1_1 := B1.cell 1
    have q_B1_2 := B1.cell 2
    go_wp2_with fail
    clear q_B0_0 q_B0_1 q_B0_2 q_B1_0 q_B1_1 q_B1_2
    refine (l07Is_c _ _ _ P' S' W' _ (hp'.below fr (Nat.le_refl _)) (hs'.below fr (Nat.le_refl _)) (hq'.below fr (Nat.le_refl _))).mono ?_
    rintro e w2 ⟨rfl, hbe⟩
    have B0 := B0.stays hbe
    have B1 := B1.stays hbe
    have sz2 := Below.size hbe
    have fr := below_step fr hbe
    have q_B0_0 := B0.cell 0
    have q_B0_1 := B0.cell 1
    have q_B0_2 := B0.cell 2
    have q_B1_0 := B1.cell 0
    have q_B1_1 := B1.cell 1
    have q_B1_2 := B1.cell 2
    go_wp2
    go_ret
    exact ⟨ret_int (pairC_1b h2).symm, fr⟩
  cases h3 : eqB P P'
  · skip
    have B0 := Blk.new w 26 #[.slice a0 P.length k0, .slice a1 S.length k1, .slice a2 W.length k2]
    have hal : Below w.heap.size w (w.alloc (.cells #[.slice a0 P.length k0, .slice a1 S.length k1, .slice a2 W.length k2] 26)) := (Below.refl _ _).alloc (Nat.le_refl _) _
    have fr : Below w.heap.size w (w.alloc (.cells #[.slice a0 P.length k0, .slice a1 S.length k1, .slice a2 W.length k2] 26)) := hal
    have B0 := B0.alloc (.cells #[.slice a3 P'.length k3, .slice a4 S'.length k4, .slice a5 W'.length k5] 26)
    have B1 := Blk.new (w.alloc (.cells #[.slice a0 P.length k0, .slice a1 S.length k1, .slice a2 W.length k2] 26)) 26 #[.slice a3 P'.length k3, .slice a4 S'.length k4, .slice a5 W'.length k5]
    simp only [World.size_alloc] at B1
    have hal : Below (w.alloc (.cells #[.slice a0 P.length k0, .slice a1 S.length k1, .slice a2 W.length k2] 26)).heap.size (w.alloc (.cells #[.slice a0 P.length k0, .slice a1 S.length k1, .slice a2 W.length k2] 26)) ((w.alloc (.cells #[.slice a0 P.length k0, .slice a1 S.length k1, .slice a2 W.length k2] 26)).alloc (.cells #[.slice a3 P'.length k3, .slice a4 S'.length k4, .slice a5 W'.length k5] 26)) := (Below.refl _ _).alloc (Nat.le_refl _) _
    have fr : Below w.heap.size w ((w.alloc (.cells #[.slice a0 P.length k0, .slice a1 S.length k1, .slice a2 W.length k2] 26)).alloc (.cells #[.slice a3 P'.length k3, .slice a4 S'.length k4, .slice a5 W'.length k5] 26)) := below_step fr hal
    have q_B0_0 := B0.cell 0
    have q_B0_1 := B0.cell 1
    have q_B0_2 := B0.cell 2
    have q_B1_0 := B1.cell 0
    have q_B1_1 := B1.cell 1
    have q_B1_2 := B1.cell 2
    go_enter Tryz.func52, Tryz.ntmps52
    go_wp2_with fail
    clear q_B0_0 q_B0_1 q_B0_2 q_B1_0 q_B1_1 q_B1_2
    refine (l07Is_c _ _ _ P S W _ (hp.below fr (Nat.le_refl _)) (hs.below fr (Nat.le_refl _)) (hq.below fr (Nat.le_refl _))).mono ?_
    rintro e w1 ⟨rfl, hbe⟩
    have B0 := B0.stays hbe
    have B1 := B1.stays hbe
    have sz1 := Below.size hbe
    have fr := below_step fr hbe
    have q_B0_0 := B0.cell 0
    have q_B0_1 := B0.cell 1
    have q_B0_2 := B0.cell 2
    have q_B1_0 := B1.cell 0
    have q_B1_1 := B1.cell 1
    have q_B1_2 := B1.cell 2
    go_wp2_with fail
    clear q_B0_0 q_B0_1 q_B0_2 q_B1_0 q_B1_1 q_B1_2
    refine (l07Is_c _ _ _ P' S' W' _ (hp'.below fr (Nat.le_refl _)) (hs'.below fr (Nat.le_refl _)) (hq'.below fr (Nat.le_refl _))).mono ?_
    rintro e w2 ⟨rfl, hbe⟩
    have B0 := B0.stays hbe
    have B1 := B1.stays hbe
    have sz2 := Below.size hbe
    have fr := below_step fr hbe
    have q_B0_0 := B0.cell 0
    have q_B0_1 := B0.cell 1
    have q_B0_2 := B0.cell 2
    have q_B1_0 := B1.cell 0
    have q_B1_1 := B1.cell 1
    have q_B1_2 := B1.cell 2
    go_wp2_with fail
    clear q_B0_0 q_B0_1 q_B0_2 q_B1_0 q_B1_1 q_B1_2
    refine (l01Same_c _ _ P P' _ (hp.below fr (Nat.le_refl _)) (hp'.below fr (Nat.le_refl _))).mono ?_
    rintro e w3 ⟨rfl, hd⟩
    have hbe := hd.below w2.heap.size
    have B0 := B0.stays hbe
    have B1 := B1.stays hbe
    have fr := below_step fr hbe
    have q_B0_0 := B0.cell 0
    have q_B0_1 := B0.cell 1
    have q_B0_2 := B0.cell 2
    have q_B1_0 := B1.cell 0
    have q_B1_1 := B1.cell 1
    have q_B1_2 := B1.cell 2
    go_wp2
    go_ret
    exact ⟨ret_int (pairC_2 h1 h2 (by simp [likeB, h3])).symm, fr⟩
  cases h4 : eqB S S'
  · skip
    have B0 := Blk.new w 26 #[.slice a0 P.length k0, .slice a1 S.length k1, .slice a2 W.length k2]
    have hal : Below w.heap.size w (w.alloc (.cells #[.slice a0 P.length k0, .slice a1 S.length k1, .slice a2 W.length k2] 26)) := (Below.refl _ _).alloc (Nat.le_refl _) _
    have fr : Below w.heap.size w (w.alloc (.cells #[.slice a0 P.length k0, .slice a1 S.length k1, .slice a2 W.length k2] 26)) := hal
    have B0 := B0.alloc (.cells #[.slice a3 P'.length k3, .slice a4 S'.length k4, .slice a5 W'.length k5] 26)
    have B1 := Blk.new (w.alloc (.cells #[.slice a0 P.length k0, .slice a1 S.length k1, .slice a2 W.length k2] 26)) 26 #[.slice a3 P'.length k3, .slice a4 S'.length k4, .slice a5 W'.length k5]
    simp only [World.size_alloc] at B1
    have hal : Below (w.alloc (.cells #[.slice a0 P.length k0, .slice a1 S.length k1, .slice a2 W.length k2] 26)).heap.size (w.alloc (.cells #[.slice a0 P.length k0, .slice a1 S.length k1, .slice a2 W.length k2] 26)) ((w.alloc (.cells #[.slice a0 P.length k0, .slice a1 S.length k1, .slice a2 W.length k2] 26)).alloc (.cells #[.slice a3 P'.length k3, .slice a4 S'.length k4, .slice a5 W'.length k5] 26)) := (Below.refl _ _).alloc (Nat.le_refl _) _
    have fr : Below w.heap.size w ((w.alloc (.cells #[.slice a0 P.length k0, .slice a1 S.length k1, .slice a2 W.length k2] 26)).alloc (.cells #[.slice a3 P'.length k3, .slice a4 S'.length k4, .slice a5 W'.length k5] 26)) := below_step fr hal
    have q_B0_0 := B0.cell 0
    have q_B0_1 := B0.cell 1
    have q_B0_2 := B0.cell 2
    have q_B1_0 := B1.cell 0
    have q_B1_1 := B1.cell 1
    have q_B1_2 := B1.cell 2
    go_enter Tryz.func52, Tryz.ntmps52
    go_wp2_with fail
    clear q_B0_0 q_B0_1 q_B0_2 q_B1_0 q_B1_1 q_B1_2
    refine (l07Is_c _ _ _ P S W _ (hp.below fr (Nat.le_refl _)) (hs.below fr (Nat.le_refl _)) (hq.below fr (Nat.le_refl _))).mono ?_
    rintro e w1 ⟨rfl, hbe⟩
    have B0 := B0.stays hbe
    have B1 := B1.stays hbe
    have sz1 := Below.size hbe
    have fr := below_step fr hbe
    have q_B0_0 := B0.cell 0
    have q_B0_1 := B0.cell 1
    have q_B0_2 := B0.cell 2
    have q_B1_0 := B1.cell 0
    have q_B1_1 := B1.cell 1
    have q_B1_2 := B1.cell 2
    go_wp2_with fail
    clear q_B0_0 q_B0_1 q_B0_2 q_B1_0 q_B1_1 q_B1_2
    refine (l07Is_c _ _ _ P' S' W' _ (hp'.below fr (Nat.le_refl _)) (hs'.below fr (Nat.le_refl _)) (hq'.below fr (Nat.le_refl _))).mono ?_
    rintro e w2 ⟨rfl, hbe⟩
    have B0 := B0.stays hbe
    have B1 := B1.stays hbe
    have sz2 := Below.size hbe
    have fr := below_step fr hbe
    have q_B0_0 := B0.cell 0
    have q_B0_1 := B0.cell 1
    have q_B0_2 := B0.cell 2
    have q_B1_0 := B1.cell 0
    have q_B1_1 := B1.cell 1
    have q_B1_2 := B1.cell 2
    go_wp2_with fail
    clear q_B0_0 q_B0_1 q_B0_2 q_B1_0 q_B1_1 q_B1_2
    refine (l01Same_c _ _ P P' _ (hp.below fr (Nat.le_refl _)) (hp'.below fr (Nat.le_refl _))).mono ?_
    rintro e w3 ⟨rfl, hd⟩
    have hbe := hd.below w2.heap.size
    have B0 := B0.stays hbe
    have B1 := B1.stays hbe
    have fr := below_step fr hbe
    have q_B0_0 := B0.cell 0
    have q_B0_1 := B0.cell 1
    have q_B0_2 := B0.cell 2
    have q_B1_0 := B1.cell 0
    have q_B1_1 := B1.cell 1
    have q_B1_2 := B1.cell 2
    go_wp2_with fail
    clear q_B0_0 q_B0_1 q_B0_2 q_B1_0 q_B1_1 q_B1_2
    refine (l01Same_c _ _ S S' _ (hs.below fr (Nat.le_refl _)) (hs'.below fr (Nat.le_refl _))).mono ?_
    rintro e w4 ⟨rfl, hd⟩
    have hbe := hd.below w3.heap.size
    have B0 := B0.stays hbe
    have B1 := B1.stays hbe
    have fr := below_step fr hbe
    have q_B0_0 := B0.cell 0
    have q_B0_1 := B0.cell 1
    have q_B0_2 := B0.cell 2
    have q_B1_0 := B1.cell 0
    have q_B1_1 := B1.cell 1
    have q_B1_2 := B1.cell 2
    go_wp2
    go_ret
    exact ⟨ret_int (pairC_2 h1 h2 (by simp [likeB, h4])).symm, fr⟩
  · skip
    have B0 := Blk.new w 26 #[.slice a0 P.length k0, .slice a1 S.length k1, .slice a2 W.length k2]
    have hal : Below w.heap.size w (w.alloc (.cells #[.slice a0 P.length k0, .slice a1 S.length k1, .slice a2 W.length k2] 26)) := (Below.refl _ _).alloc (Nat.le_refl _) _
    have fr : Below w.heap.size w (w.alloc (.cells #[.slice a0 P.length k0, .slice a1 S.length k1, .slice a2 W.length k2] 26)) := hal
    have B0 := B0.alloc (.cells #[.slice a3 P'.length k3, .slice a4 S'.length k4, .slice a5 W'.length k5] 26)
    have B1 := Blk.new (w.alloc (.cells #[.slice a0 P.length k0, .slice a1 S.length k1, .slice a2 W.length k2] 26)) 26 #[.slice a3 P'.length k3, .slice a4 S'.length k4, .slice a5 W'.length k5]
    simp only [World.size_alloc] at B1
    have hal : Below (w.alloc (.cells #[.slice a0 P.length k0, .slice a1 S.length k1, .slice a2 W.length k2] 26)).heap.size (w.alloc (.cells #[.slice a0 P.length k0, .slice a1 S.length k1, .slice a2 W.length k2] 26)) ((w.alloc (.cells #[.slice a0 P.length k0, .slice a1 S.length k1, .slice a2 W.length k2] 26)).alloc (.cells #[.slice a3 P'.length k3, .slice a4 S'.length k4, .slice a5 W'.length k5] 26)) := (Below.refl _ _).alloc (Nat.le_refl _) _
    have fr : Below w.heap.size w ((w.alloc (.cells #[.slice a0 P.length k0, .slice a1 S.length k1, .slice a2 W.length k2] 26)).alloc (.cells #[.slice a3 P'.length k3, .slice a4 S'.length k4, .slice a5 W'.length k5] 26)) := below_step fr hal
    have q_B0_0 := B0.cell 0
    have q_B0_1 := B0.cell 1
    have q_B0_2 := B0.cell 2
    have q_B1_0 := B1.cell 0
    have q_B1_1 := B1.cell 1
    have q_B1_2 := B1.cell 2
    go_enter Tryz.func52, Tryz.ntmps52
    go_wp2_with fail
    clear q_B0_0 q_B0_1 q_B0_2 q_B1_0 q_B1_1 q_B1_2
    refine (l07Is_c _ _ _ P S W _ (hp.below fr (Nat.le_refl _)) (hs.below fr (Nat.le_refl _)) (hq.below fr (Nat.le_refl _))).mono ?_
    rintro e w1 ⟨rfl, hbe⟩
    have B0 := B0.stays hbe
    have B1 := B1.stays hbe
    have sz1 := Below.size hbe
    have fr := below_step fr hbe
    have q_B0_0 := B0.cell 0
    have q_B0_1 := B0.cell 1
    have q_B0_2 := B0.cell 2
    have q_B1_0 := B1.cell 0
    have q_B1_1 := B1.cell 1
    have q_B1_2 := B1.cell 2
    go_wp2_with fail
    clear q_B0_0 q_B0_1 q_B0_2 q_B1_0 q_B1_1 q_B1_2
    refine (l07Is_c _ _ _ P' S' W' _ (hp'.below fr (Nat.le_refl _)) (hs'.below fr (Nat.le_refl _)) (hq'.below fr (Nat.le_refl _))).mono ?_
    rintro e w2 ⟨rfl, hbe⟩
    have B0 := B0.stays hbe
    have B1 := B1.stays hbe
    have sz2 := Below.size hbe
    have fr := below_step fr hbe
    have q_B0_0 := B0.cell 0
    have q_B0_1 := B0.cell 1
    have q_B0_2 := B0.cell 2
    have q_B1_0 := B1.cell 0
    have q_B1_1 := B1.cell 1
    have q_B1_2 := B1.cell 2
    go_wp2_with fail
    clear q_B0_0 q_B0_1 q_B0_2 q_B1_0 q_B1_1 q_B1_2
    refine (l01Same_c _ _ P P' _ (hp.below fr (Nat.le_refl _)) (hp'.below fr (Nat.le_refl _))).mono ?_
    rintro e w3 ⟨rfl, hd⟩
    have hbe := hd.below w2.heap.size
    have B0 := B0.stays hbe
    have B1 := B1.stays hbe
    have fr := below_step fr hbe
    have q_B0_0 := B0.cell 0
    have q_B0_1 := B0.cell 1
    have q_B0_2 := B0.cell 2
    have q_B1_0 := B1.cell 0
    have q_B1_1 := B1.cell 1
    have q_B1_2 := B1.cell 2
    go_wp2_with fail
    clear q_B0_0 q_B0_1 q_B0_2 q_B1_0 q_B1_1 q_B1_2
    refine (l01Same_c _ _ S S' _ (hs.below fr (Nat.le_refl _)) (hs'.below fr (Nat.le_refl _))).mono ?_
    rintro e w4 ⟨rfl, hd⟩
    have hbe := hd.below w3.heap.size
    have B0 := B0.stays hbe
    have B1 := B1.stays hbe
    have fr := below_step fr hbe
    have q_B0_0 := B0.cell 0
    have q_B0_1 := B0.cell 1
    have q_B0_2 := B0.cell 2
    have q_B1_0 := B1.cell 0
    have q_B1_1 := B1.cell 1
    have q_B1_2 := B1.cell 2
    go_wp2
    go_ret
    exact ⟨ret_int (pairC_0 h1 h2 (by simp [likeB, h3, h4])).symm, fr⟩

set_option maxHeartbeats 1000000 in
theorem specMultiply_c (p s q p' s' q' : Value) (P S W P' S' W' : List Int) (w : World) (hp : Rd w p P) (hs : Rd w s S) (hq : Rd w q W) (hp' : Rd w p' P') (hs' : Rd w s' S') (hq' : Rd w q' W') :
    Calls Tryz.prog 20 #[.agg #[p, s, q], .agg #[p', s', q']] w fun e w' => e = .returned (.tuple #[.int .i64 (okN (pairB P S W P' S' W') (dotTo W W' W.length)), .int .i64 (pairC P S W P' S' W')]) ∧ Below w.heap.size w w' := by
  obtain ⟨a0, k0, rfl⟩ := hp.len0
  obtain ⟨a1, k1, rfl⟩ := hs.len0
  obtain ⟨a2, k2, rfl⟩ := hq.len0
  obtain ⟨a3, k3, rfl⟩ := hp'.len0
  obtain ⟨a4, k4, rfl⟩ := hs'.len0
  obtain ⟨a5, k5, rfl⟩ := hq'.len0
  rcases pairC_or P S W P' S' W' with ⟨hb, h0⟩ | ⟨hb, hne⟩
  · skip
    rw [okN_true hb, h0]
    obtain ⟨g1, g2, g3⟩ := pairB_iff.1 hb
    have hk1 := cluB_iff.1 g1
    have hk2 := cluB_iff.1 g2
    have hPP := (likeB_iff.1 g3).1
    have hWW : W.length = W'.length := by have := congrArg List.length hPP; have := hk1.1; have := hk2.1; omega
    have hW24 : W.length ≤ 24 := by have := hk1.1; omega
    have bW := hk1.2.1
    have bW' : ∀ i, i < W.length → -100000 ≤ gI W' i ∧ gI W' i ≤ 100000 := fun i hi => hk2.2.1 i (by omega)
    have H0 := Lib.hid h0
    have HW := Lib.hid hWW
    have HB := Lib.hid bW
    have HB' := Lib.hid bW'
    clear h0 hWW bW bW' hk1 hk2 hPP
    have B0 := Blk.new w 26 #[.slice a0 P.length k0, .slice a1 S.length k1, .slice a2 W.length k2]
    have hal : Below w.heap.size w (w.alloc (.cells #[.slice a0 P.length k0, .slice a1 S.length k1, .slice a2 W.length k2] 26)) := (Below.refl _ _).alloc (Nat.le_refl _) _
    have fr : Below w.heap.size w (w.alloc (.cells #[.slice a0 P.length k0, .slice a1 S.length k1, .slice a2 W.length k2] 26)) := hal
    have B0 := B0.alloc (.cells #[.slice a3 P'.length k3, .slice a4 S'.length k4, .slice a5 W'.length k5] 26)
    have B1 := Blk.new (w.alloc (.cells #[.slice a0 P.length k0, .slice a1 S.length k1, .slice a2 W.length k2] 26)) 26 #[.slice a3 P'.length k3, .slice a4 S'.length k4, .slice a5 W'.length k5]
    simp only [World.size_alloc] at B1
    have hal : Below (w.alloc (.cells #[.slice a0 P.length k0, .slice a1 S.length k1, .slice a2 W.length k2] 26)).heap.size (w.alloc (.cells #[.slice a0 P.length k0, .slice a1 S.length k1, .slice a2 W.length k2] 26)) ((w.alloc (.cells #[.slice a0 P.length k0, .slice a1 S.length k1, .slice a2 W.length k2] 26)).alloc (.cells #[.slice a3 P'.length k3, .slice a4 S'.length k4, .slice a5 W'.length k5] 26)) := (Below.refl _ _).alloc (Nat.le_refl _) _
    have fr : Below w.heap.size w ((w.alloc (.cells #[.slice a0 P.length k0, .slice a1 S.length k1, .slice a2 W.length k2] 26)).alloc (.cells #[.slice a3 P'.length k3, .slice a4 S'.length k4, .slice a5 W'.length k5] 26)) := below_step fr hal
    have q_B0_0 := B0.cell 0
    have q_B0_1 := B0.cell 1
    have q_B0_2 := B0.cell 2
    have q_B1_0 := B1.cell 0
    have q_B1_1 := B1.cell 1
    have q_B1_2 := B1.cell 2
    go_enter Tryz.func20, Tryz.ntmps20
    go_wp2_with fail
    clear q_B0_0 q_B0_1 q_B0_2 q_B1_0 q_B1_1 q_B1_2
    refine (l07Alike_c _ _ _ _ _ _ P S W P' S' W' _ (hp.below fr (Nat.le_refl _)) (hs.below fr (Nat.le_refl _)) (hq.below fr (Nat.le_refl _)) (hp'.below fr (Nat.le_refl _)) (hs'.below fr (Nat.le_refl _)) (hq'.below fr (Nat.le_refl _))).mono ?_
    rintro e w1 ⟨rfl, hbe⟩
    have B0 := B0.stays hbe
    have B1 := B1.stays hbe
    have sz1 := Below.size hbe
    have fr := below_step fr hbe
    rw [H0.out]
    have q_B0_0 := B0.cell 0
    have q_B0_1 := B0.cell 1
    have q_B0_2 := B0.cell 2
    have q_B1_0 := B1.cell 0
    have q_B1_1 := B1.cell 1
    have q_B1_2 := B1.cell 2
    go_wp2_with fail
    clear q_B0_0 q_B0_1 q_B0_2 q_B1_0 q_B1_1 q_B1_2
    refine (l07Product_c _ _ W W' _ (hq.below fr (Nat.le_refl _)) (hq'.below fr (Nat.le_refl _)) HW.out (by omega) HB.out HB'.out).mono ?_
    rintro e w2 ⟨rfl, hd⟩
    have fr := below_step fr (hd.below w1.heap.size)
    go_wp2
    go_ret2
    exact ⟨rfl, fr⟩
  · skip
    rw [okN_false hb]
    have hc : (pairC P S W P' S' W' != 0) = true := by simpa using hne
    have B0 := Blk.new w 26 #[.slice a0 P.length k0, .slice a1 S.length k1, .slice a2 W.length k2]
    have hal : Below w.heap.size w (w.alloc (.cells #[.slice a0 P.length k0, .slice a1 S.length k1, .slice a2 W.length k2] 26)) := (Below.refl _ _).alloc (Nat.le_refl _) _
    have fr : Below w.heap.size w (w.alloc (.cells #[.slice a0 P.length k0, .slice a1 S.length k1, .slice a2 W.length k2] 26)) := hal
    have B0 := B0.alloc (.cells #[.slice a3 P'.length k3, .slice a4 S'.length k4, .slice a5 W'.length k5] 26)
    have B1 := Blk.new (w.alloc (.cells #[.slice a0 P.length k0, .slice a1 S.length k1, .slice a2 W.length k2] 26)) 26 #[.slice a3 P'.length k3, .slice a4 S'.length k4, .slice a5 W'.length k5]
    simp only [World.size_alloc] at B1
    have hal : Below (w.alloc (.cells #[.slice a0 P.length k0, .slice a1 S.length k1, .slice a2 W.length k2] 26)).heap.size (w.alloc (.cells #[.slice a0 P.length k0, .slice a1 S.length k1, .slice a2 W.length k2] 26)) ((w.alloc (.cells #[.slice a0 P.length k0, .slice a1 S.length k1, .slice a2 W.length k2] 26)).alloc (.cells #[.slice a3 P'.length k3, .slice a4 S'.length k4, .slice a5 W'.length k5] 26)) := (Below.refl _ _).alloc (Nat.le_refl _) _
    have fr : Below w.heap.size w ((w.alloc (.cells #[.slice a0 P.length k0, .slice a1 S.length k1, .slice a2 W.length k2] 26)).alloc (.cells #[.slice a3 P'.length k3, .slice a4 S'.length k4, .slice a5 W'.length k5] 26)) := below_step fr hal
    have q_B0_0 := B0.cell 0
    have q_B0_1 := B0.cell 1
    have q_B0_2 := B0.cell 2
    have q_B1_0 := B1.cell 0
    have q_B1_1 := B1.cell 1
    have q_B1_2 := B1.cell 2
    go_enter Tryz.func20, Tryz.ntmps20
    go_wp2_with fail
    clear q_B0_0 q_B0_1 q_B0_2 q_B1_0 q_B1_1 q_B1_2
    refine (l07Alike_c _ _ _ _ _ _ P S W P' S' W' _ (hp.below fr (Nat.le_refl _)) (hs.below fr (Nat.le_refl _)) (hq.below fr (Nat.le_refl _)) (hp'.below fr (Nat.le_refl _)) (hs'.below fr (Nat.le_refl _)) (hq'.below fr (Nat.le_refl _))).mono ?_
    rintro e w1 ⟨rfl, hbe⟩
    have B0 := B0.stays hbe
    have B1 := B1.stays hbe
    have sz1 := Below.size hbe
    have fr := below_step fr hbe
    go_wp2
    go_ret2
    exact ⟨rfl, fr⟩

set_option maxHeartbeats 1000000 in
theorem implMultiply_c (p s q p' s' q' : Value) (P S W P' S' W' : List Int) (w : World) (hp : Rd w p P) (hs : Rd w s S) (hq : Rd w q W) (hp' : Rd w p' P') (hs' : Rd w s' S') (hq' : Rd w q' W') :
    Calls Tryz.prog 16 #[.agg #[p, s, q], .agg #[p', s', q']] w fun e w' => e = .returned (.tuple #[.int .i64 (okN (pairB P S W P' S' W') (dotTo W W' W.length)), .int .i64 (pairC P S W P' S' W')]) ∧ Below w.heap.size w w' := by
  obtain ⟨a0, k0, rfl⟩ := hp.len0
  obtain ⟨a1, k1, rfl⟩ := hs.len0
  obtain ⟨a2, k2, rfl⟩ := hq.len0
  obtain ⟨a3, k3, rfl⟩ := hp'.len0
  obtain ⟨a4, k4, rfl⟩ := hs'.len0
  obtain ⟨a5, k5, rfl⟩ := hq'.len0
  cases h1 : cluB P S W
  · skip
    have hb : pairB P S W P' S' W' = false := by simp [pairB, h1]
    rw [okN_false hb, pairC_1a h1]
    clear hb
    have B0 := Blk.new w 26 #[.slice a0 P.length k0, .slice a1 S.length k1, .slice a2 W.length k2]
    have hal : Below w.heap.size w (w.alloc (.cells #[.slice a0 P.length k0, .slice a1 S.length k1, .slice a2 W.length k2] 26)) := (Below.refl _ _).alloc (Nat.le_refl _) _
    have fr : Below w.heap.size w (w.alloc (.cells #[.slice a0 P.length k0, .slice a1 S.length k1, .slice a2 W.length k2] 26)) := hal
    have B0 := B0.alloc (.cells #[.slice a3 P'.length k3, .slice a4 S'.length k4, .slice a5 W'.length k5] 26)
    have B1 := Blk.new (w.alloc (.cells #[.slice a0 P.length k0, .slice a1 S.length k1, .slice a2 W.length k2] 26)) 26 #[.slice a3 P'.length k3, .slice a4 S'.length k4, .slice a5 W'.length k5]
    simp only [World.size_alloc] at B1
    have hal : Below (w.alloc (.cells #[.slice a0 P.length k0, .slice a1 S.length k1, .slice a2 W.length k2] 26)).heap.size (w.alloc (.cells #[.slice a0 P.length k0, .slice a1 S.length k1, .slice a2 W.length k2] 26)) ((w.alloc (.cells #[.slice a0 P.length k0, .slice a1 S.length k1, .slice a2 W.length k2] 26)).alloc (.cells #[.slice a3 P'.length k3, .slice a4 S'.length k4, .slice a5 W'.length k5] 26)) := (Below.refl _ _).alloc (Nat.le_refl _) _
    have fr : Below w.heap.size w ((w.alloc (.cells #[.slice a0 P.length k0, .slice a1 S.length k1, .slice a2 W.length k2] 26)).alloc (.cells #[.slice a3 P'.length k3, .slice a4 S'.length k4, .slice a5 W'.length k5] 26)) := below_step fr hal
    have q_B0_0 := B0.cell 0
    have q_B0_1 := B0.cell 1
    have q_B0_2 := B0.cell 2
    have q_B1_0 := B1.cell 0
    have q_B1_1 := B1.cell 1
    have q_B1_2 := B1.cell 2
    go_enter Tryz.func16, Tryz.ntmps16
    go_wp2_with fail
    clear q_B0_0 q_B0_1 q_B0_2 q_B1_0 q_B1_1 q_B1_2
    refine (implIsCluster_c _ _ _ P S W _ (hp.below fr (Nat.le_refl _)) (hs.below fr (Nat.le_refl _)) (hq.below fr (Nat.le_refl _))).mono ?_
    rintro e w1 ⟨rfl, hbe⟩
    have B0 := B0.stays hbe
    have B1 := B1.stays hbe
    have sz1 := Below.size hbe
    have fr := below_step fr hbe
    have q_B0_0 := B0.cell 0
    have q_B0_1 := B0.cell 1
    have q_B0_2 := B0.cell 2
    have q_B1_0 := B1.cell 0
    have q_B1_1 := B1.cell 1
    have q_B1_2 := B1.cell 2
    go_wp2
    go_ret2
    exact ⟨rfl, fr⟩
  cases h2 : cluB P' S' W'
  · skip
    have hb : pairB P S W P' S' W' = false := by simp [pairB, h2]
    rw [okN_false hb, pairC_1b h2]
    clear hb
    have B0 := Blk.new w 26 #[.slice a0 P.length k0, .slice a1 S.length k1, .slice a2 W.length k2]
    have hal : Below w.heap.size w (w.alloc (.cells #[.slice a0 P.length k0, .slice a1 S.length k1, .slice a2 W.length k2] 26)) := (Below.refl _ _).alloc (Nat.le_refl _) _
    have fr : Below w.heap.size w (w.alloc (.cells #[.slice a0 P.length k0, .slice a1 S.length k1, .slice a2 W.length k2] 26)) := hal
    have B0 := B0.alloc (.cells #[.slice a3 P'.length k3, .slice a4 S'.length k4, .slice a5 W'.length k5] 26)
    have B1 := Blk.new (w.alloc (.cells #[.slice a0 P.length k0, .slice a1 S.length k1, .slice a2 W.length k2] 26)) 26 #[.slice a3 P'.length k3, .slice a4 S'.length k4, .slice a5 W'.length k5]
    simp only [World.size_alloc] at B1
    have hal : Below (w.alloc (.cells #[.slice a0 P.length k0, .slice a1 S.length k1, .slice a2 W.length k2] 26)).heap.size (w.alloc (.cells #[.slice a0 P.length k0, .slice a1 S.length k1, .slice a2 W.length k2] 26)) ((w.alloc (.cells #[.slice a0 P.length k0, .slice a1 S.length k1, .slice a2 W.length k2] 26)).alloc (.cells #[.slice a3 P'.length k3, .slice a4 S'.length k4, .slice a5 W'.length k5] 26)) := (Below.refl _ _).alloc (Nat.le_refl _) _
    have fr : Below w.heap.size w ((w.alloc (.cells #[.slice a0 P.length k0, .slice a1 S.length k1, .slice a2 W.length k2] 26)).alloc (.cells #[.slice a3 P'.length k3, .slice a4 S'.length k4, .slice a5 W'.length k5] 26)) := below_step fr hal
    have q_B0_0 := B0.cell 0
    have q_B0_1 := B0.cell 1
    have q_B0_2 := B0.cell 2
    have q_B1_0 := B1.cell 0
    have q_B1_1 := B1.cell 1
    have q_B1_2 := B1.cell 2
    go_enter Tryz.func16, Tryz.ntmps16
    go_wp2_with fail
    clear q_B0_0 q_B0_1 q_B0_2 q_B1_0 q_B1_1 q_B1_2
    refine (implIsCluster_c _ _ _ P S W _ (hp.below fr (Nat.le_refl _)) (hs.below fr (Nat.le_refl _)) (hq.below fr (Nat.le_refl _))).mono ?_
    rintro e w1 ⟨rfl, hbe⟩
    have B0 := B0.stays hbe
    have B1 := B1.stays hbe
    have sz1 := Below.size hbe
    have fr := below_step fr hbe
    have q_B0_0 := B0.cell 0
    have q_B0_1 := B0.cell 1
    have q_B0_2 := B0.cell 2
    have q_B1_0 := B1.cell 0
    have q_B1_1 := B1.cell 1
    have q_B1_2 := B1.cell 2
    go_wp2_with fail
    clear q_B0_0 q_B0_1 q_B0_2 q_B1_0 q_B1_1 q_B1_2
    refine (implIsCluster_c _ _ _ P' S' W' _ (hp'.below fr (Nat.le_refl _)) (hs'.below fr (Nat.le_refl _)) (hq'.below fr (Nat.le_refl _))).mono ?_
    rintro e w2 ⟨rfl, hbe⟩
    have B0 := B0.stays hbe
    have B1 := B1.stays hbe
    have sz2 := Below.size hbe
    have fr := below_step fr hbe
    have q_B0_0 := B0.cell 0
    have q_B0_1 := B0.cell 1
    have q_B0_2 := B0.cell 2
    have q_B1_0 := B1.cell 0
    have q_B1_1 := B1.cell 1
    have q_B1_2 := B1.cell 2
    go_wp2
    go_ret2
    exact ⟨rfl, fr⟩
  cases h3 : likeB P S P' S'
  · skip
    have hb : pairB P S W P' S' W' = false := by simp [pairB, h3]
    rw [okN_false hb, pairC_2 h1 h2 h3]
    clear hb
    have B0 := Blk.new w 26 #[.slice a0 P.length k0, .slice a1 S.length k1, .slice a2 W.length k2]
    have hal : Below w.heap.size w (w.alloc (.cells #[.slice a0 P.length k0, .slice a1 S.length k1, .slice a2 W.length k2] 26)) := (Below.refl _ _).alloc (Nat.le_refl _) _
    have fr : Below w.heap.size w (w.alloc (.cells #[.slice a0 P.length k0, .slice a1 S.length k1, .slice a2 W.length k2] 26)) := hal
    have B0 := B0.alloc (.cells #[.slice a3 P'.length k3, .slice a4 S'.length k4, .slice a5 W'.length k5] 26)
    have B1 := Blk.new (w.alloc (.cells #[.slice a0 P.length k0, .slice a1 S.length k1, .slice a2 W.length k2] 26)) 26 #[.slice a3 P'.length k3, .slice a4 S'.length k4, .slice a5 W'.length k5]
    simp only [World.size_alloc] at B1
    have hal : Below (w.alloc (.cells #[.slice a0 P.length k0, .slice a1 S.length k1, .slice a2 W.length k2] 26)).heap.size (w.alloc (.cells #[.slice a0 P.length k0, .slice a1 S.length k1, .slice a2 W.length k2] 26)) ((w.alloc (.cells #[.slice a0 P.length k0, .slice a1 S.length k1, .slice a2 W.length k2] 26)).alloc (.cells #[.slice a3 P'.length k3, .slice a4 S'.length k4, .slice a5 W'.length k5] 26)) := (Below.refl _ _).alloc (Nat.le_refl _) _
    have fr : Below w.heap.size w ((w.alloc (.cells #[.slice a0 P.length k0, .slice a1 S.length k1, .slice a2 W.length k2] 26)).alloc (.cells #[.slice a3 P'.length k3, .slice a4 S'.length k4, .slice a5 W'.length k5] 26)) := below_step fr hal
    have q_B0_0 := B0.cell 0
    have q_B0_1 := B0.cell 1
    have q_B0_2 := B0.cell 2
    have q_B1_0 := B1.cell 0
    have q_B1_1 := B1.cell 1
    have q_B1_2 := B1.cell 2
    go_enter Tryz.func16, Tryz.ntmps16
    go_wp2_with fail
    clear q_B0_0 q_B0_1 q_B0_2 q_B1_0 q_B1_1 q_B1_2
    refine (implIsCluster_c _ _ _ P S W _ (hp.below fr (Nat.le_refl _)) (hs.below fr (Nat.le_refl _)) (hq.below fr (Nat.le_refl _))).mono ?_
    rintro e w1 ⟨rfl, hbe⟩
    have B0 := B0.stays hbe
    have B1 := B1.stays hbe
    have sz1 := Below.size hbe
    have fr := below_step fr hbe
    have q_B0_0 := B0.cell 0
    have q_B0_1 := B0.cell 1
    have q_B0_2 := B0.cell 2
    have q_B1_0 := B1.cell 0
    have q_B1_1 := B1.cell 1
    have q_B1_2 := B1.cell 2
    go_wp2_with fail
    clear q_B0_0 q_B0_1 q_B0_2 q_B1_0 q_B1_1 q_B1_2
    refine (implIsCluster_c _ _ _ P' S' W' _ (hp'.below fr (Nat.le_refl _)) (hs'.below fr (Nat.le_refl _)) (hq'.below fr (Nat.le_refl _))).mono ?_
    rintro e w2 ⟨rfl, hbe⟩
    have B0 := B0.stays hbe
    have B1 := B1.stays hbe
    have sz2 := Below.size hbe
    have fr := below_step fr hbe
    have q_B0_0 := B0.cell 0
    have q_B0_1 := B0.cell 1
    have q_B0_2 := B0.cell 2
    have q_B1_0 := B1.cell 0
    have q_B1_1 := B1.cell 1
    have q_B1_2 := B1.cell 2
    go_wp2_with fail
    clear q_B0_0 q_B0_1 q_B0_2 q_B1_0 q_B1_1 q_B1_2
    refine (alike_c _ _ _ _ _ _ P S W P' S' W' _ (hp.below fr (Nat.le_refl _)) (hs.below fr (Nat.le_refl _)) (hq.below fr (Nat.le_refl _)) (hp'.below fr (Nat.le_refl _)) (hs'.below fr (Nat.le_refl _)) (hq'.below fr (Nat.le_refl _))).mono ?_
    rintro e w3 ⟨rfl, hbe⟩
    have B0 := B0.stays hbe
    have B1 := B1.stays hbe
    have sz3 := Below.size hbe
    have fr := below_step fr hbe
    have q_B0_0 := B0.cell 0
    have q_B0_1 := B0.cell 1
    have q_B0_2 := B0.cell 2
    have q_B1_0 := B1.cell 0
    have q_B1_1 := B1.cell 1
    have q_B1_2 := B1.cell 2
    go_wp2
    go_ret2
    exact ⟨rfl, fr⟩
  · skip
    have hb : pairB P S W P' S' W' = true := by simp [pairB, h1, h2, h3]
    rw [okN_true hb, pairC_0 h1 h2 h3]
    have hk1 := cluB_iff.1 h1
    have hk2 := cluB_iff.1 h2
    have hPP := (likeB_iff.1 h3).1
    have hWW : W.length = W'.length := by have := congrArg List.length hPP; have := hk1.1; have := hk2.1; omega
    have hW24 : W.length ≤ 24 := by have := hk1.1; omega
    have bW := hk1.2.1
    have bW' : ∀ i, i < W.length → -100000 ≤ gI W' i ∧ gI W' i ≤ 100000 := fun i hi => hk2.2.1 i (by omega)
    have HW := Lib.hid hWW
    have HB := Lib.hid bW
    have HB' := Lib.hid bW'
    clear hWW bW bW' hk1 hk2 hPP
    clear hb
    have B0 := Blk.new w 26 #[.slice a0 P.length k0, .slice a1 S.length k1, .slice a2 W.length k2]
    have hal : Below w.heap.size w (w.alloc (.cells #[.slice a0 P.length k0, .slice a1 S.length k1, .slice a2 W.length k2] 26)) := (Below.refl _ _).alloc (Nat.le_refl _) _
    have fr : Below w.heap.size w (w.alloc (.cells #[.slice a0 P.length k0, .slice a1 S.length k1, .slice a2 W.length k2] 26)) := hal
    have B0 := B0.alloc (.cells #[.slice a3 P'.length k3, .slice a4 S'.length k4, .slice a5 W'.length k5] 26)
    have B1 := Blk.new (w.alloc (.cells #[.slice a0 P.length k0, .slice a1 S.length k1, .slice a2 W.length k2] 26)) 26 #[.slice a3 P'.length k3, .slice a4 S'.length k4, .slice a5 W'.length k5]
    simp only [World.size_alloc] at B1
    have hal : Below (w.alloc (.cells #[.slice a0 P.length k0, .slice a1 S.length k1, .slice a2 W.length k2] 26)).heap.size (w.alloc (.cells #[.slice a0 P.length k0, .slice a1 S.length k1, .slice a2 W.length k2] 26)) ((w.alloc (.cells #[.slice a0 P.length k0, .slice a1 S.length k1, .slice a2 W.length k2] 26)).alloc (.cells #[.slice a3 P'.length k3, .slice a4 S'.length k4, .slice a5 W'.length k5] 26)) := (Below.refl _ _).alloc (Nat.le_refl _) _
    have fr : Below w.heap.size w ((w.alloc (.cells #[.slice a0 P.length k0, .slice a1 S.length k1, .slice a2 W.length k2] 26)).alloc (.cells #[.slice a3 P'.length k3, .slice a4 S'.length k4, .slice a5 W'.length k5] 26)) := below_step fr hal
    have q_B0_0 := B0.cell 0
    have q_B0_1 := B0.cell 1
    have q_B0_2 := B0.cell 2
    have q_B1_0 := B1.cell 0
    have q_B1_1 := B1.cell 1
    have q_B1_2 := B1.cell 2
    go_enter Tryz.func16, Tryz.ntmps16
    go_wp2_with fail
    clear q_B0_0 q_B0_1 q_B0_2 q_B1_0 q_B1_1 q_B1_2
    refine (implIsCluster_c _ _ _ P S W _ (hp.below fr (Nat.le_refl _)) (hs.below fr (Nat.le_refl _)) (hq.below fr (Nat.le_refl _))).mono ?_
    rintro e w1 ⟨rfl, hbe⟩
    have B0 := B0.stays hbe
    have B1 := B1.stays hbe
    have sz1 := Below.size hbe
    have fr := below_step fr hbe
    have q_B0_0 := B0.cell 0
    have q_B0_1 := B0.cell 1
    have q_B0_2 := B0.cell 2
    have q_B1_0 := B1.cell 0
    have q_B1_1 := B1.cell 1
    have q_B1_2 := B1.cell 2
    go_wp2_with fail
    clear q_B0_0 q_B0_1 q_B0_2 q_B1_0 q_B1_1 q_B1_2
    refine (implIsCluster_c _ _ _ P' S' W' _ (hp'.below fr (Nat.le_refl _)) (hs'.below fr (Nat.le_refl _)) (hq'.below fr (Nat.le_refl _))).mono ?_
    rintro e w2 ⟨rfl, hbe⟩
    have B0 := B0.stays hbe
    have B1 := B1.stays hbe
    have sz2 := Below.size hbe
    have fr := below_step fr hbe
    have q_B0_0 := B0.cell 0
    have q_B0_1 := B0.cell 1
    have q_B0_2 := B0.cell 2
    have q_B1_0 := B1.cell 0
    have q_B1_1 := B1.cell 1
    have q_B1_2 := B1.cell 2
    go_wp2_with fail
    clear q_B0_0 q_B0_1 q_B0_2 q_B1_0 q_B1_1 q_B1_2
    refine (alike_c _ _ _ _ _ _ P S W P' S' W' _ (hp.below fr (Nat.le_refl _)) (hs.below fr (Nat.le_refl _)) (hq.below fr (Nat.le_refl _)) (hp'.below fr (Nat.le_refl _)) (hs'.below fr (Nat.le_refl _)) (hq'.below fr (Nat.le_refl _))).mono ?_
    rintro e w3 ⟨rfl, hbe⟩
    have B0 := B0.stays hbe
    have B1 := B1.stays hbe
    have sz3 := Below.size hbe
    have fr := below_step fr hbe
    have q_B0_0 := B0.cell 0
    have q_B0_1 := B0.cell 1
    have q_B0_2 := B0.cell 2
    have q_B1_0 := B1.cell 0
    have q_B1_1 := B1.cell 1
    have q_B1_2 := B1.cell 2
    go_wp2_with fail
    clear q_B0_0 q_B0_1 q_B0_2 q_B1_0 q_B1_1 q_B1_2
    refine (scalar_c _ _ W W' _ (hq.below fr (Nat.le_refl _)) (hq'.below fr (Nat.le_refl _)) HW.out (by omega) HB.out HB'.out).mono ?_
    rintro e w9 ⟨rfl, hd⟩
    have fr := below_step fr (hd.below w3.heap.size)
    go_wp2
    go_ret2
    exact ⟨rfl, fr⟩
end Go.Proofs.YtglghdkjppcedaaGreatDoor
