/- The walk of 'FnExactMixedProduct': spec.MixedProduct and impl.MixedProduct agree, the arguments stay as they are, and what is handed back lies in new memory. -/
import Derived.Test.YtgjnllialhjhoaaMix
import Derived.Deep.RegionHeld3
namespace Go.Proofs.Ytgjnllialhjhoaa.fnExactMixedProduct
open Go.RowKit

set_option maxRecDepth 100000 in
set_option maxHeartbeats 4000000 in
theorem walk (w : World) (a0 b0 c0 : Value) (P0 S0 W0 : List Int) (ha0 : Rd w a0 P0) (hb0 : Rd w b0 S0) (hc0 : Rd w c0 W0) (a1 b1 c1 : Value) (P1 S1 W1 : List Int) (ha1 : Rd w a1 P1) (hb1 : Rd w b1 S1) (hc1 : Rd w c1 W1) :
    Calls Try.prog 17 #[.agg #[a0, b0, c0], .agg #[a1, b1, c1]] w fun e w' => e = .returned (.bool true) ∧ Below w.heap.size w w' := by
  by_cases hz0 : (P0.length : Int) + (S0.length : Int) + (W0.length : Int) ≤ 1048576
  · skip
    by_cases hz1 : (P0.length : Int) + (S0.length : Int) + (W0.length : Int) + (P1.length : Int) + (S1.length : Int) + (W1.length : Int) ≤ 1048576
    · skip
      have A0 := Blk.new w 49 #[a0, b0, c0]
      have hal : Below w.heap.size w (w.alloc (.cells #[a0, b0, c0] 49)) := (Below.refl _ _).alloc (Nat.le_refl _) _
      have fr : Below w.heap.size w (w.alloc (.cells #[a0, b0, c0] 49)) := hal
      have sa1 : (w.alloc (.cells #[a0, b0, c0] 49)).heap.size ≤ w.heap.size + 1 := by simp
      have sb1 : w.heap.size + 1 ≤ (w.alloc (.cells #[a0, b0, c0] 49)).heap.size := by simp
      have A0 := A0.alloc (.cells #[a1, b1, c1] 49)
      have A1 := Blk.new (w.alloc (.cells #[a0, b0, c0] 49)) 49 #[a1, b1, c1]
      simp only [World.size_alloc] at A1
      have hal : Below (w.alloc (.cells #[a0, b0, c0] 49)).heap.size (w.alloc (.cells #[a0, b0, c0] 49)) ((w.alloc (.cells #[a0, b0, c0] 49)).alloc (.cells #[a1, b1, c1] 49)) := (Below.refl _ _).alloc (Nat.le_refl _) _
      have fr : Below w.heap.size w ((w.alloc (.cells #[a0, b0, c0] 49)).alloc (.cells #[a1, b1, c1] 49)) := below_step fr hal
      have sa2 : ((w.alloc (.cells #[a0, b0, c0] 49)).alloc (.cells #[a1, b1, c1] 49)).heap.size ≤ (w.alloc (.cells #[a0, b0, c0] 49)).heap.size + 1 := by simp
      have sb2 : (w.alloc (.cells #[a0, b0, c0] 49)).heap.size + 1 ≤ ((w.alloc (.cells #[a0, b0, c0] 49)).alloc (.cells #[a1, b1, c1] 49)).heap.size := by simp
      have q_A0_0 := A0.cell 0
      have q_A0_1 := A0.cell 1
      have q_A0_2 := A0.cell 2
      have q_A1_0 := A1.cell 0
      have q_A1_1 := A1.cell 1
      have q_A1_2 := A1.cell 2
      go_enter Try.func17, Try.ntmps17
      go_wp2_with fail
      clear q_A0_0 q_A0_1 q_A0_2 q_A1_0 q_A1_1 q_A1_2
      refine (szCluster_ok _ _ _ P0 S0 W0 1048576 _ (ha0.below fr (Nat.le_refl _)) (hb0.below fr (Nat.le_refl _)) (hc0.below fr (Nat.le_refl _)) (by omega) (by omega) (by omega)).mono ?_
      rintro e w1 ⟨rfl, hq⟩
      have A0 := A0.stays hq
      have A1 := A1.stays hq
      have sz1 := Below.size hq
      have fr := below_step fr hq
      have q_A0_0 := A0.cell 0
      have q_A0_1 := A0.cell 1
      have q_A0_2 := A0.cell 2
      have q_A1_0 := A1.cell 0
      have q_A1_1 := A1.cell 1
      have q_A1_2 := A1.cell 2
      go_wp2_with fail
      clear q_A0_0 q_A0_1 q_A0_2 q_A1_0 q_A1_1 q_A1_2
      refine (szCluster_ok _ _ _ P1 S1 W1 (1048576 - P0.length - S0.length - W0.length) _ (ha1.below fr (Nat.le_refl _)) (hb1.below fr (Nat.le_refl _)) (hc1.below fr (Nat.le_refl _)) (by omega) (by omega) (by omega)).mono ?_
      rintro e w2 ⟨rfl, hq⟩
      have A0 := A0.stays hq
      have A1 := A1.stays hq
      have sz2 := Below.size hq
      have fr := below_step fr hq
      have q_A0_0 := A0.cell 0
      have q_A0_1 := A0.cell 1
      have q_A0_2 := A0.cell 2
      have q_A1_0 := A1.cell 0
      have q_A1_1 := A1.cell 1
      have q_A1_2 := A1.cell 2
      go_wp2_with fail
      have hd : Below w2.heap.size w2 w2.drew := (Below.refl _ _).drew
      have HC : w2.cell? ⟨w.heap.size, 0, none⟩ = some (a0) ∧ w2.cell? ⟨w.heap.size, 1, none⟩ = some (b0) ∧ w2.cell? ⟨w.heap.size, 2, none⟩ = some (c0) ∧ w2.cell? ⟨w.heap.size + 1, 0, none⟩ = some (a1) ∧ w2.cell? ⟨w.heap.size + 1, 1, none⟩ = some (b1) ∧ w2.cell? ⟨w.heap.size + 1, 2, none⟩ = some (c1) := ⟨A0.cell 0, A0.cell 1, A0.cell 2, A1.cell 0, A1.cell 1, A1.cell 2⟩
      clear q_A0_0 q_A0_1 q_A0_2 q_A1_0 q_A1_1 q_A1_2
      have A0 := A0.stays hd
      have A1 := A1.stays hd
      have fr := below_step fr hd
      have sa3 : w2.drew.heap.size ≤ w2.heap.size := Nat.le_refl _
      have sb3 : w2.heap.size ≤ w2.drew.heap.size := Nat.le_refl _
      go_region_held3 (fun w' => w'.cell? ⟨w.heap.size, 0, none⟩ = some (a0) ∧ w'.cell? ⟨w.heap.size, 1, none⟩ = some (b0) ∧ w'.cell? ⟨w.heap.size, 2, none⟩ = some (c0) ∧ w'.cell? ⟨w.heap.size + 1, 0, none⟩ = some (a1) ∧ w'.cell? ⟨w.heap.size + 1, 1, none⟩ = some (b1) ∧ w'.cell? ⟨w.heap.size + 1, 2, none⟩ = some (c1))
        (first | assumption | exact HC)
        (first
          | (go_at_call 45; (with_reducible refine (toCluster_c _ _ _ P0 S0 W0 _ (ha0.below fr (Nat.le_refl _)) (hb0.below fr (Nat.le_refl _)) (hc0.below fr (Nat.le_refl _)) (by omega) (by omega) (by omega)).mono ?_); rintro e w3 ⟨x0, i0, y0, j0, z0, k0, rfl, o0, hq⟩; have A0 := A0.stays hq; have A1 := A1.stays hq; have sz3 := Below.size hq; have fr := below_step fr hq; have rg_o0 := o0.block; have HC : w3.cell? ⟨w.heap.size, 0, none⟩ = some (a0) ∧ w3.cell? ⟨w.heap.size, 1, none⟩ = some (b0) ∧ w3.cell? ⟨w.heap.size, 2, none⟩ = some (c0) ∧ w3.cell? ⟨w.heap.size + 1, 0, none⟩ = some (a1) ∧ w3.cell? ⟨w.heap.size + 1, 1, none⟩ = some (b1) ∧ w3.cell? ⟨w.heap.size + 1, 2, none⟩ = some (c1) := ⟨A0.cell 0, A0.cell 1, A0.cell 2, A1.cell 0, A1.cell 1, A1.cell 2⟩)
          | (go_at_call 45; (with_reducible refine (toCluster_c _ _ _ P1 S1 W1 _ (ha1.below fr (Nat.le_refl _)) (hb1.below fr (Nat.le_refl _)) (hc1.below fr (Nat.le_refl _)) (by omega) (by omega) (by omega)).mono ?_); rintro e w4 ⟨x1, i1, y1, j1, z1, k1, rfl, o1, hq⟩; have A0 := A0.stays hq; have A1 := A1.stays hq; have o0 := o0.below hq; have sz4 := Below.size hq; have fr := below_step fr hq; have rg_o1 := o1.block; have HC : w4.cell? ⟨w.heap.size, 0, none⟩ = some (a0) ∧ w4.cell? ⟨w.heap.size, 1, none⟩ = some (b0) ∧ w4.cell? ⟨w.heap.size, 2, none⟩ = some (c0) ∧ w4.cell? ⟨w.heap.size + 1, 0, none⟩ = some (a1) ∧ w4.cell? ⟨w.heap.size + 1, 1, none⟩ = some (b1) ∧ w4.cell? ⟨w.heap.size + 1, 2, none⟩ = some (c1) := ⟨A0.cell 0, A0.cell 1, A0.cell 2, A1.cell 0, A1.cell 1, A1.cell 2⟩)
          | (go_at_call 65; (with_reducible refine (specMixed_c _ _ _ _ _ _ P0 S0 W0 P1 S1 W1 _ o0.a.rd o0.b.rd o0.c.rd o1.a.rd o1.b.rd o1.c.rd).mono ?_); rintro e w5 ⟨rfl, hq⟩; have A0 := A0.stays hq; have A1 := A1.stays hq; have o0 := o0.below hq; have o1 := o1.below hq; have sz5 := Below.size hq; have fr := below_step fr hq; have HC : w5.cell? ⟨w.heap.size, 0, none⟩ = some (a0) ∧ w5.cell? ⟨w.heap.size, 1, none⟩ = some (b0) ∧ w5.cell? ⟨w.heap.size, 2, none⟩ = some (c0) ∧ w5.cell? ⟨w.heap.size + 1, 0, none⟩ = some (a1) ∧ w5.cell? ⟨w.heap.size + 1, 1, none⟩ = some (b1) ∧ w5.cell? ⟨w.heap.size + 1, 2, none⟩ = some (c1) := ⟨A0.cell 0, A0.cell 1, A0.cell 2, A1.cell 0, A1.cell 1, A1.cell 2⟩))
      have q_A0_0 := A0.cell 0
      have q_A0_1 := A0.cell 1
      have q_A0_2 := A0.cell 2
      have q_A1_0 := A1.cell 0
      have q_A1_1 := A1.cell 1
      have q_A1_2 := A1.cell 2
      go_wp2_with fail
      clear q_A0_0 q_A0_1 q_A0_2 q_A1_0 q_A1_1 q_A1_2
      refine (toCluster_c _ _ _ P0 S0 W0 _ (ha0.below fr (Nat.le_refl _)) (hb0.below fr (Nat.le_refl _)) (hc0.below fr (Nat.le_refl _)) (by omega) (by omega) (by omega)).mono ?_
      rintro e w6 ⟨x2, i2, y2, j2, z2, k2, rfl, o2, hq⟩
      have A0 := A0.stays hq
      have A1 := A1.stays hq
      have sz6 := Below.size hq
      have fr := below_step fr hq
      have rg_o2 := o2.block
      have A0 := A0.alloc (.cells #[.slice x2 P0.length i2, .slice y2 S0.length j2, .slice z2 W0.length k2] 51)
      have A1 := A1.alloc (.cells #[.slice x2 P0.length i2, .slice y2 S0.length j2, .slice z2 W0.length k2] 51)
      have X0 := Blk.new w6 51 #[.slice x2 P0.length i2, .slice y2 S0.length j2, .slice z2 W0.length k2]
      have hal : Below w6.heap.size w6 (w6.alloc (.cells #[.slice x2 P0.length i2, .slice y2 S0.length j2, .slice z2 W0.length k2] 51)) := (Below.refl _ _).alloc (Nat.le_refl _) _
      have o2 := o2.below hal
      have fr := below_step fr hal
      have sa4 : (w6.alloc (.cells #[.slice x2 P0.length i2, .slice y2 S0.length j2, .slice z2 W0.length k2] 51)).heap.size ≤ w6.heap.size + 1 := by simp
      have sb4 : w6.heap.size + 1 ≤ (w6.alloc (.cells #[.slice x2 P0.length i2, .slice y2 S0.length j2, .slice z2 W0.length k2] 51)).heap.size := by simp
      have q_A0_0 := A0.cell 0
      have q_A0_1 := A0.cell 1
      have q_A0_2 := A0.cell 2
      have q_A1_0 := A1.cell 0
      have q_A1_1 := A1.cell 1
      have q_A1_2 := A1.cell 2
      have q_X0_0 := X0.cell 0
      have q_X0_1 := X0.cell 1
      have q_X0_2 := X0.cell 2
      go_wp2_with fail
      clear q_A0_0 q_A0_1 q_A0_2 q_A1_0 q_A1_1 q_A1_2 q_X0_0 q_X0_1 q_X0_2
      refine (toCluster_c _ _ _ P1 S1 W1 _ (ha1.below fr (Nat.le_refl _)) (hb1.below fr (Nat.le_refl _)) (hc1.below fr (Nat.le_refl _)) (by omega) (by omega) (by omega)).mono ?_
      rintro e w7 ⟨x3, i3, y3, j3, z3, k3, rfl, o3, hq⟩
      have A0 := A0.stays hq
      have A1 := A1.stays hq
      have X0 := X0.stays hq
      have o2 := o2.below hq
      have sz7 := Below.size hq
      have fr := below_step fr hq
      have rg_o3 := o3.block
      have A0 := A0.alloc (.cells #[.slice x3 P1.length i3, .slice y3 S1.length j3, .slice z3 W1.length k3] 51)
      have A1 := A1.alloc (.cells #[.slice x3 P1.length i3, .slice y3 S1.length j3, .slice z3 W1.length k3] 51)
      have X0 := X0.alloc (.cells #[.slice x3 P1.length i3, .slice y3 S1.length j3, .slice z3 W1.length k3] 51)
      have X1 := Blk.new w7 51 #[.slice x3 P1.length i3, .slice y3 S1.length j3, .slice z3 W1.length k3]
      have hal : Below w7.heap.size w7 (w7.alloc (.cells #[.slice x3 P1.length i3, .slice y3 S1.length j3, .slice z3 W1.length k3] 51)) := (Below.refl _ _).alloc (Nat.le_refl _) _
      have o2 := o2.below hal
      have o3 := o3.below hal
      have fr := below_step fr hal
      have sa5 : (w7.alloc (.cells #[.slice x3 P1.length i3, .slice y3 S1.length j3, .slice z3 W1.length k3] 51)).heap.size ≤ w7.heap.size + 1 := by simp
      have sb5 : w7.heap.size + 1 ≤ (w7.alloc (.cells #[.slice x3 P1.length i3, .slice y3 S1.length j3, .slice z3 W1.length k3] 51)).heap.size := by simp
      have q_A0_0 := A0.cell 0
      have q_A0_1 := A0.cell 1
      have q_A0_2 := A0.cell 2
      have q_A1_0 := A1.cell 0
      have q_A1_1 := A1.cell 1
      have q_A1_2 := A1.cell 2
      have q_X0_0 := X0.cell 0
      have q_X0_1 := X0.cell 1
      have q_X0_2 := X0.cell 2
      have q_X1_0 := X1.cell 0
      have q_X1_1 := X1.cell 1
      have q_X1_2 := X1.cell 2
      go_wp2_with fail
      clear q_A0_0 q_A0_1 q_A0_2 q_A1_0 q_A1_1 q_A1_2 q_X0_0 q_X0_1 q_X0_2 q_X1_0 q_X1_1 q_X1_2
      refine (implMixed_c _ _ _ _ _ _ P0 S0 W0 P1 S1 W1 _ o2.a.rd o2.b.rd o2.c.rd o3.a.rd o3.b.rd o3.c.rd).mono ?_
      rintro e w8 ⟨rfl, hq⟩
      have A0 := A0.stays hq
      have A1 := A1.stays hq
      have X0 := X0.stays hq
      have X1 := X1.stays hq
      have o2 := o2.below hq
      have o3 := o3.below hq
      have sz8 := Below.size hq
      have fr := below_step fr hq
      have q_A0_0 := A0.cell 0
      have q_A0_1 := A0.cell 1
      have q_A0_2 := A0.cell 2
      have q_A1_0 := A1.cell 0
      have q_A1_1 := A1.cell 1
      have q_A1_2 := A1.cell 2
      have q_X0_0 := X0.cell 0
      have q_X0_1 := X0.cell 1
      have q_X0_2 := X0.cell 2
      have q_X1_0 := X1.cell 0
      have q_X1_1 := X1.cell 1
      have q_X1_2 := X1.cell 2
      go_wp2_with fail
      have hd : Below w8.heap.size w8 w8.drew := (Below.refl _ _).drew
      have HC : w8.cell? ⟨w.heap.size, 0, none⟩ = some (a0) ∧ w8.cell? ⟨w.heap.size, 1, none⟩ = some (b0) ∧ w8.cell? ⟨w.heap.size, 2, none⟩ = some (c0) ∧ w8.cell? ⟨w.heap.size + 1, 0, none⟩ = some (a1) ∧ w8.cell? ⟨w.heap.size + 1, 1, none⟩ = some (b1) ∧ w8.cell? ⟨w.heap.size + 1, 2, none⟩ = some (c1) ∧ w8.cell? ⟨w6.heap.size, 0, none⟩ = some (.slice x2 P0.length i2) ∧ w8.cell? ⟨w6.heap.size, 1, none⟩ = some (.slice y2 S0.length j2) ∧ w8.cell? ⟨w6.heap.size, 2, none⟩ = some (.slice z2 W0.length k2) ∧ w8.cell? ⟨w7.heap.size, 0, none⟩ = some (.slice x3 P1.length i3) ∧ w8.cell? ⟨w7.heap.size, 1, none⟩ = some (.slice y3 S1.length j3) ∧ w8.cell? ⟨w7.heap.size, 2, none⟩ = some (.slice z3 W1.length k3) := ⟨A0.cell 0, A0.cell 1, A0.cell 2, A1.cell 0, A1.cell 1, A1.cell 2, X0.cell 0, X0.cell 1, X0.cell 2, X1.cell 0, X1.cell 1, X1.cell 2⟩
      clear q_A0_0 q_A0_1 q_A0_2 q_A1_0 q_A1_1 q_A1_2 q_X0_0 q_X0_1 q_X0_2 q_X1_0 q_X1_1 q_X1_2
      have A0 := A0.stays hd
      have A1 := A1.stays hd
      have X0 := X0.stays hd
      have X1 := X1.stays hd
      have o2 := o2.below hd
      have o3 := o3.below hd
      have fr := below_step fr hd
      have sa6 : w8.drew.heap.size ≤ w8.heap.size := Nat.le_refl _
      have sb6 : w8.heap.size ≤ w8.drew.heap.size := Nat.le_refl _
      go_region_held3 (fun w' => w'.cell? ⟨w.heap.size, 0, none⟩ = some (a0) ∧ w'.cell? ⟨w.heap.size, 1, none⟩ = some (b0) ∧ w'.cell? ⟨w.heap.size, 2, none⟩ = some (c0) ∧ w'.cell? ⟨w.heap.size + 1, 0, none⟩ = some (a1) ∧ w'.cell? ⟨w.heap.size + 1, 1, none⟩ = some (b1) ∧ w'.cell? ⟨w.heap.size + 1, 2, none⟩ = some (c1) ∧ w'.cell? ⟨w6.heap.size, 0, none⟩ = some (.slice x2 P0.length i2) ∧ w'.cell? ⟨w6.heap.size, 1, none⟩ = some (.slice y2 S0.length j2) ∧ w'.cell? ⟨w6.heap.size, 2, none⟩ = some (.slice z2 W0.length k2) ∧ w'.cell? ⟨w7.heap.size, 0, none⟩ = some (.slice x3 P1.length i3) ∧ w'.cell? ⟨w7.heap.size, 1, none⟩ = some (.slice y3 S1.length j3) ∧ w'.cell? ⟨w7.heap.size, 2, none⟩ = some (.slice z3 W1.length k3))
        (first | assumption | exact HC)
        (first
          | (go_at_call 45; (with_reducible refine (toCluster_c _ _ _ P0 S0 W0 _ (ha0.below fr (Nat.le_refl _)) (hb0.below fr (Nat.le_refl _)) (hc0.below fr (Nat.le_refl _)) (by omega) (by omega) (by omega)).mono ?_); rintro e w9 ⟨x4, i4, y4, j4, z4, k4, rfl, o4, hq⟩; have A0 := A0.stays hq; have A1 := A1.stays hq; have X0 := X0.stays hq; have X1 := X1.stays hq; have o2 := o2.below hq; have o3 := o3.below hq; have sz9 := Below.size hq; have fr := below_step fr hq; have HC : w9.cell? ⟨w.heap.size, 0, none⟩ = some (a0) ∧ w9.cell? ⟨w.heap.size, 1, none⟩ = some (b0) ∧ w9.cell? ⟨w.heap.size, 2, none⟩ = some (c0) ∧ w9.cell? ⟨w.heap.size + 1, 0, none⟩ = some (a1) ∧ w9.cell? ⟨w.heap.size + 1, 1, none⟩ = some (b1) ∧ w9.cell? ⟨w.heap.size + 1, 2, none⟩ = some (c1) ∧ w9.cell? ⟨w6.heap.size, 0, none⟩ = some (.slice x2 P0.length i2) ∧ w9.cell? ⟨w6.heap.size, 1, none⟩ = some (.slice y2 S0.length j2) ∧ w9.cell? ⟨w6.heap.size, 2, none⟩ = some (.slice z2 W0.length k2) ∧ w9.cell? ⟨w7.heap.size, 0, none⟩ = some (.slice x3 P1.length i3) ∧ w9.cell? ⟨w7.heap.size, 1, none⟩ = some (.slice y3 S1.length j3) ∧ w9.cell? ⟨w7.heap.size, 2, none⟩ = some (.slice z3 W1.length k3) := ⟨A0.cell 0, A0.cell 1, A0.cell 2, A1.cell 0, A1.cell 1, A1.cell 2, X0.cell 0, X0.cell 1, X0.cell 2, X1.cell 0, X1.cell 1, X1.cell 2⟩)
          | (go_at_call 47; (with_reducible refine (eqCluster_c _ _ _ _ _ _ P0 S0 W0 _ o2.a.rd o2.b.rd o2.c.rd o4.a.rd o4.b.rd o4.c.rd).mono ?_); rintro e w10 ⟨rfl, hq⟩; have A0 := A0.stays hq; have A1 := A1.stays hq; have X0 := X0.stays hq; have X1 := X1.stays hq; have o2 := o2.below hq; have o3 := o3.below hq; have o4 := o4.below hq; have sz10 := Below.size hq; have fr := below_step fr hq; have HC : w10.cell? ⟨w.heap.size, 0, none⟩ = some (a0) ∧ w10.cell? ⟨w.heap.size, 1, none⟩ = some (b0) ∧ w10.cell? ⟨w.heap.size, 2, none⟩ = some (c0) ∧ w10.cell? ⟨w.heap.size + 1, 0, none⟩ = some (a1) ∧ w10.cell? ⟨w.heap.size + 1, 1, none⟩ = some (b1) ∧ w10.cell? ⟨w.heap.size + 1, 2, none⟩ = some (c1) ∧ w10.cell? ⟨w6.heap.size, 0, none⟩ = some (.slice x2 P0.length i2) ∧ w10.cell? ⟨w6.heap.size, 1, none⟩ = some (.slice y2 S0.length j2) ∧ w10.cell? ⟨w6.heap.size, 2, none⟩ = some (.slice z2 W0.length k2) ∧ w10.cell? ⟨w7.heap.size, 0, none⟩ = some (.slice x3 P1.length i3) ∧ w10.cell? ⟨w7.heap.size, 1, none⟩ = some (.slice y3 S1.length j3) ∧ w10.cell? ⟨w7.heap.size, 2, none⟩ = some (.slice z3 W1.length k3) := ⟨A0.cell 0, A0.cell 1, A0.cell 2, A1.cell 0, A1.cell 1, A1.cell 2, X0.cell 0, X0.cell 1, X0.cell 2, X1.cell 0, X1.cell 1, X1.cell 2⟩))
      have q_A0_0 := A0.cell 0
      have q_A0_1 := A0.cell 1
      have q_A0_2 := A0.cell 2
      have q_A1_0 := A1.cell 0
      have q_A1_1 := A1.cell 1
      have q_A1_2 := A1.cell 2
      have q_X0_0 := X0.cell 0
      have q_X0_1 := X0.cell 1
      have q_X0_2 := X0.cell 2
      have q_X1_0 := X1.cell 0
      have q_X1_1 := X1.cell 1
      have q_X1_2 := X1.cell 2
      go_wp2_with fail
      have hd : Below w10.heap.size w10 w10.drew := (Below.refl _ _).drew
      have HC : w10.cell? ⟨w.heap.size, 0, none⟩ = some (a0) ∧ w10.cell? ⟨w.heap.size, 1, none⟩ = some (b0) ∧ w10.cell? ⟨w.heap.size, 2, none⟩ = some (c0) ∧ w10.cell? ⟨w.heap.size + 1, 0, none⟩ = some (a1) ∧ w10.cell? ⟨w.heap.size + 1, 1, none⟩ = some (b1) ∧ w10.cell? ⟨w.heap.size + 1, 2, none⟩ = some (c1) ∧ w10.cell? ⟨w6.heap.size, 0, none⟩ = some (.slice x2 P0.length i2) ∧ w10.cell? ⟨w6.heap.size, 1, none⟩ = some (.slice y2 S0.length j2) ∧ w10.cell? ⟨w6.heap.size, 2, none⟩ = some (.slice z2 W0.length k2) ∧ w10.cell? ⟨w7.heap.size, 0, none⟩ = some (.slice x3 P1.length i3) ∧ w10.cell? ⟨w7.heap.size, 1, none⟩ = some (.slice y3 S1.length j3) ∧ w10.cell? ⟨w7.heap.size, 2, none⟩ = some (.slice z3 W1.length k3) := ⟨A0.cell 0, A0.cell 1, A0.cell 2, A1.cell 0, A1.cell 1, A1.cell 2, X0.cell 0, X0.cell 1, X0.cell 2, X1.cell 0, X1.cell 1, X1.cell 2⟩
      clear q_A0_0 q_A0_1 q_A0_2 q_A1_0 q_A1_1 q_A1_2 q_X0_0 q_X0_1 q_X0_2 q_X1_0 q_X1_1 q_X1_2
      have A0 := A0.stays hd
      have A1 := A1.stays hd
      have X0 := X0.stays hd
      have X1 := X1.stays hd
      have o2 := o2.below hd
      have o3 := o3.below hd
      have fr := below_step fr hd
      have sa7 : w10.drew.heap.size ≤ w10.heap.size := Nat.le_refl _
      have sb7 : w10.heap.size ≤ w10.drew.heap.size := Nat.le_refl _
      go_region_held3 (fun w' => w'.cell? ⟨w.heap.size, 0, none⟩ = some (a0) ∧ w'.cell? ⟨w.heap.size, 1, none⟩ = some (b0) ∧ w'.cell? ⟨w.heap.size, 2, none⟩ = some (c0) ∧ w'.cell? ⟨w.heap.size + 1, 0, none⟩ = some (a1) ∧ w'.cell? ⟨w.heap.size + 1, 1, none⟩ = some (b1) ∧ w'.cell? ⟨w.heap.size + 1, 2, none⟩ = some (c1) ∧ w'.cell? ⟨w6.heap.size, 0, none⟩ = some (.slice x2 P0.length i2) ∧ w'.cell? ⟨w6.heap.size, 1, none⟩ = some (.slice y2 S0.length j2) ∧ w'.cell? ⟨w6.heap.size, 2, none⟩ = some (.slice z2 W0.length k2) ∧ w'.cell? ⟨w7.heap.size, 0, none⟩ = some (.slice x3 P1.length i3) ∧ w'.cell? ⟨w7.heap.size, 1, none⟩ = some (.slice y3 S1.length j3) ∧ w'.cell? ⟨w7.heap.size, 2, none⟩ = some (.slice z3 W1.length k3))
        (first | assumption | exact HC)
        (first
          | (go_at_call 45; (with_reducible refine (toCluster_c _ _ _ P1 S1 W1 _ (ha1.below fr (Nat.le_refl _)) (hb1.below fr (Nat.le_refl _)) (hc1.below fr (Nat.le_refl _)) (by omega) (by omega) (by omega)).mono ?_); rintro e w11 ⟨x5, i5, y5, j5, z5, k5, rfl, o5, hq⟩; have A0 := A0.stays hq; have A1 := A1.stays hq; have X0 := X0.stays hq; have X1 := X1.stays hq; have o2 := o2.below hq; have o3 := o3.below hq; have sz11 := Below.size hq; have fr := below_step fr hq; have HC : w11.cell? ⟨w.heap.size, 0, none⟩ = some (a0) ∧ w11.cell? ⟨w.heap.size, 1, none⟩ = some (b0) ∧ w11.cell? ⟨w.heap.size, 2, none⟩ = some (c0) ∧ w11.cell? ⟨w.heap.size + 1, 0, none⟩ = some (a1) ∧ w11.cell? ⟨w.heap.size + 1, 1, none⟩ = some (b1) ∧ w11.cell? ⟨w.heap.size + 1, 2, none⟩ = some (c1) ∧ w11.cell? ⟨w6.heap.size, 0, none⟩ = some (.slice x2 P0.length i2) ∧ w11.cell? ⟨w6.heap.size, 1, none⟩ = some (.slice y2 S0.length j2) ∧ w11.cell? ⟨w6.heap.size, 2, none⟩ = some (.slice z2 W0.length k2) ∧ w11.cell? ⟨w7.heap.size, 0, none⟩ = some (.slice x3 P1.length i3) ∧ w11.cell? ⟨w7.heap.size, 1, none⟩ = some (.slice y3 S1.length j3) ∧ w11.cell? ⟨w7.heap.size, 2, none⟩ = some (.slice z3 W1.length k3) := ⟨A0.cell 0, A0.cell 1, A0.cell 2, A1.cell 0, A1.cell 1, A1.cell 2, X0.cell 0, X0.cell 1, X0.cell 2, X1.cell 0, X1.cell 1, X1.cell 2⟩)
          | (go_at_call 47; (with_reducible refine (eqCluster_c _ _ _ _ _ _ P1 S1 W1 _ o3.a.rd o3.b.rd o3.c.rd o5.a.rd o5.b.rd o5.c.rd).mono ?_); rintro e w12 ⟨rfl, hq⟩; have A0 := A0.stays hq; have A1 := A1.stays hq; have X0 := X0.stays hq; have X1 := X1.stays hq; have o2 := o2.below hq; have o3 := o3.below hq; have o5 := o5.below hq; have sz12 := Below.size hq; have fr := below_step fr hq; have HC : w12.cell? ⟨w.heap.size, 0, none⟩ = some (a0) ∧ w12.cell? ⟨w.heap.size, 1, none⟩ = some (b0) ∧ w12.cell? ⟨w.heap.size, 2, none⟩ = some (c0) ∧ w12.cell? ⟨w.heap.size + 1, 0, none⟩ = some (a1) ∧ w12.cell? ⟨w.heap.size + 1, 1, none⟩ = some (b1) ∧ w12.cell? ⟨w.heap.size + 1, 2, none⟩ = some (c1) ∧ w12.cell? ⟨w6.heap.size, 0, none⟩ = some (.slice x2 P0.length i2) ∧ w12.cell? ⟨w6.heap.size, 1, none⟩ = some (.slice y2 S0.length j2) ∧ w12.cell? ⟨w6.heap.size, 2, none⟩ = some (.slice z2 W0.length k2) ∧ w12.cell? ⟨w7.heap.size, 0, none⟩ = some (.slice x3 P1.length i3) ∧ w12.cell? ⟨w7.heap.size, 1, none⟩ = some (.slice y3 S1.length j3) ∧ w12.cell? ⟨w7.heap.size, 2, none⟩ = some (.slice z3 W1.length k3) := ⟨A0.cell 0, A0.cell 1, A0.cell 2, A1.cell 0, A1.cell 1, A1.cell 2, X0.cell 0, X0.cell 1, X0.cell 2, X1.cell 0, X1.cell 1, X1.cell 2⟩))
      have q_A0_0 := A0.cell 0
      have q_A0_1 := A0.cell 1
      have q_A0_2 := A0.cell 2
      have q_A1_0 := A1.cell 0
      have q_A1_1 := A1.cell 1
      have q_A1_2 := A1.cell 2
      have q_X0_0 := X0.cell 0
      have q_X0_1 := X0.cell 1
      have q_X0_2 := X0.cell 2
      have q_X1_0 := X1.cell 0
      have q_X1_1 := X1.cell 1
      have q_X1_2 := X1.cell 2
      go_wp2
      go_ret
      exact ⟨rfl, fr⟩
    · skip
      have A0 := Blk.new w 49 #[a0, b0, c0]
      have hal : Below w.heap.size w (w.alloc (.cells #[a0, b0, c0] 49)) := (Below.refl _ _).alloc (Nat.le_refl _) _
      have fr : Below w.heap.size w (w.alloc (.cells #[a0, b0, c0] 49)) := hal
      have sa8 : (w.alloc (.cells #[a0, b0, c0] 49)).heap.size ≤ w.heap.size + 1 := by simp
      have sb8 : w.heap.size + 1 ≤ (w.alloc (.cells #[a0, b0, c0] 49)).heap.size := by simp
      have A0 := A0.alloc (.cells #[a1, b1, c1] 49)
      have A1 := Blk.new (w.alloc (.cells #[a0, b0, c0] 49)) 49 #[a1, b1, c1]
      simp only [World.size_alloc] at A1
      have hal : Below (w.alloc (.cells #[a0, b0, c0] 49)).heap.size (w.alloc (.cells #[a0, b0, c0] 49)) ((w.alloc (.cells #[a0, b0, c0] 49)).alloc (.cells #[a1, b1, c1] 49)) := (Below.refl _ _).alloc (Nat.le_refl _) _
      have fr : Below w.heap.size w ((w.alloc (.cells #[a0, b0, c0] 49)).alloc (.cells #[a1, b1, c1] 49)) := below_step fr hal
      have sa9 : ((w.alloc (.cells #[a0, b0, c0] 49)).alloc (.cells #[a1, b1, c1] 49)).heap.size ≤ (w.alloc (.cells #[a0, b0, c0] 49)).heap.size + 1 := by simp
      have sb9 : (w.alloc (.cells #[a0, b0, c0] 49)).heap.size + 1 ≤ ((w.alloc (.cells #[a0, b0, c0] 49)).alloc (.cells #[a1, b1, c1] 49)).heap.size := by simp
      have q_A0_0 := A0.cell 0
      have q_A0_1 := A0.cell 1
      have q_A0_2 := A0.cell 2
      have q_A1_0 := A1.cell 0
      have q_A1_1 := A1.cell 1
      have q_A1_2 := A1.cell 2
      go_enter Try.func17, Try.ntmps17
      go_wp2_with fail
      clear q_A0_0 q_A0_1 q_A0_2 q_A1_0 q_A1_1 q_A1_2
      refine (szCluster_ok _ _ _ P0 S0 W0 1048576 _ (ha0.below fr (Nat.le_refl _)) (hb0.below fr (Nat.le_refl _)) (hc0.below fr (Nat.le_refl _)) (by omega) (by omega) (by omega)).mono ?_
      rintro e w1 ⟨rfl, hq⟩
      have A0 := A0.stays hq
      have A1 := A1.stays hq
      have sz1 := Below.size hq
      have fr := below_step fr hq
      have q_A0_0 := A0.cell 0
      have q_A0_1 := A0.cell 1
      have q_A0_2 := A0.cell 2
      have q_A1_0 := A1.cell 0
      have q_A1_1 := A1.cell 1
      have q_A1_2 := A1.cell 2
      go_wp2_with fail
      clear q_A0_0 q_A0_1 q_A0_2 q_A1_0 q_A1_1 q_A1_2
      refine (szCluster_no _ _ _ P1 S1 W1 (1048576 - P0.length - S0.length - W0.length) _ (ha1.below fr (Nat.le_refl _)) (hb1.below fr (Nat.le_refl _)) (hc1.below fr (Nat.le_refl _)) (by omega) (by omega) (by omega)).mono ?_
      rintro e w2 ⟨rfl, hq⟩
      have A0 := A0.stays hq
      have A1 := A1.stays hq
      have sz2 := Below.size hq
      have fr := below_step fr hq
      go_wp2
      go_ret
      exact ⟨rfl, fr⟩
  · skip
    have A0 := Blk.new w 49 #[a0, b0, c0]
    have hal : Below w.heap.size w (w.alloc (.cells #[a0, b0, c0] 49)) := (Below.refl _ _).alloc (Nat.le_refl _) _
    have fr : Below w.heap.size w (w.alloc (.cells #[a0, b0, c0] 49)) := hal
    have sa10 : (w.alloc (.cells #[a0, b0, c0] 49)).heap.size ≤ w.heap.size + 1 := by simp
    have sb10 : w.heap.size + 1 ≤ (w.alloc (.cells #[a0, b0, c0] 49)).heap.size := by simp
    have A0 := A0.alloc (.cells #[a1, b1, c1] 49)
    have A1 := Blk.new (w.alloc (.cells #[a0, b0, c0] 49)) 49 #[a1, b1, c1]
    simp only [World.size_alloc] at A1
    have hal : Below (w.alloc (.cells #[a0, b0, c0] 49)).heap.size (w.alloc (.cells #[a0, b0, c0] 49)) ((w.alloc (.cells #[a0, b0, c0] 49)).alloc (.cells #[a1, b1, c1] 49)) := (Below.refl _ _).alloc (Nat.le_refl _) _
    have fr : Below w.heap.size w ((w.alloc (.cells #[a0, b0, c0] 49)).alloc (.cells #[a1, b1, c1] 49)) := below_step fr hal
    have sa11 : ((w.alloc (.cells #[a0, b0, c0] 49)).alloc (.cells #[a1, b1, c1] 49)).heap.size ≤ (w.alloc (.cells #[a0, b0, c0] 49)).heap.size + 1 := by simp
    have sb11 : (w.alloc (.cells #[a0, b0, c0] 49)).heap.size + 1 ≤ ((w.alloc (.cells #[a0, b0, c0] 49)).alloc (.cells #[a1, b1, c1] 49)).heap.size := by simp
    have q_A0_0 := A0.cell 0
    have q_A0_1 := A0.cell 1
    have q_A0_2 := A0.cell 2
    have q_A1_0 := A1.cell 0
    have q_A1_1 := A1.cell 1
    have q_A1_2 := A1.cell 2
    go_enter Try.func17, Try.ntmps17
    go_wp2_with fail
    clear q_A0_0 q_A0_1 q_A0_2 q_A1_0 q_A1_1 q_A1_2
    refine (szCluster_no _ _ _ P0 S0 W0 1048576 _ (ha0.below fr (Nat.le_refl _)) (hb0.below fr (Nat.le_refl _)) (hc0.below fr (Nat.le_refl _)) (by omega) (by omega) (by omega)).mono ?_
    rintro e w1 ⟨rfl, hq⟩
    have A0 := A0.stays hq
    have A1 := A1.stays hq
    have sz1 := Below.size hq
    have fr := below_step fr hq
    go_wp2
    go_ret
    exact ⟨rfl, fr⟩
end Go.Proofs.Ytgjnllialhjhoaa.fnExactMixedProduct
