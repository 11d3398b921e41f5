/- The walk of 'FnExactClusterText': spec.ClusterText and impl.ClusterText agree, the arguments stay as they are, and what is handed back lies in new memory. -/
import Derived.Test.YtiinceflafigeaaDoorCtC
import Derived.Test.YtiinceflafigeaaDoorHelpB
import Derived.Deep.RegionHeld3
namespace Go.Proofs.YtiinceflafigeaaDoor.fnExactClusterText
open Go.RowKit

set_option maxRecDepth 100000 in
set_option maxHeartbeats 4000000 in
theorem walk (w : World) (ht : Tab w) (a0 b0 c0 : Value) (P0 S0 W0 : List Int) (ha0 : Rd w a0 P0) (hb0 : Rd w b0 S0) (hc0 : Rd w c0 W0) :
    Calls Tryd.prog 4 #[.agg #[a0, b0, c0]] w fun e w' => e = .returned (.bool true) ∧ Below w.heap.size w w' := by
  have HT := Lib.hid ht
  clear ht
  by_cases hz0 : (P0.length : Int) + (S0.length : Int) + (W0.length : Int) ≤ 1048576
  · skip
    have A0 := Blk.new w 44 #[a0, b0, c0]
    have hal : Below w.heap.size w (w.alloc (.cells #[a0, b0, c0] 44)) := (Below.refl _ _).alloc (Nat.le_refl _) _
    have fr : Below w.heap.size w (w.alloc (.cells #[a0, b0, c0] 44)) := hal
    have sa1 : (w.alloc (.cells #[a0, b0, c0] 44)).heap.size ≤ w.heap.size + 1 := by simp
    have sb1 : w.heap.size + 1 ≤ (w.alloc (.cells #[a0, b0, c0] 44)).heap.size := by simp
    have q_A0_0 := A0.cell 0
    have q_A0_1 := A0.cell 1
    have q_A0_2 := A0.cell 2
    go_enter Tryd.func4, Tryd.ntmps4
    go_wp2_with fail
    clear q_A0_0 q_A0_1 q_A0_2
    refine (szCluster_ok _ _ _ P0 S0 W0 1048576 _ (ha0.below fr (Nat.le_refl _)) (hb0.below fr (Nat.le_refl _)) (hc0.below fr (Nat.le_refl _)) (by omega) (by omega) (by omega)).mono ?_
    rintro e w1 ⟨rfl, hq⟩
    have A0 := A0.stays hq
    have sz1 := Below.size hq
    have fr := below_step fr hq
    have q_A0_0 := A0.cell 0
    have q_A0_1 := A0.cell 1
    have q_A0_2 := A0.cell 2
    go_wp2_with fail
    clear q_A0_0 q_A0_1 q_A0_2
    refine (toCluster_c _ _ _ P0 S0 W0 _ (ha0.below fr (Nat.le_refl _)) (hb0.below fr (Nat.le_refl _)) (hc0.below fr (Nat.le_refl _)) (by omega) (by omega) (by omega)).mono ?_
    rintro e w2 ⟨x0, i0, y0, j0, z0, k0, rfl, o0, hq⟩
    have A0 := A0.stays hq
    have sz2 := Below.size hq
    have fr := below_step fr hq
    have rg_o0 := o0.block
    have q_A0_0 := A0.cell 0
    have q_A0_1 := A0.cell 1
    have q_A0_2 := A0.cell 2
    go_wp2_with fail
    clear q_A0_0 q_A0_1 q_A0_2
    refine (specCT_c _ _ _ P0 S0 W0 _ o0.a.rd o0.b.rd o0.c.rd).mono ?_
    rintro e w3 ⟨rfl, hq⟩
    have A0 := A0.stays hq
    have o0 := o0.below hq
    have sz3 := Below.size hq
    have fr := below_step fr hq
    have q_A0_0 := A0.cell 0
    have q_A0_1 := A0.cell 1
    have q_A0_2 := A0.cell 2
    go_wp2_with fail
    clear q_A0_0 q_A0_1 q_A0_2
    refine (toCluster_c _ _ _ P0 S0 W0 _ (ha0.below fr (Nat.le_refl _)) (hb0.below fr (Nat.le_refl _)) (hc0.below fr (Nat.le_refl _)) (by omega) (by omega) (by omega)).mono ?_
    rintro e w4 ⟨x1, i1, y1, j1, z1, k1, rfl, o1, hq⟩
    have A0 := A0.stays hq
    have sz4 := Below.size hq
    have fr := below_step fr hq
    have rg_o1 := o1.block
    have A0 := A0.alloc (.cells #[.slice x1 P0.length i1, .slice y1 S0.length j1, .slice z1 W0.length k1] 47)
    have X0 := Blk.new w4 47 #[.slice x1 P0.length i1, .slice y1 S0.length j1, .slice z1 W0.length k1]
    have hal : Below w4.heap.size w4 (w4.alloc (.cells #[.slice x1 P0.length i1, .slice y1 S0.length j1, .slice z1 W0.length k1] 47)) := (Below.refl _ _).alloc (Nat.le_refl _) _
    have o1 := o1.below hal
    have fr := below_step fr hal
    have sa2 : (w4.alloc (.cells #[.slice x1 P0.length i1, .slice y1 S0.length j1, .slice z1 W0.length k1] 47)).heap.size ≤ w4.heap.size + 1 := by simp
    have sb2 : w4.heap.size + 1 ≤ (w4.alloc (.cells #[.slice x1 P0.length i1, .slice y1 S0.length j1, .slice z1 W0.length k1] 47)).heap.size := by simp
    have q_A0_0 := A0.cell 0
    have q_A0_1 := A0.cell 1
    have q_A0_2 := A0.cell 2
    have q_X0_0 := X0.cell 0
    have q_X0_1 := X0.cell 1
    have q_X0_2 := X0.cell 2
    go_wp2_with fail
    clear q_A0_0 q_A0_1 q_A0_2 q_X0_0 q_X0_1 q_X0_2
    refine (implCT_c _ _ _ P0 S0 W0 _ o1.a.rd o1.b.rd o1.c.rd (HT.out.below fr (Nat.le_refl _))).mono ?_
    rintro e w5 ⟨rfl, hq⟩
    have A0 := A0.stays hq
    have X0 := X0.stays hq
    have o1 := o1.below hq
    have sz5 := Below.size hq
    have fr := below_step fr hq
    have q_A0_0 := A0.cell 0
    have q_A0_1 := A0.cell 1
    have q_A0_2 := A0.cell 2
    have q_X0_0 := X0.cell 0
    have q_X0_1 := X0.cell 1
    have q_X0_2 := X0.cell 2
    go_wp2_with fail
    have hd : Below w5.heap.size w5 w5.drew := (Below.refl _ _).drew
    have HC : w5.cell? ⟨w.heap.size, 0, none⟩ = some (a0) ∧ w5.cell? ⟨w.heap.size, 1, none⟩ = some (b0) ∧ w5.cell? ⟨w.heap.size, 2, none⟩ = some (c0) ∧ w5.cell? ⟨w4.heap.size, 0, none⟩ = some (.slice x1 P0.length i1) ∧ w5.cell? ⟨w4.heap.size, 1, none⟩ = some (.slice y1 S0.length j1) ∧ w5.cell? ⟨w4.heap.size, 2, none⟩ = some (.slice z1 W0.length k1) := ⟨A0.cell 0, A0.cell 1, A0.cell 2, X0.cell 0, X0.cell 1, X0.cell 2⟩
    clear q_A0_0 q_A0_1 q_A0_2 q_X0_0 q_X0_1 q_X0_2
    have A0 := A0.stays hd
    have X0 := X0.stays hd
    have o1 := o1.below hd
    have fr := below_step fr hd
    have sa3 : w5.drew.heap.size ≤ w5.heap.size := Nat.le_refl _
    have sb3 : w5.heap.size ≤ w5.drew.heap.size := Nat.le_refl _
    go_region_held3 (fun w' => w'.cell? ⟨w.heap.size, 0, none⟩ = some (a0) ∧ w'.cell? ⟨w.heap.size, 1, none⟩ = some (b0) ∧ w'.cell? ⟨w.heap.size, 2, none⟩ = some (c0) ∧ w'.cell? ⟨w4.heap.size, 0, none⟩ = some (.slice x1 P0.length i1) ∧ w'.cell? ⟨w4.heap.size, 1, none⟩ = some (.slice y1 S0.length j1) ∧ w'.cell? ⟨w4.heap.size, 2, none⟩ = some (.slice z1 W0.length k1))
      (first | assumption | exact HC)
      (first
        | (go_at_call 24; (with_reducible refine (toCluster_c _ _ _ P0 S0 W0 _ (ha0.below fr (Nat.le_refl _)) (hb0.below fr (Nat.le_refl _)) (hc0.below fr (Nat.le_refl _)) (by omega) (by omega) (by omega)).mono ?_); rintro e w6 ⟨x2, i2, y2, j2, z2, k2, rfl, o2, hq⟩; have A0 := A0.stays hq; have X0 := X0.stays hq; have o1 := o1.below hq; have sz6 := Below.size hq; have fr := below_step fr hq; have HC : w6.cell? ⟨w.heap.size, 0, none⟩ = some (a0) ∧ w6.cell? ⟨w.heap.size, 1, none⟩ = some (b0) ∧ w6.cell? ⟨w.heap.size, 2, none⟩ = some (c0) ∧ w6.cell? ⟨w4.heap.size, 0, none⟩ = some (.slice x1 P0.length i1) ∧ w6.cell? ⟨w4.heap.size, 1, none⟩ = some (.slice y1 S0.length j1) ∧ w6.cell? ⟨w4.heap.size, 2, none⟩ = some (.slice z1 W0.length k1) := ⟨A0.cell 0, A0.cell 1, A0.cell 2, X0.cell 0, X0.cell 1, X0.cell 2⟩)
        | (go_at_call 26; (with_reducible refine (eqCluster_c _ _ _ _ _ _ P0 S0 W0 _ o1.a.rd o1.b.rd o1.c.rd o2.a.rd o2.b.rd o2.c.rd).mono ?_); rintro e w7 ⟨rfl, hq⟩; have A0 := A0.stays hq; have X0 := X0.stays hq; have o1 := o1.below hq; have o2 := o2.below hq; have sz7 := Below.size hq; have fr := below_step fr hq; have HC : w7.cell? ⟨w.heap.size, 0, none⟩ = some (a0) ∧ w7.cell? ⟨w.heap.size, 1, none⟩ = some (b0) ∧ w7.cell? ⟨w.heap.size, 2, none⟩ = some (c0) ∧ w7.cell? ⟨w4.heap.size, 0, none⟩ = some (.slice x1 P0.length i1) ∧ w7.cell? ⟨w4.heap.size, 1, none⟩ = some (.slice y1 S0.length j1) ∧ w7.cell? ⟨w4.heap.size, 2, none⟩ = some (.slice z1 W0.length k1) := ⟨A0.cell 0, A0.cell 1, A0.cell 2, X0.cell 0, X0.cell 1, X0.cell 2⟩))
    have q_A0_0 := A0.cell 0
    have q_A0_1 := A0.cell 1
    have q_A0_2 := A0.cell 2
    have q_X0_0 := X0.cell 0
    have q_X0_1 := X0.cell 1
    have q_X0_2 := X0.cell 2
    go_wp2
    go_ret
    exact ⟨rfl, fr⟩
  · skip
    have A0 := Blk.new w 44 #[a0, b0, c0]
    have hal : Below w.heap.size w (w.alloc (.cells #[a0, b0, c0] 44)) := (Below.refl _ _).alloc (Nat.le_refl _) _
    have fr : Below w.heap.size w (w.alloc (.cells #[a0, b0, c0] 44)) := hal
    have sa4 : (w.alloc (.cells #[a0, b0, c0] 44)).heap.size ≤ w.heap.size + 1 := by simp
    have sb4 : w.heap.size + 1 ≤ (w.alloc (.cells #[a0, b0, c0] 44)).heap.size := by simp
    have q_A0_0 := A0.cell 0
    have q_A0_1 := A0.cell 1
    have q_A0_2 := A0.cell 2
    go_enter Tryd.func4, Tryd.ntmps4
    go_wp2_with fail
    clear q_A0_0 q_A0_1 q_A0_2
    refine (szCluster_no _ _ _ P0 S0 W0 1048576 _ (ha0.below fr (Nat.le_refl _)) (hb0.below fr (Nat.le_refl _)) (hc0.below fr (Nat.le_refl _)) (by omega) (by omega) (by omega)).mono ?_
    rintro e w1 ⟨rfl, hq⟩
    have A0 := A0.stays hq
    have sz1 := Below.size hq
    have fr := below_step fr hq
    go_wp2
    go_ret
    exact ⟨rfl, fr⟩
end Go.Proofs.YtiinceflafigeaaDoor.fnExactClusterText
