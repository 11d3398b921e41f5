/- The walk of 'FnExactBranchAtPoint': spec.BranchAtPoint and impl.BranchAtPoint agree, the arguments stay as they are, and what is handed back lies in new memory. -/
import Derived.Test.YtibfigmnoamheaaBapC
import Derived.Test.YtibfigmnoamheaaHelpB
import Derived.Deep.RegionHeld3
namespace Go.Proofs.Ytibfigmnoamheaa.fnExactBranchAtPoint
open Go.RowKit

set_option maxRecDepth 100000 in
set_option maxHeartbeats 4000000 in
theorem walk (w : World) (a0 b0 c0 : Value) (P0 S0 W0 : List Int) (ha0 : Rd w a0 P0) (hb0 : Rd w b0 S0) (hc0 : Rd w c0 W0) (n1 : Int) (wf1 : (Lit.int .i64 n1).wf = true) :
    Calls Try.prog 15 #[.agg #[a0, b0, c0], .int .i64 n1] w fun e w' => e = .returned (.bool true) ∧ Below w.heap.size w w' := by
  obtain ⟨xs, c, hR, hxl⟩ := bapR_ex P0 S0 W0 n1
  have HR := Lib.hid hR
  clear hR
  by_cases hz0 : (P0.length : Int) + (S0.length : Int) + (W0.length : Int) ≤ 1048576
  · skip
    have hsr0 : (xs).length ≤ 1048576 := (by omega)
    have A0 := Blk.new w 84 #[a0, b0, c0]
    have hal : Below w.heap.size w (w.alloc (.cells #[a0, b0, c0] 84)) := (Below.refl _ _).alloc (Nat.le_refl _) _
    have fr : Below w.heap.size w (w.alloc (.cells #[a0, b0, c0] 84)) := hal
    have sa1 : (w.alloc (.cells #[a0, b0, c0] 84)).heap.size ≤ w.heap.size + 1 := by simp
    have sb1 : w.heap.size + 1 ≤ (w.alloc (.cells #[a0, b0, c0] 84)).heap.size := by simp
    have q_A0_0 := A0.cell 0
    have q_A0_1 := A0.cell 1
    have q_A0_2 := A0.cell 2
    go_enter Try.func15, Try.ntmps15
    go_wp2_with fail
    clear q_A0_0 q_A0_1 q_A0_2
    refine (szCluster_ok _ _ _ P0 S0 W0 1048576 _ (ha0.below fr (Nat.le_refl _)) (hb0.below fr (Nat.le_refl _)) (hc0.below fr (Nat.le_refl _)) (by omega) (by omega) (by omega)).mono ?_
    rintro e w1 ⟨rfl, hq⟩
    have A0 := A0.stays hq
    have sz1 := Below.size hq
    have fr := below_step fr hq
    have q_A0_0 := A0.cell 0
    have q_A0_1 := A0.cell 1
    have q_A0_2 := A0.cell 2
    go_wp2_with fail
    clear q_A0_0 q_A0_1 q_A0_2
    refine (toCluster_c _ _ _ P0 S0 W0 _ (ha0.below fr (Nat.le_refl _)) (hb0.below fr (Nat.le_refl _)) (hc0.below fr (Nat.le_refl _)) (by omega) (by omega) (by omega)).mono ?_
    rintro e w2 ⟨x0, i0, y0, j0, z0, k0, rfl, o0, hq⟩
    have A0 := A0.stays hq
    have sz2 := Below.size hq
    have fr := below_step fr hq
    have rg_o0 := o0.block
    have q_A0_0 := A0.cell 0
    have q_A0_1 := A0.cell 1
    have q_A0_2 := A0.cell 2
    go_wp2_with fail
    clear q_A0_0 q_A0_1 q_A0_2
    refine (specBapW_c _ _ _ P0 S0 W0 n1 _ o0.a.rd o0.b.rd o0.c.rd wf1 xs c HR.out).mono ?_
    rintro e w3 ⟨ua, ui, rfl, u, hq⟩
    have A0 := A0.stays hq
    have o0 := o0.below hq
    have sz3 := Below.size hq
    have fr := below_step fr hq
    have rg_u := u.block
    have A0 := A0.alloc (.cells #[.slice ua (xs).length ui] 26)
    have Bu := Blk.new w3 26 #[.slice ua (xs).length ui]
    have hal : Below w3.heap.size w3 (w3.alloc (.cells #[.slice ua (xs).length ui] 26)) := (Below.refl _ _).alloc (Nat.le_refl _) _
    have u := u.below hal (Nat.le_refl _)
    have fr := below_step fr hal
    have sa2 : (w3.alloc (.cells #[.slice ua (xs).length ui] 26)).heap.size ≤ w3.heap.size + 1 := by simp
    have sb2 : w3.heap.size + 1 ≤ (w3.alloc (.cells #[.slice ua (xs).length ui] 26)).heap.size := by simp
    have q_A0_0 := A0.cell 0
    have q_A0_1 := A0.cell 1
    have q_A0_2 := A0.cell 2
    have q_Bu_0 := Bu.cell 0
    go_wp2_with fail
    clear q_A0_0 q_A0_1 q_A0_2 q_Bu_0
    refine (toCluster_c _ _ _ P0 S0 W0 _ (ha0.below fr (Nat.le_refl _)) (hb0.below fr (Nat.le_refl _)) (hc0.below fr (Nat.le_refl _)) (by omega) (by omega) (by omega)).mono ?_
    rintro e w4 ⟨x1, i1, y1, j1, z1, k1, rfl, o1, hq⟩
    have A0 := A0.stays hq
    have Bu := Bu.stays hq
    have u := u.below hq (Nat.le_refl _)
    have sz4 := Below.size hq
    have fr := below_step fr hq
    have rg_o1 := o1.block
    have A0 := A0.alloc (.cells #[.slice x1 P0.length i1, .slice y1 S0.length j1, .slice z1 W0.length k1] 40)
    have Bu := Bu.alloc (.cells #[.slice x1 P0.length i1, .slice y1 S0.length j1, .slice z1 W0.length k1] 40)
    have X0 := Blk.new w4 40 #[.slice x1 P0.length i1, .slice y1 S0.length j1, .slice z1 W0.length k1]
    have hal : Below w4.heap.size w4 (w4.alloc (.cells #[.slice x1 P0.length i1, .slice y1 S0.length j1, .slice z1 W0.length k1] 40)) := (Below.refl _ _).alloc (Nat.le_refl _) _
    have u := u.below hal (Nat.le_refl _)
    have o1 := o1.below hal
    have fr := below_step fr hal
    have sa3 : (w4.alloc (.cells #[.slice x1 P0.length i1, .slice y1 S0.length j1, .slice z1 W0.length k1] 40)).heap.size ≤ w4.heap.size + 1 := by simp
    have sb3 : w4.heap.size + 1 ≤ (w4.alloc (.cells #[.slice x1 P0.length i1, .slice y1 S0.length j1, .slice z1 W0.length k1] 40)).heap.size := by simp
    have q_A0_0 := A0.cell 0
    have q_A0_1 := A0.cell 1
    have q_A0_2 := A0.cell 2
    have q_Bu_0 := Bu.cell 0
    have q_X0_0 := X0.cell 0
    have q_X0_1 := X0.cell 1
    have q_X0_2 := X0.cell 2
    go_wp2_with fail
    clear q_A0_0 q_A0_1 q_A0_2 q_Bu_0 q_X0_0 q_X0_1 q_X0_2
    refine (implBapW_c _ _ _ P0 S0 W0 n1 _ o1.a.rd o1.b.rd o1.c.rd wf1 xs c HR.out).mono ?_
    rintro e w5 ⟨ga, gi, rfl, g, hq⟩
    have A0 := A0.stays hq
    have Bu := Bu.stays hq
    have X0 := X0.stays hq
    have u := u.below hq (Nat.le_refl _)
    have o1 := o1.below hq
    have sz5 := Below.size hq
    have fr := below_step fr hq
    have rg_g := g.block
    have A0 := A0.alloc (.cells #[.slice ga (xs).length gi] 26)
    have Bu := Bu.alloc (.cells #[.slice ga (xs).length gi] 26)
    have X0 := X0.alloc (.cells #[.slice ga (xs).length gi] 26)
    have Bg := Blk.new w5 26 #[.slice ga (xs).length gi]
    have hal : Below w5.heap.size w5 (w5.alloc (.cells #[.slice ga (xs).length gi] 26)) := (Below.refl _ _).alloc (Nat.le_refl _) _
    have u := u.below hal (Nat.le_refl _)
    have o1 := o1.below hal
    have g := g.below hal (Nat.le_refl _)
    have fr := below_step fr hal
    have sa4 : (w5.alloc (.cells #[.slice ga (xs).length gi] 26)).heap.size ≤ w5.heap.size + 1 := by simp
    have sb4 : w5.heap.size + 1 ≤ (w5.alloc (.cells #[.slice ga (xs).length gi] 26)).heap.size := by simp
    have q_A0_0 := A0.cell 0
    have q_A0_1 := A0.cell 1
    have q_A0_2 := A0.cell 2
    have q_Bu_0 := Bu.cell 0
    have q_X0_0 := X0.cell 0
    have q_X0_1 := X0.cell 1
    have q_X0_2 := X0.cell 2
    have q_Bg_0 := Bg.cell 0
    go_wp2_with fail
    clear q_A0_0 q_A0_1 q_A0_2 q_Bu_0 q_X0_0 q_X0_1 q_X0_2 q_Bg_0
    refine (eqBranch_c _ _ xs _ g.rd u.rd).mono ?_
    rintro e w6 ⟨rfl, hq⟩
    have A0 := A0.stays hq
    have Bu := Bu.stays hq
    have X0 := X0.stays hq
    have Bg := Bg.stays hq
    have u := u.below hq (Nat.le_refl _)
    have o1 := o1.below hq
    have g := g.below hq (Nat.le_refl _)
    have sz6 := Below.size hq
    have fr := below_step fr hq
    have q_A0_0 := A0.cell 0
    have q_A0_1 := A0.cell 1
    have q_A0_2 := A0.cell 2
    have q_Bu_0 := Bu.cell 0
    have q_X0_0 := X0.cell 0
    have q_X0_1 := X0.cell 1
    have q_X0_2 := X0.cell 2
    have q_Bg_0 := Bg.cell 0
    go_wp2_with fail
    have hd : Below w6.heap.size w6 w6.drew := (Below.refl _ _).drew
    have HC : w6.cell? ⟨w.heap.size, 0, none⟩ = some (a0) ∧ w6.cell? ⟨w.heap.size, 1, none⟩ = some (b0) ∧ w6.cell? ⟨w.heap.size, 2, none⟩ = some (c0) ∧ w6.cell? ⟨w3.heap.size, 0, none⟩ = some (.slice ua (xs).length ui) ∧ w6.cell? ⟨w4.heap.size, 0, none⟩ = some (.slice x1 P0.length i1) ∧ w6.cell? ⟨w4.heap.size, 1, none⟩ = some (.slice y1 S0.length j1) ∧ w6.cell? ⟨w4.heap.size, 2, none⟩ = some (.slice z1 W0.length k1) ∧ w6.cell? ⟨w5.heap.size, 0, none⟩ = some (.slice ga (xs).length gi) := ⟨A0.cell 0, A0.cell 1, A0.cell 2, Bu.cell 0, X0.cell 0, X0.cell 1, X0.cell 2, Bg.cell 0⟩
    clear q_A0_0 q_A0_1 q_A0_2 q_Bu_0 q_X0_0 q_X0_1 q_X0_2 q_Bg_0
    have A0 := A0.stays hd
    have Bu := Bu.stays hd
    have X0 := X0.stays hd
    have Bg := Bg.stays hd
    have u := u.below hd (Nat.le_refl _)
    have o1 := o1.below hd
    have g := g.below hd (Nat.le_refl _)
    have fr := below_step fr hd
    have sa5 : w6.drew.heap.size ≤ w6.heap.size := Nat.le_refl _
    have sb5 : w6.heap.size ≤ w6.drew.heap.size := Nat.le_refl _
    go_region_held3 (fun w' => w'.cell? ⟨w.heap.size, 0, none⟩ = some (a0) ∧ w'.cell? ⟨w.heap.size, 1, none⟩ = some (b0) ∧ w'.cell? ⟨w.heap.size, 2, none⟩ = some (c0) ∧ w'.cell? ⟨w3.heap.size, 0, none⟩ = some (.slice ua (xs).length ui) ∧ w'.cell? ⟨w4.heap.size, 0, none⟩ = some (.slice x1 P0.length i1) ∧ w'.cell? ⟨w4.heap.size, 1, none⟩ = some (.slice y1 S0.length j1) ∧ w'.cell? ⟨w4.heap.size, 2, none⟩ = some (.slice z1 W0.length k1) ∧ w'.cell? ⟨w5.heap.size, 0, none⟩ = some (.slice ga (xs).length gi))
      (first | assumption | exact HC)
      (first
        | (go_at_call 112; (with_reducible refine (toCluster_c _ _ _ P0 S0 W0 _ (ha0.below fr (Nat.le_refl _)) (hb0.below fr (Nat.le_refl _)) (hc0.below fr (Nat.le_refl _)) (by omega) (by omega) (by omega)).mono ?_); rintro e w7 ⟨x2, i2, y2, j2, z2, k2, rfl, o2, hq⟩; have A0 := A0.stays hq; have Bu := Bu.stays hq; have X0 := X0.stays hq; have Bg := Bg.stays hq; have u := u.below hq (Nat.le_refl _); have o1 := o1.below hq; have g := g.below hq (Nat.le_refl _); have sz7 := Below.size hq; have fr := below_step fr hq; have HC : w7.cell? ⟨w.heap.size, 0, none⟩ = some (a0) ∧ w7.cell? ⟨w.heap.size, 1, none⟩ = some (b0) ∧ w7.cell? ⟨w.heap.size, 2, none⟩ = some (c0) ∧ w7.cell? ⟨w3.heap.size, 0, none⟩ = some (.slice ua (xs).length ui) ∧ w7.cell? ⟨w4.heap.size, 0, none⟩ = some (.slice x1 P0.length i1) ∧ w7.cell? ⟨w4.heap.size, 1, none⟩ = some (.slice y1 S0.length j1) ∧ w7.cell? ⟨w4.heap.size, 2, none⟩ = some (.slice z1 W0.length k1) ∧ w7.cell? ⟨w5.heap.size, 0, none⟩ = some (.slice ga (xs).length gi) := ⟨A0.cell 0, A0.cell 1, A0.cell 2, Bu.cell 0, X0.cell 0, X0.cell 1, X0.cell 2, Bg.cell 0⟩)
        | (go_at_call 34; (with_reducible refine (eqCluster_c _ _ _ _ _ _ P0 S0 W0 _ o1.a.rd o1.b.rd o1.c.rd o2.a.rd o2.b.rd o2.c.rd).mono ?_); rintro e w8 ⟨rfl, hq⟩; have A0 := A0.stays hq; have Bu := Bu.stays hq; have X0 := X0.stays hq; have Bg := Bg.stays hq; have u := u.below hq (Nat.le_refl _); have o1 := o1.below hq; have g := g.below hq (Nat.le_refl _); have o2 := o2.below hq; have sz8 := Below.size hq; have fr := below_step fr hq; have HC : w8.cell? ⟨w.heap.size, 0, none⟩ = some (a0) ∧ w8.cell? ⟨w.heap.size, 1, none⟩ = some (b0) ∧ w8.cell? ⟨w.heap.size, 2, none⟩ = some (c0) ∧ w8.cell? ⟨w3.heap.size, 0, none⟩ = some (.slice ua (xs).length ui) ∧ w8.cell? ⟨w4.heap.size, 0, none⟩ = some (.slice x1 P0.length i1) ∧ w8.cell? ⟨w4.heap.size, 1, none⟩ = some (.slice y1 S0.length j1) ∧ w8.cell? ⟨w4.heap.size, 2, none⟩ = some (.slice z1 W0.length k1) ∧ w8.cell? ⟨w5.heap.size, 0, none⟩ = some (.slice ga (xs).length gi) := ⟨A0.cell 0, A0.cell 1, A0.cell 2, Bu.cell 0, X0.cell 0, X0.cell 1, X0.cell 2, Bg.cell 0⟩))
    have q_A0_0 := A0.cell 0
    have q_A0_1 := A0.cell 1
    have q_A0_2 := A0.cell 2
    have q_Bu_0 := Bu.cell 0
    have q_X0_0 := X0.cell 0
    have q_X0_1 := X0.cell 1
    have q_X0_2 := X0.cell 2
    have q_Bg_0 := Bg.cell 0
    go_wp2_with fail
    clear q_A0_0 q_A0_1 q_A0_2 q_Bu_0 q_X0_0 q_X0_1 q_X0_2 q_Bg_0
    refine (markCluster_c _ _ _ P0 S0 W0 (1) _ _ o1 (by omega) (by omega) ⟨(by omega), (by omega), (by omega)⟩).mono ?_
    rintro e w9 ⟨rfl, o1n, hk⟩
    have szf := Below.size fr
    have A0 := A0.keeps hk (fun h => by have := rg_o1 _ h; omega)
    have Bu := Bu.keeps hk (fun h => by have := rg_o1 _ h; omega)
    have X0 := X0.keeps hk (fun h => by have := rg_o1 _ h; omega)
    have Bg := Bg.keeps hk (fun h => by have := rg_o1 _ h; omega)
    have u := u.keeps hk (fun g h1 h2 => by have := rg_u g h1; have := rg_o1 g h2; omega)
    have g := g.keeps hk (fun g h1 h2 => by have := rg_g g h1; have := rg_o1 g h2; omega)
    have sz9 := Keeps.size hk
    have fr := fr.trans (hk.below (Below.size fr) (fun g h => by have := rg_o1 g h; omega))
    have o1 := o1n
    have q_A0_0 := A0.cell 0
    have q_A0_1 := A0.cell 1
    have q_A0_2 := A0.cell 2
    have q_Bu_0 := Bu.cell 0
    have q_X0_0 := X0.cell 0
    have q_X0_1 := X0.cell 1
    have q_X0_2 := X0.cell 2
    have q_Bg_0 := Bg.cell 0
    go_wp2_with fail
    clear q_A0_0 q_A0_1 q_A0_2 q_Bu_0 q_X0_0 q_X0_1 q_X0_2 q_Bg_0
    refine (eqBranch_c _ _ xs _ g.rd u.rd).mono ?_
    rintro e w10 ⟨rfl, hq⟩
    have A0 := A0.stays hq
    have Bu := Bu.stays hq
    have X0 := X0.stays hq
    have Bg := Bg.stays hq
    have u := u.below hq (Nat.le_refl _)
    have o1 := o1.below hq
    have g := g.below hq (Nat.le_refl _)
    have sz10 := Below.size hq
    have fr := below_step fr hq
    have q_A0_0 := A0.cell 0
    have q_A0_1 := A0.cell 1
    have q_A0_2 := A0.cell 2
    have q_Bu_0 := Bu.cell 0
    have q_X0_0 := X0.cell 0
    have q_X0_1 := X0.cell 1
    have q_X0_2 := X0.cell 2
    have q_Bg_0 := Bg.cell 0
    go_wp2_with fail
    clear q_A0_0 q_A0_1 q_A0_2 q_Bu_0 q_X0_0 q_X0_1 q_X0_2 q_Bg_0
    refine (markBranch_c _ xs (1) _ _ g (by omega) (by omega) (by omega)).mono ?_
    rintro e w11 ⟨rfl, gn, hk⟩
    have szf := Below.size fr
    have A0 := A0.keeps hk (fun h => by have := rg_g _ h; omega)
    have Bu := Bu.keeps hk (fun h => by have := rg_g _ h; omega)
    have X0 := X0.keeps hk (fun h => by have := rg_g _ h; omega)
    have Bg := Bg.keeps hk (fun h => by have := rg_g _ h; omega)
    have u := u.keeps hk (fun g h1 h2 => by have := rg_u g h1; have := rg_g g h2; omega)
    have o1 := o1.keeps hk (fun g h1 h2 => by have := rg_o1 g h1; have := rg_g g h2; omega)
    have sz11 := Keeps.size hk
    have fr := fr.trans (hk.below (Below.size fr) (fun g h => by have := rg_g g h; omega))
    have g := gn
    have q_A0_0 := A0.cell 0
    have q_A0_1 := A0.cell 1
    have q_A0_2 := A0.cell 2
    have q_Bu_0 := Bu.cell 0
    have q_X0_0 := X0.cell 0
    have q_X0_1 := X0.cell 1
    have q_X0_2 := X0.cell 2
    have q_Bg_0 := Bg.cell 0
    go_wp2_with fail
    clear q_A0_0 q_A0_1 q_A0_2 q_Bu_0 q_X0_0 q_X0_1 q_X0_2 q_Bg_0
    refine (heldBranch_c _ (xs).length 1 _ g.rd (by omega) (by omega) (by omega)).mono ?_
    rintro e w12 ⟨rfl, hq⟩
    have A0 := A0.stays hq
    have Bu := Bu.stays hq
    have X0 := X0.stays hq
    have Bg := Bg.stays hq
    have u := u.below hq (Nat.le_refl _)
    have o1 := o1.below hq
    have g := g.below hq (Nat.le_refl _)
    have sz12 := Below.size hq
    have fr := below_step fr hq
    have q_A0_0 := A0.cell 0
    have q_A0_1 := A0.cell 1
    have q_A0_2 := A0.cell 2
    have q_Bu_0 := Bu.cell 0
    have q_X0_0 := X0.cell 0
    have q_X0_1 := X0.cell 1
    have q_X0_2 := X0.cell 2
    have q_Bg_0 := Bg.cell 0
    go_wp2_with fail
    clear q_A0_0 q_A0_1 q_A0_2 q_Bu_0 q_X0_0 q_X0_1 q_X0_2 q_Bg_0
    refine (toCluster_c _ _ _ P0 S0 W0 _ (ha0.below fr (Nat.le_refl _)) (hb0.below fr (Nat.le_refl _)) (hc0.below fr (Nat.le_refl _)) (by omega) (by omega) (by omega)).mono ?_
    rintro e w13 ⟨x3, i3, y3, j3, z3, k3, rfl, o3, hq⟩
    have A0 := A0.stays hq
    have Bu := Bu.stays hq
    have X0 := X0.stays hq
    have Bg := Bg.stays hq
    have u := u.below hq (Nat.le_refl _)
    have g := g.below hq (Nat.le_refl _)
    have sz13 := Below.size hq
    have fr := below_step fr hq
    have rg_o3 := o3.block
    have q_A0_0 := A0.cell 0
    have q_A0_1 := A0.cell 1
    have q_A0_2 := A0.cell 2
    have q_Bu_0 := Bu.cell 0
    have q_X0_0 := X0.cell 0
    have q_X0_1 := X0.cell 1
    have q_X0_2 := X0.cell 2
    have q_Bg_0 := Bg.cell 0
    go_wp2_with fail
    clear q_A0_0 q_A0_1 q_A0_2 q_Bu_0 q_X0_0 q_X0_1 q_X0_2 q_Bg_0
    refine (implBapW_c _ _ _ P0 S0 W0 n1 _ o3.a.rd o3.b.rd o3.c.rd wf1 xs c HR.out).mono ?_
    rintro e w14 ⟨ha, hi, rfl, h, hq⟩
    have A0 := A0.stays hq
    have Bu := Bu.stays hq
    have X0 := X0.stays hq
    have Bg := Bg.stays hq
    have u := u.below hq (Nat.le_refl _)
    have g := g.below hq (Nat.le_refl _)
    have o3 := o3.below hq
    have sz14 := Below.size hq
    have fr := below_step fr hq
    have rg_h := h.block
    have A0 := A0.alloc (.cells #[.slice ha (xs).length hi] 26)
    have Bu := Bu.alloc (.cells #[.slice ha (xs).length hi] 26)
    have X0 := X0.alloc (.cells #[.slice ha (xs).length hi] 26)
    have Bg := Bg.alloc (.cells #[.slice ha (xs).length hi] 26)
    have Bh := Blk.new w14 26 #[.slice ha (xs).length hi]
    have hal : Below w14.heap.size w14 (w14.alloc (.cells #[.slice ha (xs).length hi] 26)) := (Below.refl _ _).alloc (Nat.le_refl _) _
    have u := u.below hal (Nat.le_refl _)
    have g := g.below hal (Nat.le_refl _)
    have h := h.below hal (Nat.le_refl _)
    have fr := below_step fr hal
    have sa6 : (w14.alloc (.cells #[.slice ha (xs).length hi] 26)).heap.size ≤ w14.heap.size + 1 := by simp
    have sb6 : w14.heap.size + 1 ≤ (w14.alloc (.cells #[.slice ha (xs).length hi] 26)).heap.size := by simp
    have q_A0_0 := A0.cell 0
    have q_A0_1 := A0.cell 1
    have q_A0_2 := A0.cell 2
    have q_Bu_0 := Bu.cell 0
    have q_X0_0 := X0.cell 0
    have q_X0_1 := X0.cell 1
    have q_X0_2 := X0.cell 2
    have q_Bg_0 := Bg.cell 0
    have q_Bh_0 := Bh.cell 0
    go_wp2_with fail
    clear q_A0_0 q_A0_1 q_A0_2 q_Bu_0 q_X0_0 q_X0_1 q_X0_2 q_Bg_0 q_Bh_0
    refine (eqBranch_c _ _ xs _ h.rd u.rd).mono ?_
    rintro e w15 ⟨rfl, hq⟩
    have A0 := A0.stays hq
    have Bu := Bu.stays hq
    have X0 := X0.stays hq
    have Bg := Bg.stays hq
    have Bh := Bh.stays hq
    have u := u.below hq (Nat.le_refl _)
    have g := g.below hq (Nat.le_refl _)
    have h := h.below hq (Nat.le_refl _)
    have sz15 := Below.size hq
    have fr := below_step fr hq
    have q_A0_0 := A0.cell 0
    have q_A0_1 := A0.cell 1
    have q_A0_2 := A0.cell 2
    have q_Bu_0 := Bu.cell 0
    have q_X0_0 := X0.cell 0
    have q_X0_1 := X0.cell 1
    have q_X0_2 := X0.cell 2
    have q_Bg_0 := Bg.cell 0
    have q_Bh_0 := Bh.cell 0
    go_wp2_with fail
    clear q_A0_0 q_A0_1 q_A0_2 q_Bu_0 q_X0_0 q_X0_1 q_X0_2 q_Bg_0 q_Bh_0
    refine (heldBranch_c _ (xs).length 1 _ g.rd (by omega) (by omega) (by omega)).mono ?_
    rintro e w16 ⟨rfl, hq⟩
    have A0 := A0.stays hq
    have Bu := Bu.stays hq
    have X0 := X0.stays hq
    have Bg := Bg.stays hq
    have Bh := Bh.stays hq
    have u := u.below hq (Nat.le_refl _)
    have g := g.below hq (Nat.le_refl _)
    have h := h.below hq (Nat.le_refl _)
    have sz16 := Below.size hq
    have fr := below_step fr hq
    have q_A0_0 := A0.cell 0
    have q_A0_1 := A0.cell 1
    have q_A0_2 := A0.cell 2
    have q_Bu_0 := Bu.cell 0
    have q_X0_0 := X0.cell 0
    have q_X0_1 := X0.cell 1
    have q_X0_2 := X0.cell 2
    have q_Bg_0 := Bg.cell 0
    have q_Bh_0 := Bh.cell 0
    go_wp2
    go_ret
    exact ⟨rfl, fr⟩
  · skip
    have A0 := Blk.new w 84 #[a0, b0, c0]
    have hal : Below w.heap.size w (w.alloc (.cells #[a0, b0, c0] 84)) := (Below.refl _ _).alloc (Nat.le_refl _) _
    have fr : Below w.heap.size w (w.alloc (.cells #[a0, b0, c0] 84)) := hal
    have sa7 : (w.alloc (.cells #[a0, b0, c0] 84)).heap.size ≤ w.heap.size + 1 := by simp
    have sb7 : w.heap.size + 1 ≤ (w.alloc (.cells #[a0, b0, c0] 84)).heap.size := by simp
    have q_A0_0 := A0.cell 0
    have q_A0_1 := A0.cell 1
    have q_A0_2 := A0.cell 2
    go_enter Try.func15, Try.ntmps15
    go_wp2_with fail
    clear q_A0_0 q_A0_1 q_A0_2
    refine (szCluster_no _ _ _ P0 S0 W0 1048576 _ (ha0.below fr (Nat.le_refl _)) (hb0.below fr (Nat.le_refl _)) (hc0.below fr (Nat.le_refl _)) (by omega) (by omega) (by omega)).mono ?_
    rintro e w1 ⟨rfl, hq⟩
    have A0 := A0.stays hq
    have sz1 := Below.size hq
    have fr := below_step fr hq
    go_wp2
    go_ret
    exact ⟨rfl, fr⟩
end Go.Proofs.Ytibfigmnoamheaa.fnExactBranchAtPoint
