/- The walk of 'FnExactUnloadStep': spec.UnloadStep and impl.UnloadStep agree, the arguments stay as they are, and what is handed back lies in new memory. -/
import Derived.Test.YtgjnllialhjhoaaUSS
import Derived.Test.YtgjnllialhjhoaaMarkC
import Derived.Deep.RegionHeld3
namespace Go.Proofs.Ytgjnllialhjhoaa.fnExactUnloadStep
open Go.RowKit

set_option maxRecDepth 100000 in
set_option maxHeartbeats 4000000 in
theorem walk (w : World) (a0 b0 c0 : Value) (P0 S0 W0 : List Int) (ha0 : Rd w a0 P0) (hb0 : Rd w b0 S0) (hc0 : Rd w c0 W0) :
    Calls Try.prog 13 #[.agg #[a0, b0, c0]] w fun e w' => e = .returned (.bool true) ∧ Below w.heap.size w w' := by
  by_cases hz0 : (P0.length : Int) + (S0.length : Int) + (W0.length : Int) ≤ 1048576
  · skip
    have hsr0 : (okL (usB P0 S0 W0) P0).length ≤ 1048576 := okL_len (fun _ => by omega)
    have hsr1 : (okL (usB P0 S0 W0) S0).length ≤ 1048576 := okL_len (fun _ => by omega)
    have hsr2 : (okL (usB P0 S0 W0) (usL P0 S0 W0)).length ≤ 1048576 := us_len P0 S0 W0
    have A0 := Blk.new w 49 #[a0, b0, c0]
    have hal : Below w.heap.size w (w.alloc (.cells #[a0, b0, c0] 49)) := (Below.refl _ _).alloc (Nat.le_refl _) _
    have fr : Below w.heap.size w (w.alloc (.cells #[a0, b0, c0] 49)) := hal
    have sa1 : (w.alloc (.cells #[a0, b0, c0] 49)).heap.size ≤ w.heap.size + 1 := by simp
    have sb1 : w.heap.size + 1 ≤ (w.alloc (.cells #[a0, b0, c0] 49)).heap.size := by simp
    have q_A0_0 := A0.cell 0
    have q_A0_1 := A0.cell 1
    have q_A0_2 := A0.cell 2
    go_enter Try.func13, Try.ntmps13
    go_wp2_with fail
    clear q_A0_0 q_A0_1 q_A0_2
    refine (szCluster_ok _ _ _ P0 S0 W0 1048576 _ (ha0.below fr (Nat.le_refl _)) (hb0.below fr (Nat.le_refl _)) (hc0.below fr (Nat.le_refl _)) (by omega) (by omega) (by omega)).mono ?_
    rintro e w1 ⟨rfl, hq⟩
    have A0 := A0.stays hq
    have sz1 := Below.size hq
    have fr := below_step fr hq
    have q_A0_0 := A0.cell 0
    have q_A0_1 := A0.cell 1
    have q_A0_2 := A0.cell 2
    go_wp2_with fail
    clear q_A0_0 q_A0_1 q_A0_2
    refine (toCluster_c _ _ _ P0 S0 W0 _ (ha0.below fr (Nat.le_refl _)) (hb0.below fr (Nat.le_refl _)) (hc0.below fr (Nat.le_refl _)) (by omega) (by omega) (by omega)).mono ?_
    rintro e w2 ⟨x0, i0, y0, j0, z0, k0, rfl, o0, hq⟩
    have A0 := A0.stays hq
    have sz2 := Below.size hq
    have fr := below_step fr hq
    have rg_o0 := o0.block
    have q_A0_0 := A0.cell 0
    have q_A0_1 := A0.cell 1
    have q_A0_2 := A0.cell 2
    go_wp2_with fail
    clear q_A0_0 q_A0_1 q_A0_2
    refine (specUS_c _ _ _ P0 S0 W0 _ o0.a.rd o0.b.rd o0.c.rd).mono ?_
    rintro e w3 ⟨ua, ui, ub, uj, uc, uk, rfl, u, hq⟩
    have A0 := A0.stays hq
    have o0 := o0.below hq
    have sz3 := Below.size hq
    have fr := below_step fr hq
    have rg_u := u.block
    have A0 := A0.alloc (.cells #[.slice ua (okL (usB P0 S0 W0) P0).length ui, .slice ub (okL (usB P0 S0 W0) S0).length uj, .slice uc (okL (usB P0 S0 W0) (usL P0 S0 W0)).length uk] 51)
    have Bu := Blk.new w3 51 #[.slice ua (okL (usB P0 S0 W0) P0).length ui, .slice ub (okL (usB P0 S0 W0) S0).length uj, .slice uc (okL (usB P0 S0 W0) (usL P0 S0 W0)).length uk]
    have hal : Below w3.heap.size w3 (w3.alloc (.cells #[.slice ua (okL (usB P0 S0 W0) P0).length ui, .slice ub (okL (usB P0 S0 W0) S0).length uj, .slice uc (okL (usB P0 S0 W0) (usL P0 S0 W0)).length uk] 51)) := (Below.refl _ _).alloc (Nat.le_refl _) _
    have u := u.below hal
    have fr := below_step fr hal
    have sa2 : (w3.alloc (.cells #[.slice ua (okL (usB P0 S0 W0) P0).length ui, .slice ub (okL (usB P0 S0 W0) S0).length uj, .slice uc (okL (usB P0 S0 W0) (usL P0 S0 W0)).length uk] 51)).heap.size ≤ w3.heap.size + 1 := by simp
    have sb2 : w3.heap.size + 1 ≤ (w3.alloc (.cells #[.slice ua (okL (usB P0 S0 W0) P0).length ui, .slice ub (okL (usB P0 S0 W0) S0).length uj, .slice uc (okL (usB P0 S0 W0) (usL P0 S0 W0)).length uk] 51)).heap.size := by simp
    have q_A0_0 := A0.cell 0
    have q_A0_1 := A0.cell 1
    have q_A0_2 := A0.cell 2
    have q_Bu_0 := Bu.cell 0
    have q_Bu_1 := Bu.cell 1
    have q_Bu_2 := Bu.cell 2
    go_wp2_with fail
    clear q_A0_0 q_A0_1 q_A0_2 q_Bu_0 q_Bu_1 q_Bu_2
    refine (toCluster_c _ _ _ P0 S0 W0 _ (ha0.below fr (Nat.le_refl _)) (hb0.below fr (Nat.le_refl _)) (hc0.below fr (Nat.le_refl _)) (by omega) (by omega) (by omega)).mono ?_
    rintro e w4 ⟨x1, i1, y1, j1, z1, k1, rfl, o1, hq⟩
    have A0 := A0.stays hq
    have Bu := Bu.stays hq
    have u := u.below hq
    have sz4 := Below.size hq
    have fr := below_step fr hq
    have rg_o1 := o1.block
    have A0 := A0.alloc (.cells #[.slice x1 P0.length i1, .slice y1 S0.length j1, .slice z1 W0.length k1] 51)
    have Bu := Bu.alloc (.cells #[.slice x1 P0.length i1, .slice y1 S0.length j1, .slice z1 W0.length k1] 51)
    have X0 := Blk.new w4 51 #[.slice x1 P0.length i1, .slice y1 S0.length j1, .slice z1 W0.length k1]
    have hal : Below w4.heap.size w4 (w4.alloc (.cells #[.slice x1 P0.length i1, .slice y1 S0.length j1, .slice z1 W0.length k1] 51)) := (Below.refl _ _).alloc (Nat.le_refl _) _
    have u := u.below hal
    have o1 := o1.below hal
    have fr := below_step fr hal
    have sa3 : (w4.alloc (.cells #[.slice x1 P0.length i1, .slice y1 S0.length j1, .slice z1 W0.length k1] 51)).heap.size ≤ w4.heap.size + 1 := by simp
    have sb3 : w4.heap.size + 1 ≤ (w4.alloc (.cells #[.slice x1 P0.length i1, .slice y1 S0.length j1, .slice z1 W0.length k1] 51)).heap.size := by simp
    have q_A0_0 := A0.cell 0
    have q_A0_1 := A0.cell 1
    have q_A0_2 := A0.cell 2
    have q_Bu_0 := Bu.cell 0
    have q_Bu_1 := Bu.cell 1
    have q_Bu_2 := Bu.cell 2
    have q_X0_0 := X0.cell 0
    have q_X0_1 := X0.cell 1
    have q_X0_2 := X0.cell 2
    go_wp2_with fail
    clear q_A0_0 q_A0_1 q_A0_2 q_Bu_0 q_Bu_1 q_Bu_2 q_X0_0 q_X0_1 q_X0_2
    refine (implUS_c _ _ _ P0 S0 W0 _ o1.a.rd o1.b.rd o1.c.rd).mono ?_
    rintro e w5 ⟨ga, gi, gb, gj, gc, gk, rfl, g, hq⟩
    have A0 := A0.stays hq
    have Bu := Bu.stays hq
    have X0 := X0.stays hq
    have u := u.below hq
    have o1 := o1.below hq
    have sz5 := Below.size hq
    have fr := below_step fr hq
    have rg_g := g.block
    have A0 := A0.alloc (.cells #[.slice ga (okL (usB P0 S0 W0) P0).length gi, .slice gb (okL (usB P0 S0 W0) S0).length gj, .slice gc (okL (usB P0 S0 W0) (usL P0 S0 W0)).length gk] 51)
    have Bu := Bu.alloc (.cells #[.slice ga (okL (usB P0 S0 W0) P0).length gi, .slice gb (okL (usB P0 S0 W0) S0).length gj, .slice gc (okL (usB P0 S0 W0) (usL P0 S0 W0)).length gk] 51)
    have X0 := X0.alloc (.cells #[.slice ga (okL (usB P0 S0 W0) P0).length gi, .slice gb (okL (usB P0 S0 W0) S0).length gj, .slice gc (okL (usB P0 S0 W0) (usL P0 S0 W0)).length gk] 51)
    have Bg := Blk.new w5 51 #[.slice ga (okL (usB P0 S0 W0) P0).length gi, .slice gb (okL (usB P0 S0 W0) S0).length gj, .slice gc (okL (usB P0 S0 W0) (usL P0 S0 W0)).length gk]
    have hal : Below w5.heap.size w5 (w5.alloc (.cells #[.slice ga (okL (usB P0 S0 W0) P0).length gi, .slice gb (okL (usB P0 S0 W0) S0).length gj, .slice gc (okL (usB P0 S0 W0) (usL P0 S0 W0)).length gk] 51)) := (Below.refl _ _).alloc (Nat.le_refl _) _
    have u := u.below hal
    have o1 := o1.below hal
    have g := g.below hal
    have fr := below_step fr hal
    have sa4 : (w5.alloc (.cells #[.slice ga (okL (usB P0 S0 W0) P0).length gi, .slice gb (okL (usB P0 S0 W0) S0).length gj, .slice gc (okL (usB P0 S0 W0) (usL P0 S0 W0)).length gk] 51)).heap.size ≤ w5.heap.size + 1 := by simp
    have sb4 : w5.heap.size + 1 ≤ (w5.alloc (.cells #[.slice ga (okL (usB P0 S0 W0) P0).length gi, .slice gb (okL (usB P0 S0 W0) S0).length gj, .slice gc (okL (usB P0 S0 W0) (usL P0 S0 W0)).length gk] 51)).heap.size := by simp
    have q_A0_0 := A0.cell 0
    have q_A0_1 := A0.cell 1
    have q_A0_2 := A0.cell 2
    have q_Bu_0 := Bu.cell 0
    have q_Bu_1 := Bu.cell 1
    have q_Bu_2 := Bu.cell 2
    have q_X0_0 := X0.cell 0
    have q_X0_1 := X0.cell 1
    have q_X0_2 := X0.cell 2
    have q_Bg_0 := Bg.cell 0
    have q_Bg_1 := Bg.cell 1
    have q_Bg_2 := Bg.cell 2
    go_wp2_with fail
    clear q_A0_0 q_A0_1 q_A0_2 q_Bu_0 q_Bu_1 q_Bu_2 q_X0_0 q_X0_1 q_X0_2 q_Bg_0 q_Bg_1 q_Bg_2
    refine (eqCluster_c _ _ _ _ _ _ (okL (usB P0 S0 W0) P0) (okL (usB P0 S0 W0) S0) (okL (usB P0 S0 W0) (usL P0 S0 W0)) _ g.a.rd g.b.rd g.c.rd u.a.rd u.b.rd u.c.rd).mono ?_
    rintro e w6 ⟨rfl, hq⟩
    have A0 := A0.stays hq
    have Bu := Bu.stays hq
    have X0 := X0.stays hq
    have Bg := Bg.stays hq
    have u := u.below hq
    have o1 := o1.below hq
    have g := g.below hq
    have sz6 := Below.size hq
    have fr := below_step fr hq
    have q_A0_0 := A0.cell 0
    have q_A0_1 := A0.cell 1
    have q_A0_2 := A0.cell 2
    have q_Bu_0 := Bu.cell 0
    have q_Bu_1 := Bu.cell 1
    have q_Bu_2 := Bu.cell 2
    have q_X0_0 := X0.cell 0
    have q_X0_1 := X0.cell 1
    have q_X0_2 := X0.cell 2
    have q_Bg_0 := Bg.cell 0
    have q_Bg_1 := Bg.cell 1
    have q_Bg_2 := Bg.cell 2
    go_wp2_with fail
    have hd : Below w6.heap.size w6 w6.drew := (Below.refl _ _).drew
    have HC : w6.cell? ⟨w.heap.size, 0, none⟩ = some (a0) ∧ w6.cell? ⟨w.heap.size, 1, none⟩ = some (b0) ∧ w6.cell? ⟨w.heap.size, 2, none⟩ = some (c0) ∧ w6.cell? ⟨w3.heap.size, 0, none⟩ = some (.slice ua (okL (usB P0 S0 W0) P0).length ui) ∧ w6.cell? ⟨w3.heap.size, 1, none⟩ = some (.slice ub (okL (usB P0 S0 W0) S0).length uj) ∧ w6.cell? ⟨w3.heap.size, 2, none⟩ = some (.slice uc (okL (usB P0 S0 W0) (usL P0 S0 W0)).length uk) ∧ w6.cell? ⟨w4.heap.size, 0, none⟩ = some (.slice x1 P0.length i1) ∧ w6.cell? ⟨w4.heap.size, 1, none⟩ = some (.slice y1 S0.length j1) ∧ w6.cell? ⟨w4.heap.size, 2, none⟩ = some (.slice z1 W0.length k1) ∧ w6.cell? ⟨w5.heap.size, 0, none⟩ = some (.slice ga (okL (usB P0 S0 W0) P0).length gi) ∧ w6.cell? ⟨w5.heap.size, 1, none⟩ = some (.slice gb (okL (usB P0 S0 W0) S0).length gj) ∧ w6.cell? ⟨w5.heap.size, 2, none⟩ = some (.slice gc (okL (usB P0 S0 W0) (usL P0 S0 W0)).length gk) := ⟨A0.cell 0, A0.cell 1, A0.cell 2, Bu.cell 0, Bu.cell 1, Bu.cell 2, X0.cell 0, X0.cell 1, X0.cell 2, Bg.cell 0, Bg.cell 1, Bg.cell 2⟩
    clear q_A0_0 q_A0_1 q_A0_2 q_Bu_0 q_Bu_1 q_Bu_2 q_X0_0 q_X0_1 q_X0_2 q_Bg_0 q_Bg_1 q_Bg_2
    have A0 := A0.stays hd
    have Bu := Bu.stays hd
    have X0 := X0.stays hd
    have Bg := Bg.stays hd
    have u := u.below hd
    have o1 := o1.below hd
    have g := g.below hd
    have fr := below_step fr hd
    have sa5 : w6.drew.heap.size ≤ w6.heap.size := Nat.le_refl _
    have sb5 : w6.heap.size ≤ w6.drew.heap.size := Nat.le_refl _
    go_region_held3 (fun w' => w'.cell? ⟨w.heap.size, 0, none⟩ = some (a0) ∧ w'.cell? ⟨w.heap.size, 1, none⟩ = some (b0) ∧ w'.cell? ⟨w.heap.size, 2, none⟩ = some (c0) ∧ w'.cell? ⟨w3.heap.size, 0, none⟩ = some (.slice ua (okL (usB P0 S0 W0) P0).length ui) ∧ w'.cell? ⟨w3.heap.size, 1, none⟩ = some (.slice ub (okL (usB P0 S0 W0) S0).length uj) ∧ w'.cell? ⟨w3.heap.size, 2, none⟩ = some (.slice uc (okL (usB P0 S0 W0) (usL P0 S0 W0)).length uk) ∧ w'.cell? ⟨w4.heap.size, 0, none⟩ = some (.slice x1 P0.length i1) ∧ w'.cell? ⟨w4.heap.size, 1, none⟩ = some (.slice y1 S0.length j1) ∧ w'.cell? ⟨w4.heap.size, 2, none⟩ = some (.slice z1 W0.length k1) ∧ w'.cell? ⟨w5.heap.size, 0, none⟩ = some (.slice ga (okL (usB P0 S0 W0) P0).length gi) ∧ w'.cell? ⟨w5.heap.size, 1, none⟩ = some (.slice gb (okL (usB P0 S0 W0) S0).length gj) ∧ w'.cell? ⟨w5.heap.size, 2, none⟩ = some (.slice gc (okL (usB P0 S0 W0) (usL P0 S0 W0)).length gk))
      (first | assumption | exact HC)
      (first
        | (go_at_call 45; (with_reducible refine (toCluster_c _ _ _ P0 S0 W0 _ (ha0.below fr (Nat.le_refl _)) (hb0.below fr (Nat.le_refl _)) (hc0.below fr (Nat.le_refl _)) (by omega) (by omega) (by omega)).mono ?_); rintro e w7 ⟨x2, i2, y2, j2, z2, k2, rfl, o2, hq⟩; have A0 := A0.stays hq; have Bu := Bu.stays hq; have X0 := X0.stays hq; have Bg := Bg.stays hq; have u := u.below hq; have o1 := o1.below hq; have g := g.below hq; have sz7 := Below.size hq; have fr := below_step fr hq; have HC : w7.cell? ⟨w.heap.size, 0, none⟩ = some (a0) ∧ w7.cell? ⟨w.heap.size, 1, none⟩ = some (b0) ∧ w7.cell? ⟨w.heap.size, 2, none⟩ = some (c0) ∧ w7.cell? ⟨w3.heap.size, 0, none⟩ = some (.slice ua (okL (usB P0 S0 W0) P0).length ui) ∧ w7.cell? ⟨w3.heap.size, 1, none⟩ = some (.slice ub (okL (usB P0 S0 W0) S0).length uj) ∧ w7.cell? ⟨w3.heap.size, 2, none⟩ = some (.slice uc (okL (usB P0 S0 W0) (usL P0 S0 W0)).length uk) ∧ w7.cell? ⟨w4.heap.size, 0, none⟩ = some (.slice x1 P0.length i1) ∧ w7.cell? ⟨w4.heap.size, 1, none⟩ = some (.slice y1 S0.length j1) ∧ w7.cell? ⟨w4.heap.size, 2, none⟩ = some (.slice z1 W0.length k1) ∧ w7.cell? ⟨w5.heap.size, 0, none⟩ = some (.slice ga (okL (usB P0 S0 W0) P0).length gi) ∧ w7.cell? ⟨w5.heap.size, 1, none⟩ = some (.slice gb (okL (usB P0 S0 W0) S0).length gj) ∧ w7.cell? ⟨w5.heap.size, 2, none⟩ = some (.slice gc (okL (usB P0 S0 W0) (usL P0 S0 W0)).length gk) := ⟨A0.cell 0, A0.cell 1, A0.cell 2, Bu.cell 0, Bu.cell 1, Bu.cell 2, X0.cell 0, X0.cell 1, X0.cell 2, Bg.cell 0, Bg.cell 1, Bg.cell 2⟩)
        | (go_at_call 47; (with_reducible refine (eqCluster_c _ _ _ _ _ _ P0 S0 W0 _ o1.a.rd o1.b.rd o1.c.rd o2.a.rd o2.b.rd o2.c.rd).mono ?_); rintro e w8 ⟨rfl, hq⟩; have A0 := A0.stays hq; have Bu := Bu.stays hq; have X0 := X0.stays hq; have Bg := Bg.stays hq; have u := u.below hq; have o1 := o1.below hq; have g := g.below hq; have o2 := o2.below hq; have sz8 := Below.size hq; have fr := below_step fr hq; have HC : w8.cell? ⟨w.heap.size, 0, none⟩ = some (a0) ∧ w8.cell? ⟨w.heap.size, 1, none⟩ = some (b0) ∧ w8.cell? ⟨w.heap.size, 2, none⟩ = some (c0) ∧ w8.cell? ⟨w3.heap.size, 0, none⟩ = some (.slice ua (okL (usB P0 S0 W0) P0).length ui) ∧ w8.cell? ⟨w3.heap.size, 1, none⟩ = some (.slice ub (okL (usB P0 S0 W0) S0).length uj) ∧ w8.cell? ⟨w3.heap.size, 2, none⟩ = some (.slice uc (okL (usB P0 S0 W0) (usL P0 S0 W0)).length uk) ∧ w8.cell? ⟨w4.heap.size, 0, none⟩ = some (.slice x1 P0.length i1) ∧ w8.cell? ⟨w4.heap.size, 1, none⟩ = some (.slice y1 S0.length j1) ∧ w8.cell? ⟨w4.heap.size, 2, none⟩ = some (.slice z1 W0.length k1) ∧ w8.cell? ⟨w5.heap.size, 0, none⟩ = some (.slice ga (okL (usB P0 S0 W0) P0).length gi) ∧ w8.cell? ⟨w5.heap.size, 1, none⟩ = some (.slice gb (okL (usB P0 S0 W0) S0).length gj) ∧ w8.cell? ⟨w5.heap.size, 2, none⟩ = some (.slice gc (okL (usB P0 S0 W0) (usL P0 S0 W0)).length gk) := ⟨A0.cell 0, A0.cell 1, A0.cell 2, Bu.cell 0, Bu.cell 1, Bu.cell 2, X0.cell 0, X0.cell 1, X0.cell 2, Bg.cell 0, Bg.cell 1, Bg.cell 2⟩))
    have q_A0_0 := A0.cell 0
    have q_A0_1 := A0.cell 1
    have q_A0_2 := A0.cell 2
    have q_Bu_0 := Bu.cell 0
    have q_Bu_1 := Bu.cell 1
    have q_Bu_2 := Bu.cell 2
    have q_X0_0 := X0.cell 0
    have q_X0_1 := X0.cell 1
    have q_X0_2 := X0.cell 2
    have q_Bg_0 := Bg.cell 0
    have q_Bg_1 := Bg.cell 1
    have q_Bg_2 := Bg.cell 2
    go_wp2_with fail
    clear q_A0_0 q_A0_1 q_A0_2 q_Bu_0 q_Bu_1 q_Bu_2 q_X0_0 q_X0_1 q_X0_2 q_Bg_0 q_Bg_1 q_Bg_2
    refine (markCluster_c _ _ _ P0 S0 W0 (1) _ _ o1 (by omega) (by omega) ⟨(by omega), (by omega), (by omega)⟩).mono ?_
    rintro e w9 ⟨rfl, o1n, hk⟩
    have szf := Below.size fr
    have A0 := A0.keeps hk (fun h => by have := rg_o1 _ h; omega)
    have Bu := Bu.keeps hk (fun h => by have := rg_o1 _ h; omega)
    have X0 := X0.keeps hk (fun h => by have := rg_o1 _ h; omega)
    have Bg := Bg.keeps hk (fun h => by have := rg_o1 _ h; omega)
    have u := u.keeps hk (fun g h1 h2 => by have := rg_u g h1; have := rg_o1 g h2; omega)
    have g := g.keeps hk (fun g h1 h2 => by have := rg_g g h1; have := rg_o1 g h2; omega)
    have sz9 := Keeps.size hk
    have fr := fr.trans (hk.below (Below.size fr) (fun g h => by have := rg_o1 g h; omega))
    have o1 := o1n
    have q_A0_0 := A0.cell 0
    have q_A0_1 := A0.cell 1
    have q_A0_2 := A0.cell 2
    have q_Bu_0 := Bu.cell 0
    have q_Bu_1 := Bu.cell 1
    have q_Bu_2 := Bu.cell 2
    have q_X0_0 := X0.cell 0
    have q_X0_1 := X0.cell 1
    have q_X0_2 := X0.cell 2
    have q_Bg_0 := Bg.cell 0
    have q_Bg_1 := Bg.cell 1
    have q_Bg_2 := Bg.cell 2
    go_wp2_with fail
    clear q_A0_0 q_A0_1 q_A0_2 q_Bu_0 q_Bu_1 q_Bu_2 q_X0_0 q_X0_1 q_X0_2 q_Bg_0 q_Bg_1 q_Bg_2
    refine (eqCluster_c _ _ _ _ _ _ (okL (usB P0 S0 W0) P0) (okL (usB P0 S0 W0) S0) (okL (usB P0 S0 W0) (usL P0 S0 W0)) _ g.a.rd g.b.rd g.c.rd u.a.rd u.b.rd u.c.rd).mono ?_
    rintro e w10 ⟨rfl, hq⟩
    have A0 := A0.stays hq
    have Bu := Bu.stays hq
    have X0 := X0.stays hq
    have Bg := Bg.stays hq
    have u := u.below hq
    have o1 := o1.below hq
    have g := g.below hq
    have sz10 := Below.size hq
    have fr := below_step fr hq
    have q_A0_0 := A0.cell 0
    have q_A0_1 := A0.cell 1
    have q_A0_2 := A0.cell 2
    have q_Bu_0 := Bu.cell 0
    have q_Bu_1 := Bu.cell 1
    have q_Bu_2 := Bu.cell 2
    have q_X0_0 := X0.cell 0
    have q_X0_1 := X0.cell 1
    have q_X0_2 := X0.cell 2
    have q_Bg_0 := Bg.cell 0
    have q_Bg_1 := Bg.cell 1
    have q_Bg_2 := Bg.cell 2
    go_wp2_with fail
    clear q_A0_0 q_A0_1 q_A0_2 q_Bu_0 q_Bu_1 q_Bu_2 q_X0_0 q_X0_1 q_X0_2 q_Bg_0 q_Bg_1 q_Bg_2
    refine (markCluster_c _ _ _ (okL (usB P0 S0 W0) P0) (okL (usB P0 S0 W0) S0) (okL (usB P0 S0 W0) (usL P0 S0 W0)) (1) _ _ g (by omega) (by omega) ⟨(by omega), (by omega), (by omega)⟩).mono ?_
    rintro e w11 ⟨rfl, gn, hk⟩
    have szf := Below.size fr
    have A0 := A0.keeps hk (fun h => by have := rg_g _ h; omega)
    have Bu := Bu.keeps hk (fun h => by have := rg_g _ h; omega)
    have X0 := X0.keeps hk (fun h => by have := rg_g _ h; omega)
    have Bg := Bg.keeps hk (fun h => by have := rg_g _ h; omega)
    have u := u.keeps hk (fun g h1 h2 => by have := rg_u g h1; have := rg_g g h2; omega)
    have o1 := o1.keeps hk (fun g h1 h2 => by have := rg_o1 g h1; have := rg_g g h2; omega)
    have sz11 := Keeps.size hk
    have fr := fr.trans (hk.below (Below.size fr) (fun g h => by have := rg_g g h; omega))
    have g := gn
    have q_A0_0 := A0.cell 0
    have q_A0_1 := A0.cell 1
    have q_A0_2 := A0.cell 2
    have q_Bu_0 := Bu.cell 0
    have q_Bu_1 := Bu.cell 1
    have q_Bu_2 := Bu.cell 2
    have q_X0_0 := X0.cell 0
    have q_X0_1 := X0.cell 1
    have q_X0_2 := X0.cell 2
    have q_Bg_0 := Bg.cell 0
    have q_Bg_1 := Bg.cell 1
    have q_Bg_2 := Bg.cell 2
    go_wp2_with fail
    clear q_A0_0 q_A0_1 q_A0_2 q_Bu_0 q_Bu_1 q_Bu_2 q_X0_0 q_X0_1 q_X0_2 q_Bg_0 q_Bg_1 q_Bg_2
    refine (heldCluster_c _ _ _ (okL (usB P0 S0 W0) P0).length (okL (usB P0 S0 W0) S0).length (okL (usB P0 S0 W0) (usL P0 S0 W0)).length 1 _ g.a.rd g.b.rd g.c.rd (by omega) (by omega) ⟨(by omega), (by omega), (by omega)⟩).mono ?_
    rintro e w12 ⟨rfl, hq⟩
    have A0 := A0.stays hq
    have Bu := Bu.stays hq
    have X0 := X0.stays hq
    have Bg := Bg.stays hq
    have u := u.below hq
    have o1 := o1.below hq
    have g := g.below hq
    have sz12 := Below.size hq
    have fr := below_step fr hq
    have q_A0_0 := A0.cell 0
    have q_A0_1 := A0.cell 1
    have q_A0_2 := A0.cell 2
    have q_Bu_0 := Bu.cell 0
    have q_Bu_1 := Bu.cell 1
    have q_Bu_2 := Bu.cell 2
    have q_X0_0 := X0.cell 0
    have q_X0_1 := X0.cell 1
    have q_X0_2 := X0.cell 2
    have q_Bg_0 := Bg.cell 0
    have q_Bg_1 := Bg.cell 1
    have q_Bg_2 := Bg.cell 2
    go_wp2_with fail
    clear q_A0_0 q_A0_1 q_A0_2 q_Bu_0 q_Bu_1 q_Bu_2 q_X0_0 q_X0_1 q_X0_2 q_Bg_0 q_Bg_1 q_Bg_2
    refine (toCluster_c _ _ _ P0 S0 W0 _ (ha0.below fr (Nat.le_refl _)) (hb0.below fr (Nat.le_refl _)) (hc0.below fr (Nat.le_refl _)) (by omega) (by omega) (by omega)).mono ?_
    rintro e w13 ⟨x3, i3, y3, j3, z3, k3, rfl, o3, hq⟩
    have A0 := A0.stays hq
    have Bu := Bu.stays hq
    have X0 := X0.stays hq
    have Bg := Bg.stays hq
    have u := u.below hq
    have g := g.below hq
    have sz13 := Below.size hq
    have fr := below_step fr hq
    have rg_o3 := o3.block
    have q_A0_0 := A0.cell 0
    have q_A0_1 := A0.cell 1
    have q_A0_2 := A0.cell 2
    have q_Bu_0 := Bu.cell 0
    have q_Bu_1 := Bu.cell 1
    have q_Bu_2 := Bu.cell 2
    have q_X0_0 := X0.cell 0
    have q_X0_1 := X0.cell 1
    have q_X0_2 := X0.cell 2
    have q_Bg_0 := Bg.cell 0
    have q_Bg_1 := Bg.cell 1
    have q_Bg_2 := Bg.cell 2
    go_wp2_with fail
    clear q_A0_0 q_A0_1 q_A0_2 q_Bu_0 q_Bu_1 q_Bu_2 q_X0_0 q_X0_1 q_X0_2 q_Bg_0 q_Bg_1 q_Bg_2
    refine (implUS_c _ _ _ P0 S0 W0 _ o3.a.rd o3.b.rd o3.c.rd).mono ?_
    rintro e w14 ⟨ha, hi, hb, hj, hc, hk, rfl, h, hq⟩
    have A0 := A0.stays hq
    have Bu := Bu.stays hq
    have X0 := X0.stays hq
    have Bg := Bg.stays hq
    have u := u.below hq
    have g := g.below hq
    have o3 := o3.below hq
    have sz14 := Below.size hq
    have fr := below_step fr hq
    have rg_h := h.block
    have A0 := A0.alloc (.cells #[.slice ha (okL (usB P0 S0 W0) P0).length hi, .slice hb (okL (usB P0 S0 W0) S0).length hj, .slice hc (okL (usB P0 S0 W0) (usL P0 S0 W0)).length hk] 51)
    have Bu := Bu.alloc (.cells #[.slice ha (okL (usB P0 S0 W0) P0).length hi, .slice hb (okL (usB P0 S0 W0) S0).length hj, .slice hc (okL (usB P0 S0 W0) (usL P0 S0 W0)).length hk] 51)
    have X0 := X0.alloc (.cells #[.slice ha (okL (usB P0 S0 W0) P0).length hi, .slice hb (okL (usB P0 S0 W0) S0).length hj, .slice hc (okL (usB P0 S0 W0) (usL P0 S0 W0)).length hk] 51)
    have Bg := Bg.alloc (.cells #[.slice ha (okL (usB P0 S0 W0) P0).length hi, .slice hb (okL (usB P0 S0 W0) S0).length hj, .slice hc (okL (usB P0 S0 W0) (usL P0 S0 W0)).length hk] 51)
    have Bh := Blk.new w14 51 #[.slice ha (okL (usB P0 S0 W0) P0).length hi, .slice hb (okL (usB P0 S0 W0) S0).length hj, .slice hc (okL (usB P0 S0 W0) (usL P0 S0 W0)).length hk]
    have hal : Below w14.heap.size w14 (w14.alloc (.cells #[.slice ha (okL (usB P0 S0 W0) P0).length hi, .slice hb (okL (usB P0 S0 W0) S0).length hj, .slice hc (okL (usB P0 S0 W0) (usL P0 S0 W0)).length hk] 51)) := (Below.refl _ _).alloc (Nat.le_refl _) _
    have u := u.below hal
    have g := g.below hal
    have h := h.below hal
    have fr := below_step fr hal
    have sa6 : (w14.alloc (.cells #[.slice ha (okL (usB P0 S0 W0) P0).length hi, .slice hb (okL (usB P0 S0 W0) S0).length hj, .slice hc (okL (usB P0 S0 W0) (usL P0 S0 W0)).length hk] 51)).heap.size ≤ w14.heap.size + 1 := by simp
    have sb6 : w14.heap.size + 1 ≤ (w14.alloc (.cells #[.slice ha (okL (usB P0 S0 W0) P0).length hi, .slice hb (okL (usB P0 S0 W0) S0).length hj, .slice hc (okL (usB P0 S0 W0) (usL P0 S0 W0)).length hk] 51)).heap.size := by simp
    have q_A0_0 := A0.cell 0
    have q_A0_1 := A0.cell 1
    have q_A0_2 := A0.cell 2
    have q_Bu_0 := Bu.cell 0
    have q_Bu_1 := Bu.cell 1
    have q_Bu_2 := Bu.cell 2
    have q_X0_0 := X0.cell 0
    have q_X0_1 := X0.cell 1
    have q_X0_2 := X0.cell 2
    have q_Bg_0 := Bg.cell 0
    have q_Bg_1 := Bg.cell 1
    have q_Bg_2 := Bg.cell 2
    have q_Bh_0 := Bh.cell 0
    have q_Bh_1 := Bh.cell 1
    have q_Bh_2 := Bh.cell 2
    go_wp2_with fail
    clear q_A0_0 q_A0_1 q_A0_2 q_Bu_0 q_Bu_1 q_Bu_2 q_X0_0 q_X0_1 q_X0_2 q_Bg_0 q_Bg_1 q_Bg_2 q_Bh_0 q_Bh_1 q_Bh_2
    refine (eqCluster_c _ _ _ _ _ _ (okL (usB P0 S0 W0) P0) (okL (usB P0 S0 W0) S0) (okL (usB P0 S0 W0) (usL P0 S0 W0)) _ h.a.rd h.b.rd h.c.rd u.a.rd u.b.rd u.c.rd).mono ?_
    rintro e w15 ⟨rfl, hq⟩
    have A0 := A0.stays hq
    have Bu := Bu.stays hq
    have X0 := X0.stays hq
    have Bg := Bg.stays hq
    have Bh := Bh.stays hq
    have u := u.below hq
    have g := g.below hq
    have h := h.below hq
    have sz15 := Below.size hq
    have fr := below_step fr hq
    have q_A0_0 := A0.cell 0
    have q_A0_1 := A0.cell 1
    have q_A0_2 := A0.cell 2
    have q_Bu_0 := Bu.cell 0
    have q_Bu_1 := Bu.cell 1
    have q_Bu_2 := Bu.cell 2
    have q_X0_0 := X0.cell 0
    have q_X0_1 := X0.cell 1
    have q_X0_2 := X0.cell 2
    have q_Bg_0 := Bg.cell 0
    have q_Bg_1 := Bg.cell 1
    have q_Bg_2 := Bg.cell 2
    have q_Bh_0 := Bh.cell 0
    have q_Bh_1 := Bh.cell 1
    have q_Bh_2 := Bh.cell 2
    go_wp2_with fail
    clear q_A0_0 q_A0_1 q_A0_2 q_Bu_0 q_Bu_1 q_Bu_2 q_X0_0 q_X0_1 q_X0_2 q_Bg_0 q_Bg_1 q_Bg_2 q_Bh_0 q_Bh_1 q_Bh_2
    refine (heldCluster_c _ _ _ (okL (usB P0 S0 W0) P0).length (okL (usB P0 S0 W0) S0).length (okL (usB P0 S0 W0) (usL P0 S0 W0)).length 1 _ g.a.rd g.b.rd g.c.rd (by omega) (by omega) ⟨(by omega), (by omega), (by omega)⟩).mono ?_
    rintro e w16 ⟨rfl, hq⟩
    have A0 := A0.stays hq
    have Bu := Bu.stays hq
    have X0 := X0.stays hq
    have Bg := Bg.stays hq
    have Bh := Bh.stays hq
    have u := u.below hq
    have g := g.below hq
    have h := h.below hq
    have sz16 := Below.size hq
    have fr := below_step fr hq
    have q_A0_0 := A0.cell 0
    have q_A0_1 := A0.cell 1
    have q_A0_2 := A0.cell 2
    have q_Bu_0 := Bu.cell 0
    have q_Bu_1 := Bu.cell 1
    have q_Bu_2 := Bu.cell 2
    have q_X0_0 := X0.cell 0
    have q_X0_1 := X0.cell 1
    have q_X0_2 := X0.cell 2
    have q_Bg_0 := Bg.cell 0
    have q_Bg_1 := Bg.cell 1
    have q_Bg_2 := Bg.cell 2
    have q_Bh_0 := Bh.cell 0
    have q_Bh_1 := Bh.cell 1
    have q_Bh_2 := Bh.cell 2
    go_wp2
    go_ret
    exact ⟨rfl, fr⟩
  · skip
    have A0 := Blk.new w 49 #[a0, b0, c0]
    have hal : Below w.heap.size w (w.alloc (.cells #[a0, b0, c0] 49)) := (Below.refl _ _).alloc (Nat.le_refl _) _
    have fr : Below w.heap.size w (w.alloc (.cells #[a0, b0, c0] 49)) := hal
    have sa7 : (w.alloc (.cells #[a0, b0, c0] 49)).heap.size ≤ w.heap.size + 1 := by simp
    have sb7 : w.heap.size + 1 ≤ (w.alloc (.cells #[a0, b0, c0] 49)).heap.size := by simp
    have q_A0_0 := A0.cell 0
    have q_A0_1 := A0.cell 1
    have q_A0_2 := A0.cell 2
    go_enter Try.func13, Try.ntmps13
    go_wp2_with fail
    clear q_A0_0 q_A0_1 q_A0_2
    refine (szCluster_no _ _ _ P0 S0 W0 1048576 _ (ha0.below fr (Nat.le_refl _)) (hb0.below fr (Nat.le_refl _)) (hc0.below fr (Nat.le_refl _)) (by omega) (by omega) (by omega)).mono ?_
    rintro e w1 ⟨rfl, hq⟩
    have A0 := A0.stays hq
    have sz1 := Below.size hq
    have fr := below_step fr hq
    go_wp2
    go_ret
    exact ⟨rfl, fr⟩
end Go.Proofs.Ytgjnllialhjhoaa.fnExactUnloadStep
