/- The walk of 'FnExactClusterOfExcesses': spec.ClusterOfExcesses and impl.ClusterOfExcesses agree, the arguments stay as they are, and what is handed back lies in new memory. -/
import Derived.Test.YthfdkigljbdogaaCExcL
import Derived.Test.YthfdkigljbdogaaMarkC
import Derived.Deep.RegionHeld3
namespace Go.Proofs.Ythfdkigljbdogaa.fnExactClusterOfExcesses
open Go.RowKit

set_option maxRecDepth 100000 in
set_option maxHeartbeats 4000000 in
theorem walk (w : World) (a0 b0 c0 : Value) (P0 S0 W0 : List Int) (ha0 : Rd w a0 P0) (hb0 : Rd w b0 S0) (hc0 : Rd w c0 W0) (a1 : Value) (P1 : List Int) (ha1 : Rd w a1 P1) (_ : ∀ x ∈ P1, (Lit.int .i64 x).wf = true) :
    Calls Try.prog 13 #[.agg #[a0, b0, c0], a1] w fun e w' => e = .returned (.bool true) ∧ Below w.heap.size w w' := by
  obtain ⟨sa1, sk1, rfl⟩ := ha1.len0
  by_cases hz1 : (P1.length : Int) ≤ 1048576
  · skip
    by_cases hz0 : (P0.length : Int) + (S0.length : Int) + (W0.length : Int) ≤ 1048576
    · skip
      have hsr0 : (okL (oxB P0 S0 W0 P1) P0).length ≤ 1048576 := okL_len (fun _ => by omega)
      have hsr1 : (okL (oxB P0 S0 W0 P1) S0).length ≤ 1048576 := okL_len (fun _ => by omega)
      have hsr2 : (okL (oxB P0 S0 W0 P1) (linTo P0 S0 P1 P0.length)).length ≤ 1048576 := okL_len (fun _ => by rw [linTo_len]; omega)
      have A0 := Blk.new w 43 #[a0, b0, c0]
      have hal : Below w.heap.size w (w.alloc (.cells #[a0, b0, c0] 43)) := (Below.refl _ _).alloc (Nat.le_refl _) _
      have fr : Below w.heap.size w (w.alloc (.cells #[a0, b0, c0] 43)) := hal
      have sa1 : (w.alloc (.cells #[a0, b0, c0] 43)).heap.size ≤ w.heap.size + 1 := by simp
      have sb1 : w.heap.size + 1 ≤ (w.alloc (.cells #[a0, b0, c0] 43)).heap.size := by simp
      have q_A0_0 := A0.cell 0
      have q_A0_1 := A0.cell 1
      have q_A0_2 := A0.cell 2
      go_enter Try.func13, Try.ntmps13
      go_wp2_with fail
      clear q_A0_0 q_A0_1 q_A0_2
      refine (szCluster_ok _ _ _ P0 S0 W0 1048576 _ (ha0.below fr (Nat.le_refl _)) (hb0.below fr (Nat.le_refl _)) (hc0.below fr (Nat.le_refl _)) (by omega) (by omega) (by omega)).mono ?_
      rintro e w1 ⟨rfl, hq⟩
      have A0 := A0.stays hq
      have sz1 := Below.size hq
      have fr := below_step fr hq
      have q_A0_0 := A0.cell 0
      have q_A0_1 := A0.cell 1
      have q_A0_2 := A0.cell 2
      go_wp2_with fail
      clear q_A0_0 q_A0_1 q_A0_2
      refine (toCluster_c _ _ _ P0 S0 W0 _ (ha0.below fr (Nat.le_refl _)) (hb0.below fr (Nat.le_refl _)) (hc0.below fr (Nat.le_refl _)) (by omega) (by omega) (by omega)).mono ?_
      rintro e w2 ⟨x0, i0, y0, j0, z0, k0, rfl, o0, hq⟩
      have A0 := A0.stays hq
      have sz2 := Below.size hq
      have fr := below_step fr hq
      have rg_o0 := o0.block
      have q_A0_0 := A0.cell 0
      have q_A0_1 := A0.cell 1
      have q_A0_2 := A0.cell 2
      go_wp2_with fail
      clear q_A0_0 q_A0_1 q_A0_2
      refine (toInt64S_c _ P1 _ (ha1.below fr (Nat.le_refl _)) (by omega)).mono ?_
      rintro e w3 ⟨x1, i1, rfl, o1, hq⟩
      have A0 := A0.stays hq
      have o0 := o0.below hq
      have sz3 := Below.size hq
      have fr := below_step fr hq
      have rg_o1 := o1.block
      have q_A0_0 := A0.cell 0
      have q_A0_1 := A0.cell 1
      have q_A0_2 := A0.cell 2
      go_wp2_with fail
      clear q_A0_0 q_A0_1 q_A0_2
      refine (specOfExc_c _ _ _ _ P0 S0 W0 P1 _ o0.a.rd o0.b.rd o0.c.rd o1.rd).mono ?_
      rintro e w4 ⟨ua, ui, ub, uj, uc, uk, rfl, u, hq⟩
      have A0 := A0.stays hq
      have o0 := o0.below hq
      have o1 := o1.below hq (Nat.le_refl _)
      have sz4 := Below.size hq
      have fr := below_step fr hq
      have rg_u := u.block
      have A0 := A0.alloc (.cells #[.slice ua (okL (oxB P0 S0 W0 P1) P0).length ui, .slice ub (okL (oxB P0 S0 W0 P1) S0).length uj, .slice uc (okL (oxB P0 S0 W0 P1) (linTo P0 S0 P1 P0.length)).length uk] 47)
      have Bu := Blk.new w4 47 #[.slice ua (okL (oxB P0 S0 W0 P1) P0).length ui, .slice ub (okL (oxB P0 S0 W0 P1) S0).length uj, .slice uc (okL (oxB P0 S0 W0 P1) (linTo P0 S0 P1 P0.length)).length uk]
      have hal : Below w4.heap.size w4 (w4.alloc (.cells #[.slice ua (okL (oxB P0 S0 W0 P1) P0).length ui, .slice ub (okL (oxB P0 S0 W0 P1) S0).length uj, .slice uc (okL (oxB P0 S0 W0 P1) (linTo P0 S0 P1 P0.length)).length uk] 47)) := (Below.refl _ _).alloc (Nat.le_refl _) _
      have u := u.below hal
      have fr := below_step fr hal
      have sa2 : (w4.alloc (.cells #[.slice ua (okL (oxB P0 S0 W0 P1) P0).length ui, .slice ub (okL (oxB P0 S0 W0 P1) S0).length uj, .slice uc (okL (oxB P0 S0 W0 P1) (linTo P0 S0 P1 P0.length)).length uk] 47)).heap.size ≤ w4.heap.size + 1 := by simp
      have sb2 : w4.heap.size + 1 ≤ (w4.alloc (.cells #[.slice ua (okL (oxB P0 S0 W0 P1) P0).length ui, .slice ub (okL (oxB P0 S0 W0 P1) S0).length uj, .slice uc (okL (oxB P0 S0 W0 P1) (linTo P0 S0 P1 P0.length)).length uk] 47)).heap.size := by simp
      have q_A0_0 := A0.cell 0
      have q_A0_1 := A0.cell 1
      have q_A0_2 := A0.cell 2
      have q_Bu_0 := Bu.cell 0
      have q_Bu_1 := Bu.cell 1
      have q_Bu_2 := Bu.cell 2
      go_wp2_with fail
      clear q_A0_0 q_A0_1 q_A0_2 q_Bu_0 q_Bu_1 q_Bu_2
      refine (toCluster_c _ _ _ P0 S0 W0 _ (ha0.below fr (Nat.le_refl _)) (hb0.below fr (Nat.le_refl _)) (hc0.below fr (Nat.le_refl _)) (by omega) (by omega) (by omega)).mono ?_
      rintro e w5 ⟨x2, i2, y2, j2, z2, k2, rfl, o2, hq⟩
      have A0 := A0.stays hq
      have Bu := Bu.stays hq
      have u := u.below hq
      have sz5 := Below.size hq
      have fr := below_step fr hq
      have rg_o2 := o2.block
      have A0 := A0.alloc (.cells #[.slice x2 P0.length i2, .slice y2 S0.length j2, .slice z2 W0.length k2] 47)
      have Bu := Bu.alloc (.cells #[.slice x2 P0.length i2, .slice y2 S0.length j2, .slice z2 W0.length k2] 47)
      have X0 := Blk.new w5 47 #[.slice x2 P0.length i2, .slice y2 S0.length j2, .slice z2 W0.length k2]
      have hal : Below w5.heap.size w5 (w5.alloc (.cells #[.slice x2 P0.length i2, .slice y2 S0.length j2, .slice z2 W0.length k2] 47)) := (Below.refl _ _).alloc (Nat.le_refl _) _
      have u := u.below hal
      have o2 := o2.below hal
      have fr := below_step fr hal
      have sa3 : (w5.alloc (.cells #[.slice x2 P0.length i2, .slice y2 S0.length j2, .slice z2 W0.length k2] 47)).heap.size ≤ w5.heap.size + 1 := by simp
      have sb3 : w5.heap.size + 1 ≤ (w5.alloc (.cells #[.slice x2 P0.length i2, .slice y2 S0.length j2, .slice z2 W0.length k2] 47)).heap.size := by simp
      have q_A0_0 := A0.cell 0
      have q_A0_1 := A0.cell 1
      have q_A0_2 := A0.cell 2
      have q_Bu_0 := Bu.cell 0
      have q_Bu_1 := Bu.cell 1
      have q_Bu_2 := Bu.cell 2
      have q_X0_0 := X0.cell 0
      have q_X0_1 := X0.cell 1
      have q_X0_2 := X0.cell 2
      go_wp2_with fail
      clear q_A0_0 q_A0_1 q_A0_2 q_Bu_0 q_Bu_1 q_Bu_2 q_X0_0 q_X0_1 q_X0_2
      refine (toInt64S_c _ P1 _ (ha1.below fr (Nat.le_refl _)) (by omega)).mono ?_
      rintro e w6 ⟨x3, i3, rfl, o3, hq⟩
      have A0 := A0.stays hq
      have Bu := Bu.stays hq
      have X0 := X0.stays hq
      have u := u.below hq
      have o2 := o2.below hq
      have sz6 := Below.size hq
      have fr := below_step fr hq
      have rg_o3 := o3.block
      have q_A0_0 := A0.cell 0
      have q_A0_1 := A0.cell 1
      have q_A0_2 := A0.cell 2
      have q_Bu_0 := Bu.cell 0
      have q_Bu_1 := Bu.cell 1
      have q_Bu_2 := Bu.cell 2
      have q_X0_0 := X0.cell 0
      have q_X0_1 := X0.cell 1
      have q_X0_2 := X0.cell 2
      go_wp2_with fail
      clear q_A0_0 q_A0_1 q_A0_2 q_Bu_0 q_Bu_1 q_Bu_2 q_X0_0 q_X0_1 q_X0_2
      refine (implOfExc_c _ _ _ _ P0 S0 W0 P1 _ o2.a.rd o2.b.rd o2.c.rd o3.rd).mono ?_
      rintro e w7 ⟨ga, gi, gb, gj, gc, gk, rfl, g, hq⟩
      have A0 := A0.stays hq
      have Bu := Bu.stays hq
      have X0 := X0.stays hq
      have u := u.below hq
      have o2 := o2.below hq
      have o3 := o3.below hq (Nat.le_refl _)
      have sz7 := Below.size hq
      have fr := below_step fr hq
      have rg_g := g.block
      have A0 := A0.alloc (.cells #[.slice ga (okL (oxB P0 S0 W0 P1) P0).length gi, .slice gb (okL (oxB P0 S0 W0 P1) S0).length gj, .slice gc (okL (oxB P0 S0 W0 P1) (linTo P0 S0 P1 P0.length)).length gk] 47)
      have Bu := Bu.alloc (.cells #[.slice ga (okL (oxB P0 S0 W0 P1) P0).length gi, .slice gb (okL (oxB P0 S0 W0 P1) S0).length gj, .slice gc (okL (oxB P0 S0 W0 P1) (linTo P0 S0 P1 P0.length)).length gk] 47)
      have X0 := X0.alloc (.cells #[.slice ga (okL (oxB P0 S0 W0 P1) P0).length gi, .slice gb (okL (oxB P0 S0 W0 P1) S0).length gj, .slice gc (okL (oxB P0 S0 W0 P1) (linTo P0 S0 P1 P0.length)).length gk] 47)
      have Bg := Blk.new w7 47 #[.slice ga (okL (oxB P0 S0 W0 P1) P0).length gi, .slice gb (okL (oxB P0 S0 W0 P1) S0).length gj, .slice gc (okL (oxB P0 S0 W0 P1) (linTo P0 S0 P1 P0.length)).length gk]
      have hal : Below w7.heap.size w7 (w7.alloc (.cells #[.slice ga (okL (oxB P0 S0 W0 P1) P0).length gi, .slice gb (okL (oxB P0 S0 W0 P1) S0).length gj, .slice gc (okL (oxB P0 S0 W0 P1) (linTo P0 S0 P1 P0.length)).length gk] 47)) := (Below.refl _ _).alloc (Nat.le_refl _) _
      have u := u.below hal
      have o2 := o2.below hal
      have o3 := o3.below hal (Nat.le_refl _)
      have g := g.below hal
      have fr := below_step fr hal
      have sa4 : (w7.alloc (.cells #[.slice ga (okL (oxB P0 S0 W0 P1) P0).length gi, .slice gb (okL (oxB P0 S0 W0 P1) S0).length gj, .slice gc (okL (oxB P0 S0 W0 P1) (linTo P0 S0 P1 P0.length)).length gk] 47)).heap.size ≤ w7.heap.size + 1 := by simp
      have sb4 : w7.heap.size + 1 ≤ (w7.alloc (.cells #[.slice ga (okL (oxB P0 S0 W0 P1) P0).length gi, .slice gb (okL (oxB P0 S0 W0 P1) S0).length gj, .slice gc (okL (oxB P0 S0 W0 P1) (linTo P0 S0 P1 P0.length)).length gk] 47)).heap.size := by simp
      have q_A0_0 := A0.cell 0
      have q_A0_1 := A0.cell 1
      have q_A0_2 := A0.cell 2
      have q_Bu_0 := Bu.cell 0
      have q_Bu_1 := Bu.cell 1
      have q_Bu_2 := Bu.cell 2
      have q_X0_0 := X0.cell 0
      have q_X0_1 := X0.cell 1
      have q_X0_2 := X0.cell 2
      have q_Bg_0 := Bg.cell 0
      have q_Bg_1 := Bg.cell 1
      have q_Bg_2 := Bg.cell 2
      go_wp2_with fail
      clear q_A0_0 q_A0_1 q_A0_2 q_Bu_0 q_Bu_1 q_Bu_2 q_X0_0 q_X0_1 q_X0_2 q_Bg_0 q_Bg_1 q_Bg_2
      refine (eqCluster_c _ _ _ _ _ _ (okL (oxB P0 S0 W0 P1) P0) (okL (oxB P0 S0 W0 P1) S0) (okL (oxB P0 S0 W0 P1) (linTo P0 S0 P1 P0.length)) _ g.a.rd g.b.rd g.c.rd u.a.rd u.b.rd u.c.rd).mono ?_
      rintro e w8 ⟨rfl, hq⟩
      have A0 := A0.stays hq
      have Bu := Bu.stays hq
      have X0 := X0.stays hq
      have Bg := Bg.stays hq
      have u := u.below hq
      have o2 := o2.below hq
      have o3 := o3.below hq (Nat.le_refl _)
      have g := g.below hq
      have sz8 := Below.size hq
      have fr := below_step fr hq
      have q_A0_0 := A0.cell 0
      have q_A0_1 := A0.cell 1
      have q_A0_2 := A0.cell 2
      have q_Bu_0 := Bu.cell 0
      have q_Bu_1 := Bu.cell 1
      have q_Bu_2 := Bu.cell 2
      have q_X0_0 := X0.cell 0
      have q_X0_1 := X0.cell 1
      have q_X0_2 := X0.cell 2
      have q_Bg_0 := Bg.cell 0
      have q_Bg_1 := Bg.cell 1
      have q_Bg_2 := Bg.cell 2
      go_wp2_with fail
      have hd : Below w8.heap.size w8 w8.drew := (Below.refl _ _).drew
      have HC : w8.cell? ⟨w.heap.size, 0, none⟩ = some (a0) ∧ w8.cell? ⟨w.heap.size, 1, none⟩ = some (b0) ∧ w8.cell? ⟨w.heap.size, 2, none⟩ = some (c0) ∧ w8.cell? ⟨w4.heap.size, 0, none⟩ = some (.slice ua (okL (oxB P0 S0 W0 P1) P0).length ui) ∧ w8.cell? ⟨w4.heap.size, 1, none⟩ = some (.slice ub (okL (oxB P0 S0 W0 P1) S0).length uj) ∧ w8.cell? ⟨w4.heap.size, 2, none⟩ = some (.slice uc (okL (oxB P0 S0 W0 P1) (linTo P0 S0 P1 P0.length)).length uk) ∧ w8.cell? ⟨w5.heap.size, 0, none⟩ = some (.slice x2 P0.length i2) ∧ w8.cell? ⟨w5.heap.size, 1, none⟩ = some (.slice y2 S0.length j2) ∧ w8.cell? ⟨w5.heap.size, 2, none⟩ = some (.slice z2 W0.length k2) ∧ w8.cell? ⟨w7.heap.size, 0, none⟩ = some (.slice ga (okL (oxB P0 S0 W0 P1) P0).length gi) ∧ w8.cell? ⟨w7.heap.size, 1, none⟩ = some (.slice gb (okL (oxB P0 S0 W0 P1) S0).length gj) ∧ w8.cell? ⟨w7.heap.size, 2, none⟩ = some (.slice gc (okL (oxB P0 S0 W0 P1) (linTo P0 S0 P1 P0.length)).length gk) := ⟨A0.cell 0, A0.cell 1, A0.cell 2, Bu.cell 0, Bu.cell 1, Bu.cell 2, X0.cell 0, X0.cell 1, X0.cell 2, Bg.cell 0, Bg.cell 1, Bg.cell 2⟩
      clear q_A0_0 q_A0_1 q_A0_2 q_Bu_0 q_Bu_1 q_Bu_2 q_X0_0 q_X0_1 q_X0_2 q_Bg_0 q_Bg_1 q_Bg_2
      have A0 := A0.stays hd
      have Bu := Bu.stays hd
      have X0 := X0.stays hd
      have Bg := Bg.stays hd
      have u := u.below hd
      have o2 := o2.below hd
      have o3 := o3.below hd (Nat.le_refl _)
      have g := g.below hd
      have fr := below_step fr hd
      have sa5 : w8.drew.heap.size ≤ w8.heap.size := Nat.le_refl _
      have sb5 : w8.heap.size ≤ w8.drew.heap.size := Nat.le_refl _
      go_region_held3 (fun w' => w'.cell? ⟨w.heap.size, 0, none⟩ = some (a0) ∧ w'.cell? ⟨w.heap.size, 1, none⟩ = some (b0) ∧ w'.cell? ⟨w.heap.size, 2, none⟩ = some (c0) ∧ w'.cell? ⟨w4.heap.size, 0, none⟩ = some (.slice ua (okL (oxB P0 S0 W0 P1) P0).length ui) ∧ w'.cell? ⟨w4.heap.size, 1, none⟩ = some (.slice ub (okL (oxB P0 S0 W0 P1) S0).length uj) ∧ w'.cell? ⟨w4.heap.size, 2, none⟩ = some (.slice uc (okL (oxB P0 S0 W0 P1) (linTo P0 S0 P1 P0.length)).length uk) ∧ w'.cell? ⟨w5.heap.size, 0, none⟩ = some (.slice x2 P0.length i2) ∧ w'.cell? ⟨w5.heap.size, 1, none⟩ = some (.slice y2 S0.length j2) ∧ w'.cell? ⟨w5.heap.size, 2, none⟩ = some (.slice z2 W0.length k2) ∧ w'.cell? ⟨w7.heap.size, 0, none⟩ = some (.slice ga (okL (oxB P0 S0 W0 P1) P0).length gi) ∧ w'.cell? ⟨w7.heap.size, 1, none⟩ = some (.slice gb (okL (oxB P0 S0 W0 P1) S0).length gj) ∧ w'.cell? ⟨w7.heap.size, 2, none⟩ = some (.slice gc (okL (oxB P0 S0 W0 P1) (linTo P0 S0 P1 P0.length)).length gk))
        (first | assumption | exact HC)
        (first
          | (go_at_call 38; (with_reducible refine (toCluster_c _ _ _ P0 S0 W0 _ (ha0.below fr (Nat.le_refl _)) (hb0.below fr (Nat.le_refl _)) (hc0.below fr (Nat.le_refl _)) (by omega) (by omega) (by omega)).mono ?_); rintro e w9 ⟨x4, i4, y4, j4, z4, k4, rfl, o4, hq⟩; have A0 := A0.stays hq; have Bu := Bu.stays hq; have X0 := X0.stays hq; have Bg := Bg.stays hq; have u := u.below hq; have o2 := o2.below hq; have o3 := o3.below hq (Nat.le_refl _); have g := g.below hq; have sz9 := Below.size hq; have fr := below_step fr hq; have HC : w9.cell? ⟨w.heap.size, 0, none⟩ = some (a0) ∧ w9.cell? ⟨w.heap.size, 1, none⟩ = some (b0) ∧ w9.cell? ⟨w.heap.size, 2, none⟩ = some (c0) ∧ w9.cell? ⟨w4.heap.size, 0, none⟩ = some (.slice ua (okL (oxB P0 S0 W0 P1) P0).length ui) ∧ w9.cell? ⟨w4.heap.size, 1, none⟩ = some (.slice ub (okL (oxB P0 S0 W0 P1) S0).length uj) ∧ w9.cell? ⟨w4.heap.size, 2, none⟩ = some (.slice uc (okL (oxB P0 S0 W0 P1) (linTo P0 S0 P1 P0.length)).length uk) ∧ w9.cell? ⟨w5.heap.size, 0, none⟩ = some (.slice x2 P0.length i2) ∧ w9.cell? ⟨w5.heap.size, 1, none⟩ = some (.slice y2 S0.length j2) ∧ w9.cell? ⟨w5.heap.size, 2, none⟩ = some (.slice z2 W0.length k2) ∧ w9.cell? ⟨w7.heap.size, 0, none⟩ = some (.slice ga (okL (oxB P0 S0 W0 P1) P0).length gi) ∧ w9.cell? ⟨w7.heap.size, 1, none⟩ = some (.slice gb (okL (oxB P0 S0 W0 P1) S0).length gj) ∧ w9.cell? ⟨w7.heap.size, 2, none⟩ = some (.slice gc (okL (oxB P0 S0 W0 P1) (linTo P0 S0 P1 P0.length)).length gk) := ⟨A0.cell 0, A0.cell 1, A0.cell 2, Bu.cell 0, Bu.cell 1, Bu.cell 2, X0.cell 0, X0.cell 1, X0.cell 2, Bg.cell 0, Bg.cell 1, Bg.cell 2⟩)
          | (go_at_call 40; (with_reducible refine (eqCluster_c _ _ _ _ _ _ P0 S0 W0 _ o2.a.rd o2.b.rd o2.c.rd o4.a.rd o4.b.rd o4.c.rd).mono ?_); rintro e w10 ⟨rfl, hq⟩; have A0 := A0.stays hq; have Bu := Bu.stays hq; have X0 := X0.stays hq; have Bg := Bg.stays hq; have u := u.below hq; have o2 := o2.below hq; have o3 := o3.below hq (Nat.le_refl _); have g := g.below hq; have o4 := o4.below hq; have sz10 := Below.size hq; have fr := below_step fr hq; have HC : w10.cell? ⟨w.heap.size, 0, none⟩ = some (a0) ∧ w10.cell? ⟨w.heap.size, 1, none⟩ = some (b0) ∧ w10.cell? ⟨w.heap.size, 2, none⟩ = some (c0) ∧ w10.cell? ⟨w4.heap.size, 0, none⟩ = some (.slice ua (okL (oxB P0 S0 W0 P1) P0).length ui) ∧ w10.cell? ⟨w4.heap.size, 1, none⟩ = some (.slice ub (okL (oxB P0 S0 W0 P1) S0).length uj) ∧ w10.cell? ⟨w4.heap.size, 2, none⟩ = some (.slice uc (okL (oxB P0 S0 W0 P1) (linTo P0 S0 P1 P0.length)).length uk) ∧ w10.cell? ⟨w5.heap.size, 0, none⟩ = some (.slice x2 P0.length i2) ∧ w10.cell? ⟨w5.heap.size, 1, none⟩ = some (.slice y2 S0.length j2) ∧ w10.cell? ⟨w5.heap.size, 2, none⟩ = some (.slice z2 W0.length k2) ∧ w10.cell? ⟨w7.heap.size, 0, none⟩ = some (.slice ga (okL (oxB P0 S0 W0 P1) P0).length gi) ∧ w10.cell? ⟨w7.heap.size, 1, none⟩ = some (.slice gb (okL (oxB P0 S0 W0 P1) S0).length gj) ∧ w10.cell? ⟨w7.heap.size, 2, none⟩ = some (.slice gc (okL (oxB P0 S0 W0 P1) (linTo P0 S0 P1 P0.length)).length gk) := ⟨A0.cell 0, A0.cell 1, A0.cell 2, Bu.cell 0, Bu.cell 1, Bu.cell 2, X0.cell 0, X0.cell 1, X0.cell 2, Bg.cell 0, Bg.cell 1, Bg.cell 2⟩))
      have q_A0_0 := A0.cell 0
      have q_A0_1 := A0.cell 1
      have q_A0_2 := A0.cell 2
      have q_Bu_0 := Bu.cell 0
      have q_Bu_1 := Bu.cell 1
      have q_Bu_2 := Bu.cell 2
      have q_X0_0 := X0.cell 0
      have q_X0_1 := X0.cell 1
      have q_X0_2 := X0.cell 2
      have q_Bg_0 := Bg.cell 0
      have q_Bg_1 := Bg.cell 1
      have q_Bg_2 := Bg.cell 2
      go_wp2_with fail
      clear q_A0_0 q_A0_1 q_A0_2 q_Bu_0 q_Bu_1 q_Bu_2 q_X0_0 q_X0_1 q_X0_2 q_Bg_0 q_Bg_1 q_Bg_2
      refine (toInt64S_c _ P1 _ (ha1.below fr (Nat.le_refl _)) (by omega)).mono ?_
      rintro e w11 ⟨x5, i5, rfl, o5, hq⟩
      have A0 := A0.stays hq
      have Bu := Bu.stays hq
      have X0 := X0.stays hq
      have Bg := Bg.stays hq
      have u := u.below hq
      have o2 := o2.below hq
      have o3 := o3.below hq (Nat.le_refl _)
      have g := g.below hq
      have sz11 := Below.size hq
      have fr := below_step fr hq
      have rg_o5 := o5.block
      have q_A0_0 := A0.cell 0
      have q_A0_1 := A0.cell 1
      have q_A0_2 := A0.cell 2
      have q_Bu_0 := Bu.cell 0
      have q_Bu_1 := Bu.cell 1
      have q_Bu_2 := Bu.cell 2
      have q_X0_0 := X0.cell 0
      have q_X0_1 := X0.cell 1
      have q_X0_2 := X0.cell 2
      have q_Bg_0 := Bg.cell 0
      have q_Bg_1 := Bg.cell 1
      have q_Bg_2 := Bg.cell 2
      go_wp2_with fail
      clear q_A0_0 q_A0_1 q_A0_2 q_Bu_0 q_Bu_1 q_Bu_2 q_X0_0 q_X0_1 q_X0_2 q_Bg_0 q_Bg_1 q_Bg_2
      have se := eqB_self P1
      refine (eqInt64S_c _ _ P1 P1 _ o3.rd o5.rd).mono ?_
      rintro e w12 ⟨rfl, hq0⟩
      have hq := hq0.below w11.heap.size
      have A0 := A0.stays hq
      have Bu := Bu.stays hq
      have X0 := X0.stays hq
      have Bg := Bg.stays hq
      have u := u.below hq
      have o2 := o2.below hq
      have o3 := o3.below hq (Nat.le_refl _)
      have g := g.below hq
      have o5 := o5.below hq (Nat.le_refl _)
      have sz12 := Below.size hq
      have fr := below_step fr hq
      have q_A0_0 := A0.cell 0
      have q_A0_1 := A0.cell 1
      have q_A0_2 := A0.cell 2
      have q_Bu_0 := Bu.cell 0
      have q_Bu_1 := Bu.cell 1
      have q_Bu_2 := Bu.cell 2
      have q_X0_0 := X0.cell 0
      have q_X0_1 := X0.cell 1
      have q_X0_2 := X0.cell 2
      have q_Bg_0 := Bg.cell 0
      have q_Bg_1 := Bg.cell 1
      have q_Bg_2 := Bg.cell 2
      go_wp2_with fail
      clear q_A0_0 q_A0_1 q_A0_2 q_Bu_0 q_Bu_1 q_Bu_2 q_X0_0 q_X0_1 q_X0_2 q_Bg_0 q_Bg_1 q_Bg_2
      refine (markCluster_c _ _ _ P0 S0 W0 (1) _ _ o2 (by omega) (by omega) ⟨(by omega), (by omega), (by omega)⟩).mono ?_
      rintro e w13 ⟨rfl, o2n, hk⟩
      have szf := Below.size fr
      have A0 := A0.keeps hk (fun h => by have := rg_o2 _ h; omega)
      have Bu := Bu.keeps hk (fun h => by have := rg_o2 _ h; omega)
      have X0 := X0.keeps hk (fun h => by have := rg_o2 _ h; omega)
      have Bg := Bg.keeps hk (fun h => by have := rg_o2 _ h; omega)
      have u := u.keeps hk (fun g h1 h2 => by have := rg_u g h1; have := rg_o2 g h2; omega)
      have o3 := o3.keeps hk (fun g h1 h2 => by have := rg_o3 g h1; have := rg_o2 g h2; omega)
      have g := g.keeps hk (fun g h1 h2 => by have := rg_g g h1; have := rg_o2 g h2; omega)
      have sz13 := Keeps.size hk
      have fr := fr.trans (hk.below (Below.size fr) (fun g h => by have := rg_o2 g h; omega))
      have o2 := o2n
      have q_A0_0 := A0.cell 0
      have q_A0_1 := A0.cell 1
      have q_A0_2 := A0.cell 2
      have q_Bu_0 := Bu.cell 0
      have q_Bu_1 := Bu.cell 1
      have q_Bu_2 := Bu.cell 2
      have q_X0_0 := X0.cell 0
      have q_X0_1 := X0.cell 1
      have q_X0_2 := X0.cell 2
      have q_Bg_0 := Bg.cell 0
      have q_Bg_1 := Bg.cell 1
      have q_Bg_2 := Bg.cell 2
      go_wp2_with fail
      clear q_A0_0 q_A0_1 q_A0_2 q_Bu_0 q_Bu_1 q_Bu_2 q_X0_0 q_X0_1 q_X0_2 q_Bg_0 q_Bg_1 q_Bg_2
      refine (mark_c _ P1 (1 + (P0).length + (S0).length + (W0).length) _ _ o3 (by omega) (by omega) (by omega)).mono ?_
      rintro e w14 ⟨rfl, o3n, hk⟩
      have szf := Below.size fr
      have A0 := A0.keeps hk (fun h => by have := rg_o3 _ h; omega)
      have Bu := Bu.keeps hk (fun h => by have := rg_o3 _ h; omega)
      have X0 := X0.keeps hk (fun h => by have := rg_o3 _ h; omega)
      have Bg := Bg.keeps hk (fun h => by have := rg_o3 _ h; omega)
      have u := u.keeps hk (fun g h1 h2 => by have := rg_u g h1; have := rg_o3 g h2; omega)
      have o2 := o2.keeps hk (fun g h1 h2 => by have := rg_o2 g h1; have := rg_o3 g h2; omega)
      have g := g.keeps hk (fun g h1 h2 => by have := rg_g g h1; have := rg_o3 g h2; omega)
      have sz14 := Keeps.size hk
      have fr := fr.trans (hk.below (Below.size fr) (fun g h => by have := rg_o3 g h; omega))
      have o3 := o3n
      have q_A0_0 := A0.cell 0
      have q_A0_1 := A0.cell 1
      have q_A0_2 := A0.cell 2
      have q_Bu_0 := Bu.cell 0
      have q_Bu_1 := Bu.cell 1
      have q_Bu_2 := Bu.cell 2
      have q_X0_0 := X0.cell 0
      have q_X0_1 := X0.cell 1
      have q_X0_2 := X0.cell 2
      have q_Bg_0 := Bg.cell 0
      have q_Bg_1 := Bg.cell 1
      have q_Bg_2 := Bg.cell 2
      go_wp2_with fail
      clear q_A0_0 q_A0_1 q_A0_2 q_Bu_0 q_Bu_1 q_Bu_2 q_X0_0 q_X0_1 q_X0_2 q_Bg_0 q_Bg_1 q_Bg_2
      refine (eqCluster_c _ _ _ _ _ _ (okL (oxB P0 S0 W0 P1) P0) (okL (oxB P0 S0 W0 P1) S0) (okL (oxB P0 S0 W0 P1) (linTo P0 S0 P1 P0.length)) _ g.a.rd g.b.rd g.c.rd u.a.rd u.b.rd u.c.rd).mono ?_
      rintro e w15 ⟨rfl, hq⟩
      have A0 := A0.stays hq
      have Bu := Bu.stays hq
      have X0 := X0.stays hq
      have Bg := Bg.stays hq
      have u := u.below hq
      have o2 := o2.below hq
      have o3 := o3.below hq (Nat.le_refl _)
      have g := g.below hq
      have sz15 := Below.size hq
      have fr := below_step fr hq
      have q_A0_0 := A0.cell 0
      have q_A0_1 := A0.cell 1
      have q_A0_2 := A0.cell 2
      have q_Bu_0 := Bu.cell 0
      have q_Bu_1 := Bu.cell 1
      have q_Bu_2 := Bu.cell 2
      have q_X0_0 := X0.cell 0
      have q_X0_1 := X0.cell 1
      have q_X0_2 := X0.cell 2
      have q_Bg_0 := Bg.cell 0
      have q_Bg_1 := Bg.cell 1
      have q_Bg_2 := Bg.cell 2
      go_wp2_with fail
      clear q_A0_0 q_A0_1 q_A0_2 q_Bu_0 q_Bu_1 q_Bu_2 q_X0_0 q_X0_1 q_X0_2 q_Bg_0 q_Bg_1 q_Bg_2
      refine (markCluster_c _ _ _ (okL (oxB P0 S0 W0 P1) P0) (okL (oxB P0 S0 W0 P1) S0) (okL (oxB P0 S0 W0 P1) (linTo P0 S0 P1 P0.length)) (1) _ _ g (by omega) (by omega) ⟨(by omega), (by omega), (by omega)⟩).mono ?_
      rintro e w16 ⟨rfl, gn, hk⟩
      have szf := Below.size fr
      have A0 := A0.keeps hk (fun h => by have := rg_g _ h; omega)
      have Bu := Bu.keeps hk (fun h => by have := rg_g _ h; omega)
      have X0 := X0.keeps hk (fun h => by have := rg_g _ h; omega)
      have Bg := Bg.keeps hk (fun h => by have := rg_g _ h; omega)
      have u := u.keeps hk (fun g h1 h2 => by have := rg_u g h1; have := rg_g g h2; omega)
      have o2 := o2.keeps hk (fun g h1 h2 => by have := rg_o2 g h1; have := rg_g g h2; omega)
      have o3 := o3.keeps hk (fun g h1 h2 => by have := rg_o3 g h1; have := rg_g g h2; omega)
      have sz16 := Keeps.size hk
      have fr := fr.trans (hk.below (Below.size fr) (fun g h => by have := rg_g g h; omega))
      have g := gn
      have q_A0_0 := A0.cell 0
      have q_A0_1 := A0.cell 1
      have q_A0_2 := A0.cell 2
      have q_Bu_0 := Bu.cell 0
      have q_Bu_1 := Bu.cell 1
      have q_Bu_2 := Bu.cell 2
      have q_X0_0 := X0.cell 0
      have q_X0_1 := X0.cell 1
      have q_X0_2 := X0.cell 2
      have q_Bg_0 := Bg.cell 0
      have q_Bg_1 := Bg.cell 1
      have q_Bg_2 := Bg.cell 2
      go_wp2_with fail
      clear q_A0_0 q_A0_1 q_A0_2 q_Bu_0 q_Bu_1 q_Bu_2 q_X0_0 q_X0_1 q_X0_2 q_Bg_0 q_Bg_1 q_Bg_2
      refine (heldCluster_c _ _ _ (okL (oxB P0 S0 W0 P1) P0).length (okL (oxB P0 S0 W0 P1) S0).length (okL (oxB P0 S0 W0 P1) (linTo P0 S0 P1 P0.length)).length 1 _ g.a.rd g.b.rd g.c.rd (by omega) (by omega) ⟨(by omega), (by omega), (by omega)⟩).mono ?_
      rintro e w17 ⟨rfl, hq⟩
      have A0 := A0.stays hq
      have Bu := Bu.stays hq
      have X0 := X0.stays hq
      have Bg := Bg.stays hq
      have u := u.below hq
      have o2 := o2.below hq
      have o3 := o3.below hq (Nat.le_refl _)
      have g := g.below hq
      have sz17 := Below.size hq
      have fr := below_step fr hq
      have q_A0_0 := A0.cell 0
      have q_A0_1 := A0.cell 1
      have q_A0_2 := A0.cell 2
      have q_Bu_0 := Bu.cell 0
      have q_Bu_1 := Bu.cell 1
      have q_Bu_2 := Bu.cell 2
      have q_X0_0 := X0.cell 0
      have q_X0_1 := X0.cell 1
      have q_X0_2 := X0.cell 2
      have q_Bg_0 := Bg.cell 0
      have q_Bg_1 := Bg.cell 1
      have q_Bg_2 := Bg.cell 2
      go_wp2_with fail
      clear q_A0_0 q_A0_1 q_A0_2 q_Bu_0 q_Bu_1 q_Bu_2 q_X0_0 q_X0_1 q_X0_2 q_Bg_0 q_Bg_1 q_Bg_2
      refine (toCluster_c _ _ _ P0 S0 W0 _ (ha0.below fr (Nat.le_refl _)) (hb0.below fr (Nat.le_refl _)) (hc0.below fr (Nat.le_refl _)) (by omega) (by omega) (by omega)).mono ?_
      rintro e w18 ⟨x6, i6, y6, j6, z6, k6, rfl, o6, hq⟩
      have A0 := A0.stays hq
      have Bu := Bu.stays hq
      have X0 := X0.stays hq
      have Bg := Bg.stays hq
      have u := u.below hq
      have g := g.below hq
      have sz18 := Below.size hq
      have fr := below_step fr hq
      have rg_o6 := o6.block
      have q_A0_0 := A0.cell 0
      have q_A0_1 := A0.cell 1
      have q_A0_2 := A0.cell 2
      have q_Bu_0 := Bu.cell 0
      have q_Bu_1 := Bu.cell 1
      have q_Bu_2 := Bu.cell 2
      have q_X0_0 := X0.cell 0
      have q_X0_1 := X0.cell 1
      have q_X0_2 := X0.cell 2
      have q_Bg_0 := Bg.cell 0
      have q_Bg_1 := Bg.cell 1
      have q_Bg_2 := Bg.cell 2
      go_wp2_with fail
      clear q_A0_0 q_A0_1 q_A0_2 q_Bu_0 q_Bu_1 q_Bu_2 q_X0_0 q_X0_1 q_X0_2 q_Bg_0 q_Bg_1 q_Bg_2
      refine (toInt64S_c _ P1 _ (ha1.below fr (Nat.le_refl _)) (by omega)).mono ?_
      rintro e w19 ⟨x7, i7, rfl, o7, hq⟩
      have A0 := A0.stays hq
      have Bu := Bu.stays hq
      have X0 := X0.stays hq
      have Bg := Bg.stays hq
      have u := u.below hq
      have g := g.below hq
      have o6 := o6.below hq
      have sz19 := Below.size hq
      have fr := below_step fr hq
      have rg_o7 := o7.block
      have q_A0_0 := A0.cell 0
      have q_A0_1 := A0.cell 1
      have q_A0_2 := A0.cell 2
      have q_Bu_0 := Bu.cell 0
      have q_Bu_1 := Bu.cell 1
      have q_Bu_2 := Bu.cell 2
      have q_X0_0 := X0.cell 0
      have q_X0_1 := X0.cell 1
      have q_X0_2 := X0.cell 2
      have q_Bg_0 := Bg.cell 0
      have q_Bg_1 := Bg.cell 1
      have q_Bg_2 := Bg.cell 2
      go_wp2_with fail
      clear q_A0_0 q_A0_1 q_A0_2 q_Bu_0 q_Bu_1 q_Bu_2 q_X0_0 q_X0_1 q_X0_2 q_Bg_0 q_Bg_1 q_Bg_2
      refine (implOfExc_c _ _ _ _ P0 S0 W0 P1 _ o6.a.rd o6.b.rd o6.c.rd o7.rd).mono ?_
      rintro e w20 ⟨ha, hi, hb, hj, hc, hk, rfl, h, hq⟩
      have A0 := A0.stays hq
      have Bu := Bu.stays hq
      have X0 := X0.stays hq
      have Bg := Bg.stays hq
      have u := u.below hq
      have g := g.below hq
      have o6 := o6.below hq
      have o7 := o7.below hq (Nat.le_refl _)
      have sz20 := Below.size hq
      have fr := below_step fr hq
      have rg_h := h.block
      have A0 := A0.alloc (.cells #[.slice ha (okL (oxB P0 S0 W0 P1) P0).length hi, .slice hb (okL (oxB P0 S0 W0 P1) S0).length hj, .slice hc (okL (oxB P0 S0 W0 P1) (linTo P0 S0 P1 P0.length)).length hk] 47)
      have Bu := Bu.alloc (.cells #[.slice ha (okL (oxB P0 S0 W0 P1) P0).length hi, .slice hb (okL (oxB P0 S0 W0 P1) S0).length hj, .slice hc (okL (oxB P0 S0 W0 P1) (linTo P0 S0 P1 P0.length)).length hk] 47)
      have X0 := X0.alloc (.cells #[.slice ha (okL (oxB P0 S0 W0 P1) P0).length hi, .slice hb (okL (oxB P0 S0 W0 P1) S0).length hj, .slice hc (okL (oxB P0 S0 W0 P1) (linTo P0 S0 P1 P0.length)).length hk] 47)
      have Bg := Bg.alloc (.cells #[.slice ha (okL (oxB P0 S0 W0 P1) P0).length hi, .slice hb (okL (oxB P0 S0 W0 P1) S0).length hj, .slice hc (okL (oxB P0 S0 W0 P1) (linTo P0 S0 P1 P0.length)).length hk] 47)
      have Bh := Blk.new w20 47 #[.slice ha (okL (oxB P0 S0 W0 P1) P0).length hi, .slice hb (okL (oxB P0 S0 W0 P1) S0).length hj, .slice hc (okL (oxB P0 S0 W0 P1) (linTo P0 S0 P1 P0.length)).length hk]
      have hal : Below w20.heap.size w20 (w20.alloc (.cells #[.slice ha (okL (oxB P0 S0 W0 P1) P0).length hi, .slice hb (okL (oxB P0 S0 W0 P1) S0).length hj, .slice hc (okL (oxB P0 S0 W0 P1) (linTo P0 S0 P1 P0.length)).length hk] 47)) := (Below.refl _ _).alloc (Nat.le_refl _) _
      have u := u.below hal
      have g := g.below hal
      have h := h.below hal
      have fr := below_step fr hal
      have sa6 : (w20.alloc (.cells #[.slice ha (okL (oxB P0 S0 W0 P1) P0).length hi, .slice hb (okL (oxB P0 S0 W0 P1) S0).length hj, .slice hc (okL (oxB P0 S0 W0 P1) (linTo P0 S0 P1 P0.length)).length hk] 47)).heap.size ≤ w20.heap.size + 1 := by simp
      have sb6 : w20.heap.size + 1 ≤ (w20.alloc (.cells #[.slice ha (okL (oxB P0 S0 W0 P1) P0).length hi, .slice hb (okL (oxB P0 S0 W0 P1) S0).length hj, .slice hc (okL (oxB P0 S0 W0 P1) (linTo P0 S0 P1 P0.length)).length hk] 47)).heap.size := by simp
      have q_A0_0 := A0.cell 0
      have q_A0_1 := A0.cell 1
      have q_A0_2 := A0.cell 2
      have q_Bu_0 := Bu.cell 0
      have q_Bu_1 := Bu.cell 1
      have q_Bu_2 := Bu.cell 2
      have q_X0_0 := X0.cell 0
      have q_X0_1 := X0.cell 1
      have q_X0_2 := X0.cell 2
      have q_Bg_0 := Bg.cell 0
      have q_Bg_1 := Bg.cell 1
      have q_Bg_2 := Bg.cell 2
      have q_Bh_0 := Bh.cell 0
      have q_Bh_1 := Bh.cell 1
      have q_Bh_2 := Bh.cell 2
      go_wp2_with fail
      clear q_A0_0 q_A0_1 q_A0_2 q_Bu_0 q_Bu_1 q_Bu_2 q_X0_0 q_X0_1 q_X0_2 q_Bg_0 q_Bg_1 q_Bg_2 q_Bh_0 q_Bh_1 q_Bh_2
      refine (eqCluster_c _ _ _ _ _ _ (okL (oxB P0 S0 W0 P1) P0) (okL (oxB P0 S0 W0 P1) S0) (okL (oxB P0 S0 W0 P1) (linTo P0 S0 P1 P0.length)) _ h.a.rd h.b.rd h.c.rd u.a.rd u.b.rd u.c.rd).mono ?_
      rintro e w21 ⟨rfl, hq⟩
      have A0 := A0.stays hq
      have Bu := Bu.stays hq
      have X0 := X0.stays hq
      have Bg := Bg.stays hq
      have Bh := Bh.stays hq
      have u := u.below hq
      have g := g.below hq
      have h := h.below hq
      have sz21 := Below.size hq
      have fr := below_step fr hq
      have q_A0_0 := A0.cell 0
      have q_A0_1 := A0.cell 1
      have q_A0_2 := A0.cell 2
      have q_Bu_0 := Bu.cell 0
      have q_Bu_1 := Bu.cell 1
      have q_Bu_2 := Bu.cell 2
      have q_X0_0 := X0.cell 0
      have q_X0_1 := X0.cell 1
      have q_X0_2 := X0.cell 2
      have q_Bg_0 := Bg.cell 0
      have q_Bg_1 := Bg.cell 1
      have q_Bg_2 := Bg.cell 2
      have q_Bh_0 := Bh.cell 0
      have q_Bh_1 := Bh.cell 1
      have q_Bh_2 := Bh.cell 2
      go_wp2_with fail
      clear q_A0_0 q_A0_1 q_A0_2 q_Bu_0 q_Bu_1 q_Bu_2 q_X0_0 q_X0_1 q_X0_2 q_Bg_0 q_Bg_1 q_Bg_2 q_Bh_0 q_Bh_1 q_Bh_2
      refine (heldCluster_c _ _ _ (okL (oxB P0 S0 W0 P1) P0).length (okL (oxB P0 S0 W0 P1) S0).length (okL (oxB P0 S0 W0 P1) (linTo P0 S0 P1 P0.length)).length 1 _ g.a.rd g.b.rd g.c.rd (by omega) (by omega) ⟨(by omega), (by omega), (by omega)⟩).mono ?_
      rintro e w22 ⟨rfl, hq⟩
      have A0 := A0.stays hq
      have Bu := Bu.stays hq
      have X0 := X0.stays hq
      have Bg := Bg.stays hq
      have Bh := Bh.stays hq
      have u := u.below hq
      have g := g.below hq
      have h := h.below hq
      have sz22 := Below.size hq
      have fr := below_step fr hq
      have q_A0_0 := A0.cell 0
      have q_A0_1 := A0.cell 1
      have q_A0_2 := A0.cell 2
      have q_Bu_0 := Bu.cell 0
      have q_Bu_1 := Bu.cell 1
      have q_Bu_2 := Bu.cell 2
      have q_X0_0 := X0.cell 0
      have q_X0_1 := X0.cell 1
      have q_X0_2 := X0.cell 2
      have q_Bg_0 := Bg.cell 0
      have q_Bg_1 := Bg.cell 1
      have q_Bg_2 := Bg.cell 2
      have q_Bh_0 := Bh.cell 0
      have q_Bh_1 := Bh.cell 1
      have q_Bh_2 := Bh.cell 2
      go_wp2
      go_ret
      exact ⟨rfl, fr⟩
    · skip
      have A0 := Blk.new w 43 #[a0, b0, c0]
      have hal : Below w.heap.size w (w.alloc (.cells #[a0, b0, c0] 43)) := (Below.refl _ _).alloc (Nat.le_refl _) _
      have fr : Below w.heap.size w (w.alloc (.cells #[a0, b0, c0] 43)) := hal
      have sa7 : (w.alloc (.cells #[a0, b0, c0] 43)).heap.size ≤ w.heap.size + 1 := by simp
      have sb7 : w.heap.size + 1 ≤ (w.alloc (.cells #[a0, b0, c0] 43)).heap.size := by simp
      have q_A0_0 := A0.cell 0
      have q_A0_1 := A0.cell 1
      have q_A0_2 := A0.cell 2
      go_enter Try.func13, Try.ntmps13
      go_wp2_with fail
      clear q_A0_0 q_A0_1 q_A0_2
      refine (szCluster_no _ _ _ P0 S0 W0 1048576 _ (ha0.below fr (Nat.le_refl _)) (hb0.below fr (Nat.le_refl _)) (hc0.below fr (Nat.le_refl _)) (by omega) (by omega) (by omega)).mono ?_
      rintro e w1 ⟨rfl, hq⟩
      have A0 := A0.stays hq
      have sz1 := Below.size hq
      have fr := below_step fr hq
      go_wp2
      go_ret
      exact ⟨rfl, fr⟩
  · skip
    have A0 := Blk.new w 43 #[a0, b0, c0]
    have hal : Below w.heap.size w (w.alloc (.cells #[a0, b0, c0] 43)) := (Below.refl _ _).alloc (Nat.le_refl _) _
    have fr : Below w.heap.size w (w.alloc (.cells #[a0, b0, c0] 43)) := hal
    have sa8 : (w.alloc (.cells #[a0, b0, c0] 43)).heap.size ≤ w.heap.size + 1 := by simp
    have sb8 : w.heap.size + 1 ≤ (w.alloc (.cells #[a0, b0, c0] 43)).heap.size := by simp
    have q_A0_0 := A0.cell 0
    have q_A0_1 := A0.cell 1
    have q_A0_2 := A0.cell 2
    go_enter Try.func13, Try.ntmps13
    go_wp2
    go_ret
    exact ⟨rfl, fr⟩
end Go.Proofs.Ythfdkigljbdogaa.fnExactClusterOfExcesses
