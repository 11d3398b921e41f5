/- The walk of 'FnExactAddClusters': spec.AddClusters and impl.AddClusters agree, the arguments stay as they are, and what is handed back lies in new memory. -/
import Derived.Test.YtgjnllialhjhoaaAddL
import Derived.Test.YtgjnllialhjhoaaMarkC
import Derived.Deep.RegionHeld3
namespace Go.Proofs.Ytgjnllialhjhoaa.fnExactAddClusters
open Go.RowKit

set_option maxRecDepth 100000 in
set_option maxHeartbeats 4000000 in
theorem walk (w : World) (a0 b0 c0 : Value) (P0 S0 W0 : List Int) (ha0 : Rd w a0 P0) (hb0 : Rd w b0 S0) (hc0 : Rd w c0 W0) (a1 b1 c1 : Value) (P1 S1 W1 : List Int) (ha1 : Rd w a1 P1) (hb1 : Rd w b1 S1) (hc1 : Rd w c1 W1) :
    Calls Try.prog 9 #[.agg #[a0, b0, c0], .agg #[a1, b1, c1]] w fun e w' => e = .returned (.bool true) ∧ Below w.heap.size w w' := by
  by_cases hz0 : (P0.length : Int) + (S0.length : Int) + (W0.length : Int) ≤ 1048576
  · skip
    by_cases hz1 : (P0.length : Int) + (S0.length : Int) + (W0.length : Int) + (P1.length : Int) + (S1.length : Int) + (W1.length : Int) ≤ 1048576
    · skip
      have hsr0 : (okL (adB P0 S0 W0 P1 S1 W1) P0).length ≤ 1048576 := okL_len (fun _ => by omega)
      have hsr1 : (okL (adB P0 S0 W0 P1 S1 W1) S0).length ≤ 1048576 := okL_len (fun _ => by omega)
      have hsr2 : (okL (adB P0 S0 W0 P1 S1 W1) (adTo W0 W1 W0.length)).length ≤ 1048576 := okL_len (fun _ => by rw [adTo_len]; omega)
      have A0 := Blk.new w 49 #[a0, b0, c0]
      have hal : Below w.heap.size w (w.alloc (.cells #[a0, b0, c0] 49)) := (Below.refl _ _).alloc (Nat.le_refl _) _
      have fr : Below w.heap.size w (w.alloc (.cells #[a0, b0, c0] 49)) := hal
      have sa1 : (w.alloc (.cells #[a0, b0, c0] 49)).heap.size ≤ w.heap.size + 1 := by simp
      have sb1 : w.heap.size + 1 ≤ (w.alloc (.cells #[a0, b0, c0] 49)).heap.size := by simp
      have A0 := A0.alloc (.cells #[a1, b1, c1] 49)
      have A1 := Blk.new (w.alloc (.cells #[a0, b0, c0] 49)) 49 #[a1, b1, c1]
      simp only [World.size_alloc] at A1
      have hal : Below (w.alloc (.cells #[a0, b0, c0] 49)).heap.size (w.alloc (.cells #[a0, b0, c0] 49)) ((w.alloc (.cells #[a0, b0, c0] 49)).alloc (.cells #[a1, b1, c1] 49)) := (Below.refl _ _).alloc (Nat.le_refl _) _
      have fr : Below w.heap.size w ((w.alloc (.cells #[a0, b0, c0] 49)).alloc (.cells #[a1, b1, c1] 49)) := below_step fr hal
      have sa2 : ((w.alloc (.cells #[a0, b0, c0] 49)).alloc (.cells #[a1, b1, c1] 49)).heap.size ≤ (w.alloc (.cells #[a0, b0, c0] 49)).heap.size + 1 := by simp
      have sb2 : (w.alloc (.cells #[a0, b0, c0] 49)).heap.size + 1 ≤ ((w.alloc (.cells #[a0, b0, c0] 49)).alloc (.cells #[a1, b1, c1] 49)).heap.size := by simp
      have q_A0_0 := A0.cell 0
      have q_A0_1 := A0.cell 1
      have q_A0_2 := A0.cell 2
      have q_A1_0 := A1.cell 0
      have q_A1_1 := A1.cell 1
      have q_A1_2 := A1.cell 2
      go_enter Try.func9, Try.ntmps9
      go_wp2_with fail
      clear q_A0_0 q_A0_1 q_A0_2 q_A1_0 q_A1_1 q_A1_2
      refine (szCluster_ok _ _ _ P0 S0 W0 1048576 _ (ha0.below fr (Nat.le_refl _)) (hb0.below fr (Nat.le_refl _)) (hc0.below fr (Nat.le_refl _)) (by omega) (by omega) (by omega)).mono ?_
      rintro e w1 ⟨rfl, hq⟩
      have A0 := A0.stays hq
      have A1 := A1.stays hq
      have sz1 := Below.size hq
      have fr := below_step fr hq
      have q_A0_0 := A0.cell 0
      have q_A0_1 := A0.cell 1
      have q_A0_2 := A0.cell 2
      have q_A1_0 := A1.cell 0
      have q_A1_1 := A1.cell 1
      have q_A1_2 := A1.cell 2
      go_wp2_with fail
      clear q_A0_0 q_A0_1 q_A0_2 q_A1_0 q_A1_1 q_A1_2
      refine (szCluster_ok _ _ _ P1 S1 W1 (1048576 - P0.length - S0.length - W0.length) _ (ha1.below fr (Nat.le_refl _)) (hb1.below fr (Nat.le_refl _)) (hc1.below fr (Nat.le_refl _)) (by omega) (by omega) (by omega)).mono ?_
      rintro e w2 ⟨rfl, hq⟩
      have A0 := A0.stays hq
      have A1 := A1.stays hq
      have sz2 := Below.size hq
      have fr := below_step fr hq
      have q_A0_0 := A0.cell 0
      have q_A0_1 := A0.cell 1
      have q_A0_2 := A0.cell 2
      have q_A1_0 := A1.cell 0
      have q_A1_1 := A1.cell 1
      have q_A1_2 := A1.cell 2
      go_wp2_with fail
      clear q_A0_0 q_A0_1 q_A0_2 q_A1_0 q_A1_1 q_A1_2
      go_cut [6, 7] from 27 to 34 (fun s6 s7 wc => ∃ uN ua ui ub uj uc uk, s6 = .pointer (some ⟨uN, 0, none⟩) ∧ s7 = .int .i64 (adC P0 S0 W0 P1 S1 W1) ∧ Own3 2 wc w2.heap.size (.slice ua (okL (adB P0 S0 W0 P1 S1 W1) P0).length ui) (.slice ub (okL (adB P0 S0 W0 P1 S1 W1) S0).length uj) (.slice uc (okL (adB P0 S0 W0 P1 S1 W1) (adTo W0 W1 W0.length)).length uk) (okL (adB P0 S0 W0 P1 S1 W1) P0) (okL (adB P0 S0 W0 P1 S1 W1) S0) (okL (adB P0 S0 W0 P1 S1 W1) (adTo W0 W1 W0.length)) ∧ Blk wc uN 51 #[.slice ua (okL (adB P0 S0 W0 P1 S1 W1) P0).length ui, .slice ub (okL (adB P0 S0 W0 P1 S1 W1) S0).length uj, .slice uc (okL (adB P0 S0 W0 P1 S1 W1) (adTo W0 W1 W0.length)).length uk] ∧ w2.heap.size ≤ uN ∧ Blk wc (w.heap.size) 49 #[a0, b0, c0] ∧ Blk wc (w.heap.size + 1) 49 #[a1, b1, c1] ∧ Below w.heap.size w wc ∧ w2.heap.size ≤ wc.heap.size)
      case first =>
        have HC : w2.cell? ⟨w.heap.size, 0, none⟩ = some (a0) ∧ w2.cell? ⟨w.heap.size, 1, none⟩ = some (b0) ∧ w2.cell? ⟨w.heap.size, 2, none⟩ = some (c0) ∧ w2.cell? ⟨w.heap.size + 1, 0, none⟩ = some (a1) ∧ w2.cell? ⟨w.heap.size + 1, 1, none⟩ = some (b1) ∧ w2.cell? ⟨w.heap.size + 1, 2, none⟩ = some (c1) := ⟨A0.cell 0, A0.cell 1, A0.cell 2, A1.cell 0, A1.cell 1, A1.cell 2⟩
        have HA : ∀ u0 u1 u2 : Value, (w2.alloc (.cells #[u0, u1, u2] 51)).cell? ⟨w.heap.size, 0, none⟩ = some (a0) ∧ (w2.alloc (.cells #[u0, u1, u2] 51)).cell? ⟨w.heap.size, 1, none⟩ = some (b0) ∧ (w2.alloc (.cells #[u0, u1, u2] 51)).cell? ⟨w.heap.size, 2, none⟩ = some (c0) ∧ (w2.alloc (.cells #[u0, u1, u2] 51)).cell? ⟨w.heap.size + 1, 0, none⟩ = some (a1) ∧ (w2.alloc (.cells #[u0, u1, u2] 51)).cell? ⟨w.heap.size + 1, 1, none⟩ = some (b1) ∧ (w2.alloc (.cells #[u0, u1, u2] 51)).cell? ⟨w.heap.size + 1, 2, none⟩ = some (c1) := fun u0 u1 u2 => ⟨(A0.alloc (.cells #[u0, u1, u2] 51)).cell 0, (A0.alloc (.cells #[u0, u1, u2] 51)).cell 1, (A0.alloc (.cells #[u0, u1, u2] 51)).cell 2, (A1.alloc (.cells #[u0, u1, u2] 51)).cell 0, (A1.alloc (.cells #[u0, u1, u2] 51)).cell 1, (A1.alloc (.cells #[u0, u1, u2] 51)).cell 2⟩
        go_region_held3 (fun w' => w'.cell? ⟨w.heap.size, 0, none⟩ = some (a0) ∧ w'.cell? ⟨w.heap.size, 1, none⟩ = some (b0) ∧ w'.cell? ⟨w.heap.size, 2, none⟩ = some (c0) ∧ w'.cell? ⟨w.heap.size + 1, 0, none⟩ = some (a1) ∧ w'.cell? ⟨w.heap.size + 1, 1, none⟩ = some (b1) ∧ w'.cell? ⟨w.heap.size + 1, 2, none⟩ = some (c1))
          (first | assumption | exact HC | exact HA _ _ _ | exact HE _ _ _)
          (first
            | (go_at_call 45; have hst : Below w2.heap.size w2 w2.drew := (Below.refl _ _).drew; have ht1 : w2.heap.size ≤ w2.drew.heap.size := Nat.le_refl _; have fr := below_step fr hst; have A0 := A0.stays hst; have A1 := A1.stays hst; (with_reducible refine (toCluster_c _ _ _ P0 S0 W0 _ (ha0.below fr (Nat.le_refl _)) (hb0.below fr (Nat.le_refl _)) (hc0.below fr (Nat.le_refl _)) (by omega) (by omega) (by omega)).mono ?_); rintro e w3 ⟨x0, i0, y0, j0, z0, k0, rfl, o0, hq⟩; have sz1 := Below.size hq; have A0 := A0.stays hq; have A1 := A1.stays hq; have fr := below_step fr hq; (try have E := Blk.stays E hq); have HC : w3.cell? ⟨w.heap.size, 0, none⟩ = some (a0) ∧ w3.cell? ⟨w.heap.size, 1, none⟩ = some (b0) ∧ w3.cell? ⟨w.heap.size, 2, none⟩ = some (c0) ∧ w3.cell? ⟨w.heap.size + 1, 0, none⟩ = some (a1) ∧ w3.cell? ⟨w.heap.size + 1, 1, none⟩ = some (b1) ∧ w3.cell? ⟨w.heap.size + 1, 2, none⟩ = some (c1) := ⟨A0.cell 0, A0.cell 1, A0.cell 2, A1.cell 0, A1.cell 1, A1.cell 2⟩; have HA : ∀ u0 u1 u2 : Value, (w3.alloc (.cells #[u0, u1, u2] 51)).cell? ⟨w.heap.size, 0, none⟩ = some (a0) ∧ (w3.alloc (.cells #[u0, u1, u2] 51)).cell? ⟨w.heap.size, 1, none⟩ = some (b0) ∧ (w3.alloc (.cells #[u0, u1, u2] 51)).cell? ⟨w.heap.size, 2, none⟩ = some (c0) ∧ (w3.alloc (.cells #[u0, u1, u2] 51)).cell? ⟨w.heap.size + 1, 0, none⟩ = some (a1) ∧ (w3.alloc (.cells #[u0, u1, u2] 51)).cell? ⟨w.heap.size + 1, 1, none⟩ = some (b1) ∧ (w3.alloc (.cells #[u0, u1, u2] 51)).cell? ⟨w.heap.size + 1, 2, none⟩ = some (c1) := fun u0 u1 u2 => ⟨(A0.alloc (.cells #[u0, u1, u2] 51)).cell 0, (A0.alloc (.cells #[u0, u1, u2] 51)).cell 1, (A0.alloc (.cells #[u0, u1, u2] 51)).cell 2, (A1.alloc (.cells #[u0, u1, u2] 51)).cell 0, (A1.alloc (.cells #[u0, u1, u2] 51)).cell 1, (A1.alloc (.cells #[u0, u1, u2] 51)).cell 2⟩)
            | (go_at_call 45; have hst : Below w3.heap.size w3 w3 := Below.refl _ _; have ht2 : w3.heap.size ≤ w3.heap.size := Nat.le_refl _; have fr := below_step fr hst; have A0 := A0.stays hst; have A1 := A1.stays hst; have o0 := o0.below hst; (with_reducible refine (toCluster_c _ _ _ P1 S1 W1 _ (ha1.below fr (Nat.le_refl _)) (hb1.below fr (Nat.le_refl _)) (hc1.below fr (Nat.le_refl _)) (by omega) (by omega) (by omega)).mono ?_); rintro e w4 ⟨x1, i1, y1, j1, z1, k1, rfl, o1, hq⟩; have sz2 := Below.size hq; have A0 := A0.stays hq; have A1 := A1.stays hq; have o0 := o0.below hq; have fr := below_step fr hq; (try have E := Blk.stays E hq); have HC : w4.cell? ⟨w.heap.size, 0, none⟩ = some (a0) ∧ w4.cell? ⟨w.heap.size, 1, none⟩ = some (b0) ∧ w4.cell? ⟨w.heap.size, 2, none⟩ = some (c0) ∧ w4.cell? ⟨w.heap.size + 1, 0, none⟩ = some (a1) ∧ w4.cell? ⟨w.heap.size + 1, 1, none⟩ = some (b1) ∧ w4.cell? ⟨w.heap.size + 1, 2, none⟩ = some (c1) := ⟨A0.cell 0, A0.cell 1, A0.cell 2, A1.cell 0, A1.cell 1, A1.cell 2⟩; have HA : ∀ u0 u1 u2 : Value, (w4.alloc (.cells #[u0, u1, u2] 51)).cell? ⟨w.heap.size, 0, none⟩ = some (a0) ∧ (w4.alloc (.cells #[u0, u1, u2] 51)).cell? ⟨w.heap.size, 1, none⟩ = some (b0) ∧ (w4.alloc (.cells #[u0, u1, u2] 51)).cell? ⟨w.heap.size, 2, none⟩ = some (c0) ∧ (w4.alloc (.cells #[u0, u1, u2] 51)).cell? ⟨w.heap.size + 1, 0, none⟩ = some (a1) ∧ (w4.alloc (.cells #[u0, u1, u2] 51)).cell? ⟨w.heap.size + 1, 1, none⟩ = some (b1) ∧ (w4.alloc (.cells #[u0, u1, u2] 51)).cell? ⟨w.heap.size + 1, 2, none⟩ = some (c1) := fun u0 u1 u2 => ⟨(A0.alloc (.cells #[u0, u1, u2] 51)).cell 0, (A0.alloc (.cells #[u0, u1, u2] 51)).cell 1, (A0.alloc (.cells #[u0, u1, u2] 51)).cell 2, (A1.alloc (.cells #[u0, u1, u2] 51)).cell 0, (A1.alloc (.cells #[u0, u1, u2] 51)).cell 1, (A1.alloc (.cells #[u0, u1, u2] 51)).cell 2⟩)
            | (go_at_call 45; have hst : Below w3.heap.size w3 (w3.alloc (.cells #[.slice none 0 0, .slice none 0 0, .slice none 0 0] 51)) := (Below.refl _ _).alloc (Nat.le_refl _) _; have ht2 : w3.heap.size + 1 ≤ (w3.alloc (.cells #[.slice none 0 0, .slice none 0 0, .slice none 0 0] 51)).heap.size := (by simp); have fr := below_step fr hst; have A0 := A0.stays hst; have A1 := A1.stays hst; have o0 := o0.below hst; (with_reducible refine (toCluster_c _ _ _ P1 S1 W1 _ (ha1.below fr (Nat.le_refl _)) (hb1.below fr (Nat.le_refl _)) (hc1.below fr (Nat.le_refl _)) (by omega) (by omega) (by omega)).mono ?_); rintro e w4 ⟨x1, i1, y1, j1, z1, k1, rfl, o1, hq⟩; have sz2 := Below.size hq; have A0 := A0.stays hq; have A1 := A1.stays hq; have o0 := o0.below hq; have fr := below_step fr hq; have E := (Blk.new w3 51 #[.slice none 0 0, .slice none 0 0, .slice none 0 0]).stays hq; have HC : w4.cell? ⟨w.heap.size, 0, none⟩ = some (a0) ∧ w4.cell? ⟨w.heap.size, 1, none⟩ = some (b0) ∧ w4.cell? ⟨w.heap.size, 2, none⟩ = some (c0) ∧ w4.cell? ⟨w.heap.size + 1, 0, none⟩ = some (a1) ∧ w4.cell? ⟨w.heap.size + 1, 1, none⟩ = some (b1) ∧ w4.cell? ⟨w.heap.size + 1, 2, none⟩ = some (c1) := ⟨A0.cell 0, A0.cell 1, A0.cell 2, A1.cell 0, A1.cell 1, A1.cell 2⟩; have HA : ∀ u0 u1 u2 : Value, (w4.alloc (.cells #[u0, u1, u2] 51)).cell? ⟨w.heap.size, 0, none⟩ = some (a0) ∧ (w4.alloc (.cells #[u0, u1, u2] 51)).cell? ⟨w.heap.size, 1, none⟩ = some (b0) ∧ (w4.alloc (.cells #[u0, u1, u2] 51)).cell? ⟨w.heap.size, 2, none⟩ = some (c0) ∧ (w4.alloc (.cells #[u0, u1, u2] 51)).cell? ⟨w.heap.size + 1, 0, none⟩ = some (a1) ∧ (w4.alloc (.cells #[u0, u1, u2] 51)).cell? ⟨w.heap.size + 1, 1, none⟩ = some (b1) ∧ (w4.alloc (.cells #[u0, u1, u2] 51)).cell? ⟨w.heap.size + 1, 2, none⟩ = some (c1) := fun u0 u1 u2 => ⟨(A0.alloc (.cells #[u0, u1, u2] 51)).cell 0, (A0.alloc (.cells #[u0, u1, u2] 51)).cell 1, (A0.alloc (.cells #[u0, u1, u2] 51)).cell 2, (A1.alloc (.cells #[u0, u1, u2] 51)).cell 0, (A1.alloc (.cells #[u0, u1, u2] 51)).cell 1, (A1.alloc (.cells #[u0, u1, u2] 51)).cell 2⟩)
            | (go_at_call 44; have hst : Below w4.heap.size w4 w4 := Below.refl _ _; have ht3 : w4.heap.size ≤ w4.heap.size := Nat.le_refl _; have fr := below_step fr hst; have A0 := A0.stays hst; have A1 := A1.stays hst; have o0 := o0.below hst; have o1 := o1.below hst; (with_reducible refine (specAdd_c _ _ _ _ _ _ P0 S0 W0 P1 S1 W1 _ o0.a.rd o0.b.rd o0.c.rd o1.a.rd o1.b.rd o1.c.rd).mono ?_); rintro e w5 ⟨ua, ui, ub, uj, uc, uk, rfl, u, hq⟩; have sz3 := Below.size hq; have A0 := A0.stays hq; have A1 := A1.stays hq; have o0 := o0.below hq; have o1 := o1.below hq; have fr := below_step fr hq; (try have E := Blk.stays E hq); have HC : w5.cell? ⟨w.heap.size, 0, none⟩ = some (a0) ∧ w5.cell? ⟨w.heap.size, 1, none⟩ = some (b0) ∧ w5.cell? ⟨w.heap.size, 2, none⟩ = some (c0) ∧ w5.cell? ⟨w.heap.size + 1, 0, none⟩ = some (a1) ∧ w5.cell? ⟨w.heap.size + 1, 1, none⟩ = some (b1) ∧ w5.cell? ⟨w.heap.size + 1, 2, none⟩ = some (c1) := ⟨A0.cell 0, A0.cell 1, A0.cell 2, A1.cell 0, A1.cell 1, A1.cell 2⟩; have HA : ∀ u0 u1 u2 : Value, (w5.alloc (.cells #[u0, u1, u2] 51)).cell? ⟨w.heap.size, 0, none⟩ = some (a0) ∧ (w5.alloc (.cells #[u0, u1, u2] 51)).cell? ⟨w.heap.size, 1, none⟩ = some (b0) ∧ (w5.alloc (.cells #[u0, u1, u2] 51)).cell? ⟨w.heap.size, 2, none⟩ = some (c0) ∧ (w5.alloc (.cells #[u0, u1, u2] 51)).cell? ⟨w.heap.size + 1, 0, none⟩ = some (a1) ∧ (w5.alloc (.cells #[u0, u1, u2] 51)).cell? ⟨w.heap.size + 1, 1, none⟩ = some (b1) ∧ (w5.alloc (.cells #[u0, u1, u2] 51)).cell? ⟨w.heap.size + 1, 2, none⟩ = some (c1) := fun u0 u1 u2 => ⟨(A0.alloc (.cells #[u0, u1, u2] 51)).cell 0, (A0.alloc (.cells #[u0, u1, u2] 51)).cell 1, (A0.alloc (.cells #[u0, u1, u2] 51)).cell 2, (A1.alloc (.cells #[u0, u1, u2] 51)).cell 0, (A1.alloc (.cells #[u0, u1, u2] 51)).cell 1, (A1.alloc (.cells #[u0, u1, u2] 51)).cell 2⟩; have rg_u := u.block; have HEof : ∀ EN : Nat, w2.heap.size ≤ EN → Blk w5 EN 51 #[.slice none 0 0, .slice none 0 0, .slice none 0 0] → ∀ u0 u1 u2 : Value, (((w5.setCell ⟨EN, 0, none⟩ u0).setCell ⟨EN, 1, none⟩ u1).setCell ⟨EN, 2, none⟩ u2).cell? ⟨w.heap.size, 0, none⟩ = some (a0) ∧ (((w5.setCell ⟨EN, 0, none⟩ u0).setCell ⟨EN, 1, none⟩ u1).setCell ⟨EN, 2, none⟩ u2).cell? ⟨w.heap.size, 1, none⟩ = some (b0) ∧ (((w5.setCell ⟨EN, 0, none⟩ u0).setCell ⟨EN, 1, none⟩ u1).setCell ⟨EN, 2, none⟩ u2).cell? ⟨w.heap.size, 2, none⟩ = some (c0) ∧ (((w5.setCell ⟨EN, 0, none⟩ u0).setCell ⟨EN, 1, none⟩ u1).setCell ⟨EN, 2, none⟩ u2).cell? ⟨w.heap.size + 1, 0, none⟩ = some (a1) ∧ (((w5.setCell ⟨EN, 0, none⟩ u0).setCell ⟨EN, 1, none⟩ u1).setCell ⟨EN, 2, none⟩ u2).cell? ⟨w.heap.size + 1, 1, none⟩ = some (b1) ∧ (((w5.setCell ⟨EN, 0, none⟩ u0).setCell ⟨EN, 1, none⟩ u1).setCell ⟨EN, 2, none⟩ u2).cell? ⟨w.heap.size + 1, 2, none⟩ = some (c1) := fun EN hEN _ u0 u1 u2 => have hkk : Keeps (fun k => k = EN) w5 (((w5.setCell ⟨EN, 0, none⟩ u0).setCell ⟨EN, 1, none⟩ u1).setCell ⟨EN, 2, none⟩ u2) := (((Keeps.refl (fun k => k = _) w5).setCell (p := ⟨EN, 0, none⟩) rfl u0).setCell (p := ⟨EN, 1, none⟩) rfl u1).setCell (p := ⟨EN, 2, none⟩) rfl u2; ⟨(A0.keeps hkk (by omega)).cell 0, (A0.keeps hkk (by omega)).cell 1, (A0.keeps hkk (by omega)).cell 2, (A1.keeps hkk (by omega)).cell 0, (A1.keeps hkk (by omega)).cell 1, (A1.keeps hkk (by omega)).cell 2⟩; (try have HE := fun (u0 : Value) (u1 : Value) (u2 : Value) => HEof _ (by first | exact Nat.le_refl _ | omega) E u0 u1 u2); (try have r0 := Blk.free E 0); (try have r1 := Blk.free E 1); (try have r2 := Blk.free E 2); (try have s0 := Blk.cell E 0); (try have s1 := Blk.cell E 1); (try have s2 := Blk.cell E 2))
            | (go_at_call 44; have hst : Below w4.heap.size w4 (w4.alloc (.cells #[.slice none 0 0, .slice none 0 0, .slice none 0 0] 51)) := (Below.refl _ _).alloc (Nat.le_refl _) _; have ht3 : w4.heap.size + 1 ≤ (w4.alloc (.cells #[.slice none 0 0, .slice none 0 0, .slice none 0 0] 51)).heap.size := (by simp); have fr := below_step fr hst; have A0 := A0.stays hst; have A1 := A1.stays hst; have o0 := o0.below hst; have o1 := o1.below hst; (with_reducible refine (specAdd_c _ _ _ _ _ _ P0 S0 W0 P1 S1 W1 _ o0.a.rd o0.b.rd o0.c.rd o1.a.rd o1.b.rd o1.c.rd).mono ?_); rintro e w5 ⟨ua, ui, ub, uj, uc, uk, rfl, u, hq⟩; have sz3 := Below.size hq; have A0 := A0.stays hq; have A1 := A1.stays hq; have o0 := o0.below hq; have o1 := o1.below hq; have fr := below_step fr hq; have E := (Blk.new w4 51 #[.slice none 0 0, .slice none 0 0, .slice none 0 0]).stays hq; have HC : w5.cell? ⟨w.heap.size, 0, none⟩ = some (a0) ∧ w5.cell? ⟨w.heap.size, 1, none⟩ = some (b0) ∧ w5.cell? ⟨w.heap.size, 2, none⟩ = some (c0) ∧ w5.cell? ⟨w.heap.size + 1, 0, none⟩ = some (a1) ∧ w5.cell? ⟨w.heap.size + 1, 1, none⟩ = some (b1) ∧ w5.cell? ⟨w.heap.size + 1, 2, none⟩ = some (c1) := ⟨A0.cell 0, A0.cell 1, A0.cell 2, A1.cell 0, A1.cell 1, A1.cell 2⟩; have HA : ∀ u0 u1 u2 : Value, (w5.alloc (.cells #[u0, u1, u2] 51)).cell? ⟨w.heap.size, 0, none⟩ = some (a0) ∧ (w5.alloc (.cells #[u0, u1, u2] 51)).cell? ⟨w.heap.size, 1, none⟩ = some (b0) ∧ (w5.alloc (.cells #[u0, u1, u2] 51)).cell? ⟨w.heap.size, 2, none⟩ = some (c0) ∧ (w5.alloc (.cells #[u0, u1, u2] 51)).cell? ⟨w.heap.size + 1, 0, none⟩ = some (a1) ∧ (w5.alloc (.cells #[u0, u1, u2] 51)).cell? ⟨w.heap.size + 1, 1, none⟩ = some (b1) ∧ (w5.alloc (.cells #[u0, u1, u2] 51)).cell? ⟨w.heap.size + 1, 2, none⟩ = some (c1) := fun u0 u1 u2 => ⟨(A0.alloc (.cells #[u0, u1, u2] 51)).cell 0, (A0.alloc (.cells #[u0, u1, u2] 51)).cell 1, (A0.alloc (.cells #[u0, u1, u2] 51)).cell 2, (A1.alloc (.cells #[u0, u1, u2] 51)).cell 0, (A1.alloc (.cells #[u0, u1, u2] 51)).cell 1, (A1.alloc (.cells #[u0, u1, u2] 51)).cell 2⟩; have rg_u := u.block; have HEof : ∀ EN : Nat, w2.heap.size ≤ EN → Blk w5 EN 51 #[.slice none 0 0, .slice none 0 0, .slice none 0 0] → ∀ u0 u1 u2 : Value, (((w5.setCell ⟨EN, 0, none⟩ u0).setCell ⟨EN, 1, none⟩ u1).setCell ⟨EN, 2, none⟩ u2).cell? ⟨w.heap.size, 0, none⟩ = some (a0) ∧ (((w5.setCell ⟨EN, 0, none⟩ u0).setCell ⟨EN, 1, none⟩ u1).setCell ⟨EN, 2, none⟩ u2).cell? ⟨w.heap.size, 1, none⟩ = some (b0) ∧ (((w5.setCell ⟨EN, 0, none⟩ u0).setCell ⟨EN, 1, none⟩ u1).setCell ⟨EN, 2, none⟩ u2).cell? ⟨w.heap.size, 2, none⟩ = some (c0) ∧ (((w5.setCell ⟨EN, 0, none⟩ u0).setCell ⟨EN, 1, none⟩ u1).setCell ⟨EN, 2, none⟩ u2).cell? ⟨w.heap.size + 1, 0, none⟩ = some (a1) ∧ (((w5.setCell ⟨EN, 0, none⟩ u0).setCell ⟨EN, 1, none⟩ u1).setCell ⟨EN, 2, none⟩ u2).cell? ⟨w.heap.size + 1, 1, none⟩ = some (b1) ∧ (((w5.setCell ⟨EN, 0, none⟩ u0).setCell ⟨EN, 1, none⟩ u1).setCell ⟨EN, 2, none⟩ u2).cell? ⟨w.heap.size + 1, 2, none⟩ = some (c1) := fun EN hEN _ u0 u1 u2 => have hkk : Keeps (fun k => k = EN) w5 (((w5.setCell ⟨EN, 0, none⟩ u0).setCell ⟨EN, 1, none⟩ u1).setCell ⟨EN, 2, none⟩ u2) := (((Keeps.refl (fun k => k = _) w5).setCell (p := ⟨EN, 0, none⟩) rfl u0).setCell (p := ⟨EN, 1, none⟩) rfl u1).setCell (p := ⟨EN, 2, none⟩) rfl u2; ⟨(A0.keeps hkk (by omega)).cell 0, (A0.keeps hkk (by omega)).cell 1, (A0.keeps hkk (by omega)).cell 2, (A1.keeps hkk (by omega)).cell 0, (A1.keeps hkk (by omega)).cell 1, (A1.keeps hkk (by omega)).cell 2⟩; (try have HE := fun (u0 : Value) (u1 : Value) (u2 : Value) => HEof _ (by first | exact Nat.le_refl _ | omega) E u0 u1 u2); (try have r0 := Blk.free E 0); (try have r1 := Blk.free E 1); (try have r2 := Blk.free E 2); (try have s0 := Blk.cell E 0); (try have s1 := Blk.cell E 1); (try have s2 := Blk.cell E 2))
            | (go_at_call 45; have hst : Below w2.heap.size w2 (w2.alloc (.cells #[.slice none 0 0, .slice none 0 0, .slice none 0 0] 51)).drew := ((Below.refl _ _).alloc (Nat.le_refl _) _).drew; have ht1 : w2.heap.size + 1 ≤ (w2.alloc (.cells #[.slice none 0 0, .slice none 0 0, .slice none 0 0] 51)).drew.heap.size := (by simp); have fr := below_step fr hst; have A0 := A0.stays hst; have A1 := A1.stays hst; (with_reducible refine (toCluster_c _ _ _ P0 S0 W0 _ (ha0.below fr (Nat.le_refl _)) (hb0.below fr (Nat.le_refl _)) (hc0.below fr (Nat.le_refl _)) (by omega) (by omega) (by omega)).mono ?_); rintro e w3 ⟨x0, i0, y0, j0, z0, k0, rfl, o0, hq⟩; have sz1 := Below.size hq; have A0 := A0.stays hq; have A1 := A1.stays hq; have fr := below_step fr hq; have E := ((Blk.new w2 51 #[.slice none 0 0, .slice none 0 0, .slice none 0 0]).stays (show Below (w2.alloc (.cells #[.slice none 0 0, .slice none 0 0, .slice none 0 0] 51)).heap.size (w2.alloc (.cells #[.slice none 0 0, .slice none 0 0, .slice none 0 0] 51)) (w2.alloc (.cells #[.slice none 0 0, .slice none 0 0, .slice none 0 0] 51)).drew from (Below.refl _ _).drew)).stays hq; have HC : w3.cell? ⟨w.heap.size, 0, none⟩ = some (a0) ∧ w3.cell? ⟨w.heap.size, 1, none⟩ = some (b0) ∧ w3.cell? ⟨w.heap.size, 2, none⟩ = some (c0) ∧ w3.cell? ⟨w.heap.size + 1, 0, none⟩ = some (a1) ∧ w3.cell? ⟨w.heap.size + 1, 1, none⟩ = some (b1) ∧ w3.cell? ⟨w.heap.size + 1, 2, none⟩ = some (c1) := ⟨A0.cell 0, A0.cell 1, A0.cell 2, A1.cell 0, A1.cell 1, A1.cell 2⟩; have HA : ∀ u0 u1 u2 : Value, (w3.alloc (.cells #[u0, u1, u2] 51)).cell? ⟨w.heap.size, 0, none⟩ = some (a0) ∧ (w3.alloc (.cells #[u0, u1, u2] 51)).cell? ⟨w.heap.size, 1, none⟩ = some (b0) ∧ (w3.alloc (.cells #[u0, u1, u2] 51)).cell? ⟨w.heap.size, 2, none⟩ = some (c0) ∧ (w3.alloc (.cells #[u0, u1, u2] 51)).cell? ⟨w.heap.size + 1, 0, none⟩ = some (a1) ∧ (w3.alloc (.cells #[u0, u1, u2] 51)).cell? ⟨w.heap.size + 1, 1, none⟩ = some (b1) ∧ (w3.alloc (.cells #[u0, u1, u2] 51)).cell? ⟨w.heap.size + 1, 2, none⟩ = some (c1) := fun u0 u1 u2 => ⟨(A0.alloc (.cells #[u0, u1, u2] 51)).cell 0, (A0.alloc (.cells #[u0, u1, u2] 51)).cell 1, (A0.alloc (.cells #[u0, u1, u2] 51)).cell 2, (A1.alloc (.cells #[u0, u1, u2] 51)).cell 0, (A1.alloc (.cells #[u0, u1, u2] 51)).cell 1, (A1.alloc (.cells #[u0, u1, u2] 51)).cell 2⟩))
        · have E5 := Blk.new w5 51 #[.slice ua (okL (adB P0 S0 W0 P1 S1 W1) P0).length ui, .slice ub (okL (adB P0 S0 W0 P1 S1 W1) S0).length uj, .slice uc (okL (adB P0 S0 W0 P1 S1 W1) (adTo W0 W1 W0.length)).length uk]
          have hst : Below w5.heap.size w5 (w5.alloc (.cells #[.slice ua (okL (adB P0 S0 W0 P1 S1 W1) P0).length ui, .slice ub (okL (adB P0 S0 W0 P1 S1 W1) S0).length uj, .slice uc (okL (adB P0 S0 W0 P1 S1 W1) (adTo W0 W1 W0.length)).length uk] 51)) := (Below.refl _ _).alloc (Nat.le_refl _) _
          have A0 := A0.stays hst
          have A1 := A1.stays hst
          have u := u.below hst
          have fr := below_step fr hst
          have hzz : w2.heap.size ≤ (w5.alloc (.cells #[.slice ua (okL (adB P0 S0 W0 P1 S1 W1) P0).length ui, .slice ub (okL (adB P0 S0 W0 P1 S1 W1) S0).length uj, .slice uc (okL (adB P0 S0 W0 P1 S1 W1) (adTo W0 W1 W0.length)).length uk] 51)).heap.size := Nat.le_trans (by omega : w2.heap.size ≤ w5.heap.size) hst.size
          have u := u.base_le (base' := w2.heap.size) (by omega)
          go_wp2
          go_meet
          case rel => exact ⟨w5.heap.size, _, _, _, _, _, _, rfl, rfl, u, E5, by omega, A0, A1, fr, hzz⟩
        · have E5 : Blk (((w5.setCell ⟨w4.heap.size, 0, none⟩ (.slice ua (okL (adB P0 S0 W0 P1 S1 W1) P0).length ui)).setCell ⟨w4.heap.size, 1, none⟩ (.slice ub (okL (adB P0 S0 W0 P1 S1 W1) S0).length uj)).setCell ⟨w4.heap.size, 2, none⟩ (.slice uc (okL (adB P0 S0 W0 P1 S1 W1) (adTo W0 W1 W0.length)).length uk)) (w4.heap.size) 51 #[.slice ua (okL (adB P0 S0 W0 P1 S1 W1) P0).length ui, .slice ub (okL (adB P0 S0 W0 P1 S1 W1) S0).length uj, .slice uc (okL (adB P0 S0 W0 P1 S1 W1) (adTo W0 W1 W0.length)).length uk] := (((E.set 0 (.slice ua (okL (adB P0 S0 W0 P1 S1 W1) P0).length ui)).set 1 (.slice ub (okL (adB P0 S0 W0 P1 S1 W1) S0).length uj)).set 2 (.slice uc (okL (adB P0 S0 W0 P1 S1 W1) (adTo W0 W1 W0.length)).length uk))
          have hk5 : Keeps (fun k => k = w4.heap.size) w5 (((w5.setCell ⟨w4.heap.size, 0, none⟩ (.slice ua (okL (adB P0 S0 W0 P1 S1 W1) P0).length ui)).setCell ⟨w4.heap.size, 1, none⟩ (.slice ub (okL (adB P0 S0 W0 P1 S1 W1) S0).length uj)).setCell ⟨w4.heap.size, 2, none⟩ (.slice uc (okL (adB P0 S0 W0 P1 S1 W1) (adTo W0 W1 W0.length)).length uk)) := (((Keeps.refl (fun k => k = w4.heap.size) w5).setCell (p := ⟨w4.heap.size, 0, none⟩) rfl (.slice ua (okL (adB P0 S0 W0 P1 S1 W1) P0).length ui)).setCell (p := ⟨w4.heap.size, 1, none⟩) rfl (.slice ub (okL (adB P0 S0 W0 P1 S1 W1) S0).length uj)).setCell (p := ⟨w4.heap.size, 2, none⟩) rfl (.slice uc (okL (adB P0 S0 W0 P1 S1 W1) (adTo W0 W1 W0.length)).length uk)
          have A0 := A0.keeps hk5 (by omega)
          have A1 := A1.keeps hk5 (by omega)
          have u := u.keeps hk5 (fun k h1 h2 => by have := rg_u k h1; omega)
          have fr := fr.trans (hk5.below (Below.size fr) (fun k hk => by omega))
          have hzz : w2.heap.size ≤ (((w5.setCell ⟨w4.heap.size, 0, none⟩ (.slice ua (okL (adB P0 S0 W0 P1 S1 W1) P0).length ui)).setCell ⟨w4.heap.size, 1, none⟩ (.slice ub (okL (adB P0 S0 W0 P1 S1 W1) S0).length uj)).setCell ⟨w4.heap.size, 2, none⟩ (.slice uc (okL (adB P0 S0 W0 P1 S1 W1) (adTo W0 W1 W0.length)).length uk)).heap.size := Nat.le_trans (by omega : w2.heap.size ≤ w5.heap.size) hk5.size
          have u := u.base_le (base' := w2.heap.size) (by omega)
          go_wp2
          go_meet
          case rel => exact ⟨w4.heap.size, _, _, _, _, _, _, rfl, rfl, u, E5, by omega, A0, A1, fr, hzz⟩
        · have E5 : Blk (((w5.setCell ⟨w3.heap.size, 0, none⟩ (.slice ua (okL (adB P0 S0 W0 P1 S1 W1) P0).length ui)).setCell ⟨w3.heap.size, 1, none⟩ (.slice ub (okL (adB P0 S0 W0 P1 S1 W1) S0).length uj)).setCell ⟨w3.heap.size, 2, none⟩ (.slice uc (okL (adB P0 S0 W0 P1 S1 W1) (adTo W0 W1 W0.length)).length uk)) (w3.heap.size) 51 #[.slice ua (okL (adB P0 S0 W0 P1 S1 W1) P0).length ui, .slice ub (okL (adB P0 S0 W0 P1 S1 W1) S0).length uj, .slice uc (okL (adB P0 S0 W0 P1 S1 W1) (adTo W0 W1 W0.length)).length uk] := (((E.set 0 (.slice ua (okL (adB P0 S0 W0 P1 S1 W1) P0).length ui)).set 1 (.slice ub (okL (adB P0 S0 W0 P1 S1 W1) S0).length uj)).set 2 (.slice uc (okL (adB P0 S0 W0 P1 S1 W1) (adTo W0 W1 W0.length)).length uk))
          have hk5 : Keeps (fun k => k = w3.heap.size) w5 (((w5.setCell ⟨w3.heap.size, 0, none⟩ (.slice ua (okL (adB P0 S0 W0 P1 S1 W1) P0).length ui)).setCell ⟨w3.heap.size, 1, none⟩ (.slice ub (okL (adB P0 S0 W0 P1 S1 W1) S0).length uj)).setCell ⟨w3.heap.size, 2, none⟩ (.slice uc (okL (adB P0 S0 W0 P1 S1 W1) (adTo W0 W1 W0.length)).length uk)) := (((Keeps.refl (fun k => k = w3.heap.size) w5).setCell (p := ⟨w3.heap.size, 0, none⟩) rfl (.slice ua (okL (adB P0 S0 W0 P1 S1 W1) P0).length ui)).setCell (p := ⟨w3.heap.size, 1, none⟩) rfl (.slice ub (okL (adB P0 S0 W0 P1 S1 W1) S0).length uj)).setCell (p := ⟨w3.heap.size, 2, none⟩) rfl (.slice uc (okL (adB P0 S0 W0 P1 S1 W1) (adTo W0 W1 W0.length)).length uk)
          have A0 := A0.keeps hk5 (by omega)
          have A1 := A1.keeps hk5 (by omega)
          have u := u.keeps hk5 (fun k h1 h2 => by have := rg_u k h1; omega)
          have fr := fr.trans (hk5.below (Below.size fr) (fun k hk => by omega))
          have hzz : w2.heap.size ≤ (((w5.setCell ⟨w3.heap.size, 0, none⟩ (.slice ua (okL (adB P0 S0 W0 P1 S1 W1) P0).length ui)).setCell ⟨w3.heap.size, 1, none⟩ (.slice ub (okL (adB P0 S0 W0 P1 S1 W1) S0).length uj)).setCell ⟨w3.heap.size, 2, none⟩ (.slice uc (okL (adB P0 S0 W0 P1 S1 W1) (adTo W0 W1 W0.length)).length uk)).heap.size := Nat.le_trans (by omega : w2.heap.size ≤ w5.heap.size) hk5.size
          have u := u.base_le (base' := w2.heap.size) (by omega)
          go_wp2
          go_meet
          case rel => exact ⟨w3.heap.size, _, _, _, _, _, _, rfl, rfl, u, E5, by omega, A0, A1, fr, hzz⟩
        · have E5 : Blk (((w5.setCell ⟨w2.heap.size, 0, none⟩ (.slice ua (okL (adB P0 S0 W0 P1 S1 W1) P0).length ui)).setCell ⟨w2.heap.size, 1, none⟩ (.slice ub (okL (adB P0 S0 W0 P1 S1 W1) S0).length uj)).setCell ⟨w2.heap.size, 2, none⟩ (.slice uc (okL (adB P0 S0 W0 P1 S1 W1) (adTo W0 W1 W0.length)).length uk)) (w2.heap.size) 51 #[.slice ua (okL (adB P0 S0 W0 P1 S1 W1) P0).length ui, .slice ub (okL (adB P0 S0 W0 P1 S1 W1) S0).length uj, .slice uc (okL (adB P0 S0 W0 P1 S1 W1) (adTo W0 W1 W0.length)).length uk] := (((E.set 0 (.slice ua (okL (adB P0 S0 W0 P1 S1 W1) P0).length ui)).set 1 (.slice ub (okL (adB P0 S0 W0 P1 S1 W1) S0).length uj)).set 2 (.slice uc (okL (adB P0 S0 W0 P1 S1 W1) (adTo W0 W1 W0.length)).length uk))
          have hk5 : Keeps (fun k => k = w2.heap.size) w5 (((w5.setCell ⟨w2.heap.size, 0, none⟩ (.slice ua (okL (adB P0 S0 W0 P1 S1 W1) P0).length ui)).setCell ⟨w2.heap.size, 1, none⟩ (.slice ub (okL (adB P0 S0 W0 P1 S1 W1) S0).length uj)).setCell ⟨w2.heap.size, 2, none⟩ (.slice uc (okL (adB P0 S0 W0 P1 S1 W1) (adTo W0 W1 W0.length)).length uk)) := (((Keeps.refl (fun k => k = w2.heap.size) w5).setCell (p := ⟨w2.heap.size, 0, none⟩) rfl (.slice ua (okL (adB P0 S0 W0 P1 S1 W1) P0).length ui)).setCell (p := ⟨w2.heap.size, 1, none⟩) rfl (.slice ub (okL (adB P0 S0 W0 P1 S1 W1) S0).length uj)).setCell (p := ⟨w2.heap.size, 2, none⟩) rfl (.slice uc (okL (adB P0 S0 W0 P1 S1 W1) (adTo W0 W1 W0.length)).length uk)
          have A0 := A0.keeps hk5 (by omega)
          have A1 := A1.keeps hk5 (by omega)
          have u := u.keeps hk5 (fun k h1 h2 => by have := rg_u k h1; omega)
          have fr := fr.trans (hk5.below (Below.size fr) (fun k hk => by omega))
          have hzz : w2.heap.size ≤ (((w5.setCell ⟨w2.heap.size, 0, none⟩ (.slice ua (okL (adB P0 S0 W0 P1 S1 W1) P0).length ui)).setCell ⟨w2.heap.size, 1, none⟩ (.slice ub (okL (adB P0 S0 W0 P1 S1 W1) S0).length uj)).setCell ⟨w2.heap.size, 2, none⟩ (.slice uc (okL (adB P0 S0 W0 P1 S1 W1) (adTo W0 W1 W0.length)).length uk)).heap.size := Nat.le_trans (by omega : w2.heap.size ≤ w5.heap.size) hk5.size
          have u := u.base_le (base' := w2.heap.size) (by omega)
          go_wp2
          go_meet
          case rel => exact ⟨w2.heap.size, _, _, _, _, _, _, rfl, rfl, u, E5, by omega, A0, A1, fr, hzz⟩
      case rest =>
        obtain ⟨uN, ua, ui, ub, uj, uc, uk, rfl, rfl, u, Bu, hNu, A0, A1, fr, szu⟩ := hcut
        have rg_u := u.block
        have ltu := Bu.lt
        obtain ⟨w6, rfl⟩ : ∃ wz : World, wz = wc := ⟨_, rfl⟩
        have q_A0_0 := A0.cell 0
        have q_A0_1 := A0.cell 1
        have q_A0_2 := A0.cell 2
        have q_A1_0 := A1.cell 0
        have q_A1_1 := A1.cell 1
        have q_A1_2 := A1.cell 2
        have q_Bu_0 := Bu.cell 0
        have q_Bu_1 := Bu.cell 1
        have q_Bu_2 := Bu.cell 2
        go_wp2_with fail
        clear q_A0_0 q_A0_1 q_A0_2 q_A1_0 q_A1_1 q_A1_2 q_Bu_0 q_Bu_1 q_Bu_2
        refine (toCluster_c _ _ _ P0 S0 W0 _ (ha0.below fr (Nat.le_refl _)) (hb0.below fr (Nat.le_refl _)) (hc0.below fr (Nat.le_refl _)) (by omega) (by omega) (by omega)).mono ?_
        rintro e w7 ⟨x2, i2, y2, j2, z2, k2, rfl, o2, hq⟩
        have A0 := A0.stays hq
        have A1 := A1.stays hq
        have Bu := Bu.stays hq
        have u := u.below hq
        have sz7 := Below.size hq
        have fr := below_step fr hq
        have rg_o2 := o2.block
        have A0 := A0.alloc (.cells #[.slice x2 P0.length i2, .slice y2 S0.length j2, .slice z2 W0.length k2] 51)
        have A1 := A1.alloc (.cells #[.slice x2 P0.length i2, .slice y2 S0.length j2, .slice z2 W0.length k2] 51)
        have Bu := Bu.alloc (.cells #[.slice x2 P0.length i2, .slice y2 S0.length j2, .slice z2 W0.length k2] 51)
        have X0 := Blk.new w7 51 #[.slice x2 P0.length i2, .slice y2 S0.length j2, .slice z2 W0.length k2]
        have hal : Below w7.heap.size w7 (w7.alloc (.cells #[.slice x2 P0.length i2, .slice y2 S0.length j2, .slice z2 W0.length k2] 51)) := (Below.refl _ _).alloc (Nat.le_refl _) _
        have u := u.below hal
        have o2 := o2.below hal
        have fr := below_step fr hal
        have sa3 : (w7.alloc (.cells #[.slice x2 P0.length i2, .slice y2 S0.length j2, .slice z2 W0.length k2] 51)).heap.size ≤ w7.heap.size + 1 := by simp
        have sb3 : w7.heap.size + 1 ≤ (w7.alloc (.cells #[.slice x2 P0.length i2, .slice y2 S0.length j2, .slice z2 W0.length k2] 51)).heap.size := by simp
        have q_A0_0 := A0.cell 0
        have q_A0_1 := A0.cell 1
        have q_A0_2 := A0.cell 2
        have q_A1_0 := A1.cell 0
        have q_A1_1 := A1.cell 1
        have q_A1_2 := A1.cell 2
        have q_Bu_0 := Bu.cell 0
        have q_Bu_1 := Bu.cell 1
        have q_Bu_2 := Bu.cell 2
        have q_X0_0 := X0.cell 0
        have q_X0_1 := X0.cell 1
        have q_X0_2 := X0.cell 2
        go_wp2_with fail
        clear q_A0_0 q_A0_1 q_A0_2 q_A1_0 q_A1_1 q_A1_2 q_Bu_0 q_Bu_1 q_Bu_2 q_X0_0 q_X0_1 q_X0_2
        refine (toCluster_c _ _ _ P1 S1 W1 _ (ha1.below fr (Nat.le_refl _)) (hb1.below fr (Nat.le_refl _)) (hc1.below fr (Nat.le_refl _)) (by omega) (by omega) (by omega)).mono ?_
        rintro e w8 ⟨x3, i3, y3, j3, z3, k3, rfl, o3, hq⟩
        have A0 := A0.stays hq
        have A1 := A1.stays hq
        have Bu := Bu.stays hq
        have X0 := X0.stays hq
        have u := u.below hq
        have o2 := o2.below hq
        have sz8 := Below.size hq
        have fr := below_step fr hq
        have rg_o3 := o3.block
        have A0 := A0.alloc (.cells #[.slice x3 P1.length i3, .slice y3 S1.length j3, .slice z3 W1.length k3] 51)
        have A1 := A1.alloc (.cells #[.slice x3 P1.length i3, .slice y3 S1.length j3, .slice z3 W1.length k3] 51)
        have Bu := Bu.alloc (.cells #[.slice x3 P1.length i3, .slice y3 S1.length j3, .slice z3 W1.length k3] 51)
        have X0 := X0.alloc (.cells #[.slice x3 P1.length i3, .slice y3 S1.length j3, .slice z3 W1.length k3] 51)
        have X1 := Blk.new w8 51 #[.slice x3 P1.length i3, .slice y3 S1.length j3, .slice z3 W1.length k3]
        have hal : Below w8.heap.size w8 (w8.alloc (.cells #[.slice x3 P1.length i3, .slice y3 S1.length j3, .slice z3 W1.length k3] 51)) := (Below.refl _ _).alloc (Nat.le_refl _) _
        have u := u.below hal
        have o2 := o2.below hal
        have o3 := o3.below hal
        have fr := below_step fr hal
        have sa4 : (w8.alloc (.cells #[.slice x3 P1.length i3, .slice y3 S1.length j3, .slice z3 W1.length k3] 51)).heap.size ≤ w8.heap.size + 1 := by simp
        have sb4 : w8.heap.size + 1 ≤ (w8.alloc (.cells #[.slice x3 P1.length i3, .slice y3 S1.length j3, .slice z3 W1.length k3] 51)).heap.size := by simp
        have q_A0_0 := A0.cell 0
        have q_A0_1 := A0.cell 1
        have q_A0_2 := A0.cell 2
        have q_A1_0 := A1.cell 0
        have q_A1_1 := A1.cell 1
        have q_A1_2 := A1.cell 2
        have q_Bu_0 := Bu.cell 0
        have q_Bu_1 := Bu.cell 1
        have q_Bu_2 := Bu.cell 2
        have q_X0_0 := X0.cell 0
        have q_X0_1 := X0.cell 1
        have q_X0_2 := X0.cell 2
        have q_X1_0 := X1.cell 0
        have q_X1_1 := X1.cell 1
        have q_X1_2 := X1.cell 2
        go_wp2_with fail
        clear q_A0_0 q_A0_1 q_A0_2 q_A1_0 q_A1_1 q_A1_2 q_Bu_0 q_Bu_1 q_Bu_2 q_X0_0 q_X0_1 q_X0_2 q_X1_0 q_X1_1 q_X1_2
        refine (implAdd_c _ _ _ _ _ _ P0 S0 W0 P1 S1 W1 _ o2.a.rd o2.b.rd o2.c.rd o3.a.rd o3.b.rd o3.c.rd).mono ?_
        rintro e w9 ⟨ga, gi, gb, gj, gc, gk, rfl, g, hq⟩
        have A0 := A0.stays hq
        have A1 := A1.stays hq
        have Bu := Bu.stays hq
        have X0 := X0.stays hq
        have X1 := X1.stays hq
        have u := u.below hq
        have o2 := o2.below hq
        have o3 := o3.below hq
        have sz9 := Below.size hq
        have fr := below_step fr hq
        have rg_g := g.block
        have A0 := A0.alloc (.cells #[.slice ga (okL (adB P0 S0 W0 P1 S1 W1) P0).length gi, .slice gb (okL (adB P0 S0 W0 P1 S1 W1) S0).length gj, .slice gc (okL (adB P0 S0 W0 P1 S1 W1) (adTo W0 W1 W0.length)).length gk] 51)
        have A1 := A1.alloc (.cells #[.slice ga (okL (adB P0 S0 W0 P1 S1 W1) P0).length gi, .slice gb (okL (adB P0 S0 W0 P1 S1 W1) S0).length gj, .slice gc (okL (adB P0 S0 W0 P1 S1 W1) (adTo W0 W1 W0.length)).length gk] 51)
        have Bu := Bu.alloc (.cells #[.slice ga (okL (adB P0 S0 W0 P1 S1 W1) P0).length gi, .slice gb (okL (adB P0 S0 W0 P1 S1 W1) S0).length gj, .slice gc (okL (adB P0 S0 W0 P1 S1 W1) (adTo W0 W1 W0.length)).length gk] 51)
        have X0 := X0.alloc (.cells #[.slice ga (okL (adB P0 S0 W0 P1 S1 W1) P0).length gi, .slice gb (okL (adB P0 S0 W0 P1 S1 W1) S0).length gj, .slice gc (okL (adB P0 S0 W0 P1 S1 W1) (adTo W0 W1 W0.length)).length gk] 51)
        have X1 := X1.alloc (.cells #[.slice ga (okL (adB P0 S0 W0 P1 S1 W1) P0).length gi, .slice gb (okL (adB P0 S0 W0 P1 S1 W1) S0).length gj, .slice gc (okL (adB P0 S0 W0 P1 S1 W1) (adTo W0 W1 W0.length)).length gk] 51)
        have Bg := Blk.new w9 51 #[.slice ga (okL (adB P0 S0 W0 P1 S1 W1) P0).length gi, .slice gb (okL (adB P0 S0 W0 P1 S1 W1) S0).length gj, .slice gc (okL (adB P0 S0 W0 P1 S1 W1) (adTo W0 W1 W0.length)).length gk]
        have hal : Below w9.heap.size w9 (w9.alloc (.cells #[.slice ga (okL (adB P0 S0 W0 P1 S1 W1) P0).length gi, .slice gb (okL (adB P0 S0 W0 P1 S1 W1) S0).length gj, .slice gc (okL (adB P0 S0 W0 P1 S1 W1) (adTo W0 W1 W0.length)).length gk] 51)) := (Below.refl _ _).alloc (Nat.le_refl _) _
        have u := u.below hal
        have o2 := o2.below hal
        have o3 := o3.below hal
        have g := g.below hal
        have fr := below_step fr hal
        have sa5 : (w9.alloc (.cells #[.slice ga (okL (adB P0 S0 W0 P1 S1 W1) P0).length gi, .slice gb (okL (adB P0 S0 W0 P1 S1 W1) S0).length gj, .slice gc (okL (adB P0 S0 W0 P1 S1 W1) (adTo W0 W1 W0.length)).length gk] 51)).heap.size ≤ w9.heap.size + 1 := by simp
        have sb5 : w9.heap.size + 1 ≤ (w9.alloc (.cells #[.slice ga (okL (adB P0 S0 W0 P1 S1 W1) P0).length gi, .slice gb (okL (adB P0 S0 W0 P1 S1 W1) S0).length gj, .slice gc (okL (adB P0 S0 W0 P1 S1 W1) (adTo W0 W1 W0.length)).length gk] 51)).heap.size := by simp
        have q_A0_0 := A0.cell 0
        have q_A0_1 := A0.cell 1
        have q_A0_2 := A0.cell 2
        have q_A1_0 := A1.cell 0
        have q_A1_1 := A1.cell 1
        have q_A1_2 := A1.cell 2
        have q_Bu_0 := Bu.cell 0
        have q_Bu_1 := Bu.cell 1
        have q_Bu_2 := Bu.cell 2
        have q_X0_0 := X0.cell 0
        have q_X0_1 := X0.cell 1
        have q_X0_2 := X0.cell 2
        have q_X1_0 := X1.cell 0
        have q_X1_1 := X1.cell 1
        have q_X1_2 := X1.cell 2
        have q_Bg_0 := Bg.cell 0
        have q_Bg_1 := Bg.cell 1
        have q_Bg_2 := Bg.cell 2
        go_wp2_with fail
        clear q_A0_0 q_A0_1 q_A0_2 q_A1_0 q_A1_1 q_A1_2 q_Bu_0 q_Bu_1 q_Bu_2 q_X0_0 q_X0_1 q_X0_2 q_X1_0 q_X1_1 q_X1_2 q_Bg_0 q_Bg_1 q_Bg_2
        refine (eqCluster_c _ _ _ _ _ _ (okL (adB P0 S0 W0 P1 S1 W1) P0) (okL (adB P0 S0 W0 P1 S1 W1) S0) (okL (adB P0 S0 W0 P1 S1 W1) (adTo W0 W1 W0.length)) _ g.a.rd g.b.rd g.c.rd u.a.rd u.b.rd u.c.rd).mono ?_
        rintro e w10 ⟨rfl, hq⟩
        have A0 := A0.stays hq
        have A1 := A1.stays hq
        have Bu := Bu.stays hq
        have X0 := X0.stays hq
        have X1 := X1.stays hq
        have Bg := Bg.stays hq
        have u := u.below hq
        have o2 := o2.below hq
        have o3 := o3.below hq
        have g := g.below hq
        have sz10 := Below.size hq
        have fr := below_step fr hq
        have q_A0_0 := A0.cell 0
        have q_A0_1 := A0.cell 1
        have q_A0_2 := A0.cell 2
        have q_A1_0 := A1.cell 0
        have q_A1_1 := A1.cell 1
        have q_A1_2 := A1.cell 2
        have q_Bu_0 := Bu.cell 0
        have q_Bu_1 := Bu.cell 1
        have q_Bu_2 := Bu.cell 2
        have q_X0_0 := X0.cell 0
        have q_X0_1 := X0.cell 1
        have q_X0_2 := X0.cell 2
        have q_X1_0 := X1.cell 0
        have q_X1_1 := X1.cell 1
        have q_X1_2 := X1.cell 2
        have q_Bg_0 := Bg.cell 0
        have q_Bg_1 := Bg.cell 1
        have q_Bg_2 := Bg.cell 2
        go_wp2_with fail
        have hd : Below w10.heap.size w10 w10.drew := (Below.refl _ _).drew
        have HC : w10.cell? ⟨w.heap.size, 0, none⟩ = some (a0) ∧ w10.cell? ⟨w.heap.size, 1, none⟩ = some (b0) ∧ w10.cell? ⟨w.heap.size, 2, none⟩ = some (c0) ∧ w10.cell? ⟨w.heap.size + 1, 0, none⟩ = some (a1) ∧ w10.cell? ⟨w.heap.size + 1, 1, none⟩ = some (b1) ∧ w10.cell? ⟨w.heap.size + 1, 2, none⟩ = some (c1) ∧ w10.cell? ⟨uN, 0, none⟩ = some (.slice ua (okL (adB P0 S0 W0 P1 S1 W1) P0).length ui) ∧ w10.cell? ⟨uN, 1, none⟩ = some (.slice ub (okL (adB P0 S0 W0 P1 S1 W1) S0).length uj) ∧ w10.cell? ⟨uN, 2, none⟩ = some (.slice uc (okL (adB P0 S0 W0 P1 S1 W1) (adTo W0 W1 W0.length)).length uk) ∧ w10.cell? ⟨w7.heap.size, 0, none⟩ = some (.slice x2 P0.length i2) ∧ w10.cell? ⟨w7.heap.size, 1, none⟩ = some (.slice y2 S0.length j2) ∧ w10.cell? ⟨w7.heap.size, 2, none⟩ = some (.slice z2 W0.length k2) ∧ w10.cell? ⟨w8.heap.size, 0, none⟩ = some (.slice x3 P1.length i3) ∧ w10.cell? ⟨w8.heap.size, 1, none⟩ = some (.slice y3 S1.length j3) ∧ w10.cell? ⟨w8.heap.size, 2, none⟩ = some (.slice z3 W1.length k3) ∧ w10.cell? ⟨w9.heap.size, 0, none⟩ = some (.slice ga (okL (adB P0 S0 W0 P1 S1 W1) P0).length gi) ∧ w10.cell? ⟨w9.heap.size, 1, none⟩ = some (.slice gb (okL (adB P0 S0 W0 P1 S1 W1) S0).length gj) ∧ w10.cell? ⟨w9.heap.size, 2, none⟩ = some (.slice gc (okL (adB P0 S0 W0 P1 S1 W1) (adTo W0 W1 W0.length)).length gk) := ⟨A0.cell 0, A0.cell 1, A0.cell 2, A1.cell 0, A1.cell 1, A1.cell 2, Bu.cell 0, Bu.cell 1, Bu.cell 2, X0.cell 0, X0.cell 1, X0.cell 2, X1.cell 0, X1.cell 1, X1.cell 2, Bg.cell 0, Bg.cell 1, Bg.cell 2⟩
        clear q_A0_0 q_A0_1 q_A0_2 q_A1_0 q_A1_1 q_A1_2 q_Bu_0 q_Bu_1 q_Bu_2 q_X0_0 q_X0_1 q_X0_2 q_X1_0 q_X1_1 q_X1_2 q_Bg_0 q_Bg_1 q_Bg_2
        have A0 := A0.stays hd
        have A1 := A1.stays hd
        have Bu := Bu.stays hd
        have X0 := X0.stays hd
        have X1 := X1.stays hd
        have Bg := Bg.stays hd
        have u := u.below hd
        have o2 := o2.below hd
        have o3 := o3.below hd
        have g := g.below hd
        have fr := below_step fr hd
        have sa6 : w10.drew.heap.size ≤ w10.heap.size := Nat.le_refl _
        have sb6 : w10.heap.size ≤ w10.drew.heap.size := Nat.le_refl _
        go_region_held3 (fun w' => w'.cell? ⟨w.heap.size, 0, none⟩ = some (a0) ∧ w'.cell? ⟨w.heap.size, 1, none⟩ = some (b0) ∧ w'.cell? ⟨w.heap.size, 2, none⟩ = some (c0) ∧ w'.cell? ⟨w.heap.size + 1, 0, none⟩ = some (a1) ∧ w'.cell? ⟨w.heap.size + 1, 1, none⟩ = some (b1) ∧ w'.cell? ⟨w.heap.size + 1, 2, none⟩ = some (c1) ∧ w'.cell? ⟨uN, 0, none⟩ = some (.slice ua (okL (adB P0 S0 W0 P1 S1 W1) P0).length ui) ∧ w'.cell? ⟨uN, 1, none⟩ = some (.slice ub (okL (adB P0 S0 W0 P1 S1 W1) S0).length uj) ∧ w'.cell? ⟨uN, 2, none⟩ = some (.slice uc (okL (adB P0 S0 W0 P1 S1 W1) (adTo W0 W1 W0.length)).length uk) ∧ w'.cell? ⟨w7.heap.size, 0, none⟩ = some (.slice x2 P0.length i2) ∧ w'.cell? ⟨w7.heap.size, 1, none⟩ = some (.slice y2 S0.length j2) ∧ w'.cell? ⟨w7.heap.size, 2, none⟩ = some (.slice z2 W0.length k2) ∧ w'.cell? ⟨w8.heap.size, 0, none⟩ = some (.slice x3 P1.length i3) ∧ w'.cell? ⟨w8.heap.size, 1, none⟩ = some (.slice y3 S1.length j3) ∧ w'.cell? ⟨w8.heap.size, 2, none⟩ = some (.slice z3 W1.length k3) ∧ w'.cell? ⟨w9.heap.size, 0, none⟩ = some (.slice ga (okL (adB P0 S0 W0 P1 S1 W1) P0).length gi) ∧ w'.cell? ⟨w9.heap.size, 1, none⟩ = some (.slice gb (okL (adB P0 S0 W0 P1 S1 W1) S0).length gj) ∧ w'.cell? ⟨w9.heap.size, 2, none⟩ = some (.slice gc (okL (adB P0 S0 W0 P1 S1 W1) (adTo W0 W1 W0.length)).length gk))
          (first | assumption | exact HC)
          (first
            | (go_at_call 45; (with_reducible refine (toCluster_c _ _ _ P0 S0 W0 _ (ha0.below fr (Nat.le_refl _)) (hb0.below fr (Nat.le_refl _)) (hc0.below fr (Nat.le_refl _)) (by omega) (by omega) (by omega)).mono ?_); rintro e w11 ⟨x4, i4, y4, j4, z4, k4, rfl, o4, hq⟩; have A0 := A0.stays hq; have A1 := A1.stays hq; have Bu := Bu.stays hq; have X0 := X0.stays hq; have X1 := X1.stays hq; have Bg := Bg.stays hq; have u := u.below hq; have o2 := o2.below hq; have o3 := o3.below hq; have g := g.below hq; have sz11 := Below.size hq; have fr := below_step fr hq; have HC : w11.cell? ⟨w.heap.size, 0, none⟩ = some (a0) ∧ w11.cell? ⟨w.heap.size, 1, none⟩ = some (b0) ∧ w11.cell? ⟨w.heap.size, 2, none⟩ = some (c0) ∧ w11.cell? ⟨w.heap.size + 1, 0, none⟩ = some (a1) ∧ w11.cell? ⟨w.heap.size + 1, 1, none⟩ = some (b1) ∧ w11.cell? ⟨w.heap.size + 1, 2, none⟩ = some (c1) ∧ w11.cell? ⟨uN, 0, none⟩ = some (.slice ua (okL (adB P0 S0 W0 P1 S1 W1) P0).length ui) ∧ w11.cell? ⟨uN, 1, none⟩ = some (.slice ub (okL (adB P0 S0 W0 P1 S1 W1) S0).length uj) ∧ w11.cell? ⟨uN, 2, none⟩ = some (.slice uc (okL (adB P0 S0 W0 P1 S1 W1) (adTo W0 W1 W0.length)).length uk) ∧ w11.cell? ⟨w7.heap.size, 0, none⟩ = some (.slice x2 P0.length i2) ∧ w11.cell? ⟨w7.heap.size, 1, none⟩ = some (.slice y2 S0.length j2) ∧ w11.cell? ⟨w7.heap.size, 2, none⟩ = some (.slice z2 W0.length k2) ∧ w11.cell? ⟨w8.heap.size, 0, none⟩ = some (.slice x3 P1.length i3) ∧ w11.cell? ⟨w8.heap.size, 1, none⟩ = some (.slice y3 S1.length j3) ∧ w11.cell? ⟨w8.heap.size, 2, none⟩ = some (.slice z3 W1.length k3) ∧ w11.cell? ⟨w9.heap.size, 0, none⟩ = some (.slice ga (okL (adB P0 S0 W0 P1 S1 W1) P0).length gi) ∧ w11.cell? ⟨w9.heap.size, 1, none⟩ = some (.slice gb (okL (adB P0 S0 W0 P1 S1 W1) S0).length gj) ∧ w11.cell? ⟨w9.heap.size, 2, none⟩ = some (.slice gc (okL (adB P0 S0 W0 P1 S1 W1) (adTo W0 W1 W0.length)).length gk) := ⟨A0.cell 0, A0.cell 1, A0.cell 2, A1.cell 0, A1.cell 1, A1.cell 2, Bu.cell 0, Bu.cell 1, Bu.cell 2, X0.cell 0, X0.cell 1, X0.cell 2, X1.cell 0, X1.cell 1, X1.cell 2, Bg.cell 0, Bg.cell 1, Bg.cell 2⟩)
            | (go_at_call 47; (with_reducible refine (eqCluster_c _ _ _ _ _ _ P0 S0 W0 _ o2.a.rd o2.b.rd o2.c.rd o4.a.rd o4.b.rd o4.c.rd).mono ?_); rintro e w12 ⟨rfl, hq⟩; have A0 := A0.stays hq; have A1 := A1.stays hq; have Bu := Bu.stays hq; have X0 := X0.stays hq; have X1 := X1.stays hq; have Bg := Bg.stays hq; have u := u.below hq; have o2 := o2.below hq; have o3 := o3.below hq; have g := g.below hq; have o4 := o4.below hq; have sz12 := Below.size hq; have fr := below_step fr hq; have HC : w12.cell? ⟨w.heap.size, 0, none⟩ = some (a0) ∧ w12.cell? ⟨w.heap.size, 1, none⟩ = some (b0) ∧ w12.cell? ⟨w.heap.size, 2, none⟩ = some (c0) ∧ w12.cell? ⟨w.heap.size + 1, 0, none⟩ = some (a1) ∧ w12.cell? ⟨w.heap.size + 1, 1, none⟩ = some (b1) ∧ w12.cell? ⟨w.heap.size + 1, 2, none⟩ = some (c1) ∧ w12.cell? ⟨uN, 0, none⟩ = some (.slice ua (okL (adB P0 S0 W0 P1 S1 W1) P0).length ui) ∧ w12.cell? ⟨uN, 1, none⟩ = some (.slice ub (okL (adB P0 S0 W0 P1 S1 W1) S0).length uj) ∧ w12.cell? ⟨uN, 2, none⟩ = some (.slice uc (okL (adB P0 S0 W0 P1 S1 W1) (adTo W0 W1 W0.length)).length uk) ∧ w12.cell? ⟨w7.heap.size, 0, none⟩ = some (.slice x2 P0.length i2) ∧ w12.cell? ⟨w7.heap.size, 1, none⟩ = some (.slice y2 S0.length j2) ∧ w12.cell? ⟨w7.heap.size, 2, none⟩ = some (.slice z2 W0.length k2) ∧ w12.cell? ⟨w8.heap.size, 0, none⟩ = some (.slice x3 P1.length i3) ∧ w12.cell? ⟨w8.heap.size, 1, none⟩ = some (.slice y3 S1.length j3) ∧ w12.cell? ⟨w8.heap.size, 2, none⟩ = some (.slice z3 W1.length k3) ∧ w12.cell? ⟨w9.heap.size, 0, none⟩ = some (.slice ga (okL (adB P0 S0 W0 P1 S1 W1) P0).length gi) ∧ w12.cell? ⟨w9.heap.size, 1, none⟩ = some (.slice gb (okL (adB P0 S0 W0 P1 S1 W1) S0).length gj) ∧ w12.cell? ⟨w9.heap.size, 2, none⟩ = some (.slice gc (okL (adB P0 S0 W0 P1 S1 W1) (adTo W0 W1 W0.length)).length gk) := ⟨A0.cell 0, A0.cell 1, A0.cell 2, A1.cell 0, A1.cell 1, A1.cell 2, Bu.cell 0, Bu.cell 1, Bu.cell 2, X0.cell 0, X0.cell 1, X0.cell 2, X1.cell 0, X1.cell 1, X1.cell 2, Bg.cell 0, Bg.cell 1, Bg.cell 2⟩))
        have q_A0_0 := A0.cell 0
        have q_A0_1 := A0.cell 1
        have q_A0_2 := A0.cell 2
        have q_A1_0 := A1.cell 0
        have q_A1_1 := A1.cell 1
        have q_A1_2 := A1.cell 2
        have q_Bu_0 := Bu.cell 0
        have q_Bu_1 := Bu.cell 1
        have q_Bu_2 := Bu.cell 2
        have q_X0_0 := X0.cell 0
        have q_X0_1 := X0.cell 1
        have q_X0_2 := X0.cell 2
        have q_X1_0 := X1.cell 0
        have q_X1_1 := X1.cell 1
        have q_X1_2 := X1.cell 2
        have q_Bg_0 := Bg.cell 0
        have q_Bg_1 := Bg.cell 1
        have q_Bg_2 := Bg.cell 2
        go_wp2_with fail
        have hd : Below w12.heap.size w12 w12.drew := (Below.refl _ _).drew
        have HC : w12.cell? ⟨w.heap.size, 0, none⟩ = some (a0) ∧ w12.cell? ⟨w.heap.size, 1, none⟩ = some (b0) ∧ w12.cell? ⟨w.heap.size, 2, none⟩ = some (c0) ∧ w12.cell? ⟨w.heap.size + 1, 0, none⟩ = some (a1) ∧ w12.cell? ⟨w.heap.size + 1, 1, none⟩ = some (b1) ∧ w12.cell? ⟨w.heap.size + 1, 2, none⟩ = some (c1) ∧ w12.cell? ⟨uN, 0, none⟩ = some (.slice ua (okL (adB P0 S0 W0 P1 S1 W1) P0).length ui) ∧ w12.cell? ⟨uN, 1, none⟩ = some (.slice ub (okL (adB P0 S0 W0 P1 S1 W1) S0).length uj) ∧ w12.cell? ⟨uN, 2, none⟩ = some (.slice uc (okL (adB P0 S0 W0 P1 S1 W1) (adTo W0 W1 W0.length)).length uk) ∧ w12.cell? ⟨w7.heap.size, 0, none⟩ = some (.slice x2 P0.length i2) ∧ w12.cell? ⟨w7.heap.size, 1, none⟩ = some (.slice y2 S0.length j2) ∧ w12.cell? ⟨w7.heap.size, 2, none⟩ = some (.slice z2 W0.length k2) ∧ w12.cell? ⟨w8.heap.size, 0, none⟩ = some (.slice x3 P1.length i3) ∧ w12.cell? ⟨w8.heap.size, 1, none⟩ = some (.slice y3 S1.length j3) ∧ w12.cell? ⟨w8.heap.size, 2, none⟩ = some (.slice z3 W1.length k3) ∧ w12.cell? ⟨w9.heap.size, 0, none⟩ = some (.slice ga (okL (adB P0 S0 W0 P1 S1 W1) P0).length gi) ∧ w12.cell? ⟨w9.heap.size, 1, none⟩ = some (.slice gb (okL (adB P0 S0 W0 P1 S1 W1) S0).length gj) ∧ w12.cell? ⟨w9.heap.size, 2, none⟩ = some (.slice gc (okL (adB P0 S0 W0 P1 S1 W1) (adTo W0 W1 W0.length)).length gk) := ⟨A0.cell 0, A0.cell 1, A0.cell 2, A1.cell 0, A1.cell 1, A1.cell 2, Bu.cell 0, Bu.cell 1, Bu.cell 2, X0.cell 0, X0.cell 1, X0.cell 2, X1.cell 0, X1.cell 1, X1.cell 2, Bg.cell 0, Bg.cell 1, Bg.cell 2⟩
        clear q_A0_0 q_A0_1 q_A0_2 q_A1_0 q_A1_1 q_A1_2 q_Bu_0 q_Bu_1 q_Bu_2 q_X0_0 q_X0_1 q_X0_2 q_X1_0 q_X1_1 q_X1_2 q_Bg_0 q_Bg_1 q_Bg_2
        have A0 := A0.stays hd
        have A1 := A1.stays hd
        have Bu := Bu.stays hd
        have X0 := X0.stays hd
        have X1 := X1.stays hd
        have Bg := Bg.stays hd
        have u := u.below hd
        have o2 := o2.below hd
        have o3 := o3.below hd
        have g := g.below hd
        have fr := below_step fr hd
        have sa7 : w12.drew.heap.size ≤ w12.heap.size := Nat.le_refl _
        have sb7 : w12.heap.size ≤ w12.drew.heap.size := Nat.le_refl _
        go_region_held3 (fun w' => w'.cell? ⟨w.heap.size, 0, none⟩ = some (a0) ∧ w'.cell? ⟨w.heap.size, 1, none⟩ = some (b0) ∧ w'.cell? ⟨w.heap.size, 2, none⟩ = some (c0) ∧ w'.cell? ⟨w.heap.size + 1, 0, none⟩ = some (a1) ∧ w'.cell? ⟨w.heap.size + 1, 1, none⟩ = some (b1) ∧ w'.cell? ⟨w.heap.size + 1, 2, none⟩ = some (c1) ∧ w'.cell? ⟨uN, 0, none⟩ = some (.slice ua (okL (adB P0 S0 W0 P1 S1 W1) P0).length ui) ∧ w'.cell? ⟨uN, 1, none⟩ = some (.slice ub (okL (adB P0 S0 W0 P1 S1 W1) S0).length uj) ∧ w'.cell? ⟨uN, 2, none⟩ = some (.slice uc (okL (adB P0 S0 W0 P1 S1 W1) (adTo W0 W1 W0.length)).length uk) ∧ w'.cell? ⟨w7.heap.size, 0, none⟩ = some (.slice x2 P0.length i2) ∧ w'.cell? ⟨w7.heap.size, 1, none⟩ = some (.slice y2 S0.length j2) ∧ w'.cell? ⟨w7.heap.size, 2, none⟩ = some (.slice z2 W0.length k2) ∧ w'.cell? ⟨w8.heap.size, 0, none⟩ = some (.slice x3 P1.length i3) ∧ w'.cell? ⟨w8.heap.size, 1, none⟩ = some (.slice y3 S1.length j3) ∧ w'.cell? ⟨w8.heap.size, 2, none⟩ = some (.slice z3 W1.length k3) ∧ w'.cell? ⟨w9.heap.size, 0, none⟩ = some (.slice ga (okL (adB P0 S0 W0 P1 S1 W1) P0).length gi) ∧ w'.cell? ⟨w9.heap.size, 1, none⟩ = some (.slice gb (okL (adB P0 S0 W0 P1 S1 W1) S0).length gj) ∧ w'.cell? ⟨w9.heap.size, 2, none⟩ = some (.slice gc (okL (adB P0 S0 W0 P1 S1 W1) (adTo W0 W1 W0.length)).length gk))
          (first | assumption | exact HC)
          (first
            | (go_at_call 45; (with_reducible refine (toCluster_c _ _ _ P1 S1 W1 _ (ha1.below fr (Nat.le_refl _)) (hb1.below fr (Nat.le_refl _)) (hc1.below fr (Nat.le_refl _)) (by omega) (by omega) (by omega)).mono ?_); rintro e w13 ⟨x5, i5, y5, j5, z5, k5, rfl, o5, hq⟩; have A0 := A0.stays hq; have A1 := A1.stays hq; have Bu := Bu.stays hq; have X0 := X0.stays hq; have X1 := X1.stays hq; have Bg := Bg.stays hq; have u := u.below hq; have o2 := o2.below hq; have o3 := o3.below hq; have g := g.below hq; have sz13 := Below.size hq; have fr := below_step fr hq; have HC : w13.cell? ⟨w.heap.size, 0, none⟩ = some (a0) ∧ w13.cell? ⟨w.heap.size, 1, none⟩ = some (b0) ∧ w13.cell? ⟨w.heap.size, 2, none⟩ = some (c0) ∧ w13.cell? ⟨w.heap.size + 1, 0, none⟩ = some (a1) ∧ w13.cell? ⟨w.heap.size + 1, 1, none⟩ = some (b1) ∧ w13.cell? ⟨w.heap.size + 1, 2, none⟩ = some (c1) ∧ w13.cell? ⟨uN, 0, none⟩ = some (.slice ua (okL (adB P0 S0 W0 P1 S1 W1) P0).length ui) ∧ w13.cell? ⟨uN, 1, none⟩ = some (.slice ub (okL (adB P0 S0 W0 P1 S1 W1) S0).length uj) ∧ w13.cell? ⟨uN, 2, none⟩ = some (.slice uc (okL (adB P0 S0 W0 P1 S1 W1) (adTo W0 W1 W0.length)).length uk) ∧ w13.cell? ⟨w7.heap.size, 0, none⟩ = some (.slice x2 P0.length i2) ∧ w13.cell? ⟨w7.heap.size, 1, none⟩ = some (.slice y2 S0.length j2) ∧ w13.cell? ⟨w7.heap.size, 2, none⟩ = some (.slice z2 W0.length k2) ∧ w13.cell? ⟨w8.heap.size, 0, none⟩ = some (.slice x3 P1.length i3) ∧ w13.cell? ⟨w8.heap.size, 1, none⟩ = some (.slice y3 S1.length j3) ∧ w13.cell? ⟨w8.heap.size, 2, none⟩ = some (.slice z3 W1.length k3) ∧ w13.cell? ⟨w9.heap.size, 0, none⟩ = some (.slice ga (okL (adB P0 S0 W0 P1 S1 W1) P0).length gi) ∧ w13.cell? ⟨w9.heap.size, 1, none⟩ = some (.slice gb (okL (adB P0 S0 W0 P1 S1 W1) S0).length gj) ∧ w13.cell? ⟨w9.heap.size, 2, none⟩ = some (.slice gc (okL (adB P0 S0 W0 P1 S1 W1) (adTo W0 W1 W0.length)).length gk) := ⟨A0.cell 0, A0.cell 1, A0.cell 2, A1.cell 0, A1.cell 1, A1.cell 2, Bu.cell 0, Bu.cell 1, Bu.cell 2, X0.cell 0, X0.cell 1, X0.cell 2, X1.cell 0, X1.cell 1, X1.cell 2, Bg.cell 0, Bg.cell 1, Bg.cell 2⟩)
            | (go_at_call 47; (with_reducible refine (eqCluster_c _ _ _ _ _ _ P1 S1 W1 _ o3.a.rd o3.b.rd o3.c.rd o5.a.rd o5.b.rd o5.c.rd).mono ?_); rintro e w14 ⟨rfl, hq⟩; have A0 := A0.stays hq; have A1 := A1.stays hq; have Bu := Bu.stays hq; have X0 := X0.stays hq; have X1 := X1.stays hq; have Bg := Bg.stays hq; have u := u.below hq; have o2 := o2.below hq; have o3 := o3.below hq; have g := g.below hq; have o5 := o5.below hq; have sz14 := Below.size hq; have fr := below_step fr hq; have HC : w14.cell? ⟨w.heap.size, 0, none⟩ = some (a0) ∧ w14.cell? ⟨w.heap.size, 1, none⟩ = some (b0) ∧ w14.cell? ⟨w.heap.size, 2, none⟩ = some (c0) ∧ w14.cell? ⟨w.heap.size + 1, 0, none⟩ = some (a1) ∧ w14.cell? ⟨w.heap.size + 1, 1, none⟩ = some (b1) ∧ w14.cell? ⟨w.heap.size + 1, 2, none⟩ = some (c1) ∧ w14.cell? ⟨uN, 0, none⟩ = some (.slice ua (okL (adB P0 S0 W0 P1 S1 W1) P0).length ui) ∧ w14.cell? ⟨uN, 1, none⟩ = some (.slice ub (okL (adB P0 S0 W0 P1 S1 W1) S0).length uj) ∧ w14.cell? ⟨uN, 2, none⟩ = some (.slice uc (okL (adB P0 S0 W0 P1 S1 W1) (adTo W0 W1 W0.length)).length uk) ∧ w14.cell? ⟨w7.heap.size, 0, none⟩ = some (.slice x2 P0.length i2) ∧ w14.cell? ⟨w7.heap.size, 1, none⟩ = some (.slice y2 S0.length j2) ∧ w14.cell? ⟨w7.heap.size, 2, none⟩ = some (.slice z2 W0.length k2) ∧ w14.cell? ⟨w8.heap.size, 0, none⟩ = some (.slice x3 P1.length i3) ∧ w14.cell? ⟨w8.heap.size, 1, none⟩ = some (.slice y3 S1.length j3) ∧ w14.cell? ⟨w8.heap.size, 2, none⟩ = some (.slice z3 W1.length k3) ∧ w14.cell? ⟨w9.heap.size, 0, none⟩ = some (.slice ga (okL (adB P0 S0 W0 P1 S1 W1) P0).length gi) ∧ w14.cell? ⟨w9.heap.size, 1, none⟩ = some (.slice gb (okL (adB P0 S0 W0 P1 S1 W1) S0).length gj) ∧ w14.cell? ⟨w9.heap.size, 2, none⟩ = some (.slice gc (okL (adB P0 S0 W0 P1 S1 W1) (adTo W0 W1 W0.length)).length gk) := ⟨A0.cell 0, A0.cell 1, A0.cell 2, A1.cell 0, A1.cell 1, A1.cell 2, Bu.cell 0, Bu.cell 1, Bu.cell 2, X0.cell 0, X0.cell 1, X0.cell 2, X1.cell 0, X1.cell 1, X1.cell 2, Bg.cell 0, Bg.cell 1, Bg.cell 2⟩))
        have q_A0_0 := A0.cell 0
        have q_A0_1 := A0.cell 1
        have q_A0_2 := A0.cell 2
        have q_A1_0 := A1.cell 0
        have q_A1_1 := A1.cell 1
        have q_A1_2 := A1.cell 2
        have q_Bu_0 := Bu.cell 0
        have q_Bu_1 := Bu.cell 1
        have q_Bu_2 := Bu.cell 2
        have q_X0_0 := X0.cell 0
        have q_X0_1 := X0.cell 1
        have q_X0_2 := X0.cell 2
        have q_X1_0 := X1.cell 0
        have q_X1_1 := X1.cell 1
        have q_X1_2 := X1.cell 2
        have q_Bg_0 := Bg.cell 0
        have q_Bg_1 := Bg.cell 1
        have q_Bg_2 := Bg.cell 2
        go_wp2_with fail
        clear q_A0_0 q_A0_1 q_A0_2 q_A1_0 q_A1_1 q_A1_2 q_Bu_0 q_Bu_1 q_Bu_2 q_X0_0 q_X0_1 q_X0_2 q_X1_0 q_X1_1 q_X1_2 q_Bg_0 q_Bg_1 q_Bg_2
        refine (markCluster_c _ _ _ P0 S0 W0 (1) _ _ o2 (by omega) (by omega) ⟨(by omega), (by omega), (by omega)⟩).mono ?_
        rintro e w15 ⟨rfl, o2n, hk⟩
        have szf := Below.size fr
        have A0 := A0.keeps hk (fun h => by have := rg_o2 _ h; omega)
        have A1 := A1.keeps hk (fun h => by have := rg_o2 _ h; omega)
        have Bu := Bu.keeps hk (fun h => by have := rg_o2 _ h; omega)
        have X0 := X0.keeps hk (fun h => by have := rg_o2 _ h; omega)
        have X1 := X1.keeps hk (fun h => by have := rg_o2 _ h; omega)
        have Bg := Bg.keeps hk (fun h => by have := rg_o2 _ h; omega)
        have u := u.keeps hk (fun g h1 h2 => by have := rg_u g h1; have := rg_o2 g h2; omega)
        have o3 := o3.keeps hk (fun g h1 h2 => by have := rg_o3 g h1; have := rg_o2 g h2; omega)
        have g := g.keeps hk (fun g h1 h2 => by have := rg_g g h1; have := rg_o2 g h2; omega)
        have sz15 := Keeps.size hk
        have fr := fr.trans (hk.below (Below.size fr) (fun g h => by have := rg_o2 g h; omega))
        have o2 := o2n
        have q_A0_0 := A0.cell 0
        have q_A0_1 := A0.cell 1
        have q_A0_2 := A0.cell 2
        have q_A1_0 := A1.cell 0
        have q_A1_1 := A1.cell 1
        have q_A1_2 := A1.cell 2
        have q_Bu_0 := Bu.cell 0
        have q_Bu_1 := Bu.cell 1
        have q_Bu_2 := Bu.cell 2
        have q_X0_0 := X0.cell 0
        have q_X0_1 := X0.cell 1
        have q_X0_2 := X0.cell 2
        have q_X1_0 := X1.cell 0
        have q_X1_1 := X1.cell 1
        have q_X1_2 := X1.cell 2
        have q_Bg_0 := Bg.cell 0
        have q_Bg_1 := Bg.cell 1
        have q_Bg_2 := Bg.cell 2
        go_wp2_with fail
        clear q_A0_0 q_A0_1 q_A0_2 q_A1_0 q_A1_1 q_A1_2 q_Bu_0 q_Bu_1 q_Bu_2 q_X0_0 q_X0_1 q_X0_2 q_X1_0 q_X1_1 q_X1_2 q_Bg_0 q_Bg_1 q_Bg_2
        refine (markCluster_c _ _ _ P1 S1 W1 (1 + (P0).length + (S0).length + (W0).length) _ _ o3 (by omega) (by omega) ⟨(by omega), (by omega), (by omega)⟩).mono ?_
        rintro e w16 ⟨rfl, o3n, hk⟩
        have szf := Below.size fr
        have A0 := A0.keeps hk (fun h => by have := rg_o3 _ h; omega)
        have A1 := A1.keeps hk (fun h => by have := rg_o3 _ h; omega)
        have Bu := Bu.keeps hk (fun h => by have := rg_o3 _ h; omega)
        have X0 := X0.keeps hk (fun h => by have := rg_o3 _ h; omega)
        have X1 := X1.keeps hk (fun h => by have := rg_o3 _ h; omega)
        have Bg := Bg.keeps hk (fun h => by have := rg_o3 _ h; omega)
        have u := u.keeps hk (fun g h1 h2 => by have := rg_u g h1; have := rg_o3 g h2; omega)
        have o2 := o2.keeps hk (fun g h1 h2 => by have := rg_o2 g h1; have := rg_o3 g h2; omega)
        have g := g.keeps hk (fun g h1 h2 => by have := rg_g g h1; have := rg_o3 g h2; omega)
        have sz16 := Keeps.size hk
        have fr := fr.trans (hk.below (Below.size fr) (fun g h => by have := rg_o3 g h; omega))
        have o3 := o3n
        have q_A0_0 := A0.cell 0
        have q_A0_1 := A0.cell 1
        have q_A0_2 := A0.cell 2
        have q_A1_0 := A1.cell 0
        have q_A1_1 := A1.cell 1
        have q_A1_2 := A1.cell 2
        have q_Bu_0 := Bu.cell 0
        have q_Bu_1 := Bu.cell 1
        have q_Bu_2 := Bu.cell 2
        have q_X0_0 := X0.cell 0
        have q_X0_1 := X0.cell 1
        have q_X0_2 := X0.cell 2
        have q_X1_0 := X1.cell 0
        have q_X1_1 := X1.cell 1
        have q_X1_2 := X1.cell 2
        have q_Bg_0 := Bg.cell 0
        have q_Bg_1 := Bg.cell 1
        have q_Bg_2 := Bg.cell 2
        go_wp2_with fail
        clear q_A0_0 q_A0_1 q_A0_2 q_A1_0 q_A1_1 q_A1_2 q_Bu_0 q_Bu_1 q_Bu_2 q_X0_0 q_X0_1 q_X0_2 q_X1_0 q_X1_1 q_X1_2 q_Bg_0 q_Bg_1 q_Bg_2
        refine (eqCluster_c _ _ _ _ _ _ (okL (adB P0 S0 W0 P1 S1 W1) P0) (okL (adB P0 S0 W0 P1 S1 W1) S0) (okL (adB P0 S0 W0 P1 S1 W1) (adTo W0 W1 W0.length)) _ g.a.rd g.b.rd g.c.rd u.a.rd u.b.rd u.c.rd).mono ?_
        rintro e w17 ⟨rfl, hq⟩
        have A0 := A0.stays hq
        have A1 := A1.stays hq
        have Bu := Bu.stays hq
        have X0 := X0.stays hq
        have X1 := X1.stays hq
        have Bg := Bg.stays hq
        have u := u.below hq
        have o2 := o2.below hq
        have o3 := o3.below hq
        have g := g.below hq
        have sz17 := Below.size hq
        have fr := below_step fr hq
        have q_A0_0 := A0.cell 0
        have q_A0_1 := A0.cell 1
        have q_A0_2 := A0.cell 2
        have q_A1_0 := A1.cell 0
        have q_A1_1 := A1.cell 1
        have q_A1_2 := A1.cell 2
        have q_Bu_0 := Bu.cell 0
        have q_Bu_1 := Bu.cell 1
        have q_Bu_2 := Bu.cell 2
        have q_X0_0 := X0.cell 0
        have q_X0_1 := X0.cell 1
        have q_X0_2 := X0.cell 2
        have q_X1_0 := X1.cell 0
        have q_X1_1 := X1.cell 1
        have q_X1_2 := X1.cell 2
        have q_Bg_0 := Bg.cell 0
        have q_Bg_1 := Bg.cell 1
        have q_Bg_2 := Bg.cell 2
        go_wp2_with fail
        clear q_A0_0 q_A0_1 q_A0_2 q_A1_0 q_A1_1 q_A1_2 q_Bu_0 q_Bu_1 q_Bu_2 q_X0_0 q_X0_1 q_X0_2 q_X1_0 q_X1_1 q_X1_2 q_Bg_0 q_Bg_1 q_Bg_2
        refine (markCluster_c _ _ _ (okL (adB P0 S0 W0 P1 S1 W1) P0) (okL (adB P0 S0 W0 P1 S1 W1) S0) (okL (adB P0 S0 W0 P1 S1 W1) (adTo W0 W1 W0.length)) (1) _ _ g (by omega) (by omega) ⟨(by omega), (by omega), (by omega)⟩).mono ?_
        rintro e w18 ⟨rfl, gn, hk⟩
        have szf := Below.size fr
        have A0 := A0.keeps hk (fun h => by have := rg_g _ h; omega)
        have A1 := A1.keeps hk (fun h => by have := rg_g _ h; omega)
        have Bu := Bu.keeps hk (fun h => by have := rg_g _ h; omega)
        have X0 := X0.keeps hk (fun h => by have := rg_g _ h; omega)
        have X1 := X1.keeps hk (fun h => by have := rg_g _ h; omega)
        have Bg := Bg.keeps hk (fun h => by have := rg_g _ h; omega)
        have u := u.keeps hk (fun g h1 h2 => by have := rg_u g h1; have := rg_g g h2; omega)
        have o2 := o2.keeps hk (fun g h1 h2 => by have := rg_o2 g h1; have := rg_g g h2; omega)
        have o3 := o3.keeps hk (fun g h1 h2 => by have := rg_o3 g h1; have := rg_g g h2; omega)
        have sz18 := Keeps.size hk
        have fr := fr.trans (hk.below (Below.size fr) (fun g h => by have := rg_g g h; omega))
        have g := gn
        have q_A0_0 := A0.cell 0
        have q_A0_1 := A0.cell 1
        have q_A0_2 := A0.cell 2
        have q_A1_0 := A1.cell 0
        have q_A1_1 := A1.cell 1
        have q_A1_2 := A1.cell 2
        have q_Bu_0 := Bu.cell 0
        have q_Bu_1 := Bu.cell 1
        have q_Bu_2 := Bu.cell 2
        have q_X0_0 := X0.cell 0
        have q_X0_1 := X0.cell 1
        have q_X0_2 := X0.cell 2
        have q_X1_0 := X1.cell 0
        have q_X1_1 := X1.cell 1
        have q_X1_2 := X1.cell 2
        have q_Bg_0 := Bg.cell 0
        have q_Bg_1 := Bg.cell 1
        have q_Bg_2 := Bg.cell 2
        go_wp2_with fail
        clear q_A0_0 q_A0_1 q_A0_2 q_A1_0 q_A1_1 q_A1_2 q_Bu_0 q_Bu_1 q_Bu_2 q_X0_0 q_X0_1 q_X0_2 q_X1_0 q_X1_1 q_X1_2 q_Bg_0 q_Bg_1 q_Bg_2
        refine (heldCluster_c _ _ _ (okL (adB P0 S0 W0 P1 S1 W1) P0).length (okL (adB P0 S0 W0 P1 S1 W1) S0).length (okL (adB P0 S0 W0 P1 S1 W1) (adTo W0 W1 W0.length)).length 1 _ g.a.rd g.b.rd g.c.rd (by omega) (by omega) ⟨(by omega), (by omega), (by omega)⟩).mono ?_
        rintro e w19 ⟨rfl, hq⟩
        have A0 := A0.stays hq
        have A1 := A1.stays hq
        have Bu := Bu.stays hq
        have X0 := X0.stays hq
        have X1 := X1.stays hq
        have Bg := Bg.stays hq
        have u := u.below hq
        have o2 := o2.below hq
        have o3 := o3.below hq
        have g := g.below hq
        have sz19 := Below.size hq
        have fr := below_step fr hq
        have q_A0_0 := A0.cell 0
        have q_A0_1 := A0.cell 1
        have q_A0_2 := A0.cell 2
        have q_A1_0 := A1.cell 0
        have q_A1_1 := A1.cell 1
        have q_A1_2 := A1.cell 2
        have q_Bu_0 := Bu.cell 0
        have q_Bu_1 := Bu.cell 1
        have q_Bu_2 := Bu.cell 2
        have q_X0_0 := X0.cell 0
        have q_X0_1 := X0.cell 1
        have q_X0_2 := X0.cell 2
        have q_X1_0 := X1.cell 0
        have q_X1_1 := X1.cell 1
        have q_X1_2 := X1.cell 2
        have q_Bg_0 := Bg.cell 0
        have q_Bg_1 := Bg.cell 1
        have q_Bg_2 := Bg.cell 2
        go_wp2_with fail
        clear q_A0_0 q_A0_1 q_A0_2 q_A1_0 q_A1_1 q_A1_2 q_Bu_0 q_Bu_1 q_Bu_2 q_X0_0 q_X0_1 q_X0_2 q_X1_0 q_X1_1 q_X1_2 q_Bg_0 q_Bg_1 q_Bg_2
        go_cut [15, 16] from 94 to 101 (fun s15 s16 wc => ∃ hN ha hi hb hj hc hk, s15 = .pointer (some ⟨hN, 0, none⟩) ∧ s16 = .int .i64 (adC P0 S0 W0 P1 S1 W1) ∧ Own3 2 wc w19.heap.size (.slice ha (okL (adB P0 S0 W0 P1 S1 W1) P0).length hi) (.slice hb (okL (adB P0 S0 W0 P1 S1 W1) S0).length hj) (.slice hc (okL (adB P0 S0 W0 P1 S1 W1) (adTo W0 W1 W0.length)).length hk) (okL (adB P0 S0 W0 P1 S1 W1) P0) (okL (adB P0 S0 W0 P1 S1 W1) S0) (okL (adB P0 S0 W0 P1 S1 W1) (adTo W0 W1 W0.length)) ∧ Blk wc hN 51 #[.slice ha (okL (adB P0 S0 W0 P1 S1 W1) P0).length hi, .slice hb (okL (adB P0 S0 W0 P1 S1 W1) S0).length hj, .slice hc (okL (adB P0 S0 W0 P1 S1 W1) (adTo W0 W1 W0.length)).length hk] ∧ w19.heap.size ≤ hN ∧ Blk wc (w.heap.size) 49 #[a0, b0, c0] ∧ Blk wc (w.heap.size + 1) 49 #[a1, b1, c1] ∧ Blk wc (uN) 51 #[.slice ua (okL (adB P0 S0 W0 P1 S1 W1) P0).length ui, .slice ub (okL (adB P0 S0 W0 P1 S1 W1) S0).length uj, .slice uc (okL (adB P0 S0 W0 P1 S1 W1) (adTo W0 W1 W0.length)).length uk] ∧ Blk wc (w7.heap.size) 51 #[.slice x2 P0.length i2, .slice y2 S0.length j2, .slice z2 W0.length k2] ∧ Blk wc (w8.heap.size) 51 #[.slice x3 P1.length i3, .slice y3 S1.length j3, .slice z3 W1.length k3] ∧ Blk wc (w9.heap.size) 51 #[.slice ga (okL (adB P0 S0 W0 P1 S1 W1) P0).length gi, .slice gb (okL (adB P0 S0 W0 P1 S1 W1) S0).length gj, .slice gc (okL (adB P0 S0 W0 P1 S1 W1) (adTo W0 W1 W0.length)).length gk] ∧ Own3 2 wc 0 (.slice ua (okL (adB P0 S0 W0 P1 S1 W1) P0).length ui) (.slice ub (okL (adB P0 S0 W0 P1 S1 W1) S0).length uj) (.slice uc (okL (adB P0 S0 W0 P1 S1 W1) (adTo W0 W1 W0.length)).length uk) (okL (adB P0 S0 W0 P1 S1 W1) P0) (okL (adB P0 S0 W0 P1 S1 W1) S0) (okL (adB P0 S0 W0 P1 S1 W1) (adTo W0 W1 W0.length)) ∧ Own3 2 wc 0 (.slice ga (okL (adB P0 S0 W0 P1 S1 W1) P0).length gi) (.slice gb (okL (adB P0 S0 W0 P1 S1 W1) S0).length gj) (.slice gc (okL (adB P0 S0 W0 P1 S1 W1) (adTo W0 W1 W0.length)).length gk) ((iotaI (1) (okL (adB P0 S0 W0 P1 S1 W1) P0).length)) ((iotaI (1 + (okL (adB P0 S0 W0 P1 S1 W1) P0).length) (okL (adB P0 S0 W0 P1 S1 W1) S0).length)) ((iotaI (1 + (okL (adB P0 S0 W0 P1 S1 W1) P0).length + (okL (adB P0 S0 W0 P1 S1 W1) S0).length) (okL (adB P0 S0 W0 P1 S1 W1) (adTo W0 W1 W0.length)).length)) ∧ Below w.heap.size w wc ∧ w19.heap.size ≤ wc.heap.size)
        case first =>
          have HC : w19.cell? ⟨w.heap.size, 0, none⟩ = some (a0) ∧ w19.cell? ⟨w.heap.size, 1, none⟩ = some (b0) ∧ w19.cell? ⟨w.heap.size, 2, none⟩ = some (c0) ∧ w19.cell? ⟨w.heap.size + 1, 0, none⟩ = some (a1) ∧ w19.cell? ⟨w.heap.size + 1, 1, none⟩ = some (b1) ∧ w19.cell? ⟨w.heap.size + 1, 2, none⟩ = some (c1) ∧ w19.cell? ⟨uN, 0, none⟩ = some (.slice ua (okL (adB P0 S0 W0 P1 S1 W1) P0).length ui) ∧ w19.cell? ⟨uN, 1, none⟩ = some (.slice ub (okL (adB P0 S0 W0 P1 S1 W1) S0).length uj) ∧ w19.cell? ⟨uN, 2, none⟩ = some (.slice uc (okL (adB P0 S0 W0 P1 S1 W1) (adTo W0 W1 W0.length)).length uk) ∧ w19.cell? ⟨w7.heap.size, 0, none⟩ = some (.slice x2 P0.length i2) ∧ w19.cell? ⟨w7.heap.size, 1, none⟩ = some (.slice y2 S0.length j2) ∧ w19.cell? ⟨w7.heap.size, 2, none⟩ = some (.slice z2 W0.length k2) ∧ w19.cell? ⟨w8.heap.size, 0, none⟩ = some (.slice x3 P1.length i3) ∧ w19.cell? ⟨w8.heap.size, 1, none⟩ = some (.slice y3 S1.length j3) ∧ w19.cell? ⟨w8.heap.size, 2, none⟩ = some (.slice z3 W1.length k3) ∧ w19.cell? ⟨w9.heap.size, 0, none⟩ = some (.slice ga (okL (adB P0 S0 W0 P1 S1 W1) P0).length gi) ∧ w19.cell? ⟨w9.heap.size, 1, none⟩ = some (.slice gb (okL (adB P0 S0 W0 P1 S1 W1) S0).length gj) ∧ w19.cell? ⟨w9.heap.size, 2, none⟩ = some (.slice gc (okL (adB P0 S0 W0 P1 S1 W1) (adTo W0 W1 W0.length)).length gk) := ⟨A0.cell 0, A0.cell 1, A0.cell 2, A1.cell 0, A1.cell 1, A1.cell 2, Bu.cell 0, Bu.cell 1, Bu.cell 2, X0.cell 0, X0.cell 1, X0.cell 2, X1.cell 0, X1.cell 1, X1.cell 2, Bg.cell 0, Bg.cell 1, Bg.cell 2⟩
          have HA : ∀ u0 u1 u2 : Value, (w19.alloc (.cells #[u0, u1, u2] 51)).cell? ⟨w.heap.size, 0, none⟩ = some (a0) ∧ (w19.alloc (.cells #[u0, u1, u2] 51)).cell? ⟨w.heap.size, 1, none⟩ = some (b0) ∧ (w19.alloc (.cells #[u0, u1, u2] 51)).cell? ⟨w.heap.size, 2, none⟩ = some (c0) ∧ (w19.alloc (.cells #[u0, u1, u2] 51)).cell? ⟨w.heap.size + 1, 0, none⟩ = some (a1) ∧ (w19.alloc (.cells #[u0, u1, u2] 51)).cell? ⟨w.heap.size + 1, 1, none⟩ = some (b1) ∧ (w19.alloc (.cells #[u0, u1, u2] 51)).cell? ⟨w.heap.size + 1, 2, none⟩ = some (c1) ∧ (w19.alloc (.cells #[u0, u1, u2] 51)).cell? ⟨uN, 0, none⟩ = some (.slice ua (okL (adB P0 S0 W0 P1 S1 W1) P0).length ui) ∧ (w19.alloc (.cells #[u0, u1, u2] 51)).cell? ⟨uN, 1, none⟩ = some (.slice ub (okL (adB P0 S0 W0 P1 S1 W1) S0).length uj) ∧ (w19.alloc (.cells #[u0, u1, u2] 51)).cell? ⟨uN, 2, none⟩ = some (.slice uc (okL (adB P0 S0 W0 P1 S1 W1) (adTo W0 W1 W0.length)).length uk) ∧ (w19.alloc (.cells #[u0, u1, u2] 51)).cell? ⟨w7.heap.size, 0, none⟩ = some (.slice x2 P0.length i2) ∧ (w19.alloc (.cells #[u0, u1, u2] 51)).cell? ⟨w7.heap.size, 1, none⟩ = some (.slice y2 S0.length j2) ∧ (w19.alloc (.cells #[u0, u1, u2] 51)).cell? ⟨w7.heap.size, 2, none⟩ = some (.slice z2 W0.length k2) ∧ (w19.alloc (.cells #[u0, u1, u2] 51)).cell? ⟨w8.heap.size, 0, none⟩ = some (.slice x3 P1.length i3) ∧ (w19.alloc (.cells #[u0, u1, u2] 51)).cell? ⟨w8.heap.size, 1, none⟩ = some (.slice y3 S1.length j3) ∧ (w19.alloc (.cells #[u0, u1, u2] 51)).cell? ⟨w8.heap.size, 2, none⟩ = some (.slice z3 W1.length k3) ∧ (w19.alloc (.cells #[u0, u1, u2] 51)).cell? ⟨w9.heap.size, 0, none⟩ = some (.slice ga (okL (adB P0 S0 W0 P1 S1 W1) P0).length gi) ∧ (w19.alloc (.cells #[u0, u1, u2] 51)).cell? ⟨w9.heap.size, 1, none⟩ = some (.slice gb (okL (adB P0 S0 W0 P1 S1 W1) S0).length gj) ∧ (w19.alloc (.cells #[u0, u1, u2] 51)).cell? ⟨w9.heap.size, 2, none⟩ = some (.slice gc (okL (adB P0 S0 W0 P1 S1 W1) (adTo W0 W1 W0.length)).length gk) := fun u0 u1 u2 => ⟨(A0.alloc (.cells #[u0, u1, u2] 51)).cell 0, (A0.alloc (.cells #[u0, u1, u2] 51)).cell 1, (A0.alloc (.cells #[u0, u1, u2] 51)).cell 2, (A1.alloc (.cells #[u0, u1, u2] 51)).cell 0, (A1.alloc (.cells #[u0, u1, u2] 51)).cell 1, (A1.alloc (.cells #[u0, u1, u2] 51)).cell 2, (Bu.alloc (.cells #[u0, u1, u2] 51)).cell 0, (Bu.alloc (.cells #[u0, u1, u2] 51)).cell 1, (Bu.alloc (.cells #[u0, u1, u2] 51)).cell 2, (X0.alloc (.cells #[u0, u1, u2] 51)).cell 0, (X0.alloc (.cells #[u0, u1, u2] 51)).cell 1, (X0.alloc (.cells #[u0, u1, u2] 51)).cell 2, (X1.alloc (.cells #[u0, u1, u2] 51)).cell 0, (X1.alloc (.cells #[u0, u1, u2] 51)).cell 1, (X1.alloc (.cells #[u0, u1, u2] 51)).cell 2, (Bg.alloc (.cells #[u0, u1, u2] 51)).cell 0, (Bg.alloc (.cells #[u0, u1, u2] 51)).cell 1, (Bg.alloc (.cells #[u0, u1, u2] 51)).cell 2⟩
          go_region_held3 (fun w' => w'.cell? ⟨w.heap.size, 0, none⟩ = some (a0) ∧ w'.cell? ⟨w.heap.size, 1, none⟩ = some (b0) ∧ w'.cell? ⟨w.heap.size, 2, none⟩ = some (c0) ∧ w'.cell? ⟨w.heap.size + 1, 0, none⟩ = some (a1) ∧ w'.cell? ⟨w.heap.size + 1, 1, none⟩ = some (b1) ∧ w'.cell? ⟨w.heap.size + 1, 2, none⟩ = some (c1) ∧ w'.cell? ⟨uN, 0, none⟩ = some (.slice ua (okL (adB P0 S0 W0 P1 S1 W1) P0).length ui) ∧ w'.cell? ⟨uN, 1, none⟩ = some (.slice ub (okL (adB P0 S0 W0 P1 S1 W1) S0).length uj) ∧ w'.cell? ⟨uN, 2, none⟩ = some (.slice uc (okL (adB P0 S0 W0 P1 S1 W1) (adTo W0 W1 W0.length)).length uk) ∧ w'.cell? ⟨w7.heap.size, 0, none⟩ = some (.slice x2 P0.length i2) ∧ w'.cell? ⟨w7.heap.size, 1, none⟩ = some (.slice y2 S0.length j2) ∧ w'.cell? ⟨w7.heap.size, 2, none⟩ = some (.slice z2 W0.length k2) ∧ w'.cell? ⟨w8.heap.size, 0, none⟩ = some (.slice x3 P1.length i3) ∧ w'.cell? ⟨w8.heap.size, 1, none⟩ = some (.slice y3 S1.length j3) ∧ w'.cell? ⟨w8.heap.size, 2, none⟩ = some (.slice z3 W1.length k3) ∧ w'.cell? ⟨w9.heap.size, 0, none⟩ = some (.slice ga (okL (adB P0 S0 W0 P1 S1 W1) P0).length gi) ∧ w'.cell? ⟨w9.heap.size, 1, none⟩ = some (.slice gb (okL (adB P0 S0 W0 P1 S1 W1) S0).length gj) ∧ w'.cell? ⟨w9.heap.size, 2, none⟩ = some (.slice gc (okL (adB P0 S0 W0 P1 S1 W1) (adTo W0 W1 W0.length)).length gk))
            (first | assumption | exact HC | exact HA _ _ _ | exact HE _ _ _)
            (first
              | (go_at_call 45; have hst : Below w19.heap.size w19 w19.drew := (Below.refl _ _).drew; have ht1 : w19.heap.size ≤ w19.drew.heap.size := Nat.le_refl _; have fr := below_step fr hst; have A0 := A0.stays hst; have A1 := A1.stays hst; have Bu := Bu.stays hst; have X0 := X0.stays hst; have X1 := X1.stays hst; have Bg := Bg.stays hst; have u := u.below hst; have g := g.below hst; (with_reducible refine (toCluster_c _ _ _ P0 S0 W0 _ (ha0.below fr (Nat.le_refl _)) (hb0.below fr (Nat.le_refl _)) (hc0.below fr (Nat.le_refl _)) (by omega) (by omega) (by omega)).mono ?_); rintro e w20 ⟨x6, i6, y6, j6, z6, k6, rfl, o6, hq⟩; have sz1 := Below.size hq; have A0 := A0.stays hq; have A1 := A1.stays hq; have Bu := Bu.stays hq; have X0 := X0.stays hq; have X1 := X1.stays hq; have Bg := Bg.stays hq; have u := u.below hq; have g := g.below hq; have fr := below_step fr hq; (try have E := Blk.stays E hq); have HC : w20.cell? ⟨w.heap.size, 0, none⟩ = some (a0) ∧ w20.cell? ⟨w.heap.size, 1, none⟩ = some (b0) ∧ w20.cell? ⟨w.heap.size, 2, none⟩ = some (c0) ∧ w20.cell? ⟨w.heap.size + 1, 0, none⟩ = some (a1) ∧ w20.cell? ⟨w.heap.size + 1, 1, none⟩ = some (b1) ∧ w20.cell? ⟨w.heap.size + 1, 2, none⟩ = some (c1) ∧ w20.cell? ⟨uN, 0, none⟩ = some (.slice ua (okL (adB P0 S0 W0 P1 S1 W1) P0).length ui) ∧ w20.cell? ⟨uN, 1, none⟩ = some (.slice ub (okL (adB P0 S0 W0 P1 S1 W1) S0).length uj) ∧ w20.cell? ⟨uN, 2, none⟩ = some (.slice uc (okL (adB P0 S0 W0 P1 S1 W1) (adTo W0 W1 W0.length)).length uk) ∧ w20.cell? ⟨w7.heap.size, 0, none⟩ = some (.slice x2 P0.length i2) ∧ w20.cell? ⟨w7.heap.size, 1, none⟩ = some (.slice y2 S0.length j2) ∧ w20.cell? ⟨w7.heap.size, 2, none⟩ = some (.slice z2 W0.length k2) ∧ w20.cell? ⟨w8.heap.size, 0, none⟩ = some (.slice x3 P1.length i3) ∧ w20.cell? ⟨w8.heap.size, 1, none⟩ = some (.slice y3 S1.length j3) ∧ w20.cell? ⟨w8.heap.size, 2, none⟩ = some (.slice z3 W1.length k3) ∧ w20.cell? ⟨w9.heap.size, 0, none⟩ = some (.slice ga (okL (adB P0 S0 W0 P1 S1 W1) P0).length gi) ∧ w20.cell? ⟨w9.heap.size, 1, none⟩ = some (.slice gb (okL (adB P0 S0 W0 P1 S1 W1) S0).length gj) ∧ w20.cell? ⟨w9.heap.size, 2, none⟩ = some (.slice gc (okL (adB P0 S0 W0 P1 S1 W1) (adTo W0 W1 W0.length)).length gk) := ⟨A0.cell 0, A0.cell 1, A0.cell 2, A1.cell 0, A1.cell 1, A1.cell 2, Bu.cell 0, Bu.cell 1, Bu.cell 2, X0.cell 0, X0.cell 1, X0.cell 2, X1.cell 0, X1.cell 1, X1.cell 2, Bg.cell 0, Bg.cell 1, Bg.cell 2⟩; have HA : ∀ u0 u1 u2 : Value, (w20.alloc (.cells #[u0, u1, u2] 51)).cell? ⟨w.heap.size, 0, none⟩ = some (a0) ∧ (w20.alloc (.cells #[u0, u1, u2] 51)).cell? ⟨w.heap.size, 1, none⟩ = some (b0) ∧ (w20.alloc (.cells #[u0, u1, u2] 51)).cell? ⟨w.heap.size, 2, none⟩ = some (c0) ∧ (w20.alloc (.cells #[u0, u1, u2] 51)).cell? ⟨w.heap.size + 1, 0, none⟩ = some (a1) ∧ (w20.alloc (.cells #[u0, u1, u2] 51)).cell? ⟨w.heap.size + 1, 1, none⟩ = some (b1) ∧ (w20.alloc (.cells #[u0, u1, u2] 51)).cell? ⟨w.heap.size + 1, 2, none⟩ = some (c1) ∧ (w20.alloc (.cells #[u0, u1, u2] 51)).cell? ⟨uN, 0, none⟩ = some (.slice ua (okL (adB P0 S0 W0 P1 S1 W1) P0).length ui) ∧ (w20.alloc (.cells #[u0, u1, u2] 51)).cell? ⟨uN, 1, none⟩ = some (.slice ub (okL (adB P0 S0 W0 P1 S1 W1) S0).length uj) ∧ (w20.alloc (.cells #[u0, u1, u2] 51)).cell? ⟨uN, 2, none⟩ = some (.slice uc (okL (adB P0 S0 W0 P1 S1 W1) (adTo W0 W1 W0.length)).length uk) ∧ (w20.alloc (.cells #[u0, u1, u2] 51)).cell? ⟨w7.heap.size, 0, none⟩ = some (.slice x2 P0.length i2) ∧ (w20.alloc (.cells #[u0, u1, u2] 51)).cell? ⟨w7.heap.size, 1, none⟩ = some (.slice y2 S0.length j2) ∧ (w20.alloc (.cells #[u0, u1, u2] 51)).cell? ⟨w7.heap.size, 2, none⟩ = some (.slice z2 W0.length k2) ∧ (w20.alloc (.cells #[u0, u1, u2] 51)).cell? ⟨w8.heap.size, 0, none⟩ = some (.slice x3 P1.length i3) ∧ (w20.alloc (.cells #[u0, u1, u2] 51)).cell? ⟨w8.heap.size, 1, none⟩ = some (.slice y3 S1.length j3) ∧ (w20.alloc (.cells #[u0, u1, u2] 51)).cell? ⟨w8.heap.size, 2, none⟩ = some (.slice z3 W1.length k3) ∧ (w20.alloc (.cells #[u0, u1, u2] 51)).cell? ⟨w9.heap.size, 0, none⟩ = some (.slice ga (okL (adB P0 S0 W0 P1 S1 W1) P0).length gi) ∧ (w20.alloc (.cells #[u0, u1, u2] 51)).cell? ⟨w9.heap.size, 1, none⟩ = some (.slice gb (okL (adB P0 S0 W0 P1 S1 W1) S0).length gj) ∧ (w20.alloc (.cells #[u0, u1, u2] 51)).cell? ⟨w9.heap.size, 2, none⟩ = some (.slice gc (okL (adB P0 S0 W0 P1 S1 W1) (adTo W0 W1 W0.length)).length gk) := fun u0 u1 u2 => ⟨(A0.alloc (.cells #[u0, u1, u2] 51)).cell 0, (A0.alloc (.cells #[u0, u1, u2] 51)).cell 1, (A0.alloc (.cells #[u0, u1, u2] 51)).cell 2, (A1.alloc (.cells #[u0, u1, u2] 51)).cell 0, (A1.alloc (.cells #[u0, u1, u2] 51)).cell 1, (A1.alloc (.cells #[u0, u1, u2] 51)).cell 2, (Bu.alloc (.cells #[u0, u1, u2] 51)).cell 0, (Bu.alloc (.cells #[u0, u1, u2] 51)).cell 1, (Bu.alloc (.cells #[u0, u1, u2] 51)).cell 2, (X0.alloc (.cells #[u0, u1, u2] 51)).cell 0, (X0.alloc (.cells #[u0, u1, u2] 51)).cell 1, (X0.alloc (.cells #[u0, u1, u2] 51)).cell 2, (X1.alloc (.cells #[u0, u1, u2] 51)).cell 0, (X1.alloc (.cells #[u0, u1, u2] 51)).cell 1, (X1.alloc (.cells #[u0, u1, u2] 51)).cell 2, (Bg.alloc (.cells #[u0, u1, u2] 51)).cell 0, (Bg.alloc (.cells #[u0, u1, u2] 51)).cell 1, (Bg.alloc (.cells #[u0, u1, u2] 51)).cell 2⟩)
              | (go_at_call 45; have hst : Below w20.heap.size w20 w20 := Below.refl _ _; have ht2 : w20.heap.size ≤ w20.heap.size := Nat.le_refl _; have fr := below_step fr hst; have A0 := A0.stays hst; have A1 := A1.stays hst; have Bu := Bu.stays hst; have X0 := X0.stays hst; have X1 := X1.stays hst; have Bg := Bg.stays hst; have u := u.below hst; have g := g.below hst; have o6 := o6.below hst; (with_reducible refine (toCluster_c _ _ _ P1 S1 W1 _ (ha1.below fr (Nat.le_refl _)) (hb1.below fr (Nat.le_refl _)) (hc1.below fr (Nat.le_refl _)) (by omega) (by omega) (by omega)).mono ?_); rintro e w21 ⟨x7, i7, y7, j7, z7, k7, rfl, o7, hq⟩; have sz2 := Below.size hq; have A0 := A0.stays hq; have A1 := A1.stays hq; have Bu := Bu.stays hq; have X0 := X0.stays hq; have X1 := X1.stays hq; have Bg := Bg.stays hq; have u := u.below hq; have g := g.below hq; have o6 := o6.below hq; have fr := below_step fr hq; (try have E := Blk.stays E hq); have HC : w21.cell? ⟨w.heap.size, 0, none⟩ = some (a0) ∧ w21.cell? ⟨w.heap.size, 1, none⟩ = some (b0) ∧ w21.cell? ⟨w.heap.size, 2, none⟩ = some (c0) ∧ w21.cell? ⟨w.heap.size + 1, 0, none⟩ = some (a1) ∧ w21.cell? ⟨w.heap.size + 1, 1, none⟩ = some (b1) ∧ w21.cell? ⟨w.heap.size + 1, 2, none⟩ = some (c1) ∧ w21.cell? ⟨uN, 0, none⟩ = some (.slice ua (okL (adB P0 S0 W0 P1 S1 W1) P0).length ui) ∧ w21.cell? ⟨uN, 1, none⟩ = some (.slice ub (okL (adB P0 S0 W0 P1 S1 W1) S0).length uj) ∧ w21.cell? ⟨uN, 2, none⟩ = some (.slice uc (okL (adB P0 S0 W0 P1 S1 W1) (adTo W0 W1 W0.length)).length uk) ∧ w21.cell? ⟨w7.heap.size, 0, none⟩ = some (.slice x2 P0.length i2) ∧ w21.cell? ⟨w7.heap.size, 1, none⟩ = some (.slice y2 S0.length j2) ∧ w21.cell? ⟨w7.heap.size, 2, none⟩ = some (.slice z2 W0.length k2) ∧ w21.cell? ⟨w8.heap.size, 0, none⟩ = some (.slice x3 P1.length i3) ∧ w21.cell? ⟨w8.heap.size, 1, none⟩ = some (.slice y3 S1.length j3) ∧ w21.cell? ⟨w8.heap.size, 2, none⟩ = some (.slice z3 W1.length k3) ∧ w21.cell? ⟨w9.heap.size, 0, none⟩ = some (.slice ga (okL (adB P0 S0 W0 P1 S1 W1) P0).length gi) ∧ w21.cell? ⟨w9.heap.size, 1, none⟩ = some (.slice gb (okL (adB P0 S0 W0 P1 S1 W1) S0).length gj) ∧ w21.cell? ⟨w9.heap.size, 2, none⟩ = some (.slice gc (okL (adB P0 S0 W0 P1 S1 W1) (adTo W0 W1 W0.length)).length gk) := ⟨A0.cell 0, A0.cell 1, A0.cell 2, A1.cell 0, A1.cell 1, A1.cell 2, Bu.cell 0, Bu.cell 1, Bu.cell 2, X0.cell 0, X0.cell 1, X0.cell 2, X1.cell 0, X1.cell 1, X1.cell 2, Bg.cell 0, Bg.cell 1, Bg.cell 2⟩; have HA : ∀ u0 u1 u2 : Value, (w21.alloc (.cells #[u0, u1, u2] 51)).cell? ⟨w.heap.size, 0, none⟩ = some (a0) ∧ (w21.alloc (.cells #[u0, u1, u2] 51)).cell? ⟨w.heap.size, 1, none⟩ = some (b0) ∧ (w21.alloc (.cells #[u0, u1, u2] 51)).cell? ⟨w.heap.size, 2, none⟩ = some (c0) ∧ (w21.alloc (.cells #[u0, u1, u2] 51)).cell? ⟨w.heap.size + 1, 0, none⟩ = some (a1) ∧ (w21.alloc (.cells #[u0, u1, u2] 51)).cell? ⟨w.heap.size + 1, 1, none⟩ = some (b1) ∧ (w21.alloc (.cells #[u0, u1, u2] 51)).cell? ⟨w.heap.size + 1, 2, none⟩ = some (c1) ∧ (w21.alloc (.cells #[u0, u1, u2] 51)).cell? ⟨uN, 0, none⟩ = some (.slice ua (okL (adB P0 S0 W0 P1 S1 W1) P0).length ui) ∧ (w21.alloc (.cells #[u0, u1, u2] 51)).cell? ⟨uN, 1, none⟩ = some (.slice ub (okL (adB P0 S0 W0 P1 S1 W1) S0).length uj) ∧ (w21.alloc (.cells #[u0, u1, u2] 51)).cell? ⟨uN, 2, none⟩ = some (.slice uc (okL (adB P0 S0 W0 P1 S1 W1) (adTo W0 W1 W0.length)).length uk) ∧ (w21.alloc (.cells #[u0, u1, u2] 51)).cell? ⟨w7.heap.size, 0, none⟩ = some (.slice x2 P0.length i2) ∧ (w21.alloc (.cells #[u0, u1, u2] 51)).cell? ⟨w7.heap.size, 1, none⟩ = some (.slice y2 S0.length j2) ∧ (w21.alloc (.cells #[u0, u1, u2] 51)).cell? ⟨w7.heap.size, 2, none⟩ = some (.slice z2 W0.length k2) ∧ (w21.alloc (.cells #[u0, u1, u2] 51)).cell? ⟨w8.heap.size, 0, none⟩ = some (.slice x3 P1.length i3) ∧ (w21.alloc (.cells #[u0, u1, u2] 51)).cell? ⟨w8.heap.size, 1, none⟩ = some (.slice y3 S1.length j3) ∧ (w21.alloc (.cells #[u0, u1, u2] 51)).cell? ⟨w8.heap.size, 2, none⟩ = some (.slice z3 W1.length k3) ∧ (w21.alloc (.cells #[u0, u1, u2] 51)).cell? ⟨w9.heap.size, 0, none⟩ = some (.slice ga (okL (adB P0 S0 W0 P1 S1 W1) P0).length gi) ∧ (w21.alloc (.cells #[u0, u1, u2] 51)).cell? ⟨w9.heap.size, 1, none⟩ = some (.slice gb (okL (adB P0 S0 W0 P1 S1 W1) S0).length gj) ∧ (w21.alloc (.cells #[u0, u1, u2] 51)).cell? ⟨w9.heap.size, 2, none⟩ = some (.slice gc (okL (adB P0 S0 W0 P1 S1 W1) (adTo W0 W1 W0.length)).length gk) := fun u0 u1 u2 => ⟨(A0.alloc (.cells #[u0, u1, u2] 51)).cell 0, (A0.alloc (.cells #[u0, u1, u2] 51)).cell 1, (A0.alloc (.cells #[u0, u1, u2] 51)).cell 2, (A1.alloc (.cells #[u0, u1, u2] 51)).cell 0, (A1.alloc (.cells #[u0, u1, u2] 51)).cell 1, (A1.alloc (.cells #[u0, u1, u2] 51)).cell 2, (Bu.alloc (.cells #[u0, u1, u2] 51)).cell 0, (Bu.alloc (.cells #[u0, u1, u2] 51)).cell 1, (Bu.alloc (.cells #[u0, u1, u2] 51)).cell 2, (X0.alloc (.cells #[u0, u1, u2] 51)).cell 0, (X0.alloc (.cells #[u0, u1, u2] 51)).cell 1, (X0.alloc (.cells #[u0, u1, u2] 51)).cell 2, (X1.alloc (.cells #[u0, u1, u2] 51)).cell 0, (X1.alloc (.cells #[u0, u1, u2] 51)).cell 1, (X1.alloc (.cells #[u0, u1, u2] 51)).cell 2, (Bg.alloc (.cells #[u0, u1, u2] 51)).cell 0, (Bg.alloc (.cells #[u0, u1, u2] 51)).cell 1, (Bg.alloc (.cells #[u0, u1, u2] 51)).cell 2⟩)
              | (go_at_call 45; have hst : Below w20.heap.size w20 (w20.alloc (.cells #[.slice none 0 0, .slice none 0 0, .slice none 0 0] 51)) := (Below.refl _ _).alloc (Nat.le_refl _) _; have ht2 : w20.heap.size + 1 ≤ (w20.alloc (.cells #[.slice none 0 0, .slice none 0 0, .slice none 0 0] 51)).heap.size := (by simp); have fr := below_step fr hst; have A0 := A0.stays hst; have A1 := A1.stays hst; have Bu := Bu.stays hst; have X0 := X0.stays hst; have X1 := X1.stays hst; have Bg := Bg.stays hst; have u := u.below hst; have g := g.below hst; have o6 := o6.below hst; (with_reducible refine (toCluster_c _ _ _ P1 S1 W1 _ (ha1.below fr (Nat.le_refl _)) (hb1.below fr (Nat.le_refl _)) (hc1.below fr (Nat.le_refl _)) (by omega) (by omega) (by omega)).mono ?_); rintro e w21 ⟨x7, i7, y7, j7, z7, k7, rfl, o7, hq⟩; have sz2 := Below.size hq; have A0 := A0.stays hq; have A1 := A1.stays hq; have Bu := Bu.stays hq; have X0 := X0.stays hq; have X1 := X1.stays hq; have Bg := Bg.stays hq; have u := u.below hq; have g := g.below hq; have o6 := o6.below hq; have fr := below_step fr hq; have E := (Blk.new w20 51 #[.slice none 0 0, .slice none 0 0, .slice none 0 0]).stays hq; have HC : w21.cell? ⟨w.heap.size, 0, none⟩ = some (a0) ∧ w21.cell? ⟨w.heap.size, 1, none⟩ = some (b0) ∧ w21.cell? ⟨w.heap.size, 2, none⟩ = some (c0) ∧ w21.cell? ⟨w.heap.size + 1, 0, none⟩ = some (a1) ∧ w21.cell? ⟨w.heap.size + 1, 1, none⟩ = some (b1) ∧ w21.cell? ⟨w.heap.size + 1, 2, none⟩ = some (c1) ∧ w21.cell? ⟨uN, 0, none⟩ = some (.slice ua (okL (adB P0 S0 W0 P1 S1 W1) P0).length ui) ∧ w21.cell? ⟨uN, 1, none⟩ = some (.slice ub (okL (adB P0 S0 W0 P1 S1 W1) S0).length uj) ∧ w21.cell? ⟨uN, 2, none⟩ = some (.slice uc (okL (adB P0 S0 W0 P1 S1 W1) (adTo W0 W1 W0.length)).length uk) ∧ w21.cell? ⟨w7.heap.size, 0, none⟩ = some (.slice x2 P0.length i2) ∧ w21.cell? ⟨w7.heap.size, 1, none⟩ = some (.slice y2 S0.length j2) ∧ w21.cell? ⟨w7.heap.size, 2, none⟩ = some (.slice z2 W0.length k2) ∧ w21.cell? ⟨w8.heap.size, 0, none⟩ = some (.slice x3 P1.length i3) ∧ w21.cell? ⟨w8.heap.size, 1, none⟩ = some (.slice y3 S1.length j3) ∧ w21.cell? ⟨w8.heap.size, 2, none⟩ = some (.slice z3 W1.length k3) ∧ w21.cell? ⟨w9.heap.size, 0, none⟩ = some (.slice ga (okL (adB P0 S0 W0 P1 S1 W1) P0).length gi) ∧ w21.cell? ⟨w9.heap.size, 1, none⟩ = some (.slice gb (okL (adB P0 S0 W0 P1 S1 W1) S0).length gj) ∧ w21.cell? ⟨w9.heap.size, 2, none⟩ = some (.slice gc (okL (adB P0 S0 W0 P1 S1 W1) (adTo W0 W1 W0.length)).length gk) := ⟨A0.cell 0, A0.cell 1, A0.cell 2, A1.cell 0, A1.cell 1, A1.cell 2, Bu.cell 0, Bu.cell 1, Bu.cell 2, X0.cell 0, X0.cell 1, X0.cell 2, X1.cell 0, X1.cell 1, X1.cell 2, Bg.cell 0, Bg.cell 1, Bg.cell 2⟩; have HA : ∀ u0 u1 u2 : Value, (w21.alloc (.cells #[u0, u1, u2] 51)).cell? ⟨w.heap.size, 0, none⟩ = some (a0) ∧ (w21.alloc (.cells #[u0, u1, u2] 51)).cell? ⟨w.heap.size, 1, none⟩ = some (b0) ∧ (w21.alloc (.cells #[u0, u1, u2] 51)).cell? ⟨w.heap.size, 2, none⟩ = some (c0) ∧ (w21.alloc (.cells #[u0, u1, u2] 51)).cell? ⟨w.heap.size + 1, 0, none⟩ = some (a1) ∧ (w21.alloc (.cells #[u0, u1, u2] 51)).cell? ⟨w.heap.size + 1, 1, none⟩ = some (b1) ∧ (w21.alloc (.cells #[u0, u1, u2] 51)).cell? ⟨w.heap.size + 1, 2, none⟩ = some (c1) ∧ (w21.alloc (.cells #[u0, u1, u2] 51)).cell? ⟨uN, 0, none⟩ = some (.slice ua (okL (adB P0 S0 W0 P1 S1 W1) P0).length ui) ∧ (w21.alloc (.cells #[u0, u1, u2] 51)).cell? ⟨uN, 1, none⟩ = some (.slice ub (okL (adB P0 S0 W0 P1 S1 W1) S0).length uj) ∧ (w21.alloc (.cells #[u0, u1, u2] 51)).cell? ⟨uN, 2, none⟩ = some (.slice uc (okL (adB P0 S0 W0 P1 S1 W1) (adTo W0 W1 W0.length)).length uk) ∧ (w21.alloc (.cells #[u0, u1, u2] 51)).cell? ⟨w7.heap.size, 0, none⟩ = some (.slice x2 P0.length i2) ∧ (w21.alloc (.cells #[u0, u1, u2] 51)).cell? ⟨w7.heap.size, 1, none⟩ = some (.slice y2 S0.length j2) ∧ (w21.alloc (.cells #[u0, u1, u2] 51)).cell? ⟨w7.heap.size, 2, none⟩ = some (.slice z2 W0.length k2) ∧ (w21.alloc (.cells #[u0, u1, u2] 51)).cell? ⟨w8.heap.size, 0, none⟩ = some (.slice x3 P1.length i3) ∧ (w21.alloc (.cells #[u0, u1, u2] 51)).cell? ⟨w8.heap.size, 1, none⟩ = some (.slice y3 S1.length j3) ∧ (w21.alloc (.cells #[u0, u1, u2] 51)).cell? ⟨w8.heap.size, 2, none⟩ = some (.slice z3 W1.length k3) ∧ (w21.alloc (.cells #[u0, u1, u2] 51)).cell? ⟨w9.heap.size, 0, none⟩ = some (.slice ga (okL (adB P0 S0 W0 P1 S1 W1) P0).length gi) ∧ (w21.alloc (.cells #[u0, u1, u2] 51)).cell? ⟨w9.heap.size, 1, none⟩ = some (.slice gb (okL (adB P0 S0 W0 P1 S1 W1) S0).length gj) ∧ (w21.alloc (.cells #[u0, u1, u2] 51)).cell? ⟨w9.heap.size, 2, none⟩ = some (.slice gc (okL (adB P0 S0 W0 P1 S1 W1) (adTo W0 W1 W0.length)).length gk) := fun u0 u1 u2 => ⟨(A0.alloc (.cells #[u0, u1, u2] 51)).cell 0, (A0.alloc (.cells #[u0, u1, u2] 51)).cell 1, (A0.alloc (.cells #[u0, u1, u2] 51)).cell 2, (A1.alloc (.cells #[u0, u1, u2] 51)).cell 0, (A1.alloc (.cells #[u0, u1, u2] 51)).cell 1, (A1.alloc (.cells #[u0, u1, u2] 51)).cell 2, (Bu.alloc (.cells #[u0, u1, u2] 51)).cell 0, (Bu.alloc (.cells #[u0, u1, u2] 51)).cell 1, (Bu.alloc (.cells #[u0, u1, u2] 51)).cell 2, (X0.alloc (.cells #[u0, u1, u2] 51)).cell 0, (X0.alloc (.cells #[u0, u1, u2] 51)).cell 1, (X0.alloc (.cells #[u0, u1, u2] 51)).cell 2, (X1.alloc (.cells #[u0, u1, u2] 51)).cell 0, (X1.alloc (.cells #[u0, u1, u2] 51)).cell 1, (X1.alloc (.cells #[u0, u1, u2] 51)).cell 2, (Bg.alloc (.cells #[u0, u1, u2] 51)).cell 0, (Bg.alloc (.cells #[u0, u1, u2] 51)).cell 1, (Bg.alloc (.cells #[u0, u1, u2] 51)).cell 2⟩)
              | (go_at_call 46; have hst : Below w21.heap.size w21 w21 := Below.refl _ _; have ht3 : w21.heap.size ≤ w21.heap.size := Nat.le_refl _; have fr := below_step fr hst; have A0 := A0.stays hst; have A1 := A1.stays hst; have Bu := Bu.stays hst; have X0 := X0.stays hst; have X1 := X1.stays hst; have Bg := Bg.stays hst; have u := u.below hst; have g := g.below hst; have o6 := o6.below hst; have o7 := o7.below hst; (with_reducible refine (implAdd_c _ _ _ _ _ _ P0 S0 W0 P1 S1 W1 _ o6.a.rd o6.b.rd o6.c.rd o7.a.rd o7.b.rd o7.c.rd).mono ?_); rintro e w22 ⟨ha, hi, hb, hj, hc, hk, rfl, h, hq⟩; have sz3 := Below.size hq; have A0 := A0.stays hq; have A1 := A1.stays hq; have Bu := Bu.stays hq; have X0 := X0.stays hq; have X1 := X1.stays hq; have Bg := Bg.stays hq; have u := u.below hq; have g := g.below hq; have o6 := o6.below hq; have o7 := o7.below hq; have fr := below_step fr hq; (try have E := Blk.stays E hq); have HC : w22.cell? ⟨w.heap.size, 0, none⟩ = some (a0) ∧ w22.cell? ⟨w.heap.size, 1, none⟩ = some (b0) ∧ w22.cell? ⟨w.heap.size, 2, none⟩ = some (c0) ∧ w22.cell? ⟨w.heap.size + 1, 0, none⟩ = some (a1) ∧ w22.cell? ⟨w.heap.size + 1, 1, none⟩ = some (b1) ∧ w22.cell? ⟨w.heap.size + 1, 2, none⟩ = some (c1) ∧ w22.cell? ⟨uN, 0, none⟩ = some (.slice ua (okL (adB P0 S0 W0 P1 S1 W1) P0).length ui) ∧ w22.cell? ⟨uN, 1, none⟩ = some (.slice ub (okL (adB P0 S0 W0 P1 S1 W1) S0).length uj) ∧ w22.cell? ⟨uN, 2, none⟩ = some (.slice uc (okL (adB P0 S0 W0 P1 S1 W1) (adTo W0 W1 W0.length)).length uk) ∧ w22.cell? ⟨w7.heap.size, 0, none⟩ = some (.slice x2 P0.length i2) ∧ w22.cell? ⟨w7.heap.size, 1, none⟩ = some (.slice y2 S0.length j2) ∧ w22.cell? ⟨w7.heap.size, 2, none⟩ = some (.slice z2 W0.length k2) ∧ w22.cell? ⟨w8.heap.size, 0, none⟩ = some (.slice x3 P1.length i3) ∧ w22.cell? ⟨w8.heap.size, 1, none⟩ = some (.slice y3 S1.length j3) ∧ w22.cell? ⟨w8.heap.size, 2, none⟩ = some (.slice z3 W1.length k3) ∧ w22.cell? ⟨w9.heap.size, 0, none⟩ = some (.slice ga (okL (adB P0 S0 W0 P1 S1 W1) P0).length gi) ∧ w22.cell? ⟨w9.heap.size, 1, none⟩ = some (.slice gb (okL (adB P0 S0 W0 P1 S1 W1) S0).length gj) ∧ w22.cell? ⟨w9.heap.size, 2, none⟩ = some (.slice gc (okL (adB P0 S0 W0 P1 S1 W1) (adTo W0 W1 W0.length)).length gk) := ⟨A0.cell 0, A0.cell 1, A0.cell 2, A1.cell 0, A1.cell 1, A1.cell 2, Bu.cell 0, Bu.cell 1, Bu.cell 2, X0.cell 0, X0.cell 1, X0.cell 2, X1.cell 0, X1.cell 1, X1.cell 2, Bg.cell 0, Bg.cell 1, Bg.cell 2⟩; have HA : ∀ u0 u1 u2 : Value, (w22.alloc (.cells #[u0, u1, u2] 51)).cell? ⟨w.heap.size, 0, none⟩ = some (a0) ∧ (w22.alloc (.cells #[u0, u1, u2] 51)).cell? ⟨w.heap.size, 1, none⟩ = some (b0) ∧ (w22.alloc (.cells #[u0, u1, u2] 51)).cell? ⟨w.heap.size, 2, none⟩ = some (c0) ∧ (w22.alloc (.cells #[u0, u1, u2] 51)).cell? ⟨w.heap.size + 1, 0, none⟩ = some (a1) ∧ (w22.alloc (.cells #[u0, u1, u2] 51)).cell? ⟨w.heap.size + 1, 1, none⟩ = some (b1) ∧ (w22.alloc (.cells #[u0, u1, u2] 51)).cell? ⟨w.heap.size + 1, 2, none⟩ = some (c1) ∧ (w22.alloc (.cells #[u0, u1, u2] 51)).cell? ⟨uN, 0, none⟩ = some (.slice ua (okL (adB P0 S0 W0 P1 S1 W1) P0).length ui) ∧ (w22.alloc (.cells #[u0, u1, u2] 51)).cell? ⟨uN, 1, none⟩ = some (.slice ub (okL (adB P0 S0 W0 P1 S1 W1) S0).length uj) ∧ (w22.alloc (.cells #[u0, u1, u2] 51)).cell? ⟨uN, 2, none⟩ = some (.slice uc (okL (adB P0 S0 W0 P1 S1 W1) (adTo W0 W1 W0.length)).length uk) ∧ (w22.alloc (.cells #[u0, u1, u2] 51)).cell? ⟨w7.heap.size, 0, none⟩ = some (.slice x2 P0.length i2) ∧ (w22.alloc (.cells #[u0, u1, u2] 51)).cell? ⟨w7.heap.size, 1, none⟩ = some (.slice y2 S0.length j2) ∧ (w22.alloc (.cells #[u0, u1, u2] 51)).cell? ⟨w7.heap.size, 2, none⟩ = some (.slice z2 W0.length k2) ∧ (w22.alloc (.cells #[u0, u1, u2] 51)).cell? ⟨w8.heap.size, 0, none⟩ = some (.slice x3 P1.length i3) ∧ (w22.alloc (.cells #[u0, u1, u2] 51)).cell? ⟨w8.heap.size, 1, none⟩ = some (.slice y3 S1.length j3) ∧ (w22.alloc (.cells #[u0, u1, u2] 51)).cell? ⟨w8.heap.size, 2, none⟩ = some (.slice z3 W1.length k3) ∧ (w22.alloc (.cells #[u0, u1, u2] 51)).cell? ⟨w9.heap.size, 0, none⟩ = some (.slice ga (okL (adB P0 S0 W0 P1 S1 W1) P0).length gi) ∧ (w22.alloc (.cells #[u0, u1, u2] 51)).cell? ⟨w9.heap.size, 1, none⟩ = some (.slice gb (okL (adB P0 S0 W0 P1 S1 W1) S0).length gj) ∧ (w22.alloc (.cells #[u0, u1, u2] 51)).cell? ⟨w9.heap.size, 2, none⟩ = some (.slice gc (okL (adB P0 S0 W0 P1 S1 W1) (adTo W0 W1 W0.length)).length gk) := fun u0 u1 u2 => ⟨(A0.alloc (.cells #[u0, u1, u2] 51)).cell 0, (A0.alloc (.cells #[u0, u1, u2] 51)).cell 1, (A0.alloc (.cells #[u0, u1, u2] 51)).cell 2, (A1.alloc (.cells #[u0, u1, u2] 51)).cell 0, (A1.alloc (.cells #[u0, u1, u2] 51)).cell 1, (A1.alloc (.cells #[u0, u1, u2] 51)).cell 2, (Bu.alloc (.cells #[u0, u1, u2] 51)).cell 0, (Bu.alloc (.cells #[u0, u1, u2] 51)).cell 1, (Bu.alloc (.cells #[u0, u1, u2] 51)).cell 2, (X0.alloc (.cells #[u0, u1, u2] 51)).cell 0, (X0.alloc (.cells #[u0, u1, u2] 51)).cell 1, (X0.alloc (.cells #[u0, u1, u2] 51)).cell 2, (X1.alloc (.cells #[u0, u1, u2] 51)).cell 0, (X1.alloc (.cells #[u0, u1, u2] 51)).cell 1, (X1.alloc (.cells #[u0, u1, u2] 51)).cell 2, (Bg.alloc (.cells #[u0, u1, u2] 51)).cell 0, (Bg.alloc (.cells #[u0, u1, u2] 51)).cell 1, (Bg.alloc (.cells #[u0, u1, u2] 51)).cell 2⟩; have rg_h := h.block; have HEof : ∀ EN : Nat, w19.heap.size ≤ EN → Blk w22 EN 51 #[.slice none 0 0, .slice none 0 0, .slice none 0 0] → ∀ u0 u1 u2 : Value, (((w22.setCell ⟨EN, 0, none⟩ u0).setCell ⟨EN, 1, none⟩ u1).setCell ⟨EN, 2, none⟩ u2).cell? ⟨w.heap.size, 0, none⟩ = some (a0) ∧ (((w22.setCell ⟨EN, 0, none⟩ u0).setCell ⟨EN, 1, none⟩ u1).setCell ⟨EN, 2, none⟩ u2).cell? ⟨w.heap.size, 1, none⟩ = some (b0) ∧ (((w22.setCell ⟨EN, 0, none⟩ u0).setCell ⟨EN, 1, none⟩ u1).setCell ⟨EN, 2, none⟩ u2).cell? ⟨w.heap.size, 2, none⟩ = some (c0) ∧ (((w22.setCell ⟨EN, 0, none⟩ u0).setCell ⟨EN, 1, none⟩ u1).setCell ⟨EN, 2, none⟩ u2).cell? ⟨w.heap.size + 1, 0, none⟩ = some (a1) ∧ (((w22.setCell ⟨EN, 0, none⟩ u0).setCell ⟨EN, 1, none⟩ u1).setCell ⟨EN, 2, none⟩ u2).cell? ⟨w.heap.size + 1, 1, none⟩ = some (b1) ∧ (((w22.setCell ⟨EN, 0, none⟩ u0).setCell ⟨EN, 1, none⟩ u1).setCell ⟨EN, 2, none⟩ u2).cell? ⟨w.heap.size + 1, 2, none⟩ = some (c1) ∧ (((w22.setCell ⟨EN, 0, none⟩ u0).setCell ⟨EN, 1, none⟩ u1).setCell ⟨EN, 2, none⟩ u2).cell? ⟨uN, 0, none⟩ = some (.slice ua (okL (adB P0 S0 W0 P1 S1 W1) P0).length ui) ∧ (((w22.setCell ⟨EN, 0, none⟩ u0).setCell ⟨EN, 1, none⟩ u1).setCell ⟨EN, 2, none⟩ u2).cell? ⟨uN, 1, none⟩ = some (.slice ub (okL (adB P0 S0 W0 P1 S1 W1) S0).length uj) ∧ (((w22.setCell ⟨EN, 0, none⟩ u0).setCell ⟨EN, 1, none⟩ u1).setCell ⟨EN, 2, none⟩ u2).cell? ⟨uN, 2, none⟩ = some (.slice uc (okL (adB P0 S0 W0 P1 S1 W1) (adTo W0 W1 W0.length)).length uk) ∧ (((w22.setCell ⟨EN, 0, none⟩ u0).setCell ⟨EN, 1, none⟩ u1).setCell ⟨EN, 2, none⟩ u2).cell? ⟨w7.heap.size, 0, none⟩ = some (.slice x2 P0.length i2) ∧ (((w22.setCell ⟨EN, 0, none⟩ u0).setCell ⟨EN, 1, none⟩ u1).setCell ⟨EN, 2, none⟩ u2).cell? ⟨w7.heap.size, 1, none⟩ = some (.slice y2 S0.length j2) ∧ (((w22.setCell ⟨EN, 0, none⟩ u0).setCell ⟨EN, 1, none⟩ u1).setCell ⟨EN, 2, none⟩ u2).cell? ⟨w7.heap.size, 2, none⟩ = some (.slice z2 W0.length k2) ∧ (((w22.setCell ⟨EN, 0, none⟩ u0).setCell ⟨EN, 1, none⟩ u1).setCell ⟨EN, 2, none⟩ u2).cell? ⟨w8.heap.size, 0, none⟩ = some (.slice x3 P1.length i3) ∧ (((w22.setCell ⟨EN, 0, none⟩ u0).setCell ⟨EN, 1, none⟩ u1).setCell ⟨EN, 2, none⟩ u2).cell? ⟨w8.heap.size, 1, none⟩ = some (.slice y3 S1.length j3) ∧ (((w22.setCell ⟨EN, 0, none⟩ u0).setCell ⟨EN, 1, none⟩ u1).setCell ⟨EN, 2, none⟩ u2).cell? ⟨w8.heap.size, 2, none⟩ = some (.slice z3 W1.length k3) ∧ (((w22.setCell ⟨EN, 0, none⟩ u0).setCell ⟨EN, 1, none⟩ u1).setCell ⟨EN, 2, none⟩ u2).cell? ⟨w9.heap.size, 0, none⟩ = some (.slice ga (okL (adB P0 S0 W0 P1 S1 W1) P0).length gi) ∧ (((w22.setCell ⟨EN, 0, none⟩ u0).setCell ⟨EN, 1, none⟩ u1).setCell ⟨EN, 2, none⟩ u2).cell? ⟨w9.heap.size, 1, none⟩ = some (.slice gb (okL (adB P0 S0 W0 P1 S1 W1) S0).length gj) ∧ (((w22.setCell ⟨EN, 0, none⟩ u0).setCell ⟨EN, 1, none⟩ u1).setCell ⟨EN, 2, none⟩ u2).cell? ⟨w9.heap.size, 2, none⟩ = some (.slice gc (okL (adB P0 S0 W0 P1 S1 W1) (adTo W0 W1 W0.length)).length gk) := fun EN hEN _ u0 u1 u2 => have hkk : Keeps (fun k => k = EN) w22 (((w22.setCell ⟨EN, 0, none⟩ u0).setCell ⟨EN, 1, none⟩ u1).setCell ⟨EN, 2, none⟩ u2) := (((Keeps.refl (fun k => k = _) w22).setCell (p := ⟨EN, 0, none⟩) rfl u0).setCell (p := ⟨EN, 1, none⟩) rfl u1).setCell (p := ⟨EN, 2, none⟩) rfl u2; ⟨(A0.keeps hkk (by omega)).cell 0, (A0.keeps hkk (by omega)).cell 1, (A0.keeps hkk (by omega)).cell 2, (A1.keeps hkk (by omega)).cell 0, (A1.keeps hkk (by omega)).cell 1, (A1.keeps hkk (by omega)).cell 2, (Bu.keeps hkk (by omega)).cell 0, (Bu.keeps hkk (by omega)).cell 1, (Bu.keeps hkk (by omega)).cell 2, (X0.keeps hkk (by omega)).cell 0, (X0.keeps hkk (by omega)).cell 1, (X0.keeps hkk (by omega)).cell 2, (X1.keeps hkk (by omega)).cell 0, (X1.keeps hkk (by omega)).cell 1, (X1.keeps hkk (by omega)).cell 2, (Bg.keeps hkk (by omega)).cell 0, (Bg.keeps hkk (by omega)).cell 1, (Bg.keeps hkk (by omega)).cell 2⟩; (try have HE := fun (u0 : Value) (u1 : Value) (u2 : Value) => HEof _ (by first | exact Nat.le_refl _ | omega) E u0 u1 u2); (try have r0 := Blk.free E 0); (try have r1 := Blk.free E 1); (try have r2 := Blk.free E 2); (try have s0 := Blk.cell E 0); (try have s1 := Blk.cell E 1); (try have s2 := Blk.cell E 2))
              | (go_at_call 46; have hst : Below w21.heap.size w21 (w21.alloc (.cells #[.slice none 0 0, .slice none 0 0, .slice none 0 0] 51)) := (Below.refl _ _).alloc (Nat.le_refl _) _; have ht3 : w21.heap.size + 1 ≤ (w21.alloc (.cells #[.slice none 0 0, .slice none 0 0, .slice none 0 0] 51)).heap.size := (by simp); have fr := below_step fr hst; have A0 := A0.stays hst; have A1 := A1.stays hst; have Bu := Bu.stays hst; have X0 := X0.stays hst; have X1 := X1.stays hst; have Bg := Bg.stays hst; have u := u.below hst; have g := g.below hst; have o6 := o6.below hst; have o7 := o7.below hst; (with_reducible refine (implAdd_c _ _ _ _ _ _ P0 S0 W0 P1 S1 W1 _ o6.a.rd o6.b.rd o6.c.rd o7.a.rd o7.b.rd o7.c.rd).mono ?_); rintro e w22 ⟨ha, hi, hb, hj, hc, hk, rfl, h, hq⟩; have sz3 := Below.size hq; have A0 := A0.stays hq; have A1 := A1.stays hq; have Bu := Bu.stays hq; have X0 := X0.stays hq; have X1 := X1.stays hq; have Bg := Bg.stays hq; have u := u.below hq; have g := g.below hq; have o6 := o6.below hq; have o7 := o7.below hq; have fr := below_step fr hq; have E := (Blk.new w21 51 #[.slice none 0 0, .slice none 0 0, .slice none 0 0]).stays hq; have HC : w22.cell? ⟨w.heap.size, 0, none⟩ = some (a0) ∧ w22.cell? ⟨w.heap.size, 1, none⟩ = some (b0) ∧ w22.cell? ⟨w.heap.size, 2, none⟩ = some (c0) ∧ w22.cell? ⟨w.heap.size + 1, 0, none⟩ = some (a1) ∧ w22.cell? ⟨w.heap.size + 1, 1, none⟩ = some (b1) ∧ w22.cell? ⟨w.heap.size + 1, 2, none⟩ = some (c1) ∧ w22.cell? ⟨uN, 0, none⟩ = some (.slice ua (okL (adB P0 S0 W0 P1 S1 W1) P0).length ui) ∧ w22.cell? ⟨uN, 1, none⟩ = some (.slice ub (okL (adB P0 S0 W0 P1 S1 W1) S0).length uj) ∧ w22.cell? ⟨uN, 2, none⟩ = some (.slice uc (okL (adB P0 S0 W0 P1 S1 W1) (adTo W0 W1 W0.length)).length uk) ∧ w22.cell? ⟨w7.heap.size, 0, none⟩ = some (.slice x2 P0.length i2) ∧ w22.cell? ⟨w7.heap.size, 1, none⟩ = some (.slice y2 S0.length j2) ∧ w22.cell? ⟨w7.heap.size, 2, none⟩ = some (.slice z2 W0.length k2) ∧ w22.cell? ⟨w8.heap.size, 0, none⟩ = some (.slice x3 P1.length i3) ∧ w22.cell? ⟨w8.heap.size, 1, none⟩ = some (.slice y3 S1.length j3) ∧ w22.cell? ⟨w8.heap.size, 2, none⟩ = some (.slice z3 W1.length k3) ∧ w22.cell? ⟨w9.heap.size, 0, none⟩ = some (.slice ga (okL (adB P0 S0 W0 P1 S1 W1) P0).length gi) ∧ w22.cell? ⟨w9.heap.size, 1, none⟩ = some (.slice gb (okL (adB P0 S0 W0 P1 S1 W1) S0).length gj) ∧ w22.cell? ⟨w9.heap.size, 2, none⟩ = some (.slice gc (okL (adB P0 S0 W0 P1 S1 W1) (adTo W0 W1 W0.length)).length gk) := ⟨A0.cell 0, A0.cell 1, A0.cell 2, A1.cell 0, A1.cell 1, A1.cell 2, Bu.cell 0, Bu.cell 1, Bu.cell 2, X0.cell 0, X0.cell 1, X0.cell 2, X1.cell 0, X1.cell 1, X1.cell 2, Bg.cell 0, Bg.cell 1, Bg.cell 2⟩; have HA : ∀ u0 u1 u2 : Value, (w22.alloc (.cells #[u0, u1, u2] 51)).cell? ⟨w.heap.size, 0, none⟩ = some (a0) ∧ (w22.alloc (.cells #[u0, u1, u2] 51)).cell? ⟨w.heap.size, 1, none⟩ = some (b0) ∧ (w22.alloc (.cells #[u0, u1, u2] 51)).cell? ⟨w.heap.size, 2, none⟩ = some (c0) ∧ (w22.alloc (.cells #[u0, u1, u2] 51)).cell? ⟨w.heap.size + 1, 0, none⟩ = some (a1) ∧ (w22.alloc (.cells #[u0, u1, u2] 51)).cell? ⟨w.heap.size + 1, 1, none⟩ = some (b1) ∧ (w22.alloc (.cells #[u0, u1, u2] 51)).cell? ⟨w.heap.size + 1, 2, none⟩ = some (c1) ∧ (w22.alloc (.cells #[u0, u1, u2] 51)).cell? ⟨uN, 0, none⟩ = some (.slice ua (okL (adB P0 S0 W0 P1 S1 W1) P0).length ui) ∧ (w22.alloc (.cells #[u0, u1, u2] 51)).cell? ⟨uN, 1, none⟩ = some (.slice ub (okL (adB P0 S0 W0 P1 S1 W1) S0).length uj) ∧ (w22.alloc (.cells #[u0, u1, u2] 51)).cell? ⟨uN, 2, none⟩ = some (.slice uc (okL (adB P0 S0 W0 P1 S1 W1) (adTo W0 W1 W0.length)).length uk) ∧ (w22.alloc (.cells #[u0, u1, u2] 51)).cell? ⟨w7.heap.size, 0, none⟩ = some (.slice x2 P0.length i2) ∧ (w22.alloc (.cells #[u0, u1, u2] 51)).cell? ⟨w7.heap.size, 1, none⟩ = some (.slice y2 S0.length j2) ∧ (w22.alloc (.cells #[u0, u1, u2] 51)).cell? ⟨w7.heap.size, 2, none⟩ = some (.slice z2 W0.length k2) ∧ (w22.alloc (.cells #[u0, u1, u2] 51)).cell? ⟨w8.heap.size, 0, none⟩ = some (.slice x3 P1.length i3) ∧ (w22.alloc (.cells #[u0, u1, u2] 51)).cell? ⟨w8.heap.size, 1, none⟩ = some (.slice y3 S1.length j3) ∧ (w22.alloc (.cells #[u0, u1, u2] 51)).cell? ⟨w8.heap.size, 2, none⟩ = some (.slice z3 W1.length k3) ∧ (w22.alloc (.cells #[u0, u1, u2] 51)).cell? ⟨w9.heap.size, 0, none⟩ = some (.slice ga (okL (adB P0 S0 W0 P1 S1 W1) P0).length gi) ∧ (w22.alloc (.cells #[u0, u1, u2] 51)).cell? ⟨w9.heap.size, 1, none⟩ = some (.slice gb (okL (adB P0 S0 W0 P1 S1 W1) S0).length gj) ∧ (w22.alloc (.cells #[u0, u1, u2] 51)).cell? ⟨w9.heap.size, 2, none⟩ = some (.slice gc (okL (adB P0 S0 W0 P1 S1 W1) (adTo W0 W1 W0.length)).length gk) := fun u0 u1 u2 => ⟨(A0.alloc (.cells #[u0, u1, u2] 51)).cell 0, (A0.alloc (.cells #[u0, u1, u2] 51)).cell 1, (A0.alloc (.cells #[u0, u1, u2] 51)).cell 2, (A1.alloc (.cells #[u0, u1, u2] 51)).cell 0, (A1.alloc (.cells #[u0, u1, u2] 51)).cell 1, (A1.alloc (.cells #[u0, u1, u2] 51)).cell 2, (Bu.alloc (.cells #[u0, u1, u2] 51)).cell 0, (Bu.alloc (.cells #[u0, u1, u2] 51)).cell 1, (Bu.alloc (.cells #[u0, u1, u2] 51)).cell 2, (X0.alloc (.cells #[u0, u1, u2] 51)).cell 0, (X0.alloc (.cells #[u0, u1, u2] 51)).cell 1, (X0.alloc (.cells #[u0, u1, u2] 51)).cell 2, (X1.alloc (.cells #[u0, u1, u2] 51)).cell 0, (X1.alloc (.cells #[u0, u1, u2] 51)).cell 1, (X1.alloc (.cells #[u0, u1, u2] 51)).cell 2, (Bg.alloc (.cells #[u0, u1, u2] 51)).cell 0, (Bg.alloc (.cells #[u0, u1, u2] 51)).cell 1, (Bg.alloc (.cells #[u0, u1, u2] 51)).cell 2⟩; have rg_h := h.block; have HEof : ∀ EN : Nat, w19.heap.size ≤ EN → Blk w22 EN 51 #[.slice none 0 0, .slice none 0 0, .slice none 0 0] → ∀ u0 u1 u2 : Value, (((w22.setCell ⟨EN, 0, none⟩ u0).setCell ⟨EN, 1, none⟩ u1).setCell ⟨EN, 2, none⟩ u2).cell? ⟨w.heap.size, 0, none⟩ = some (a0) ∧ (((w22.setCell ⟨EN, 0, none⟩ u0).setCell ⟨EN, 1, none⟩ u1).setCell ⟨EN, 2, none⟩ u2).cell? ⟨w.heap.size, 1, none⟩ = some (b0) ∧ (((w22.setCell ⟨EN, 0, none⟩ u0).setCell ⟨EN, 1, none⟩ u1).setCell ⟨EN, 2, none⟩ u2).cell? ⟨w.heap.size, 2, none⟩ = some (c0) ∧ (((w22.setCell ⟨EN, 0, none⟩ u0).setCell ⟨EN, 1, none⟩ u1).setCell ⟨EN, 2, none⟩ u2).cell? ⟨w.heap.size + 1, 0, none⟩ = some (a1) ∧ (((w22.setCell ⟨EN, 0, none⟩ u0).setCell ⟨EN, 1, none⟩ u1).setCell ⟨EN, 2, none⟩ u2).cell? ⟨w.heap.size + 1, 1, none⟩ = some (b1) ∧ (((w22.setCell ⟨EN, 0, none⟩ u0).setCell ⟨EN, 1, none⟩ u1).setCell ⟨EN, 2, none⟩ u2).cell? ⟨w.heap.size + 1, 2, none⟩ = some (c1) ∧ (((w22.setCell ⟨EN, 0, none⟩ u0).setCell ⟨EN, 1, none⟩ u1).setCell ⟨EN, 2, none⟩ u2).cell? ⟨uN, 0, none⟩ = some (.slice ua (okL (adB P0 S0 W0 P1 S1 W1) P0).length ui) ∧ (((w22.setCell ⟨EN, 0, none⟩ u0).setCell ⟨EN, 1, none⟩ u1).setCell ⟨EN, 2, none⟩ u2).cell? ⟨uN, 1, none⟩ = some (.slice ub (okL (adB P0 S0 W0 P1 S1 W1) S0).length uj) ∧ (((w22.setCell ⟨EN, 0, none⟩ u0).setCell ⟨EN, 1, none⟩ u1).setCell ⟨EN, 2, none⟩ u2).cell? ⟨uN, 2, none⟩ = some (.slice uc (okL (adB P0 S0 W0 P1 S1 W1) (adTo W0 W1 W0.length)).length uk) ∧ (((w22.setCell ⟨EN, 0, none⟩ u0).setCell ⟨EN, 1, none⟩ u1).setCell ⟨EN, 2, none⟩ u2).cell? ⟨w7.heap.size, 0, none⟩ = some (.slice x2 P0.length i2) ∧ (((w22.setCell ⟨EN, 0, none⟩ u0).setCell ⟨EN, 1, none⟩ u1).setCell ⟨EN, 2, none⟩ u2).cell? ⟨w7.heap.size, 1, none⟩ = some (.slice y2 S0.length j2) ∧ (((w22.setCell ⟨EN, 0, none⟩ u0).setCell ⟨EN, 1, none⟩ u1).setCell ⟨EN, 2, none⟩ u2).cell? ⟨w7.heap.size, 2, none⟩ = some (.slice z2 W0.length k2) ∧ (((w22.setCell ⟨EN, 0, none⟩ u0).setCell ⟨EN, 1, none⟩ u1).setCell ⟨EN, 2, none⟩ u2).cell? ⟨w8.heap.size, 0, none⟩ = some (.slice x3 P1.length i3) ∧ (((w22.setCell ⟨EN, 0, none⟩ u0).setCell ⟨EN, 1, none⟩ u1).setCell ⟨EN, 2, none⟩ u2).cell? ⟨w8.heap.size, 1, none⟩ = some (.slice y3 S1.length j3) ∧ (((w22.setCell ⟨EN, 0, none⟩ u0).setCell ⟨EN, 1, none⟩ u1).setCell ⟨EN, 2, none⟩ u2).cell? ⟨w8.heap.size, 2, none⟩ = some (.slice z3 W1.length k3) ∧ (((w22.setCell ⟨EN, 0, none⟩ u0).setCell ⟨EN, 1, none⟩ u1).setCell ⟨EN, 2, none⟩ u2).cell? ⟨w9.heap.size, 0, none⟩ = some (.slice ga (okL (adB P0 S0 W0 P1 S1 W1) P0).length gi) ∧ (((w22.setCell ⟨EN, 0, none⟩ u0).setCell ⟨EN, 1, none⟩ u1).setCell ⟨EN, 2, none⟩ u2).cell? ⟨w9.heap.size, 1, none⟩ = some (.slice gb (okL (adB P0 S0 W0 P1 S1 W1) S0).length gj) ∧ (((w22.setCell ⟨EN, 0, none⟩ u0).setCell ⟨EN, 1, none⟩ u1).setCell ⟨EN, 2, none⟩ u2).cell? ⟨w9.heap.size, 2, none⟩ = some (.slice gc (okL (adB P0 S0 W0 P1 S1 W1) (adTo W0 W1 W0.length)).length gk) := fun EN hEN _ u0 u1 u2 => have hkk : Keeps (fun k => k = EN) w22 (((w22.setCell ⟨EN, 0, none⟩ u0).setCell ⟨EN, 1, none⟩ u1).setCell ⟨EN, 2, none⟩ u2) := (((Keeps.refl (fun k => k = _) w22).setCell (p := ⟨EN, 0, none⟩) rfl u0).setCell (p := ⟨EN, 1, none⟩) rfl u1).setCell (p := ⟨EN, 2, none⟩) rfl u2; ⟨(A0.keeps hkk (by omega)).cell 0, (A0.keeps hkk (by omega)).cell 1, (A0.keeps hkk (by omega)).cell 2, (A1.keeps hkk (by omega)).cell 0, (A1.keeps hkk (by omega)).cell 1, (A1.keeps hkk (by omega)).cell 2, (Bu.keeps hkk (by omega)).cell 0, (Bu.keeps hkk (by omega)).cell 1, (Bu.keeps hkk (by omega)).cell 2, (X0.keeps hkk (by omega)).cell 0, (X0.keeps hkk (by omega)).cell 1, (X0.keeps hkk (by omega)).cell 2, (X1.keeps hkk (by omega)).cell 0, (X1.keeps hkk (by omega)).cell 1, (X1.keeps hkk (by omega)).cell 2, (Bg.keeps hkk (by omega)).cell 0, (Bg.keeps hkk (by omega)).cell 1, (Bg.keeps hkk (by omega)).cell 2⟩; (try have HE := fun (u0 : Value) (u1 : Value) (u2 : Value) => HEof _ (by first | exact Nat.le_refl _ | omega) E u0 u1 u2); (try have r0 := Blk.free E 0); (try have r1 := Blk.free E 1); (try have r2 := Blk.free E 2); (try have s0 := Blk.cell E 0); (try have s1 := Blk.cell E 1); (try have s2 := Blk.cell E 2))
              | (go_at_call 45; have hst : Below w19.heap.size w19 (w19.alloc (.cells #[.slice none 0 0, .slice none 0 0, .slice none 0 0] 51)).drew := ((Below.refl _ _).alloc (Nat.le_refl _) _).drew; have ht1 : w19.heap.size + 1 ≤ (w19.alloc (.cells #[.slice none 0 0, .slice none 0 0, .slice none 0 0] 51)).drew.heap.size := (by simp); have fr := below_step fr hst; have A0 := A0.stays hst; have A1 := A1.stays hst; have Bu := Bu.stays hst; have X0 := X0.stays hst; have X1 := X1.stays hst; have Bg := Bg.stays hst; have u := u.below hst; have g := g.below hst; (with_reducible refine (toCluster_c _ _ _ P0 S0 W0 _ (ha0.below fr (Nat.le_refl _)) (hb0.below fr (Nat.le_refl _)) (hc0.below fr (Nat.le_refl _)) (by omega) (by omega) (by omega)).mono ?_); rintro e w20 ⟨x6, i6, y6, j6, z6, k6, rfl, o6, hq⟩; have sz1 := Below.size hq; have A0 := A0.stays hq; have A1 := A1.stays hq; have Bu := Bu.stays hq; have X0 := X0.stays hq; have X1 := X1.stays hq; have Bg := Bg.stays hq; have u := u.below hq; have g := g.below hq; have fr := below_step fr hq; have E := ((Blk.new w19 51 #[.slice none 0 0, .slice none 0 0, .slice none 0 0]).stays (show Below (w19.alloc (.cells #[.slice none 0 0, .slice none 0 0, .slice none 0 0] 51)).heap.size (w19.alloc (.cells #[.slice none 0 0, .slice none 0 0, .slice none 0 0] 51)) (w19.alloc (.cells #[.slice none 0 0, .slice none 0 0, .slice none 0 0] 51)).drew from (Below.refl _ _).drew)).stays hq; have HC : w20.cell? ⟨w.heap.size, 0, none⟩ = some (a0) ∧ w20.cell? ⟨w.heap.size, 1, none⟩ = some (b0) ∧ w20.cell? ⟨w.heap.size, 2, none⟩ = some (c0) ∧ w20.cell? ⟨w.heap.size + 1, 0, none⟩ = some (a1) ∧ w20.cell? ⟨w.heap.size + 1, 1, none⟩ = some (b1) ∧ w20.cell? ⟨w.heap.size + 1, 2, none⟩ = some (c1) ∧ w20.cell? ⟨uN, 0, none⟩ = some (.slice ua (okL (adB P0 S0 W0 P1 S1 W1) P0).length ui) ∧ w20.cell? ⟨uN, 1, none⟩ = some (.slice ub (okL (adB P0 S0 W0 P1 S1 W1) S0).length uj) ∧ w20.cell? ⟨uN, 2, none⟩ = some (.slice uc (okL (adB P0 S0 W0 P1 S1 W1) (adTo W0 W1 W0.length)).length uk) ∧ w20.cell? ⟨w7.heap.size, 0, none⟩ = some (.slice x2 P0.length i2) ∧ w20.cell? ⟨w7.heap.size, 1, none⟩ = some (.slice y2 S0.length j2) ∧ w20.cell? ⟨w7.heap.size, 2, none⟩ = some (.slice z2 W0.length k2) ∧ w20.cell? ⟨w8.heap.size, 0, none⟩ = some (.slice x3 P1.length i3) ∧ w20.cell? ⟨w8.heap.size, 1, none⟩ = some (.slice y3 S1.length j3) ∧ w20.cell? ⟨w8.heap.size, 2, none⟩ = some (.slice z3 W1.length k3) ∧ w20.cell? ⟨w9.heap.size, 0, none⟩ = some (.slice ga (okL (adB P0 S0 W0 P1 S1 W1) P0).length gi) ∧ w20.cell? ⟨w9.heap.size, 1, none⟩ = some (.slice gb (okL (adB P0 S0 W0 P1 S1 W1) S0).length gj) ∧ w20.cell? ⟨w9.heap.size, 2, none⟩ = some (.slice gc (okL (adB P0 S0 W0 P1 S1 W1) (adTo W0 W1 W0.length)).length gk) := ⟨A0.cell 0, A0.cell 1, A0.cell 2, A1.cell 0, A1.cell 1, A1.cell 2, Bu.cell 0, Bu.cell 1, Bu.cell 2, X0.cell 0, X0.cell 1, X0.cell 2, X1.cell 0, X1.cell 1, X1.cell 2, Bg.cell 0, Bg.cell 1, Bg.cell 2⟩; have HA : ∀ u0 u1 u2 : Value, (w20.alloc (.cells #[u0, u1, u2] 51)).cell? ⟨w.heap.size, 0, none⟩ = some (a0) ∧ (w20.alloc (.cells #[u0, u1, u2] 51)).cell? ⟨w.heap.size, 1, none⟩ = some (b0) ∧ (w20.alloc (.cells #[u0, u1, u2] 51)).cell? ⟨w.heap.size, 2, none⟩ = some (c0) ∧ (w20.alloc (.cells #[u0, u1, u2] 51)).cell? ⟨w.heap.size + 1, 0, none⟩ = some (a1) ∧ (w20.alloc (.cells #[u0, u1, u2] 51)).cell? ⟨w.heap.size + 1, 1, none⟩ = some (b1) ∧ (w20.alloc (.cells #[u0, u1, u2] 51)).cell? ⟨w.heap.size + 1, 2, none⟩ = some (c1) ∧ (w20.alloc (.cells #[u0, u1, u2] 51)).cell? ⟨uN, 0, none⟩ = some (.slice ua (okL (adB P0 S0 W0 P1 S1 W1) P0).length ui) ∧ (w20.alloc (.cells #[u0, u1, u2] 51)).cell? ⟨uN, 1, none⟩ = some (.slice ub (okL (adB P0 S0 W0 P1 S1 W1) S0).length uj) ∧ (w20.alloc (.cells #[u0, u1, u2] 51)).cell? ⟨uN, 2, none⟩ = some (.slice uc (okL (adB P0 S0 W0 P1 S1 W1) (adTo W0 W1 W0.length)).length uk) ∧ (w20.alloc (.cells #[u0, u1, u2] 51)).cell? ⟨w7.heap.size, 0, none⟩ = some (.slice x2 P0.length i2) ∧ (w20.alloc (.cells #[u0, u1, u2] 51)).cell? ⟨w7.heap.size, 1, none⟩ = some (.slice y2 S0.length j2) ∧ (w20.alloc (.cells #[u0, u1, u2] 51)).cell? ⟨w7.heap.size, 2, none⟩ = some (.slice z2 W0.length k2) ∧ (w20.alloc (.cells #[u0, u1, u2] 51)).cell? ⟨w8.heap.size, 0, none⟩ = some (.slice x3 P1.length i3) ∧ (w20.alloc (.cells #[u0, u1, u2] 51)).cell? ⟨w8.heap.size, 1, none⟩ = some (.slice y3 S1.length j3) ∧ (w20.alloc (.cells #[u0, u1, u2] 51)).cell? ⟨w8.heap.size, 2, none⟩ = some (.slice z3 W1.length k3) ∧ (w20.alloc (.cells #[u0, u1, u2] 51)).cell? ⟨w9.heap.size, 0, none⟩ = some (.slice ga (okL (adB P0 S0 W0 P1 S1 W1) P0).length gi) ∧ (w20.alloc (.cells #[u0, u1, u2] 51)).cell? ⟨w9.heap.size, 1, none⟩ = some (.slice gb (okL (adB P0 S0 W0 P1 S1 W1) S0).length gj) ∧ (w20.alloc (.cells #[u0, u1, u2] 51)).cell? ⟨w9.heap.size, 2, none⟩ = some (.slice gc (okL (adB P0 S0 W0 P1 S1 W1) (adTo W0 W1 W0.length)).length gk) := fun u0 u1 u2 => ⟨(A0.alloc (.cells #[u0, u1, u2] 51)).cell 0, (A0.alloc (.cells #[u0, u1, u2] 51)).cell 1, (A0.alloc (.cells #[u0, u1, u2] 51)).cell 2, (A1.alloc (.cells #[u0, u1, u2] 51)).cell 0, (A1.alloc (.cells #[u0, u1, u2] 51)).cell 1, (A1.alloc (.cells #[u0, u1, u2] 51)).cell 2, (Bu.alloc (.cells #[u0, u1, u2] 51)).cell 0, (Bu.alloc (.cells #[u0, u1, u2] 51)).cell 1, (Bu.alloc (.cells #[u0, u1, u2] 51)).cell 2, (X0.alloc (.cells #[u0, u1, u2] 51)).cell 0, (X0.alloc (.cells #[u0, u1, u2] 51)).cell 1, (X0.alloc (.cells #[u0, u1, u2] 51)).cell 2, (X1.alloc (.cells #[u0, u1, u2] 51)).cell 0, (X1.alloc (.cells #[u0, u1, u2] 51)).cell 1, (X1.alloc (.cells #[u0, u1, u2] 51)).cell 2, (Bg.alloc (.cells #[u0, u1, u2] 51)).cell 0, (Bg.alloc (.cells #[u0, u1, u2] 51)).cell 1, (Bg.alloc (.cells #[u0, u1, u2] 51)).cell 2⟩))
          · have E5 := Blk.new w22 51 #[.slice ha (okL (adB P0 S0 W0 P1 S1 W1) P0).length hi, .slice hb (okL (adB P0 S0 W0 P1 S1 W1) S0).length hj, .slice hc (okL (adB P0 S0 W0 P1 S1 W1) (adTo W0 W1 W0.length)).length hk]
            have hst : Below w22.heap.size w22 (w22.alloc (.cells #[.slice ha (okL (adB P0 S0 W0 P1 S1 W1) P0).length hi, .slice hb (okL (adB P0 S0 W0 P1 S1 W1) S0).length hj, .slice hc (okL (adB P0 S0 W0 P1 S1 W1) (adTo W0 W1 W0.length)).length hk] 51)) := (Below.refl _ _).alloc (Nat.le_refl _) _
            have A0 := A0.stays hst
            have A1 := A1.stays hst
            have Bu := Bu.stays hst
            have X0 := X0.stays hst
            have X1 := X1.stays hst
            have Bg := Bg.stays hst
            have u := u.below hst
            have g := g.below hst
            have h := h.below hst
            have fr := below_step fr hst
            have hzz : w19.heap.size ≤ (w22.alloc (.cells #[.slice ha (okL (adB P0 S0 W0 P1 S1 W1) P0).length hi, .slice hb (okL (adB P0 S0 W0 P1 S1 W1) S0).length hj, .slice hc (okL (adB P0 S0 W0 P1 S1 W1) (adTo W0 W1 W0.length)).length hk] 51)).heap.size := Nat.le_trans (by omega : w19.heap.size ≤ w22.heap.size) hst.size
            have h := h.base_le (base' := w19.heap.size) (by omega)
            go_wp2
            go_meet
            case rel => exact ⟨w22.heap.size, _, _, _, _, _, _, rfl, rfl, h, E5, by omega, A0, A1, Bu, X0, X1, Bg, u.base_le (Nat.zero_le _), g.base_le (Nat.zero_le _), fr, hzz⟩
          · have E5 : Blk (((w22.setCell ⟨w21.heap.size, 0, none⟩ (.slice ha (okL (adB P0 S0 W0 P1 S1 W1) P0).length hi)).setCell ⟨w21.heap.size, 1, none⟩ (.slice hb (okL (adB P0 S0 W0 P1 S1 W1) S0).length hj)).setCell ⟨w21.heap.size, 2, none⟩ (.slice hc (okL (adB P0 S0 W0 P1 S1 W1) (adTo W0 W1 W0.length)).length hk)) (w21.heap.size) 51 #[.slice ha (okL (adB P0 S0 W0 P1 S1 W1) P0).length hi, .slice hb (okL (adB P0 S0 W0 P1 S1 W1) S0).length hj, .slice hc (okL (adB P0 S0 W0 P1 S1 W1) (adTo W0 W1 W0.length)).length hk] := (((E.set 0 (.slice ha (okL (adB P0 S0 W0 P1 S1 W1) P0).length hi)).set 1 (.slice hb (okL (adB P0 S0 W0 P1 S1 W1) S0).length hj)).set 2 (.slice hc (okL (adB P0 S0 W0 P1 S1 W1) (adTo W0 W1 W0.length)).length hk))
            have hk5 : Keeps (fun k => k = w21.heap.size) w22 (((w22.setCell ⟨w21.heap.size, 0, none⟩ (.slice ha (okL (adB P0 S0 W0 P1 S1 W1) P0).length hi)).setCell ⟨w21.heap.size, 1, none⟩ (.slice hb (okL (adB P0 S0 W0 P1 S1 W1) S0).length hj)).setCell ⟨w21.heap.size, 2, none⟩ (.slice hc (okL (adB P0 S0 W0 P1 S1 W1) (adTo W0 W1 W0.length)).length hk)) := (((Keeps.refl (fun k => k = w21.heap.size) w22).setCell (p := ⟨w21.heap.size, 0, none⟩) rfl (.slice ha (okL (adB P0 S0 W0 P1 S1 W1) P0).length hi)).setCell (p := ⟨w21.heap.size, 1, none⟩) rfl (.slice hb (okL (adB P0 S0 W0 P1 S1 W1) S0).length hj)).setCell (p := ⟨w21.heap.size, 2, none⟩) rfl (.slice hc (okL (adB P0 S0 W0 P1 S1 W1) (adTo W0 W1 W0.length)).length hk)
            have A0 := A0.keeps hk5 (by omega)
            have A1 := A1.keeps hk5 (by omega)
            have Bu := Bu.keeps hk5 (by omega)
            have X0 := X0.keeps hk5 (by omega)
            have X1 := X1.keeps hk5 (by omega)
            have Bg := Bg.keeps hk5 (by omega)
            have u := u.keeps hk5 (fun k h1 h2 => by have := rg_u k h1; omega)
            have g := g.keeps hk5 (fun k h1 h2 => by have := rg_g k h1; omega)
            have h := h.keeps hk5 (fun k h1 h2 => by have := rg_h k h1; omega)
            have fr := fr.trans (hk5.below (Below.size fr) (fun k hk => by omega))
            have hzz : w19.heap.size ≤ (((w22.setCell ⟨w21.heap.size, 0, none⟩ (.slice ha (okL (adB P0 S0 W0 P1 S1 W1) P0).length hi)).setCell ⟨w21.heap.size, 1, none⟩ (.slice hb (okL (adB P0 S0 W0 P1 S1 W1) S0).length hj)).setCell ⟨w21.heap.size, 2, none⟩ (.slice hc (okL (adB P0 S0 W0 P1 S1 W1) (adTo W0 W1 W0.length)).length hk)).heap.size := Nat.le_trans (by omega : w19.heap.size ≤ w22.heap.size) hk5.size
            have h := h.base_le (base' := w19.heap.size) (by omega)
            go_wp2
            go_meet
            case rel => exact ⟨w21.heap.size, _, _, _, _, _, _, rfl, rfl, h, E5, by omega, A0, A1, Bu, X0, X1, Bg, u.base_le (Nat.zero_le _), g.base_le (Nat.zero_le _), fr, hzz⟩
          · have E5 : Blk (((w22.setCell ⟨w20.heap.size, 0, none⟩ (.slice ha (okL (adB P0 S0 W0 P1 S1 W1) P0).length hi)).setCell ⟨w20.heap.size, 1, none⟩ (.slice hb (okL (adB P0 S0 W0 P1 S1 W1) S0).length hj)).setCell ⟨w20.heap.size, 2, none⟩ (.slice hc (okL (adB P0 S0 W0 P1 S1 W1) (adTo W0 W1 W0.length)).length hk)) (w20.heap.size) 51 #[.slice ha (okL (adB P0 S0 W0 P1 S1 W1) P0).length hi, .slice hb (okL (adB P0 S0 W0 P1 S1 W1) S0).length hj, .slice hc (okL (adB P0 S0 W0 P1 S1 W1) (adTo W0 W1 W0.length)).length hk] := (((E.set 0 (.slice ha (okL (adB P0 S0 W0 P1 S1 W1) P0).length hi)).set 1 (.slice hb (okL (adB P0 S0 W0 P1 S1 W1) S0).length hj)).set 2 (.slice hc (okL (adB P0 S0 W0 P1 S1 W1) (adTo W0 W1 W0.length)).length hk))
            have hk5 : Keeps (fun k => k = w20.heap.size) w22 (((w22.setCell ⟨w20.heap.size, 0, none⟩ (.slice ha (okL (adB P0 S0 W0 P1 S1 W1) P0).length hi)).setCell ⟨w20.heap.size, 1, none⟩ (.slice hb (okL (adB P0 S0 W0 P1 S1 W1) S0).length hj)).setCell ⟨w20.heap.size, 2, none⟩ (.slice hc (okL (adB P0 S0 W0 P1 S1 W1) (adTo W0 W1 W0.length)).length hk)) := (((Keeps.refl (fun k => k = w20.heap.size) w22).setCell (p := ⟨w20.heap.size, 0, none⟩) rfl (.slice ha (okL (adB P0 S0 W0 P1 S1 W1) P0).length hi)).setCell (p := ⟨w20.heap.size, 1, none⟩) rfl (.slice hb (okL (adB P0 S0 W0 P1 S1 W1) S0).length hj)).setCell (p := ⟨w20.heap.size, 2, none⟩) rfl (.slice hc (okL (adB P0 S0 W0 P1 S1 W1) (adTo W0 W1 W0.length)).length hk)
            have A0 := A0.keeps hk5 (by omega)
            have A1 := A1.keeps hk5 (by omega)
            have Bu := Bu.keeps hk5 (by omega)
            have X0 := X0.keeps hk5 (by omega)
            have X1 := X1.keeps hk5 (by omega)
            have Bg := Bg.keeps hk5 (by omega)
            have u := u.keeps hk5 (fun k h1 h2 => by have := rg_u k h1; omega)
            have g := g.keeps hk5 (fun k h1 h2 => by have := rg_g k h1; omega)
            have h := h.keeps hk5 (fun k h1 h2 => by have := rg_h k h1; omega)
            have fr := fr.trans (hk5.below (Below.size fr) (fun k hk => by omega))
            have hzz : w19.heap.size ≤ (((w22.setCell ⟨w20.heap.size, 0, none⟩ (.slice ha (okL (adB P0 S0 W0 P1 S1 W1) P0).length hi)).setCell ⟨w20.heap.size, 1, none⟩ (.slice hb (okL (adB P0 S0 W0 P1 S1 W1) S0).length hj)).setCell ⟨w20.heap.size, 2, none⟩ (.slice hc (okL (adB P0 S0 W0 P1 S1 W1) (adTo W0 W1 W0.length)).length hk)).heap.size := Nat.le_trans (by omega : w19.heap.size ≤ w22.heap.size) hk5.size
            have h := h.base_le (base' := w19.heap.size) (by omega)
            go_wp2
            go_meet
            case rel => exact ⟨w20.heap.size, _, _, _, _, _, _, rfl, rfl, h, E5, by omega, A0, A1, Bu, X0, X1, Bg, u.base_le (Nat.zero_le _), g.base_le (Nat.zero_le _), fr, hzz⟩
          · have E5 : Blk (((w22.setCell ⟨w19.heap.size, 0, none⟩ (.slice ha (okL (adB P0 S0 W0 P1 S1 W1) P0).length hi)).setCell ⟨w19.heap.size, 1, none⟩ (.slice hb (okL (adB P0 S0 W0 P1 S1 W1) S0).length hj)).setCell ⟨w19.heap.size, 2, none⟩ (.slice hc (okL (adB P0 S0 W0 P1 S1 W1) (adTo W0 W1 W0.length)).length hk)) (w19.heap.size) 51 #[.slice ha (okL (adB P0 S0 W0 P1 S1 W1) P0).length hi, .slice hb (okL (adB P0 S0 W0 P1 S1 W1) S0).length hj, .slice hc (okL (adB P0 S0 W0 P1 S1 W1) (adTo W0 W1 W0.length)).length hk] := (((E.set 0 (.slice ha (okL (adB P0 S0 W0 P1 S1 W1) P0).length hi)).set 1 (.slice hb (okL (adB P0 S0 W0 P1 S1 W1) S0).length hj)).set 2 (.slice hc (okL (adB P0 S0 W0 P1 S1 W1) (adTo W0 W1 W0.length)).length hk))
            have hk5 : Keeps (fun k => k = w19.heap.size) w22 (((w22.setCell ⟨w19.heap.size, 0, none⟩ (.slice ha (okL (adB P0 S0 W0 P1 S1 W1) P0).length hi)).setCell ⟨w19.heap.size, 1, none⟩ (.slice hb (okL (adB P0 S0 W0 P1 S1 W1) S0).length hj)).setCell ⟨w19.heap.size, 2, none⟩ (.slice hc (okL (adB P0 S0 W0 P1 S1 W1) (adTo W0 W1 W0.length)).length hk)) := (((Keeps.refl (fun k => k = w19.heap.size) w22).setCell (p := ⟨w19.heap.size, 0, none⟩) rfl (.slice ha (okL (adB P0 S0 W0 P1 S1 W1) P0).length hi)).setCell (p := ⟨w19.heap.size, 1, none⟩) rfl (.slice hb (okL (adB P0 S0 W0 P1 S1 W1) S0).length hj)).setCell (p := ⟨w19.heap.size, 2, none⟩) rfl (.slice hc (okL (adB P0 S0 W0 P1 S1 W1) (adTo W0 W1 W0.length)).length hk)
            have A0 := A0.keeps hk5 (by omega)
            have A1 := A1.keeps hk5 (by omega)
            have Bu := Bu.keeps hk5 (by omega)
            have X0 := X0.keeps hk5 (by omega)
            have X1 := X1.keeps hk5 (by omega)
            have Bg := Bg.keeps hk5 (by omega)
            have u := u.keeps hk5 (fun k h1 h2 => by have := rg_u k h1; omega)
            have g := g.keeps hk5 (fun k h1 h2 => by have := rg_g k h1; omega)
            have h := h.keeps hk5 (fun k h1 h2 => by have := rg_h k h1; omega)
            have fr := fr.trans (hk5.below (Below.size fr) (fun k hk => by omega))
            have hzz : w19.heap.size ≤ (((w22.setCell ⟨w19.heap.size, 0, none⟩ (.slice ha (okL (adB P0 S0 W0 P1 S1 W1) P0).length hi)).setCell ⟨w19.heap.size, 1, none⟩ (.slice hb (okL (adB P0 S0 W0 P1 S1 W1) S0).length hj)).setCell ⟨w19.heap.size, 2, none⟩ (.slice hc (okL (adB P0 S0 W0 P1 S1 W1) (adTo W0 W1 W0.length)).length hk)).heap.size := Nat.le_trans (by omega : w19.heap.size ≤ w22.heap.size) hk5.size
            have h := h.base_le (base' := w19.heap.size) (by omega)
            go_wp2
            go_meet
            case rel => exact ⟨w19.heap.size, _, _, _, _, _, _, rfl, rfl, h, E5, by omega, A0, A1, Bu, X0, X1, Bg, u.base_le (Nat.zero_le _), g.base_le (Nat.zero_le _), fr, hzz⟩
        case rest =>
          obtain ⟨hN, ha, hi, hb, hj, hc, hk, rfl, rfl, h, Bh, hNh, A0, A1, Bu, X0, X1, Bg, u, g, fr, szh⟩ := hcut
          have rg_h := h.block
          have lth := Bh.lt
          obtain ⟨w23, rfl⟩ : ∃ wz : World, wz = wc := ⟨_, rfl⟩
          have q_A0_0 := A0.cell 0
          have q_A0_1 := A0.cell 1
          have q_A0_2 := A0.cell 2
          have q_A1_0 := A1.cell 0
          have q_A1_1 := A1.cell 1
          have q_A1_2 := A1.cell 2
          have q_Bu_0 := Bu.cell 0
          have q_Bu_1 := Bu.cell 1
          have q_Bu_2 := Bu.cell 2
          have q_X0_0 := X0.cell 0
          have q_X0_1 := X0.cell 1
          have q_X0_2 := X0.cell 2
          have q_X1_0 := X1.cell 0
          have q_X1_1 := X1.cell 1
          have q_X1_2 := X1.cell 2
          have q_Bg_0 := Bg.cell 0
          have q_Bg_1 := Bg.cell 1
          have q_Bg_2 := Bg.cell 2
          have q_Bh_0 := Bh.cell 0
          have q_Bh_1 := Bh.cell 1
          have q_Bh_2 := Bh.cell 2
          go_wp2_with fail
          clear q_A0_0 q_A0_1 q_A0_2 q_A1_0 q_A1_1 q_A1_2 q_Bu_0 q_Bu_1 q_Bu_2 q_X0_0 q_X0_1 q_X0_2 q_X1_0 q_X1_1 q_X1_2 q_Bg_0 q_Bg_1 q_Bg_2 q_Bh_0 q_Bh_1 q_Bh_2
          refine (eqCluster_c _ _ _ _ _ _ (okL (adB P0 S0 W0 P1 S1 W1) P0) (okL (adB P0 S0 W0 P1 S1 W1) S0) (okL (adB P0 S0 W0 P1 S1 W1) (adTo W0 W1 W0.length)) _ h.a.rd h.b.rd h.c.rd u.a.rd u.b.rd u.c.rd).mono ?_
          rintro e w24 ⟨rfl, hq⟩
          have A0 := A0.stays hq
          have A1 := A1.stays hq
          have Bu := Bu.stays hq
          have X0 := X0.stays hq
          have X1 := X1.stays hq
          have Bg := Bg.stays hq
          have Bh := Bh.stays hq
          have u := u.below hq
          have g := g.below hq
          have h := h.below hq
          have sz24 := Below.size hq
          have fr := below_step fr hq
          have q_A0_0 := A0.cell 0
          have q_A0_1 := A0.cell 1
          have q_A0_2 := A0.cell 2
          have q_A1_0 := A1.cell 0
          have q_A1_1 := A1.cell 1
          have q_A1_2 := A1.cell 2
          have q_Bu_0 := Bu.cell 0
          have q_Bu_1 := Bu.cell 1
          have q_Bu_2 := Bu.cell 2
          have q_X0_0 := X0.cell 0
          have q_X0_1 := X0.cell 1
          have q_X0_2 := X0.cell 2
          have q_X1_0 := X1.cell 0
          have q_X1_1 := X1.cell 1
          have q_X1_2 := X1.cell 2
          have q_Bg_0 := Bg.cell 0
          have q_Bg_1 := Bg.cell 1
          have q_Bg_2 := Bg.cell 2
          have q_Bh_0 := Bh.cell 0
          have q_Bh_1 := Bh.cell 1
          have q_Bh_2 := Bh.cell 2
          go_wp2_with fail
          clear q_A0_0 q_A0_1 q_A0_2 q_A1_0 q_A1_1 q_A1_2 q_Bu_0 q_Bu_1 q_Bu_2 q_X0_0 q_X0_1 q_X0_2 q_X1_0 q_X1_1 q_X1_2 q_Bg_0 q_Bg_1 q_Bg_2 q_Bh_0 q_Bh_1 q_Bh_2
          refine (heldCluster_c _ _ _ (okL (adB P0 S0 W0 P1 S1 W1) P0).length (okL (adB P0 S0 W0 P1 S1 W1) S0).length (okL (adB P0 S0 W0 P1 S1 W1) (adTo W0 W1 W0.length)).length 1 _ g.a.rd g.b.rd g.c.rd (by omega) (by omega) ⟨(by omega), (by omega), (by omega)⟩).mono ?_
          rintro e w25 ⟨rfl, hq⟩
          have A0 := A0.stays hq
          have A1 := A1.stays hq
          have Bu := Bu.stays hq
          have X0 := X0.stays hq
          have X1 := X1.stays hq
          have Bg := Bg.stays hq
          have Bh := Bh.stays hq
          have u := u.below hq
          have g := g.below hq
          have h := h.below hq
          have sz25 := Below.size hq
          have fr := below_step fr hq
          have q_A0_0 := A0.cell 0
          have q_A0_1 := A0.cell 1
          have q_A0_2 := A0.cell 2
          have q_A1_0 := A1.cell 0
          have q_A1_1 := A1.cell 1
          have q_A1_2 := A1.cell 2
          have q_Bu_0 := Bu.cell 0
          have q_Bu_1 := Bu.cell 1
          have q_Bu_2 := Bu.cell 2
          have q_X0_0 := X0.cell 0
          have q_X0_1 := X0.cell 1
          have q_X0_2 := X0.cell 2
          have q_X1_0 := X1.cell 0
          have q_X1_1 := X1.cell 1
          have q_X1_2 := X1.cell 2
          have q_Bg_0 := Bg.cell 0
          have q_Bg_1 := Bg.cell 1
          have q_Bg_2 := Bg.cell 2
          have q_Bh_0 := Bh.cell 0
          have q_Bh_1 := Bh.cell 1
          have q_Bh_2 := Bh.cell 2
          go_wp2
          go_ret
          exact ⟨rfl, fr⟩
    · skip
      have A0 := Blk.new w 49 #[a0, b0, c0]
      have hal : Below w.heap.size w (w.alloc (.cells #[a0, b0, c0] 49)) := (Below.refl _ _).alloc (Nat.le_refl _) _
      have fr : Below w.heap.size w (w.alloc (.cells #[a0, b0, c0] 49)) := hal
      have sa8 : (w.alloc (.cells #[a0, b0, c0] 49)).heap.size ≤ w.heap.size + 1 := by simp
      have sb8 : w.heap.size + 1 ≤ (w.alloc (.cells #[a0, b0, c0] 49)).heap.size := by simp
      have A0 := A0.alloc (.cells #[a1, b1, c1] 49)
      have A1 := Blk.new (w.alloc (.cells #[a0, b0, c0] 49)) 49 #[a1, b1, c1]
      simp only [World.size_alloc] at A1
      have hal : Below (w.alloc (.cells #[a0, b0, c0] 49)).heap.size (w.alloc (.cells #[a0, b0, c0] 49)) ((w.alloc (.cells #[a0, b0, c0] 49)).alloc (.cells #[a1, b1, c1] 49)) := (Below.refl _ _).alloc (Nat.le_refl _) _
      have fr : Below w.heap.size w ((w.alloc (.cells #[a0, b0, c0] 49)).alloc (.cells #[a1, b1, c1] 49)) := below_step fr hal
      have sa9 : ((w.alloc (.cells #[a0, b0, c0] 49)).alloc (.cells #[a1, b1, c1] 49)).heap.size ≤ (w.alloc (.cells #[a0, b0, c0] 49)).heap.size + 1 := by simp
      have sb9 : (w.alloc (.cells #[a0, b0, c0] 49)).heap.size + 1 ≤ ((w.alloc (.cells #[a0, b0, c0] 49)).alloc (.cells #[a1, b1, c1] 49)).heap.size := by simp
      have q_A0_0 := A0.cell 0
      have q_A0_1 := A0.cell 1
      have q_A0_2 := A0.cell 2
      have q_A1_0 := A1.cell 0
      have q_A1_1 := A1.cell 1
      have q_A1_2 := A1.cell 2
      go_enter Try.func9, Try.ntmps9
      go_wp2_with fail
      clear q_A0_0 q_A0_1 q_A0_2 q_A1_0 q_A1_1 q_A1_2
      refine (szCluster_ok _ _ _ P0 S0 W0 1048576 _ (ha0.below fr (Nat.le_refl _)) (hb0.below fr (Nat.le_refl _)) (hc0.below fr (Nat.le_refl _)) (by omega) (by omega) (by omega)).mono ?_
      rintro e w1 ⟨rfl, hq⟩
      have A0 := A0.stays hq
      have A1 := A1.stays hq
      have sz1 := Below.size hq
      have fr := below_step fr hq
      have q_A0_0 := A0.cell 0
      have q_A0_1 := A0.cell 1
      have q_A0_2 := A0.cell 2
      have q_A1_0 := A1.cell 0
      have q_A1_1 := A1.cell 1
      have q_A1_2 := A1.cell 2
      go_wp2_with fail
      clear q_A0_0 q_A0_1 q_A0_2 q_A1_0 q_A1_1 q_A1_2
      refine (szCluster_no _ _ _ P1 S1 W1 (1048576 - P0.length - S0.length - W0.length) _ (ha1.below fr (Nat.le_refl _)) (hb1.below fr (Nat.le_refl _)) (hc1.below fr (Nat.le_refl _)) (by omega) (by omega) (by omega)).mono ?_
      rintro e w2 ⟨rfl, hq⟩
      have A0 := A0.stays hq
      have A1 := A1.stays hq
      have sz2 := Below.size hq
      have fr := below_step fr hq
      go_wp2
      go_ret
      exact ⟨rfl, fr⟩
  · skip
    have A0 := Blk.new w 49 #[a0, b0, c0]
    have hal : Below w.heap.size w (w.alloc (.cells #[a0, b0, c0] 49)) := (Below.refl _ _).alloc (Nat.le_refl _) _
    have fr : Below w.heap.size w (w.alloc (.cells #[a0, b0, c0] 49)) := hal
    have sa10 : (w.alloc (.cells #[a0, b0, c0] 49)).heap.size ≤ w.heap.size + 1 := by simp
    have sb10 : w.heap.size + 1 ≤ (w.alloc (.cells #[a0, b0, c0] 49)).heap.size := by simp
    have A0 := A0.alloc (.cells #[a1, b1, c1] 49)
    have A1 := Blk.new (w.alloc (.cells #[a0, b0, c0] 49)) 49 #[a1, b1, c1]
    simp only [World.size_alloc] at A1
    have hal : Below (w.alloc (.cells #[a0, b0, c0] 49)).heap.size (w.alloc (.cells #[a0, b0, c0] 49)) ((w.alloc (.cells #[a0, b0, c0] 49)).alloc (.cells #[a1, b1, c1] 49)) := (Below.refl _ _).alloc (Nat.le_refl _) _
    have fr : Below w.heap.size w ((w.alloc (.cells #[a0, b0, c0] 49)).alloc (.cells #[a1, b1, c1] 49)) := below_step fr hal
    have sa11 : ((w.alloc (.cells #[a0, b0, c0] 49)).alloc (.cells #[a1, b1, c1] 49)).heap.size ≤ (w.alloc (.cells #[a0, b0, c0] 49)).heap.size + 1 := by simp
    have sb11 : (w.alloc (.cells #[a0, b0, c0] 49)).heap.size + 1 ≤ ((w.alloc (.cells #[a0, b0, c0] 49)).alloc (.cells #[a1, b1, c1] 49)).heap.size := by simp
    have q_A0_0 := A0.cell 0
    have q_A0_1 := A0.cell 1
    have q_A0_2 := A0.cell 2
    have q_A1_0 := A1.cell 0
    have q_A1_1 := A1.cell 1
    have q_A1_2 := A1.cell 2
    go_enter Try.func9, Try.ntmps9
    go_wp2_with fail
    clear q_A0_0 q_A0_1 q_A0_2 q_A1_0 q_A1_1 q_A1_2
    refine (szCluster_no _ _ _ P0 S0 W0 1048576 _ (ha0.below fr (Nat.le_refl _)) (hb0.below fr (Nat.le_refl _)) (hc0.below fr (Nat.le_refl _)) (by omega) (by omega) (by omega)).mono ?_
    rintro e w1 ⟨rfl, hq⟩
    have A0 := A0.stays hq
    have A1 := A1.stays hq
    have sz1 := Below.size hq
    have fr := below_step fr hq
    go_wp2
    go_ret
    exact ⟨rfl, fr⟩
end Go.Proofs.Ytgjnllialhjhoaa.fnExactAddClusters
