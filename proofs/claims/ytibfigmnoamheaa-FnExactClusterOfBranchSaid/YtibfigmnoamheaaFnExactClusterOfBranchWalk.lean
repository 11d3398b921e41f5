/- The walk of 'FnExactClusterOfBranch': spec.ClusterOfBranch and impl.ClusterOfBranch agree, the arguments stay as they are, and what is handed back lies in new memory. -/
import Derived.Test.YtibfigmnoamheaaCobC
import Derived.Test.YtibfigmnoamheaaMarkC
import Derived.Deep.RegionHeld3
namespace Go.Proofs.Ytibfigmnoamheaa.fnExactClusterOfBranch
open Go.RowKit

set_option maxRecDepth 100000 in
set_option maxHeartbeats 4000000 in
theorem walk (w : World) (a0 : Value) (P0 : List Int) (ha0 : Rd w a0 P0) (n1 : Int) (_ : (Lit.int .i64 n1).wf = true) :
    Calls Try.prog 5 #[.agg #[a0], .int .i64 n1] w fun e w' => e = .returned (.bool true) ∧ Below w.heap.size w w' := by
  by_cases hz0 : (P0.length : Int) ≤ 1048576
  · skip
    have hsr0 : (okL (cobB P0 n1) (parL n1.toNat)).length ≤ 1048576 := cob_len _ _ _ (by simp)
    have hsr1 : (okL (cobB P0 n1) (secM (seqL P0 n1.toNat))).length ≤ 1048576 := cob_len _ _ _ (by simp)
    have hsr2 : (okL (cobB P0 n1) (seqL P0 n1.toNat)).length ≤ 1048576 := cob_len _ _ _ (by simp)
    have A0 := Blk.new w 46 #[a0]
    have hal : Below w.heap.size w (w.alloc (.cells #[a0] 46)) := (Below.refl _ _).alloc (Nat.le_refl _) _
    have fr : Below w.heap.size w (w.alloc (.cells #[a0] 46)) := hal
    have sa1 : (w.alloc (.cells #[a0] 46)).heap.size ≤ w.heap.size + 1 := by simp
    have sb1 : w.heap.size + 1 ≤ (w.alloc (.cells #[a0] 46)).heap.size := by simp
    have q_A0_0 := A0.cell 0
    go_enter Try.func5, Try.ntmps5
    go_wp2_with fail
    clear q_A0_0
    refine (szBranch_ok _ P0 1048576 _ (ha0.below fr (Nat.le_refl _)) (by omega) (by omega) (by omega)).mono ?_
    rintro e w1 ⟨rfl, hq⟩
    have A0 := A0.stays hq
    have sz1 := Below.size hq
    have fr := below_step fr hq
    have q_A0_0 := A0.cell 0
    go_wp2_with fail
    clear q_A0_0
    refine (toBranch_c _ P0 _ (ha0.below fr (Nat.le_refl _)) (by omega)).mono ?_
    rintro e w2 ⟨x0, i0, rfl, o0, hq⟩
    have A0 := A0.stays hq
    have sz2 := Below.size hq
    have fr := below_step fr hq
    have rg_o0 := o0.block
    have q_A0_0 := A0.cell 0
    go_wp2_with fail
    clear q_A0_0
    refine (specCob_c _ P0 n1 _ o0.rd).mono ?_
    rintro e w3 ⟨ua, ui, ub, uj, uc, uk, rfl, u, hq⟩
    have A0 := A0.stays hq
    have o0 := o0.below hq (Nat.le_refl _)
    have sz3 := Below.size hq
    have fr := below_step fr hq
    have rg_u := u.block
    have A0 := A0.alloc (.cells #[.slice ua (okL (cobB P0 n1) (parL n1.toNat)).length ui, .slice ub (okL (cobB P0 n1) (secM (seqL P0 n1.toNat))).length uj, .slice uc (okL (cobB P0 n1) (seqL P0 n1.toNat)).length uk] 40)
    have Bu := Blk.new w3 40 #[.slice ua (okL (cobB P0 n1) (parL n1.toNat)).length ui, .slice ub (okL (cobB P0 n1) (secM (seqL P0 n1.toNat))).length uj, .slice uc (okL (cobB P0 n1) (seqL P0 n1.toNat)).length uk]
    have hal : Below w3.heap.size w3 (w3.alloc (.cells #[.slice ua (okL (cobB P0 n1) (parL n1.toNat)).length ui, .slice ub (okL (cobB P0 n1) (secM (seqL P0 n1.toNat))).length uj, .slice uc (okL (cobB P0 n1) (seqL P0 n1.toNat)).length uk] 40)) := (Below.refl _ _).alloc (Nat.le_refl _) _
    have u := u.below hal
    have fr := below_step fr hal
    have sa2 : (w3.alloc (.cells #[.slice ua (okL (cobB P0 n1) (parL n1.toNat)).length ui, .slice ub (okL (cobB P0 n1) (secM (seqL P0 n1.toNat))).length uj, .slice uc (okL (cobB P0 n1) (seqL P0 n1.toNat)).length uk] 40)).heap.size ≤ w3.heap.size + 1 := by simp
    have sb2 : w3.heap.size + 1 ≤ (w3.alloc (.cells #[.slice ua (okL (cobB P0 n1) (parL n1.toNat)).length ui, .slice ub (okL (cobB P0 n1) (secM (seqL P0 n1.toNat))).length uj, .slice uc (okL (cobB P0 n1) (seqL P0 n1.toNat)).length uk] 40)).heap.size := by simp
    have q_A0_0 := A0.cell 0
    have q_Bu_0 := Bu.cell 0
    have q_Bu_1 := Bu.cell 1
    have q_Bu_2 := Bu.cell 2
    go_wp2_with fail
    clear q_A0_0 q_Bu_0 q_Bu_1 q_Bu_2
    refine (toBranch_c _ P0 _ (ha0.below fr (Nat.le_refl _)) (by omega)).mono ?_
    rintro e w4 ⟨x1, i1, rfl, o1, hq⟩
    have A0 := A0.stays hq
    have Bu := Bu.stays hq
    have u := u.below hq
    have sz4 := Below.size hq
    have fr := below_step fr hq
    have rg_o1 := o1.block
    have A0 := A0.alloc (.cells #[.slice x1 P0.length i1] 26)
    have Bu := Bu.alloc (.cells #[.slice x1 P0.length i1] 26)
    have X0 := Blk.new w4 26 #[.slice x1 P0.length i1]
    have hal : Below w4.heap.size w4 (w4.alloc (.cells #[.slice x1 P0.length i1] 26)) := (Below.refl _ _).alloc (Nat.le_refl _) _
    have u := u.below hal
    have o1 := o1.below hal (Nat.le_refl _)
    have fr := below_step fr hal
    have sa3 : (w4.alloc (.cells #[.slice x1 P0.length i1] 26)).heap.size ≤ w4.heap.size + 1 := by simp
    have sb3 : w4.heap.size + 1 ≤ (w4.alloc (.cells #[.slice x1 P0.length i1] 26)).heap.size := by simp
    have q_A0_0 := A0.cell 0
    have q_Bu_0 := Bu.cell 0
    have q_Bu_1 := Bu.cell 1
    have q_Bu_2 := Bu.cell 2
    have q_X0_0 := X0.cell 0
    go_wp2_with fail
    clear q_A0_0 q_Bu_0 q_Bu_1 q_Bu_2 q_X0_0
    refine (implCob_c _ P0 n1 _ o1.rd).mono ?_
    rintro e w5 ⟨ga, gi, gb, gj, gc, gk, rfl, g, hq⟩
    have A0 := A0.stays hq
    have Bu := Bu.stays hq
    have X0 := X0.stays hq
    have u := u.below hq
    have o1 := o1.below hq (Nat.le_refl _)
    have sz5 := Below.size hq
    have fr := below_step fr hq
    have rg_g := g.block
    have A0 := A0.alloc (.cells #[.slice ga (okL (cobB P0 n1) (parL n1.toNat)).length gi, .slice gb (okL (cobB P0 n1) (secM (seqL P0 n1.toNat))).length gj, .slice gc (okL (cobB P0 n1) (seqL P0 n1.toNat)).length gk] 40)
    have Bu := Bu.alloc (.cells #[.slice ga (okL (cobB P0 n1) (parL n1.toNat)).length gi, .slice gb (okL (cobB P0 n1) (secM (seqL P0 n1.toNat))).length gj, .slice gc (okL (cobB P0 n1) (seqL P0 n1.toNat)).length gk] 40)
    have X0 := X0.alloc (.cells #[.slice ga (okL (cobB P0 n1) (parL n1.toNat)).length gi, .slice gb (okL (cobB P0 n1) (secM (seqL P0 n1.toNat))).length gj, .slice gc (okL (cobB P0 n1) (seqL P0 n1.toNat)).length gk] 40)
    have Bg := Blk.new w5 40 #[.slice ga (okL (cobB P0 n1) (parL n1.toNat)).length gi, .slice gb (okL (cobB P0 n1) (secM (seqL P0 n1.toNat))).length gj, .slice gc (okL (cobB P0 n1) (seqL P0 n1.toNat)).length gk]
    have hal : Below w5.heap.size w5 (w5.alloc (.cells #[.slice ga (okL (cobB P0 n1) (parL n1.toNat)).length gi, .slice gb (okL (cobB P0 n1) (secM (seqL P0 n1.toNat))).length gj, .slice gc (okL (cobB P0 n1) (seqL P0 n1.toNat)).length gk] 40)) := (Below.refl _ _).alloc (Nat.le_refl _) _
    have u := u.below hal
    have o1 := o1.below hal (Nat.le_refl _)
    have g := g.below hal
    have fr := below_step fr hal
    have sa4 : (w5.alloc (.cells #[.slice ga (okL (cobB P0 n1) (parL n1.toNat)).length gi, .slice gb (okL (cobB P0 n1) (secM (seqL P0 n1.toNat))).length gj, .slice gc (okL (cobB P0 n1) (seqL P0 n1.toNat)).length gk] 40)).heap.size ≤ w5.heap.size + 1 := by simp
    have sb4 : w5.heap.size + 1 ≤ (w5.alloc (.cells #[.slice ga (okL (cobB P0 n1) (parL n1.toNat)).length gi, .slice gb (okL (cobB P0 n1) (secM (seqL P0 n1.toNat))).length gj, .slice gc (okL (cobB P0 n1) (seqL P0 n1.toNat)).length gk] 40)).heap.size := by simp
    have q_A0_0 := A0.cell 0
    have q_Bu_0 := Bu.cell 0
    have q_Bu_1 := Bu.cell 1
    have q_Bu_2 := Bu.cell 2
    have q_X0_0 := X0.cell 0
    have q_Bg_0 := Bg.cell 0
    have q_Bg_1 := Bg.cell 1
    have q_Bg_2 := Bg.cell 2
    go_wp2_with fail
    clear q_A0_0 q_Bu_0 q_Bu_1 q_Bu_2 q_X0_0 q_Bg_0 q_Bg_1 q_Bg_2
    refine (eqCluster_c _ _ _ _ _ _ (okL (cobB P0 n1) (parL n1.toNat)) (okL (cobB P0 n1) (secM (seqL P0 n1.toNat))) (okL (cobB P0 n1) (seqL P0 n1.toNat)) _ g.a.rd g.b.rd g.c.rd u.a.rd u.b.rd u.c.rd).mono ?_
    rintro e w6 ⟨rfl, hq⟩
    have A0 := A0.stays hq
    have Bu := Bu.stays hq
    have X0 := X0.stays hq
    have Bg := Bg.stays hq
    have u := u.below hq
    have o1 := o1.below hq (Nat.le_refl _)
    have g := g.below hq
    have sz6 := Below.size hq
    have fr := below_step fr hq
    have q_A0_0 := A0.cell 0
    have q_Bu_0 := Bu.cell 0
    have q_Bu_1 := Bu.cell 1
    have q_Bu_2 := Bu.cell 2
    have q_X0_0 := X0.cell 0
    have q_Bg_0 := Bg.cell 0
    have q_Bg_1 := Bg.cell 1
    have q_Bg_2 := Bg.cell 2
    go_wp2_with fail
    have hd : Below w6.heap.size w6 w6.drew := (Below.refl _ _).drew
    have HC : w6.cell? ⟨w.heap.size, 0, none⟩ = some (a0) ∧ w6.cell? ⟨w3.heap.size, 0, none⟩ = some (.slice ua (okL (cobB P0 n1) (parL n1.toNat)).length ui) ∧ w6.cell? ⟨w3.heap.size, 1, none⟩ = some (.slice ub (okL (cobB P0 n1) (secM (seqL P0 n1.toNat))).length uj) ∧ w6.cell? ⟨w3.heap.size, 2, none⟩ = some (.slice uc (okL (cobB P0 n1) (seqL P0 n1.toNat)).length uk) ∧ w6.cell? ⟨w4.heap.size, 0, none⟩ = some (.slice x1 P0.length i1) ∧ w6.cell? ⟨w5.heap.size, 0, none⟩ = some (.slice ga (okL (cobB P0 n1) (parL n1.toNat)).length gi) ∧ w6.cell? ⟨w5.heap.size, 1, none⟩ = some (.slice gb (okL (cobB P0 n1) (secM (seqL P0 n1.toNat))).length gj) ∧ w6.cell? ⟨w5.heap.size, 2, none⟩ = some (.slice gc (okL (cobB P0 n1) (seqL P0 n1.toNat)).length gk) := ⟨A0.cell 0, Bu.cell 0, Bu.cell 1, Bu.cell 2, X0.cell 0, Bg.cell 0, Bg.cell 1, Bg.cell 2⟩
    clear q_A0_0 q_Bu_0 q_Bu_1 q_Bu_2 q_X0_0 q_Bg_0 q_Bg_1 q_Bg_2
    have A0 := A0.stays hd
    have Bu := Bu.stays hd
    have X0 := X0.stays hd
    have Bg := Bg.stays hd
    have u := u.below hd
    have o1 := o1.below hd (Nat.le_refl _)
    have g := g.below hd
    have fr := below_step fr hd
    have sa5 : w6.drew.heap.size ≤ w6.heap.size := Nat.le_refl _
    have sb5 : w6.heap.size ≤ w6.drew.heap.size := Nat.le_refl _
    go_region_held3 (fun w' => w'.cell? ⟨w.heap.size, 0, none⟩ = some (a0) ∧ w'.cell? ⟨w3.heap.size, 0, none⟩ = some (.slice ua (okL (cobB P0 n1) (parL n1.toNat)).length ui) ∧ w'.cell? ⟨w3.heap.size, 1, none⟩ = some (.slice ub (okL (cobB P0 n1) (secM (seqL P0 n1.toNat))).length uj) ∧ w'.cell? ⟨w3.heap.size, 2, none⟩ = some (.slice uc (okL (cobB P0 n1) (seqL P0 n1.toNat)).length uk) ∧ w'.cell? ⟨w4.heap.size, 0, none⟩ = some (.slice x1 P0.length i1) ∧ w'.cell? ⟨w5.heap.size, 0, none⟩ = some (.slice ga (okL (cobB P0 n1) (parL n1.toNat)).length gi) ∧ w'.cell? ⟨w5.heap.size, 1, none⟩ = some (.slice gb (okL (cobB P0 n1) (secM (seqL P0 n1.toNat))).length gj) ∧ w'.cell? ⟨w5.heap.size, 2, none⟩ = some (.slice gc (okL (cobB P0 n1) (seqL P0 n1.toNat)).length gk))
      (first | assumption | exact HC)
      (first
        | (go_at_call 39; (with_reducible refine (toBranch_c _ P0 _ (ha0.below fr (Nat.le_refl _)) (by omega)).mono ?_); rintro e w7 ⟨x2, i2, rfl, o2, hq⟩; have A0 := A0.stays hq; have Bu := Bu.stays hq; have X0 := X0.stays hq; have Bg := Bg.stays hq; have u := u.below hq; have o1 := o1.below hq (Nat.le_refl _); have g := g.below hq; have sz7 := Below.size hq; have fr := below_step fr hq; have HC : w7.cell? ⟨w.heap.size, 0, none⟩ = some (a0) ∧ w7.cell? ⟨w3.heap.size, 0, none⟩ = some (.slice ua (okL (cobB P0 n1) (parL n1.toNat)).length ui) ∧ w7.cell? ⟨w3.heap.size, 1, none⟩ = some (.slice ub (okL (cobB P0 n1) (secM (seqL P0 n1.toNat))).length uj) ∧ w7.cell? ⟨w3.heap.size, 2, none⟩ = some (.slice uc (okL (cobB P0 n1) (seqL P0 n1.toNat)).length uk) ∧ w7.cell? ⟨w4.heap.size, 0, none⟩ = some (.slice x1 P0.length i1) ∧ w7.cell? ⟨w5.heap.size, 0, none⟩ = some (.slice ga (okL (cobB P0 n1) (parL n1.toNat)).length gi) ∧ w7.cell? ⟨w5.heap.size, 1, none⟩ = some (.slice gb (okL (cobB P0 n1) (secM (seqL P0 n1.toNat))).length gj) ∧ w7.cell? ⟨w5.heap.size, 2, none⟩ = some (.slice gc (okL (cobB P0 n1) (seqL P0 n1.toNat)).length gk) := ⟨A0.cell 0, Bu.cell 0, Bu.cell 1, Bu.cell 2, X0.cell 0, Bg.cell 0, Bg.cell 1, Bg.cell 2⟩)
        | (go_at_call 41; (with_reducible refine (eqBranch_c _ _ P0 _ o1.rd o2.rd).mono ?_); rintro e w8 ⟨rfl, hq⟩; have A0 := A0.stays hq; have Bu := Bu.stays hq; have X0 := X0.stays hq; have Bg := Bg.stays hq; have u := u.below hq; have o1 := o1.below hq (Nat.le_refl _); have g := g.below hq; have o2 := o2.below hq (Nat.le_refl _); have sz8 := Below.size hq; have fr := below_step fr hq; have HC : w8.cell? ⟨w.heap.size, 0, none⟩ = some (a0) ∧ w8.cell? ⟨w3.heap.size, 0, none⟩ = some (.slice ua (okL (cobB P0 n1) (parL n1.toNat)).length ui) ∧ w8.cell? ⟨w3.heap.size, 1, none⟩ = some (.slice ub (okL (cobB P0 n1) (secM (seqL P0 n1.toNat))).length uj) ∧ w8.cell? ⟨w3.heap.size, 2, none⟩ = some (.slice uc (okL (cobB P0 n1) (seqL P0 n1.toNat)).length uk) ∧ w8.cell? ⟨w4.heap.size, 0, none⟩ = some (.slice x1 P0.length i1) ∧ w8.cell? ⟨w5.heap.size, 0, none⟩ = some (.slice ga (okL (cobB P0 n1) (parL n1.toNat)).length gi) ∧ w8.cell? ⟨w5.heap.size, 1, none⟩ = some (.slice gb (okL (cobB P0 n1) (secM (seqL P0 n1.toNat))).length gj) ∧ w8.cell? ⟨w5.heap.size, 2, none⟩ = some (.slice gc (okL (cobB P0 n1) (seqL P0 n1.toNat)).length gk) := ⟨A0.cell 0, Bu.cell 0, Bu.cell 1, Bu.cell 2, X0.cell 0, Bg.cell 0, Bg.cell 1, Bg.cell 2⟩))
    have q_A0_0 := A0.cell 0
    have q_Bu_0 := Bu.cell 0
    have q_Bu_1 := Bu.cell 1
    have q_Bu_2 := Bu.cell 2
    have q_X0_0 := X0.cell 0
    have q_Bg_0 := Bg.cell 0
    have q_Bg_1 := Bg.cell 1
    have q_Bg_2 := Bg.cell 2
    go_wp2_with fail
    clear q_A0_0 q_Bu_0 q_Bu_1 q_Bu_2 q_X0_0 q_Bg_0 q_Bg_1 q_Bg_2
    refine (markBranch_c _ P0 (1) _ _ o1 (by omega) (by omega) (by omega)).mono ?_
    rintro e w9 ⟨rfl, o1n, hk⟩
    have szf := Below.size fr
    have A0 := A0.keeps hk (fun h => by have := rg_o1 _ h; omega)
    have Bu := Bu.keeps hk (fun h => by have := rg_o1 _ h; omega)
    have X0 := X0.keeps hk (fun h => by have := rg_o1 _ h; omega)
    have Bg := Bg.keeps hk (fun h => by have := rg_o1 _ h; omega)
    have u := u.keeps hk (fun g h1 h2 => by have := rg_u g h1; have := rg_o1 g h2; omega)
    have g := g.keeps hk (fun g h1 h2 => by have := rg_g g h1; have := rg_o1 g h2; omega)
    have sz9 := Keeps.size hk
    have fr := fr.trans (hk.below (Below.size fr) (fun g h => by have := rg_o1 g h; omega))
    have o1 := o1n
    have q_A0_0 := A0.cell 0
    have q_Bu_0 := Bu.cell 0
    have q_Bu_1 := Bu.cell 1
    have q_Bu_2 := Bu.cell 2
    have q_X0_0 := X0.cell 0
    have q_Bg_0 := Bg.cell 0
    have q_Bg_1 := Bg.cell 1
    have q_Bg_2 := Bg.cell 2
    go_wp2_with fail
    clear q_A0_0 q_Bu_0 q_Bu_1 q_Bu_2 q_X0_0 q_Bg_0 q_Bg_1 q_Bg_2
    refine (eqCluster_c _ _ _ _ _ _ (okL (cobB P0 n1) (parL n1.toNat)) (okL (cobB P0 n1) (secM (seqL P0 n1.toNat))) (okL (cobB P0 n1) (seqL P0 n1.toNat)) _ g.a.rd g.b.rd g.c.rd u.a.rd u.b.rd u.c.rd).mono ?_
    rintro e w10 ⟨rfl, hq⟩
    have A0 := A0.stays hq
    have Bu := Bu.stays hq
    have X0 := X0.stays hq
    have Bg := Bg.stays hq
    have u := u.below hq
    have o1 := o1.below hq (Nat.le_refl _)
    have g := g.below hq
    have sz10 := Below.size hq
    have fr := below_step fr hq
    have q_A0_0 := A0.cell 0
    have q_Bu_0 := Bu.cell 0
    have q_Bu_1 := Bu.cell 1
    have q_Bu_2 := Bu.cell 2
    have q_X0_0 := X0.cell 0
    have q_Bg_0 := Bg.cell 0
    have q_Bg_1 := Bg.cell 1
    have q_Bg_2 := Bg.cell 2
    go_wp2_with fail
    clear q_A0_0 q_Bu_0 q_Bu_1 q_Bu_2 q_X0_0 q_Bg_0 q_Bg_1 q_Bg_2
    refine (markClusterQ_c _ _ _ (okL (cobB P0 n1) (parL n1.toNat)) (okL (cobB P0 n1) (secM (seqL P0 n1.toNat))) (okL (cobB P0 n1) (seqL P0 n1.toNat)) (1) _ _ g (by omega) (by omega) ⟨(by omega), (by omega), (by omega)⟩).mono ?_
    rintro e w11 ⟨rfl, gn, hk⟩
    have szf := Below.size fr
    have A0 := A0.keeps hk (fun h => by have := rg_g _ h; omega)
    have Bu := Bu.keeps hk (fun h => by have := rg_g _ h; omega)
    have X0 := X0.keeps hk (fun h => by have := rg_g _ h; omega)
    have Bg := Bg.keeps hk (fun h => by have := rg_g _ h; omega)
    have u := u.keeps hk (fun g h1 h2 => by have := rg_u g h1; have := rg_g g h2; omega)
    have o1 := o1.keeps hk (fun g h1 h2 => by have := rg_o1 g h1; have := rg_g g h2; omega)
    have sz11 := Keeps.size hk
    have fr := fr.trans (hk.below (Below.size fr) (fun g h => by have := rg_g g h; omega))
    have g := gn
    have q_A0_0 := A0.cell 0
    have q_Bu_0 := Bu.cell 0
    have q_Bu_1 := Bu.cell 1
    have q_Bu_2 := Bu.cell 2
    have q_X0_0 := X0.cell 0
    have q_Bg_0 := Bg.cell 0
    have q_Bg_1 := Bg.cell 1
    have q_Bg_2 := Bg.cell 2
    go_wp2_with fail
    clear q_A0_0 q_Bu_0 q_Bu_1 q_Bu_2 q_X0_0 q_Bg_0 q_Bg_1 q_Bg_2
    refine (heldCluster_c _ _ _ (okL (cobB P0 n1) (parL n1.toNat)).length (okL (cobB P0 n1) (secM (seqL P0 n1.toNat))).length (okL (cobB P0 n1) (seqL P0 n1.toNat)).length 1 _ g.a.rd g.b.rd g.c.rd (by omega) (by omega) ⟨(by omega), (by omega), (by omega)⟩).mono ?_
    rintro e w12 ⟨rfl, hq⟩
    have A0 := A0.stays hq
    have Bu := Bu.stays hq
    have X0 := X0.stays hq
    have Bg := Bg.stays hq
    have u := u.below hq
    have o1 := o1.below hq (Nat.le_refl _)
    have g := g.below hq
    have sz12 := Below.size hq
    have fr := below_step fr hq
    have q_A0_0 := A0.cell 0
    have q_Bu_0 := Bu.cell 0
    have q_Bu_1 := Bu.cell 1
    have q_Bu_2 := Bu.cell 2
    have q_X0_0 := X0.cell 0
    have q_Bg_0 := Bg.cell 0
    have q_Bg_1 := Bg.cell 1
    have q_Bg_2 := Bg.cell 2
    go_wp2_with fail
    clear q_A0_0 q_Bu_0 q_Bu_1 q_Bu_2 q_X0_0 q_Bg_0 q_Bg_1 q_Bg_2
    refine (toBranch_c _ P0 _ (ha0.below fr (Nat.le_refl _)) (by omega)).mono ?_
    rintro e w13 ⟨x3, i3, rfl, o3, hq⟩
    have A0 := A0.stays hq
    have Bu := Bu.stays hq
    have X0 := X0.stays hq
    have Bg := Bg.stays hq
    have u := u.below hq
    have g := g.below hq
    have sz13 := Below.size hq
    have fr := below_step fr hq
    have rg_o3 := o3.block
    have q_A0_0 := A0.cell 0
    have q_Bu_0 := Bu.cell 0
    have q_Bu_1 := Bu.cell 1
    have q_Bu_2 := Bu.cell 2
    have q_X0_0 := X0.cell 0
    have q_Bg_0 := Bg.cell 0
    have q_Bg_1 := Bg.cell 1
    have q_Bg_2 := Bg.cell 2
    go_wp2_with fail
    clear q_A0_0 q_Bu_0 q_Bu_1 q_Bu_2 q_X0_0 q_Bg_0 q_Bg_1 q_Bg_2
    refine (implCob_c _ P0 n1 _ o3.rd).mono ?_
    rintro e w14 ⟨ha, hi, hb, hj, hc, hk, rfl, h, hq⟩
    have A0 := A0.stays hq
    have Bu := Bu.stays hq
    have X0 := X0.stays hq
    have Bg := Bg.stays hq
    have u := u.below hq
    have g := g.below hq
    have o3 := o3.below hq (Nat.le_refl _)
    have sz14 := Below.size hq
    have fr := below_step fr hq
    have rg_h := h.block
    have A0 := A0.alloc (.cells #[.slice ha (okL (cobB P0 n1) (parL n1.toNat)).length hi, .slice hb (okL (cobB P0 n1) (secM (seqL P0 n1.toNat))).length hj, .slice hc (okL (cobB P0 n1) (seqL P0 n1.toNat)).length hk] 40)
    have Bu := Bu.alloc (.cells #[.slice ha (okL (cobB P0 n1) (parL n1.toNat)).length hi, .slice hb (okL (cobB P0 n1) (secM (seqL P0 n1.toNat))).length hj, .slice hc (okL (cobB P0 n1) (seqL P0 n1.toNat)).length hk] 40)
    have X0 := X0.alloc (.cells #[.slice ha (okL (cobB P0 n1) (parL n1.toNat)).length hi, .slice hb (okL (cobB P0 n1) (secM (seqL P0 n1.toNat))).length hj, .slice hc (okL (cobB P0 n1) (seqL P0 n1.toNat)).length hk] 40)
    have Bg := Bg.alloc (.cells #[.slice ha (okL (cobB P0 n1) (parL n1.toNat)).length hi, .slice hb (okL (cobB P0 n1) (secM (seqL P0 n1.toNat))).length hj, .slice hc (okL (cobB P0 n1) (seqL P0 n1.toNat)).length hk] 40)
    have Bh := Blk.new w14 40 #[.slice ha (okL (cobB P0 n1) (parL n1.toNat)).length hi, .slice hb (okL (cobB P0 n1) (secM (seqL P0 n1.toNat))).length hj, .slice hc (okL (cobB P0 n1) (seqL P0 n1.toNat)).length hk]
    have hal : Below w14.heap.size w14 (w14.alloc (.cells #[.slice ha (okL (cobB P0 n1) (parL n1.toNat)).length hi, .slice hb (okL (cobB P0 n1) (secM (seqL P0 n1.toNat))).length hj, .slice hc (okL (cobB P0 n1) (seqL P0 n1.toNat)).length hk] 40)) := (Below.refl _ _).alloc (Nat.le_refl _) _
    have u := u.below hal
    have g := g.below hal
    have h := h.below hal
    have fr := below_step fr hal
    have sa6 : (w14.alloc (.cells #[.slice ha (okL (cobB P0 n1) (parL n1.toNat)).length hi, .slice hb (okL (cobB P0 n1) (secM (seqL P0 n1.toNat))).length hj, .slice hc (okL (cobB P0 n1) (seqL P0 n1.toNat)).length hk] 40)).heap.size ≤ w14.heap.size + 1 := by simp
    have sb6 : w14.heap.size + 1 ≤ (w14.alloc (.cells #[.slice ha (okL (cobB P0 n1) (parL n1.toNat)).length hi, .slice hb (okL (cobB P0 n1) (secM (seqL P0 n1.toNat))).length hj, .slice hc (okL (cobB P0 n1) (seqL P0 n1.toNat)).length hk] 40)).heap.size := by simp
    have q_A0_0 := A0.cell 0
    have q_Bu_0 := Bu.cell 0
    have q_Bu_1 := Bu.cell 1
    have q_Bu_2 := Bu.cell 2
    have q_X0_0 := X0.cell 0
    have q_Bg_0 := Bg.cell 0
    have q_Bg_1 := Bg.cell 1
    have q_Bg_2 := Bg.cell 2
    have q_Bh_0 := Bh.cell 0
    have q_Bh_1 := Bh.cell 1
    have q_Bh_2 := Bh.cell 2
    go_wp2_with fail
    clear q_A0_0 q_Bu_0 q_Bu_1 q_Bu_2 q_X0_0 q_Bg_0 q_Bg_1 q_Bg_2 q_Bh_0 q_Bh_1 q_Bh_2
    refine (eqCluster_c _ _ _ _ _ _ (okL (cobB P0 n1) (parL n1.toNat)) (okL (cobB P0 n1) (secM (seqL P0 n1.toNat))) (okL (cobB P0 n1) (seqL P0 n1.toNat)) _ h.a.rd h.b.rd h.c.rd u.a.rd u.b.rd u.c.rd).mono ?_
    rintro e w15 ⟨rfl, hq⟩
    have A0 := A0.stays hq
    have Bu := Bu.stays hq
    have X0 := X0.stays hq
    have Bg := Bg.stays hq
    have Bh := Bh.stays hq
    have u := u.below hq
    have g := g.below hq
    have h := h.below hq
    have sz15 := Below.size hq
    have fr := below_step fr hq
    have q_A0_0 := A0.cell 0
    have q_Bu_0 := Bu.cell 0
    have q_Bu_1 := Bu.cell 1
    have q_Bu_2 := Bu.cell 2
    have q_X0_0 := X0.cell 0
    have q_Bg_0 := Bg.cell 0
    have q_Bg_1 := Bg.cell 1
    have q_Bg_2 := Bg.cell 2
    have q_Bh_0 := Bh.cell 0
    have q_Bh_1 := Bh.cell 1
    have q_Bh_2 := Bh.cell 2
    go_wp2_with fail
    clear q_A0_0 q_Bu_0 q_Bu_1 q_Bu_2 q_X0_0 q_Bg_0 q_Bg_1 q_Bg_2 q_Bh_0 q_Bh_1 q_Bh_2
    refine (heldCluster_c _ _ _ (okL (cobB P0 n1) (parL n1.toNat)).length (okL (cobB P0 n1) (secM (seqL P0 n1.toNat))).length (okL (cobB P0 n1) (seqL P0 n1.toNat)).length 1 _ g.a.rd g.b.rd g.c.rd (by omega) (by omega) ⟨(by omega), (by omega), (by omega)⟩).mono ?_
    rintro e w16 ⟨rfl, hq⟩
    have A0 := A0.stays hq
    have Bu := Bu.stays hq
    have X0 := X0.stays hq
    have Bg := Bg.stays hq
    have Bh := Bh.stays hq
    have u := u.below hq
    have g := g.below hq
    have h := h.below hq
    have sz16 := Below.size hq
    have fr := below_step fr hq
    have q_A0_0 := A0.cell 0
    have q_Bu_0 := Bu.cell 0
    have q_Bu_1 := Bu.cell 1
    have q_Bu_2 := Bu.cell 2
    have q_X0_0 := X0.cell 0
    have q_Bg_0 := Bg.cell 0
    have q_Bg_1 := Bg.cell 1
    have q_Bg_2 := Bg.cell 2
    have q_Bh_0 := Bh.cell 0
    have q_Bh_1 := Bh.cell 1
    have q_Bh_2 := Bh.cell 2
    go_wp2
    go_ret
    exact ⟨rfl, fr⟩
  · skip
    have A0 := Blk.new w 46 #[a0]
    have hal : Below w.heap.size w (w.alloc (.cells #[a0] 46)) := (Below.refl _ _).alloc (Nat.le_refl _) _
    have fr : Below w.heap.size w (w.alloc (.cells #[a0] 46)) := hal
    have sa7 : (w.alloc (.cells #[a0] 46)).heap.size ≤ w.heap.size + 1 := by simp
    have sb7 : w.heap.size + 1 ≤ (w.alloc (.cells #[a0] 46)).heap.size := by simp
    have q_A0_0 := A0.cell 0
    go_enter Try.func5, Try.ntmps5
    go_wp2_with fail
    clear q_A0_0
    refine (szBranch_no _ P0 1048576 _ (ha0.below fr (Nat.le_refl _)) (by omega) (by omega) (by omega)).mono ?_
    rintro e w1 ⟨rfl, hq⟩
    have A0 := A0.stays hq
    have sz1 := Below.size hq
    have fr := below_step fr hq
    go_wp2
    go_ret
    exact ⟨rfl, fr⟩
end Go.Proofs.Ytibfigmnoamheaa.fnExactClusterOfBranch
