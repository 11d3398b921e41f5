/- The walk of 'FnExactCurvetteOfCode': spec.CurvetteOfCode and impl.CurvetteOfCode agree, the arguments stay as they are, and what is handed back lies in new memory. -/
import Derived.Test.YtibfigmnoamheaaCocS
import Derived.Test.YtibfigmnoamheaaHelpB
import Derived.Deep.RegionHeld3
namespace Go.Proofs.Ytibfigmnoamheaa.fnExactCurvetteOfCode
open Go.RowKit

set_option maxRecDepth 100000 in
set_option maxHeartbeats 4000000 in
theorem walk (w : World) (a0 : Value) (P0 : List Int) (ha0 : Rd w a0 P0) (_ : ∀ x ∈ P0, (Lit.int .i64 x).wf = true) :
    Calls Try.prog 7 #[a0] w fun e w' => e = .returned (.bool true) ∧ Below w.heap.size w w' := by
  obtain ⟨sa0, sk0, rfl⟩ := ha0.len0
  obtain ⟨xs, c, hR, hxl⟩ := cocR_ex P0
  have HR := Lib.hid hR
  clear hR
  by_cases hz0 : (P0.length : Int) ≤ 1048576
  · skip
    have hsr0 : (xs).length ≤ 1048576 := (by omega)
    have fr : Below w.heap.size w w := Below.refl _ _
    go_enter Try.func7, Try.ntmps7
    go_wp2_with fail
    refine (toInt64S_c _ P0 _ (ha0.below fr (Nat.le_refl _)) (by omega)).mono ?_
    rintro e w1 ⟨x0, i0, rfl, o0, hq⟩
    have sz1 := Below.size hq
    have fr := below_step fr hq
    have rg_o0 := o0.block
    go_wp2_with fail
    refine (specCoc_c _ P0 xs c _ o0.rd HR.out).mono ?_
    rintro e w2 ⟨ua, ui, rfl, u, hq⟩
    have o0 := o0.below hq (Nat.le_refl _)
    have sz2 := Below.size hq
    have fr := below_step fr hq
    have rg_u := u.block
    have Bu := Blk.new w2 26 #[.slice ua (xs).length ui]
    have hal : Below w2.heap.size w2 (w2.alloc (.cells #[.slice ua (xs).length ui] 26)) := (Below.refl _ _).alloc (Nat.le_refl _) _
    have u := u.below hal (Nat.le_refl _)
    have fr := below_step fr hal
    have sa1 : (w2.alloc (.cells #[.slice ua (xs).length ui] 26)).heap.size ≤ w2.heap.size + 1 := by simp
    have sb1 : w2.heap.size + 1 ≤ (w2.alloc (.cells #[.slice ua (xs).length ui] 26)).heap.size := by simp
    have q_Bu_0 := Bu.cell 0
    go_wp2_with fail
    clear q_Bu_0
    refine (toInt64S_c _ P0 _ (ha0.below fr (Nat.le_refl _)) (by omega)).mono ?_
    rintro e w3 ⟨x1, i1, rfl, o1, hq⟩
    have Bu := Bu.stays hq
    have u := u.below hq (Nat.le_refl _)
    have sz3 := Below.size hq
    have fr := below_step fr hq
    have rg_o1 := o1.block
    have q_Bu_0 := Bu.cell 0
    go_wp2_with fail
    clear q_Bu_0
    refine (implCoc_c _ P0 xs c _ o1.rd HR.out).mono ?_
    rintro e w4 ⟨ga, gi, rfl, g, hq⟩
    have Bu := Bu.stays hq
    have u := u.below hq (Nat.le_refl _)
    have o1 := o1.below hq (Nat.le_refl _)
    have sz4 := Below.size hq
    have fr := below_step fr hq
    have rg_g := g.block
    have Bu := Bu.alloc (.cells #[.slice ga (xs).length gi] 26)
    have Bg := Blk.new w4 26 #[.slice ga (xs).length gi]
    have hal : Below w4.heap.size w4 (w4.alloc (.cells #[.slice ga (xs).length gi] 26)) := (Below.refl _ _).alloc (Nat.le_refl _) _
    have u := u.below hal (Nat.le_refl _)
    have o1 := o1.below hal (Nat.le_refl _)
    have g := g.below hal (Nat.le_refl _)
    have fr := below_step fr hal
    have sa2 : (w4.alloc (.cells #[.slice ga (xs).length gi] 26)).heap.size ≤ w4.heap.size + 1 := by simp
    have sb2 : w4.heap.size + 1 ≤ (w4.alloc (.cells #[.slice ga (xs).length gi] 26)).heap.size := by simp
    have q_Bu_0 := Bu.cell 0
    have q_Bg_0 := Bg.cell 0
    go_wp2_with fail
    clear q_Bu_0 q_Bg_0
    refine (eqBranch_c _ _ xs _ g.rd u.rd).mono ?_
    rintro e w5 ⟨rfl, hq⟩
    have Bu := Bu.stays hq
    have Bg := Bg.stays hq
    have u := u.below hq (Nat.le_refl _)
    have o1 := o1.below hq (Nat.le_refl _)
    have g := g.below hq (Nat.le_refl _)
    have sz5 := Below.size hq
    have fr := below_step fr hq
    have q_Bu_0 := Bu.cell 0
    have q_Bg_0 := Bg.cell 0
    go_wp2_with fail
    clear q_Bu_0 q_Bg_0
    refine (toInt64S_c _ P0 _ (ha0.below fr (Nat.le_refl _)) (by omega)).mono ?_
    rintro e w6 ⟨x2, i2, rfl, o2, hq⟩
    have Bu := Bu.stays hq
    have Bg := Bg.stays hq
    have u := u.below hq (Nat.le_refl _)
    have o1 := o1.below hq (Nat.le_refl _)
    have g := g.below hq (Nat.le_refl _)
    have sz6 := Below.size hq
    have fr := below_step fr hq
    have rg_o2 := o2.block
    have q_Bu_0 := Bu.cell 0
    have q_Bg_0 := Bg.cell 0
    go_wp2_with fail
    clear q_Bu_0 q_Bg_0
    have se := eqB_self P0
    refine (eqInt64S_c _ _ P0 P0 _ o1.rd o2.rd).mono ?_
    rintro e w7 ⟨rfl, hq0⟩
    have hq := hq0.below w6.heap.size
    have Bu := Bu.stays hq
    have Bg := Bg.stays hq
    have u := u.below hq (Nat.le_refl _)
    have o1 := o1.below hq (Nat.le_refl _)
    have g := g.below hq (Nat.le_refl _)
    have o2 := o2.below hq (Nat.le_refl _)
    have sz7 := Below.size hq
    have fr := below_step fr hq
    have q_Bu_0 := Bu.cell 0
    have q_Bg_0 := Bg.cell 0
    go_wp2_with fail
    clear q_Bu_0 q_Bg_0
    refine (mark_c _ P0 (1) _ _ o1 (by omega) (by omega) (by omega)).mono ?_
    rintro e w8 ⟨rfl, o1n, hk⟩
    have szf := Below.size fr
    have Bu := Bu.keeps hk (fun h => by have := rg_o1 _ h; omega)
    have Bg := Bg.keeps hk (fun h => by have := rg_o1 _ h; omega)
    have u := u.keeps hk (fun g h1 h2 => by have := rg_u g h1; have := rg_o1 g h2; omega)
    have g := g.keeps hk (fun g h1 h2 => by have := rg_g g h1; have := rg_o1 g h2; omega)
    have sz8 := Keeps.size hk
    have fr := fr.trans (hk.below (Below.size fr) (fun g h => by have := rg_o1 g h; omega))
    have o1 := o1n
    have q_Bu_0 := Bu.cell 0
    have q_Bg_0 := Bg.cell 0
    go_wp2_with fail
    clear q_Bu_0 q_Bg_0
    refine (eqBranch_c _ _ xs _ g.rd u.rd).mono ?_
    rintro e w9 ⟨rfl, hq⟩
    have Bu := Bu.stays hq
    have Bg := Bg.stays hq
    have u := u.below hq (Nat.le_refl _)
    have o1 := o1.below hq (Nat.le_refl _)
    have g := g.below hq (Nat.le_refl _)
    have sz9 := Below.size hq
    have fr := below_step fr hq
    have q_Bu_0 := Bu.cell 0
    have q_Bg_0 := Bg.cell 0
    go_wp2_with fail
    clear q_Bu_0 q_Bg_0
    refine (markBranch_c _ xs (1) _ _ g (by omega) (by omega) (by omega)).mono ?_
    rintro e w10 ⟨rfl, gn, hk⟩
    have szf := Below.size fr
    have Bu := Bu.keeps hk (fun h => by have := rg_g _ h; omega)
    have Bg := Bg.keeps hk (fun h => by have := rg_g _ h; omega)
    have u := u.keeps hk (fun g h1 h2 => by have := rg_u g h1; have := rg_g g h2; omega)
    have o1 := o1.keeps hk (fun g h1 h2 => by have := rg_o1 g h1; have := rg_g g h2; omega)
    have sz10 := Keeps.size hk
    have fr := fr.trans (hk.below (Below.size fr) (fun g h => by have := rg_g g h; omega))
    have g := gn
    have q_Bu_0 := Bu.cell 0
    have q_Bg_0 := Bg.cell 0
    go_wp2_with fail
    clear q_Bu_0 q_Bg_0
    refine (heldBranch_c _ (xs).length 1 _ g.rd (by omega) (by omega) (by omega)).mono ?_
    rintro e w11 ⟨rfl, hq⟩
    have Bu := Bu.stays hq
    have Bg := Bg.stays hq
    have u := u.below hq (Nat.le_refl _)
    have o1 := o1.below hq (Nat.le_refl _)
    have g := g.below hq (Nat.le_refl _)
    have sz11 := Below.size hq
    have fr := below_step fr hq
    have q_Bu_0 := Bu.cell 0
    have q_Bg_0 := Bg.cell 0
    go_wp2_with fail
    clear q_Bu_0 q_Bg_0
    refine (toInt64S_c _ P0 _ (ha0.below fr (Nat.le_refl _)) (by omega)).mono ?_
    rintro e w12 ⟨x3, i3, rfl, o3, hq⟩
    have Bu := Bu.stays hq
    have Bg := Bg.stays hq
    have u := u.below hq (Nat.le_refl _)
    have g := g.below hq (Nat.le_refl _)
    have sz12 := Below.size hq
    have fr := below_step fr hq
    have rg_o3 := o3.block
    have q_Bu_0 := Bu.cell 0
    have q_Bg_0 := Bg.cell 0
    go_wp2_with fail
    clear q_Bu_0 q_Bg_0
    refine (implCoc_c _ P0 xs c _ o3.rd HR.out).mono ?_
    rintro e w13 ⟨ha, hi, rfl, h, hq⟩
    have Bu := Bu.stays hq
    have Bg := Bg.stays hq
    have u := u.below hq (Nat.le_refl _)
    have g := g.below hq (Nat.le_refl _)
    have o3 := o3.below hq (Nat.le_refl _)
    have sz13 := Below.size hq
    have fr := below_step fr hq
    have rg_h := h.block
    have Bu := Bu.alloc (.cells #[.slice ha (xs).length hi] 26)
    have Bg := Bg.alloc (.cells #[.slice ha (xs).length hi] 26)
    have Bh := Blk.new w13 26 #[.slice ha (xs).length hi]
    have hal : Below w13.heap.size w13 (w13.alloc (.cells #[.slice ha (xs).length hi] 26)) := (Below.refl _ _).alloc (Nat.le_refl _) _
    have u := u.below hal (Nat.le_refl _)
    have g := g.below hal (Nat.le_refl _)
    have h := h.below hal (Nat.le_refl _)
    have fr := below_step fr hal
    have sa3 : (w13.alloc (.cells #[.slice ha (xs).length hi] 26)).heap.size ≤ w13.heap.size + 1 := by simp
    have sb3 : w13.heap.size + 1 ≤ (w13.alloc (.cells #[.slice ha (xs).length hi] 26)).heap.size := by simp
    have q_Bu_0 := Bu.cell 0
    have q_Bg_0 := Bg.cell 0
    have q_Bh_0 := Bh.cell 0
    go_wp2_with fail
    clear q_Bu_0 q_Bg_0 q_Bh_0
    refine (eqBranch_c _ _ xs _ h.rd u.rd).mono ?_
    rintro e w14 ⟨rfl, hq⟩
    have Bu := Bu.stays hq
    have Bg := Bg.stays hq
    have Bh := Bh.stays hq
    have u := u.below hq (Nat.le_refl _)
    have g := g.below hq (Nat.le_refl _)
    have h := h.below hq (Nat.le_refl _)
    have sz14 := Below.size hq
    have fr := below_step fr hq
    have q_Bu_0 := Bu.cell 0
    have q_Bg_0 := Bg.cell 0
    have q_Bh_0 := Bh.cell 0
    go_wp2_with fail
    clear q_Bu_0 q_Bg_0 q_Bh_0
    refine (heldBranch_c _ (xs).length 1 _ g.rd (by omega) (by omega) (by omega)).mono ?_
    rintro e w15 ⟨rfl, hq⟩
    have Bu := Bu.stays hq
    have Bg := Bg.stays hq
    have Bh := Bh.stays hq
    have u := u.below hq (Nat.le_refl _)
    have g := g.below hq (Nat.le_refl _)
    have h := h.below hq (Nat.le_refl _)
    have sz15 := Below.size hq
    have fr := below_step fr hq
    have q_Bu_0 := Bu.cell 0
    have q_Bg_0 := Bg.cell 0
    have q_Bh_0 := Bh.cell 0
    go_wp2
    go_ret
    exact ⟨rfl, fr⟩
  · skip
    have fr : Below w.heap.size w w := Below.refl _ _
    go_enter Try.func7, Try.ntmps7
    go_wp2
    go_ret
    exact ⟨rfl, fr⟩
end Go.Proofs.Ytibfigmnoamheaa.fnExactCurvetteOfCode
