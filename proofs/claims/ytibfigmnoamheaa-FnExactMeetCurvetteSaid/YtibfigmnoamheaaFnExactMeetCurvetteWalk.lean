/- The walk of 'FnExactMeetCurvette': spec.MeetCurvette and impl.MeetCurvette agree, the arguments stay as they are, and what is handed back lies in new memory. -/
import Derived.Test.YtibfigmnoamheaaMeetW
import Derived.Test.YtibfigmnoamheaaHelpB
import Derived.Deep.RegionHeld3
namespace Go.Proofs.Ytibfigmnoamheaa.fnExactMeetCurvette
open Go.RowKit

set_option maxRecDepth 100000 in
set_option maxHeartbeats 4000000 in
theorem walk (w : World) (a0 : Value) (P0 : List Int) (ha0 : Rd w a0 P0) (n1 : Int) (wf1 : (Lit.int .i64 n1).wf = true) :
    Calls Try.prog 6 #[.agg #[a0], .int .i64 n1] w fun e w' => e = .returned (.bool true) ∧ Below w.heap.size w w' := by
  by_cases hz0 : (P0.length : Int) ≤ 1048576
  · skip
    have A0 := Blk.new w 46 #[a0]
    have hal : Below w.heap.size w (w.alloc (.cells #[a0] 46)) := (Below.refl _ _).alloc (Nat.le_refl _) _
    have fr : Below w.heap.size w (w.alloc (.cells #[a0] 46)) := hal
    have sa1 : (w.alloc (.cells #[a0] 46)).heap.size ≤ w.heap.size + 1 := by simp
    have sb1 : w.heap.size + 1 ≤ (w.alloc (.cells #[a0] 46)).heap.size := by simp
    have q_A0_0 := A0.cell 0
    go_enter Try.func6, Try.ntmps6
    go_wp2_with fail
    clear q_A0_0
    refine (szBranch_ok _ P0 1048576 _ (ha0.below fr (Nat.le_refl _)) (by omega) (by omega) (by omega)).mono ?_
    rintro e w1 ⟨rfl, hq⟩
    have A0 := A0.stays hq
    have sz1 := Below.size hq
    have fr := below_step fr hq
    have q_A0_0 := A0.cell 0
    go_wp2_with fail
    clear q_A0_0
    refine (toBranch_c _ P0 _ (ha0.below fr (Nat.le_refl _)) (by omega)).mono ?_
    rintro e w2 ⟨x0, i0, rfl, o0, hq⟩
    have A0 := A0.stays hq
    have sz2 := Below.size hq
    have fr := below_step fr hq
    have rg_o0 := o0.block
    have q_A0_0 := A0.cell 0
    go_wp2_with fail
    clear q_A0_0
    refine (specMeetW_c _ P0 n1 _ o0.rd wf1).mono ?_
    rintro e w3 ⟨rfl, hq⟩
    have A0 := A0.stays hq
    have o0 := o0.below hq (Nat.le_refl _)
    have sz3 := Below.size hq
    have fr := below_step fr hq
    have q_A0_0 := A0.cell 0
    go_wp2_with fail
    clear q_A0_0
    refine (toBranch_c _ P0 _ (ha0.below fr (Nat.le_refl _)) (by omega)).mono ?_
    rintro e w4 ⟨x1, i1, rfl, o1, hq⟩
    have A0 := A0.stays hq
    have sz4 := Below.size hq
    have fr := below_step fr hq
    have rg_o1 := o1.block
    have A0 := A0.alloc (.cells #[.slice x1 P0.length i1] 26)
    have X0 := Blk.new w4 26 #[.slice x1 P0.length i1]
    have hal : Below w4.heap.size w4 (w4.alloc (.cells #[.slice x1 P0.length i1] 26)) := (Below.refl _ _).alloc (Nat.le_refl _) _
    have o1 := o1.below hal (Nat.le_refl _)
    have fr := below_step fr hal
    have sa2 : (w4.alloc (.cells #[.slice x1 P0.length i1] 26)).heap.size ≤ w4.heap.size + 1 := by simp
    have sb2 : w4.heap.size + 1 ≤ (w4.alloc (.cells #[.slice x1 P0.length i1] 26)).heap.size := by simp
    have q_A0_0 := A0.cell 0
    have q_X0_0 := X0.cell 0
    go_wp2_with fail
    clear q_A0_0 q_X0_0
    refine (implMeetW_c _ P0 n1 _ o1.rd wf1).mono ?_
    rintro e w5 ⟨rfl, hq⟩
    have A0 := A0.stays hq
    have X0 := X0.stays hq
    have o1 := o1.below hq (Nat.le_refl _)
    have sz5 := Below.size hq
    have fr := below_step fr hq
    have q_A0_0 := A0.cell 0
    have q_X0_0 := X0.cell 0
    go_wp2_with fail
    have hd : Below w5.heap.size w5 w5.drew := (Below.refl _ _).drew
    have HC : w5.cell? ⟨w.heap.size, 0, none⟩ = some (a0) ∧ w5.cell? ⟨w4.heap.size, 0, none⟩ = some (.slice x1 P0.length i1) := ⟨A0.cell 0, X0.cell 0⟩
    clear q_A0_0 q_X0_0
    have A0 := A0.stays hd
    have X0 := X0.stays hd
    have o1 := o1.below hd (Nat.le_refl _)
    have fr := below_step fr hd
    have sa3 : w5.drew.heap.size ≤ w5.heap.size := Nat.le_refl _
    have sb3 : w5.heap.size ≤ w5.drew.heap.size := Nat.le_refl _
    go_region_held3 (fun w' => w'.cell? ⟨w.heap.size, 0, none⟩ = some (a0) ∧ w'.cell? ⟨w4.heap.size, 0, none⟩ = some (.slice x1 P0.length i1))
      (first | assumption | exact HC)
      (first
        | (go_at_call 39; (with_reducible refine (toBranch_c _ P0 _ (ha0.below fr (Nat.le_refl _)) (by omega)).mono ?_); rintro e w6 ⟨x2, i2, rfl, o2, hq⟩; have A0 := A0.stays hq; have X0 := X0.stays hq; have o1 := o1.below hq (Nat.le_refl _); have sz6 := Below.size hq; have fr := below_step fr hq; have HC : w6.cell? ⟨w.heap.size, 0, none⟩ = some (a0) ∧ w6.cell? ⟨w4.heap.size, 0, none⟩ = some (.slice x1 P0.length i1) := ⟨A0.cell 0, X0.cell 0⟩)
        | (go_at_call 41; (with_reducible refine (eqBranch_c _ _ P0 _ o1.rd o2.rd).mono ?_); rintro e w7 ⟨rfl, hq⟩; have A0 := A0.stays hq; have X0 := X0.stays hq; have o1 := o1.below hq (Nat.le_refl _); have o2 := o2.below hq (Nat.le_refl _); have sz7 := Below.size hq; have fr := below_step fr hq; have HC : w7.cell? ⟨w.heap.size, 0, none⟩ = some (a0) ∧ w7.cell? ⟨w4.heap.size, 0, none⟩ = some (.slice x1 P0.length i1) := ⟨A0.cell 0, X0.cell 0⟩))
    have q_A0_0 := A0.cell 0
    have q_X0_0 := X0.cell 0
    go_wp2
    go_ret
    exact ⟨rfl, fr⟩
  · skip
    have A0 := Blk.new w 46 #[a0]
    have hal : Below w.heap.size w (w.alloc (.cells #[a0] 46)) := (Below.refl _ _).alloc (Nat.le_refl _) _
    have fr : Below w.heap.size w (w.alloc (.cells #[a0] 46)) := hal
    have sa4 : (w.alloc (.cells #[a0] 46)).heap.size ≤ w.heap.size + 1 := by simp
    have sb4 : w.heap.size + 1 ≤ (w.alloc (.cells #[a0] 46)).heap.size := by simp
    have q_A0_0 := A0.cell 0
    go_enter Try.func6, Try.ntmps6
    go_wp2_with fail
    clear q_A0_0
    refine (szBranch_no _ P0 1048576 _ (ha0.below fr (Nat.le_refl _)) (by omega) (by omega) (by omega)).mono ?_
    rintro e w1 ⟨rfl, hq⟩
    have A0 := A0.stays hq
    have sz1 := Below.size hq
    have fr := below_step fr hq
    go_wp2
    go_ret
    exact ⟨rfl, fr⟩
end Go.Proofs.Ytibfigmnoamheaa.fnExactMeetCurvette
