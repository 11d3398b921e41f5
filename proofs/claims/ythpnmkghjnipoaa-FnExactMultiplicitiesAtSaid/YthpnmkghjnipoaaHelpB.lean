/- Contracts of the laws' own helpers on branches: sizes, copies, comparisons. -/
import Derived.Test.YthpnmkghjnipoaaHelp
namespace Go.Proofs.Ythpnmkghjnipoaa
open Go.RowKit

set_option maxHeartbeats 400000 in
theorem szBranch_ok (p : Value) (P : List Int) (l : Int) (w : World) (hp : Rd w p P) (h0 : 0 ≤ l) (h1 : l ≤ 1048576) (hn : (P.length : Int) ≤ l) :
    Calls Try.prog 21 #[.agg #[p], .int .i64 l] w fun e w' => e = .returned (.int .i64 (l - P.length)) ∧ Below w.heap.size w w' := by
  have hb := Boxed.start w 24 #[p]
  obtain ⟨a1, k1, rfl⟩ := hp.len0
  have e1 := @szI_ge l P.length (by omega)
  go_enter Try.func21, Try.ntmps21
  go_wp2_with fail
  refine (szInt64S_c _ P _ _ (hb.rd hp) h0 h1).mono ?_
  rintro e w1 ⟨rfl, rfl⟩
  rw [e1]
  go_wp2
  go_ret
  exact ⟨rfl, hb.below⟩

set_option maxHeartbeats 400000 in
theorem szBranch_no (p : Value) (P : List Int) (l : Int) (w : World) (hp : Rd w p P) (h0 : 0 ≤ l) (h1 : l ≤ 1048576) (hn : l < (P.length : Int)) :
    Calls Try.prog 21 #[.agg #[p], .int .i64 l] w fun e w' => e = .returned (.int .i64 (-1)) ∧ Below w.heap.size w w' := by
  have hb := Boxed.start w 24 #[p]
  obtain ⟨a1, k1, rfl⟩ := hp.len0
  have e1 := @szI_lt l P.length (by omega)
  go_enter Try.func21, Try.ntmps21
  go_wp2_with fail
  refine (szInt64S_c _ P _ _ (hb.rd hp) h0 h1).mono ?_
  rintro e w1 ⟨rfl, rfl⟩
  rw [e1]
  go_wp2
  go_ret
  exact ⟨rfl, hb.below⟩

/-- A new branch is returned. -/
def RetB (w : World) (P : List Int) (e : Ending) (w' : World) : Prop :=
  ∃ a i, e = .returned (.agg #[.slice a P.length i]) ∧ OwnI w' w.heap.size (.slice a P.length i) P ∧ Below w.heap.size w w'

set_option maxHeartbeats 400000 in
theorem toBranch_c (p : Value) (P : List Int) (w : World) (hp : Rd w p P) (hP : P.length ≤ 1048576) :
    Calls Try.prog 23 #[.agg #[p]] w (RetB w P) := by
  obtain ⟨a1, k1, rfl⟩ := hp.len0
  go_enter Try.func23, Try.ntmps23
  go_wp2_with fail
  refine (toInt64S_at _ P _ (hp.below (((Below.refl _ _).alloc (Nat.le_refl _) _).alloc (by simp) _ |>.alloc (by simp; omega) _) (Nat.le_refl _)) hP).mono ?_
  rintro e w1 ⟨rfl, ho1, hb1⟩
  have B2 : Blk w1 (w.heap.size + 1) 28 #[.slice none 0 0] := ((Blk.new' (by simp)).alloc _).stays hb1
  have B3 : Blk w1 (w.heap.size + 2) 28 #[.slice none 0 0] := (Blk.new' (by simp)).stays hb1
  have H1 := (((Below.refl w.heap.size w).alloc (Nat.le_refl _) (.cells #[.slice a1 P.length k1] 24)).alloc (by simp) (.cells #[.slice none 0 0] 28)).alloc (by simp; omega) (.cells #[.slice none 0 0] 28) |>.trans (hb1.mono (by simp; omega))
  have z1 := hb1.size
  simp at z1 ho1
  have y1 := (ho1.block _ rfl).2
  have d0 := B3.cell 0
  have f0 := B3.free 0
  have g0 := B2.cell 0
  have fg := B2.free 0
  go_wp2
  have F2 := (B2.other (g' := w.heap.size + 2) (by omega) 0 (.slice (some ⟨w.heap.size + 3, 0, none⟩) P.length P.length)).set 0 (.slice (some ⟨w.heap.size + 3, 0, none⟩) P.length P.length)
  have q0 := F2.cell 0
  have hK : Keeps (fun k => k = w.heap.size + 1 ∨ k = w.heap.size + 2) w1 ((w1.setCell ⟨w.heap.size + 2, 0, none⟩ (.slice (some ⟨w.heap.size + 3, 0, none⟩) P.length P.length)).setCell ⟨w.heap.size + 1, 0, none⟩ (.slice (some ⟨w.heap.size + 3, 0, none⟩) P.length P.length)) :=
    ((Keeps.refl _ _).setCell (p := ⟨w.heap.size + 2, 0, none⟩) (.inr rfl) _).setCell (p := ⟨w.heap.size + 1, 0, none⟩) (.inl rfl) _
  refine bodyPost_ret (v := .agg #[.slice (some ⟨w.heap.size + 3, 0, none⟩) P.length P.length]) (by simp [results, Try.results23, go_sem, q0]) rfl ⟨_, _, rfl, ?_, ?_⟩
  · exact (ho1.keeps hK (fun k hk => by simp [Value.ownBlock] at hk; rintro (h | h) <;> omega)).base_le (by omega)
  · exact H1.trans (hK.below (by omega) (fun k hk => by omega))

set_option maxHeartbeats 400000 in
theorem eqBranch_c (p p' : Value) (P : List Int) (w : World) (hp : Rd w p P) (hp' : Rd w p' P) :
    Calls Try.prog 25 #[.agg #[p], .agg #[p']] w fun e w' => e = .returned (.bool true) ∧ Below w.heap.size w w' := by
  obtain ⟨a1, k1, rfl⟩ := hp.len0
  obtain ⟨a4, k4, rfl⟩ := hp'.len0
  have hb : Below w.heap.size w ((w.alloc (.cells #[.slice a1 P.length k1] 28)).alloc (.cells #[.slice a4 P.length k4] 28)) := ((Below.refl _ _).alloc (Nat.le_refl _) _).alloc (by simp) _
  have r1 := hp.below hb (Nat.le_refl _)
  have r4 := hp'.below hb (Nat.le_refl _)
  have s1 := eqB_self P
  go_enter Try.func25, Try.ntmps25
  go_wp2_with fail
  refine (eqInt64S_c _ _ P P _ r1 r4).mono ?_
  rintro e w1 ⟨rfl, n1, rfl⟩
  go_wp2
  go_ret
  exact ⟨rfl, below_drewN hb _⟩
end Go.Proofs.Ythpnmkghjnipoaa
