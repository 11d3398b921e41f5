/- Contracts of the laws' own helpers on slices, branches and clusters: sizes, copies, comparisons, marks. -/
import Derived.Test.YtiinceflafigeaaDoorLib
import Derived.Test.YtiinceflafigeaaDoorRowL
namespace Go.Proofs.YtiinceflafigeaaDoor
open Go.RowKit

/-- What is left of l places behind n. -/
def szI (l : Int) (n : Nat) : Int := if l < n then -1 else l - n
theorem szI_lt {l : Int} {n : Nat} (h : l < n) : szI l n = -1 := by simp [szI, h]
theorem szI_ge {l : Int} {n : Nat} (h : ¬ l < n) : szI l n = l - n := by simp [szI, h]

theorem szInt64S_c (v : Value) (xs : List Int) (l : Int) (w : World) (h : Rd w v xs) (h0 : 0 ≤ l) (h1 : l ≤ 1048576) :
    Calls Tryd.prog 52 #[v, .int .i64 l] w fun e w' => e = .returned (.int .i64 (szI l xs.length)) ∧ w = w' := by
  obtain ⟨a, cap, rfl, hcap1, hcap2, _⟩ := h
  by_cases hl : l < xs.length
  · go_enter Tryd.func52, Tryd.ntmps52
    go_wp2
    go_ret
    exact ⟨ret_int (by rw [szI_lt hl]), rfl⟩
  · go_enter Tryd.func52, Tryd.ntmps52
    go_wp2
    go_ret
    exact ⟨ret_int (by rw [szI_ge (by omega)]), rfl⟩

theorem iota_step (k : Int) (n j : Nat) (xs : List Int) (hn : n = xs.length) (hj : j < n) :
    (iotaI k j ++ xs.drop j).set j (k + j) = iotaI k (j + 1) ++ xs.drop (j + 1) := by
  subst hn
  apply List.ext_getElem
  · simp; omega
  · intro i h1 h2
    simp only [List.getElem_set, List.getElem_append, iotaI_length]
    split
    · subst_vars; simp [iotaI]
    · split
      · rw [dif_pos (by omega)]; simp [iotaI]
      · rw [dif_neg (by omega)]; simp only [List.getElem_drop]; congr 1; omega

end Go.Proofs.YtiinceflafigeaaDoor

/- Contracts of the laws' own helpers on clusters: sizes, copies, comparisons, marks. -/
namespace Go.Proofs.YtiinceflafigeaaDoor
open Go.RowKit

set_option maxHeartbeats 400000 in
theorem szCluster_ok (p s q : Value) (P S W : List Int) (l : Int) (w : World) (hp : Rd w p P) (hs : Rd w s S) (hq : Rd w q W) (h0 : 0 ≤ l) (h1 : l ≤ 1048576) (hn : (P.length : Int) + S.length + W.length ≤ l) :
    Calls Tryd.prog 22 #[.agg #[p, s, q], .int .i64 l] w fun e w' => e = .returned (.int .i64 (l - P.length - S.length - W.length)) ∧ Below w.heap.size w w' := by
  have hb := Boxed.start w 44 #[p, s, q]
  obtain ⟨a1, k1, rfl⟩ := hp.len0
  obtain ⟨a2, k2, rfl⟩ := hs.len0
  obtain ⟨a3, k3, rfl⟩ := hq.len0
  have e1 := @szI_ge l P.length (by omega)
  have e2 := @szI_ge (l - P.length) S.length (by omega)
  have e3 := @szI_ge (l - P.length - S.length) W.length (by omega)
  go_enter Tryd.func22, Tryd.ntmps22
  go_wp2_with fail
  refine (szInt64S_c _ P _ _ (hb.rd hp) h0 h1).mono ?_
  rintro e w1 ⟨rfl, rfl⟩
  rw [e1]
  go_wp2_with fail
  refine (szInt64S_c _ S _ _ (hb.rd hs) (by omega) (by omega)).mono ?_
  rintro e w1 ⟨rfl, rfl⟩
  rw [e2]
  go_wp2_with fail
  refine (szInt64S_c _ W _ _ (hb.rd hq) (by omega) (by omega)).mono ?_
  rintro e w1 ⟨rfl, rfl⟩
  rw [e3]
  go_wp2
  go_ret
  exact ⟨rfl, hb.below⟩

set_option maxHeartbeats 400000 in
theorem szCluster_no (p s q : Value) (P S W : List Int) (l : Int) (w : World) (hp : Rd w p P) (hs : Rd w s S) (hq : Rd w q W) (h0 : 0 ≤ l) (h1 : l ≤ 1048576) (hn : l < (P.length : Int) + S.length + W.length) :
    Calls Tryd.prog 22 #[.agg #[p, s, q], .int .i64 l] w fun e w' => e = .returned (.int .i64 (-1)) ∧ Below w.heap.size w w' := by
  have hb := Boxed.start w 44 #[p, s, q]
  obtain ⟨a1, k1, rfl⟩ := hp.len0
  obtain ⟨a2, k2, rfl⟩ := hs.len0
  obtain ⟨a3, k3, rfl⟩ := hq.len0
  by_cases c1 : l < P.length
  · have e1 := szI_lt c1
    go_enter Tryd.func22, Tryd.ntmps22
    go_wp2_with fail
    refine (szInt64S_c _ P _ _ (hb.rd hp) h0 h1).mono ?_
    rintro e w1 ⟨rfl, rfl⟩
    rw [e1]
    go_wp2
    go_ret
    exact ⟨rfl, hb.below⟩
  have e1 := szI_ge c1
  by_cases c2 : l - P.length < S.length
  · have e2 := szI_lt c2
    go_enter Tryd.func22, Tryd.ntmps22
    go_wp2_with fail
    refine (szInt64S_c _ P _ _ (hb.rd hp) h0 h1).mono ?_
    rintro e w1 ⟨rfl, rfl⟩
    rw [e1]
    go_wp2_with fail
    refine (szInt64S_c _ S _ _ (hb.rd hs) (by omega) (by omega)).mono ?_
    rintro e w1 ⟨rfl, rfl⟩
    rw [e2]
    go_wp2
    go_ret
    exact ⟨rfl, hb.below⟩
  have e2 := szI_ge c2
  have e3 := @szI_lt (l - P.length - S.length) W.length (by omega)
  go_enter Tryd.func22, Tryd.ntmps22
  go_wp2_with fail
  refine (szInt64S_c _ P _ _ (hb.rd hp) h0 h1).mono ?_
  rintro e w1 ⟨rfl, rfl⟩
  rw [e1]
  go_wp2_with fail
  refine (szInt64S_c _ S _ _ (hb.rd hs) (by omega) (by omega)).mono ?_
  rintro e w1 ⟨rfl, rfl⟩
  rw [e2]
  go_wp2_with fail
  refine (szInt64S_c _ W _ _ (hb.rd hq) (by omega) (by omega)).mono ?_
  rintro e w1 ⟨rfl, rfl⟩
  rw [e3]
  go_wp2
  go_ret
  exact ⟨rfl, hb.below⟩

/-- A new cluster is returned. -/
def RetC (w : World) (P S W : List Int) (e : Ending) (w' : World) : Prop :=
  ∃ a i b j c k, e = .returned (.agg #[.slice a P.length i, .slice b S.length j, .slice c W.length k]) ∧ Own3 2 w' w.heap.size (.slice a P.length i) (.slice b S.length j) (.slice c W.length k) P S W ∧ Below w.heap.size w w'

set_option maxHeartbeats 400000 in
theorem toCluster_c (p s q : Value) (P S W : List Int) (w : World) (hp : Rd w p P) (hs : Rd w s S) (hq : Rd w q W) (hP : P.length ≤ 1048576) (hS : S.length ≤ 1048576) (hW : W.length ≤ 1048576) :
    Calls Tryd.prog 24 #[.agg #[p, s, q]] w (RetC w P S W) := by
  obtain ⟨a1, k1, rfl⟩ := hp.len0
  obtain ⟨a2, k2, rfl⟩ := hs.len0
  obtain ⟨a3, k3, rfl⟩ := hq.len0
  go_enter Tryd.func24, Tryd.ntmps24
  go_wp2_with fail
  refine (toInt64S_at _ P _ (hp.below (((Below.refl _ _).alloc (Nat.le_refl _) _).alloc (by simp) _ |>.alloc (by simp; omega) _) (Nat.le_refl _)) hP).mono ?_
  rintro e w1 ⟨rfl, ho1, hb1⟩
  have B1 : Blk w1 w.heap.size 44 #[.slice a1 P.length k1, .slice a2 S.length k2, .slice a3 W.length k3] := (((Blk.new w _ _).alloc _).alloc _).stays hb1
  have B2 : Blk w1 (w.heap.size + 1) 47 #[.slice none 0 0, .slice none 0 0, .slice none 0 0] := ((Blk.new' (by simp)).alloc _).stays hb1
  have B3 : Blk w1 (w.heap.size + 2) 47 #[.slice none 0 0, .slice none 0 0, .slice none 0 0] := (Blk.new' (by simp)).stays hb1
  have H1 := (((Below.refl w.heap.size w).alloc (Nat.le_refl _) (.cells #[.slice a1 P.length k1, .slice a2 S.length k2, .slice a3 W.length k3] 44)).alloc (by simp) (.cells #[.slice none 0 0, .slice none 0 0, .slice none 0 0] 47)).alloc (by simp; omega) (.cells #[.slice none 0 0, .slice none 0 0, .slice none 0 0] 47) |>.trans (hb1.mono (by simp; omega))
  have z1 := hb1.size
  simp at z1 ho1
  have y1 := (ho1.block _ rfl).2
  have c1 := B1.cell 1
  have d0 := B3.cell 0
  have f0 := B3.free 0
  go_wp2_with fail
  have rs := hs.other H1 (Nat.le_refl _) (g := w.heap.size + 2) (by omega) 0 (.slice (some ⟨w.heap.size + 3, 0, none⟩) P.length P.length)
  refine (toInt64S_at _ S _ rs hS).mono ?_
  rintro e w2 ⟨rfl, ho2, hb2⟩
  have o1 := (ho1.other (g := w.heap.size + 2) (fun k hk => by simp [Value.ownBlock] at hk; omega) 0 (.slice (some ⟨w.heap.size + 3, 0, none⟩) P.length P.length)).below hb2 (Nat.le_refl _)
  have C1 := (B1.other (g' := w.heap.size + 2) (by omega) 0 (.slice (some ⟨w.heap.size + 3, 0, none⟩) P.length P.length)).stays hb2
  have C2 := (B2.other (g' := w.heap.size + 2) (by omega) 0 (.slice (some ⟨w.heap.size + 3, 0, none⟩) P.length P.length)).stays hb2
  have C3 := (B3.set 0 (.slice (some ⟨w.heap.size + 3, 0, none⟩) P.length P.length)).stays hb2
  have H2 := (H1.setCell (p := ⟨w.heap.size + 2, 0, none⟩) (by simp) (.slice (some ⟨w.heap.size + 3, 0, none⟩) P.length P.length)).trans (hb2.mono (by simp; omega))
  have z2 := hb2.size
  simp at z2 ho2 C3
  have y2 := (ho2.block _ rfl).2
  clear B1 B2 B3 H1 hb1 hb2 ho1 rs c1 d0 f0
  have c1 := C1.cell 2
  have d0 := C3.cell 1
  have f0 := C3.free 1
  go_wp2_with fail
  have rq := hq.other H2 (Nat.le_refl _) (g := w.heap.size + 2) (by omega) 1 (.slice (some ⟨w1.heap.size, 0, none⟩) S.length S.length)
  refine (toInt64S_at _ W _ rq hW).mono ?_
  rintro e w3 ⟨rfl, ho3, hb3⟩
  have o2 := (ho2.other (g := w.heap.size + 2) (fun k hk => by simp [Value.ownBlock] at hk; omega) 1 (.slice (some ⟨w1.heap.size, 0, none⟩) S.length S.length)).below hb3 (Nat.le_refl _)
  have o1' := (o1.other (g := w.heap.size + 2) (fun k hk => by simp [Value.ownBlock] at hk; omega) 1 (.slice (some ⟨w1.heap.size, 0, none⟩) S.length S.length)).below hb3 (Nat.le_refl _)
  have D2 := (C2.other (g' := w.heap.size + 2) (by omega) 1 (.slice (some ⟨w1.heap.size, 0, none⟩) S.length S.length)).stays hb3
  have D3 := (C3.set 1 (.slice (some ⟨w1.heap.size, 0, none⟩) S.length S.length)).stays hb3
  have H3 := (H2.setCell (p := ⟨w.heap.size + 2, 1, none⟩) (by simp) (.slice (some ⟨w1.heap.size, 0, none⟩) S.length S.length)).trans (hb3.mono (by simp; omega))
  have z3 := hb3.size
  simp at z3 ho3 D3
  have y3 := (ho3.block _ rfl).2
  clear C1 C2 C3 H2 hb3 ho2 o1 rq c1 d0 f0
  have e0 := D3.cell 0
  have e1 := D3.cell 1
  have e2 := D3.cell 2
  have f2 := D3.free 2
  have g0 := D2.cell 0
  have g1 := D2.cell 1
  have g2 := D2.cell 2
  have fg := D2.free
  go_wp2
  have F2 := (((D2.other (g' := w.heap.size + 2) (by omega) 2 (.slice (some ⟨w2.heap.size, 0, none⟩) W.length W.length)).set 0 (.slice (some ⟨w.heap.size + 3, 0, none⟩) P.length P.length)).set 1 (.slice (some ⟨w1.heap.size, 0, none⟩) S.length S.length)).set 2 (.slice (some ⟨w2.heap.size, 0, none⟩) W.length W.length)
  have q0 := F2.cell 0
  have q1 := F2.cell 1
  have q2 := F2.cell 2
  have hK : Keeps (fun k => k = w.heap.size + 1 ∨ k = w.heap.size + 2) w3 ((((w3.setCell ⟨w.heap.size + 2, 2, none⟩ (.slice (some ⟨w2.heap.size, 0, none⟩) W.length W.length)).setCell ⟨w.heap.size + 1, 0, none⟩ (.slice (some ⟨w.heap.size + 3, 0, none⟩) P.length P.length)).setCell ⟨w.heap.size + 1, 1, none⟩ (.slice (some ⟨w1.heap.size, 0, none⟩) S.length S.length)).setCell ⟨w.heap.size + 1, 2, none⟩ (.slice (some ⟨w2.heap.size, 0, none⟩) W.length W.length)) :=
    ((((Keeps.refl _ _).setCell (p := ⟨w.heap.size + 2, 2, none⟩) (.inr rfl) _).setCell (p := ⟨w.heap.size + 1, 0, none⟩) (.inl rfl) _).setCell (p := ⟨w.heap.size + 1, 1, none⟩) (.inl rfl) _).setCell (p := ⟨w.heap.size + 1, 2, none⟩) (.inl rfl) _
  refine bodyPost_ret (v := .agg #[.slice (some ⟨w.heap.size + 3, 0, none⟩) P.length P.length, .slice (some ⟨w1.heap.size, 0, none⟩) S.length S.length, .slice (some ⟨w2.heap.size, 0, none⟩) W.length W.length]) (by simp [results, Tryd.results24, go_sem, q0, q1, q2]) rfl ⟨_, _, _, _, _, _, rfl, ⟨?_, ?_, ?_, ?_, ?_, ?_⟩, ?_⟩
  · exact (o1'.keeps hK (fun k hk => by simp [Value.ownBlock] at hk; rintro (h | h) <;> omega)).base_le (by omega)
  · exact (o2.keeps hK (fun k hk => by simp [Value.ownBlock] at hk; rintro (h | h) <;> omega)).base_le (by omega)
  · exact (ho3.keeps hK (fun k hk => by simp [Value.ownBlock] at hk; rintro (h | h) <;> omega)).base_le (by omega)
  · intro k hk; simp [Value.ownBlock] at hk ⊢; omega
  · intro k hk; simp [Value.ownBlock] at hk ⊢; omega
  · intro k hk; simp [Value.ownBlock] at hk ⊢; omega
  · exact H3.trans (hK.below (by omega) (fun k hk => by omega))

set_option maxHeartbeats 400000 in
theorem eqCluster_c (p s q p' s' q' : Value) (P S W : List Int) (w : World) (hp : Rd w p P) (hs : Rd w s S) (hq : Rd w q W) (hp' : Rd w p' P) (hs' : Rd w s' S) (hq' : Rd w q' W) :
    Calls Tryd.prog 26 #[.agg #[p, s, q], .agg #[p', s', q']] w fun e w' => e = .returned (.bool true) ∧ Below w.heap.size w w' := by
  obtain ⟨a1, k1, rfl⟩ := hp.len0
  obtain ⟨a2, k2, rfl⟩ := hs.len0
  obtain ⟨a3, k3, rfl⟩ := hq.len0
  obtain ⟨a4, k4, rfl⟩ := hp'.len0
  obtain ⟨a5, k5, rfl⟩ := hs'.len0
  obtain ⟨a6, k6, rfl⟩ := hq'.len0
  have hb : Below w.heap.size w ((w.alloc (.cells #[.slice a1 P.length k1, .slice a2 S.length k2, .slice a3 W.length k3] 47)).alloc (.cells #[.slice a4 P.length k4, .slice a5 S.length k5, .slice a6 W.length k6] 47)) := ((Below.refl _ _).alloc (Nat.le_refl _) _).alloc (by simp) _
  have r1 := hp.below hb (Nat.le_refl _)
  have r2 := hs.below hb (Nat.le_refl _)
  have r3 := hq.below hb (Nat.le_refl _)
  have r4 := hp'.below hb (Nat.le_refl _)
  have r5 := hs'.below hb (Nat.le_refl _)
  have r6 := hq'.below hb (Nat.le_refl _)
  have s1 := eqB_self P
  have s2 := eqB_self S
  have s3 := eqB_self W
  go_enter Tryd.func26, Tryd.ntmps26
  go_wp2_with fail
  refine (eqInt64S_c _ _ P P _ r1 r4).mono ?_
  rintro e w1 ⟨rfl, n1, rfl⟩
  go_wp2_with fail
  refine (eqInt64S_c _ _ S S _ (r2.below (below_drewN (Below.refl _ _) _) (Nat.le_refl _)) (r5.below (below_drewN (Below.refl _ _) _) (Nat.le_refl _))).mono ?_
  rintro e w1 ⟨rfl, n2, rfl⟩
  go_wp2_with fail
  refine (eqInt64S_c _ _ W W _ (r3.below (below_drewN (Below.refl _ _) _) (Nat.le_refl _)) (r6.below (below_drewN (Below.refl _ _) _) (Nat.le_refl _))).mono ?_
  rintro e w1 ⟨rfl, n3, rfl⟩
  go_wp2
  go_ret
  exact ⟨rfl, below_drewN hb _⟩

end Go.Proofs.YtiinceflafigeaaDoor

/- Contracts of the laws' own helpers on branches: sizes, copies, comparisons. -/
namespace Go.Proofs.YtiinceflafigeaaDoor
open Go.RowKit

/-- A new branch is returned. -/
def RetB (w : World) (P : List Int) (e : Ending) (w' : World) : Prop :=
  ∃ a i, e = .returned (.agg #[.slice a P.length i]) ∧ OwnI w' w.heap.size (.slice a P.length i) P ∧ Below w.heap.size w w'

end Go.Proofs.YtiinceflafigeaaDoor

/- Contracts of the laws' own helpers on branches: marks. -/
namespace Go.Proofs.YtiinceflafigeaaDoor
open Go.RowKit

end Go.Proofs.YtiinceflafigeaaDoor
