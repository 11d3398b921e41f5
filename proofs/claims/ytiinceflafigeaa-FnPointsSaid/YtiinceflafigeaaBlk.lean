/- Blocks of equal numbers; a store into a row of a list of lists that the call owns. No program in sight. -/
import Derived.Test.YtiinceflafigeaaSteps
namespace Go.Proofs.Ytiinceflafigeaa
open Go.RowKit

theorem gR_set_at {R : List (List Int)} {i : Nat} {y : List Int} (h : i < R.length) : gR (R.set i y) i = y := by simp [gR, List.getD, h]
theorem gR_set_ne {R : List (List Int)} {i j : Nat} {y : List Int} (h : i ≠ j) : gR (R.set i y) j = gR R j := by simp [gR, List.getD, List.getElem?_set_ne h]
theorem keeps_set (w : World) (g j : Nat) (x : Value) : Keeps (fun k => g = k) w (w.setCell ⟨g, j, none⟩ x) := (Keeps.refl _ _).setCell (p := ⟨g, j, none⟩) rfl x
theorem OwnM.store {e : TypeId} {w : World} {base : Nat} {v : Value} {V : Nat → Value} {R : List (List Int)} {i g cap : Nat} (h : OwnM e w base v V R) (hi : i < R.length) (hv : V i = .slice (some ⟨g, 0, none⟩) (gR R i).length cap) (j : Nat) (x : Int) :
    OwnM e (w.setCell ⟨g, j, none⟩ (.int .i64 x)) base v V (R.set i ((gR R i).set j x)) := by
  have hk := keeps_set w g j (.int .i64 x)
  have hg : (V i).ownBlock = some g := by rw [hv]; rfl
  refine ⟨?_, fun i' hi' => ?_, fun a b ha hb => h.apart a b (by simpa using ha) (by simpa using hb), fun a ha => h.self a (by simpa using ha)⟩
  · rcases h.shape with ⟨_, h2⟩ | ⟨g', cap', h1, h2, h3, h4, h5, h6⟩
    · rw [h2] at hi; simp at hi
    · refine .inr ⟨g', cap', by rw [h1]; simp, h2, by simpa using h3, by simpa using h4, h5, fun a ha => ?_⟩
      rw [hk.cell (p := ⟨g', a, none⟩) h3 (fun e => by subst e; exact h.self i hi g hg (by rw [h1]; rfl))]
      exact h6 a (by simpa using ha)
  · have hi2 : i' < R.length := by simpa using hi'
    by_cases c : i' = i
    · subst c
      rw [gR_set_at hi2]
      have hr := h.row i' hi2
      rw [hv] at hr ⊢
      have := hr.set j x
      rw [List.length_set] at *
      exact this
    · rw [gR_set_ne (Ne.symm c)]
      exact (h.row i' hi2).keeps hk (fun k k1 k2 => by subst k2; exact h.apart i i' hi hi2 (Ne.symm c) g hg k1)
theorem GrowM.store {e te : TypeId} {w : World} {base : Nat} {v : Value} {vs : List Value} {R : List (List Int)} {i g cap : Nat} (h : GrowM e te w base v vs R) (hi : i < R.length) (hv : vs.getD i (.slice none 0 0) = .slice (some ⟨g, 0, none⟩) (gR R i).length cap) (j : Nat) (x : Int) :
    GrowM e te (w.setCell ⟨g, j, none⟩ (.int .i64 x)) base v vs (R.set i ((gR R i).set j x)) := by
  have hk := keeps_set w g j (.int .i64 x)
  have hm := h.own.store hi hv j x
  refine ⟨by rw [List.length_set]; exact h.len, ⟨h.out.1, ?_⟩, hm.row, hm.apart, hm.self⟩
  rcases h.out.2 with hn' | ⟨g', cap', cur, hv', hbg, hg, rest⟩
  · exact .inl hn'
  · refine .inr ⟨g', cap', cur, hv', hbg, ?_, rest⟩
    have hlt := (Array.getElem?_eq_some_iff.1 hg).1
    rw [hk.block g' hlt (fun e => by subst e; exact h.self i hi g (by rw [hv]; rfl) (by rw [hv']; rfl))]; exact hg
theorem gR_rowsOf2 {R : List (Int × Int)} {i : Nat} (h : i < R.length) : gR (rowsOf R) i = [(R.getD i (0, 0)).1, (R.getD i (0, 0)).2] := by
  rw [gR_lt (by simpa using h)]
  simp [rowsOf, List.getD, h]
theorem rowsOf_set {R : List (Int × Int)} {i : Nat} (h : i < R.length) (x : Int) : (rowsOf R).set i ((gR (rowsOf R) i).set 1 x) = rowsOf (R.set i ((R.getD i (0, 0)).1, x)) := by
  rw [gR_rowsOf2 h]
  unfold rowsOf
  rw [List.map_set]
  rfl

/-- The last count is one more. -/
def upLast (R : List (Int × Int)) : List (Int × Int) := R.set (R.length - 1) ((R.getD (R.length - 1) (0, 0)).1, (R.getD (R.length - 1) (0, 0)).2 + 1)
@[simp] theorem upLast_len (R : List (Int × Int)) : (upLast R).length = R.length := by simp [upLast]
/-- Is y the number of another block than the last? -/
def newB (R : List (Int × Int)) (y : Int) : Bool := decide (R.length = 0 ∨ (R.getD (R.length - 1) (0, 0)).1 ≠ y)
def openB (R : List (Int × Int)) (y : Int) : List (Int × Int) := if newB R y then R ++ [(y, 0)] else R
def blkStep (R : List (Int × Int)) (y : Int) : List (Int × Int) := upLast (openB R y)
/-- The blocks of a list: the number, and how often it stands there. -/
def blk (L : List Int) : List (Int × Int) := L.foldl blkStep []
theorem blk_nil : blk [] = [] := rfl
theorem blk_take_succ {L : List Int} {k : Nat} (h : k < L.length) : blk (L.take (k + 1)) = blkStep (blk (L.take k)) (gI L k) := by
  unfold blk
  rw [List.take_succ_eq_append_getElem h, List.foldl_append, gI_lt h]
  rfl
theorem upLast_app (R : List (Int × Int)) (x c : Int) : upLast (R ++ [(x, c)]) = R ++ [(x, c + 1)] := by
  unfold upLast
  simp [List.getD]
theorem newB_app (R : List (Int × Int)) (x c y : Int) : newB (R ++ [(x, c)]) y = decide (x ≠ y) := by
  unfold newB
  simp [List.getD]
theorem blkStep_same (R : List (Int × Int)) (x c : Int) : blkStep (R ++ [(x, c)]) x = R ++ [(x, c + 1)] := by
  unfold blkStep openB
  rw [newB_app]
  simp [upLast_app]
theorem blkStep_new (R : List (Int × Int)) (x c y : Int) (h : x ≠ y) : blkStep (R ++ [(x, c)]) y = R ++ [(x, c)] ++ [(y, 1)] := by
  unfold blkStep openB
  rw [newB_app]
  simp only [h, ne_eq, not_false_eq_true, decide_true, if_true]
  rw [upLast_app]; rfl
theorem blkStep_nil (y : Int) : blkStep [] y = [(y, 1)] := by simp [blkStep, openB, newB, upLast]
theorem fold_rep (R : List (Int × Int)) (x : Int) (Y : List Int) : ∀ (q : Nat) (c : Int), List.foldl blkStep (R ++ [(x, c)]) (List.replicate q x ++ Y) = List.foldl blkStep (R ++ [(x, c + (q : Int))]) Y := by
  intro q
  induction q with
  | zero => intro c; simp
  | succ q ih =>
    intro c
    rw [List.replicate_succ, List.cons_append, List.foldl_cons, blkStep_same, ih]
    congr 4
    push_cast; omega
theorem fold_off (R : List (Int × Int)) (x : Int) : ∀ (Y : List Int) (c : Int), Y.head? ≠ some x → List.foldl blkStep (R ++ [(x, c)]) Y = R ++ [(x, c)] ++ blk Y := by
  have key : ∀ (Y : List Int) (R : List (Int × Int)) (x c : Int) (R0 : List (Int × Int)), List.foldl blkStep (R0 ++ (R ++ [(x, c)])) Y = R0 ++ List.foldl blkStep (R ++ [(x, c)]) Y := by
    intro Y
    induction Y with
    | nil => intro R x c R0; rfl
    | cons y Y ih =>
      intro R x c R0
      rw [List.foldl_cons, List.foldl_cons, ← List.append_assoc]
      by_cases h : x = y
      · subst h
        rw [blkStep_same, blkStep_same, List.append_assoc, ih]
      · rw [blkStep_new _ _ _ _ h, blkStep_new _ _ _ _ h, List.append_assoc R0, List.append_assoc R0, ih]
  intro Y c hh
  cases Y with
  | nil => simp [blk]
  | cons y Y =>
    have hxy : x ≠ y := by intro e; exact hh (by rw [e]; rfl)
    rw [List.foldl_cons, blkStep_new _ _ _ _ hxy]
    have h1 := key Y [] y 1 (R ++ [(x, c)])
    rw [List.nil_append] at h1
    rw [h1]
    congr 1
/-- The first block is known. -/
theorem blk_rep (x : Int) (q : Nat) (Y : List Int) (h : Y.head? ≠ some x) : blk (List.replicate (q + 1) x ++ Y) = (x, (q : Int) + 1) :: blk Y := by
  unfold blk
  rw [List.replicate_succ, List.cons_append, List.foldl_cons, blkStep_nil]
  have h1 := fold_rep [] x Y q 1
  rw [List.nil_append] at h1
  rw [h1, fold_off _ _ _ _ h]
  show _ = _ :: blk Y
  simp; omega
/-- What the blocks of the first k numbers have. -/
theorem blk_inv {L : List Int} : ∀ k, k ≤ L.length → (blk (L.take k)).length ≤ k ∧ (∀ s, s ∈ blk (L.take k) → 0 ≤ s.2 ∧ s.2 ≤ (k : Int)) ∧ (0 < k → ∃ R0 c, blk (L.take k) = R0 ++ [(gI L (k - 1), c)]) := by
  intro k
  induction k with
  | zero => intro _; exact ⟨by simp [blk], fun s hs => by simp [blk] at hs, fun h => by omega⟩
  | succ k ih =>
    intro hk
    obtain ⟨h1, h2, h3⟩ := ih (by omega)
    rw [blk_take_succ (by omega)]
    generalize blk (L.take k) = R at *
    rw [Nat.add_sub_cancel]
    generalize gI L k = y at *
    rcases List.eq_nil_or_concat R with rfl | ⟨R0, ⟨x, c⟩, rfl⟩
    · rw [blkStep_nil]
      exact ⟨by simp, fun s hs => by simp at hs; subst hs; simp; omega, fun _ => ⟨[], 1, rfl⟩⟩
    · simp only [List.concat_eq_append] at h1 h2 h3 ⊢
      have hx := h2 (x, c) (by simp)
      simp at h1
      by_cases e : x = y
      · subst e
        rw [blkStep_same]
        refine ⟨by simp; omega, fun s hs => ?_, fun _ => ⟨R0, c + 1, rfl⟩⟩
        rcases List.mem_append.1 hs with hs | hs
        · have := h2 s (List.mem_append_left _ hs); omega
        · simp at hs; subst hs; simp at hx ⊢; omega
      · rw [blkStep_new _ _ _ _ e]
        refine ⟨by simp; omega, fun s hs => ?_, fun _ => ⟨R0 ++ [(x, c)], 1, by simp⟩⟩
        rcases List.mem_append.1 hs with hs | hs
        · have := h2 s hs; omega
        · simp at hs; subst hs; simp; omega
theorem newB_blk {L : List Int} {k : Nat} (hk : k ≤ L.length) (h0 : 0 < k) (y : Int) : newB (blk (L.take k)) y = decide (gI L (k - 1) ≠ y) := by
  obtain ⟨R0, c, h⟩ := (blk_inv k hk).2.2 h0
  rw [h, newB_app]
theorem openB_yes {R : List (Int × Int)} {y : Int} (h : newB R y = true) : openB R y = R ++ [(y, 0)] := by unfold openB; rw [h]; rfl
theorem openB_no {R : List (Int × Int)} {y : Int} (h : newB R y = false) : openB R y = R := by unfold openB; rw [h]; rfl
end Go.Proofs.Ytiinceflafigeaa
