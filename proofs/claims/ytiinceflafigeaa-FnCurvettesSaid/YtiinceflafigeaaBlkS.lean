/- Blocks of equal numbers; a store into a row of a list of lists that the call owns. No program in sight. -/
import Derived.Test.YtiinceflafigeaaSteps
import Derived.BigQuiet
namespace Go.Proofs.Ytiinceflafigeaa
open Go.RowKit

theorem gR_set_at {R : List (List Int)} {i : Nat} {y : List Int} (h : i < R.length) : gR (R.set i y) i = y := by simp [gR, List.getD, h]
theorem gR_set_ne {R : List (List Int)} {i j : Nat} {y : List Int} (h : i ≠ j) : gR (R.set i y) j = gR R j := by simp [gR, List.getD, List.getElem?_set_ne h]
theorem keeps_set (w : World) (g j : Nat) (x : Value) : Keeps (fun k => g = k) w (w.setCell ⟨g, j, none⟩ x) := (Keeps.refl _ _).setCell (p := ⟨g, j, none⟩) rfl x
theorem OwnM.store {e : TypeId} {w : World} {base : Nat} {v : Value} {V : Nat → Value} {R : List (List Int)} {i g cap : Nat} (h : OwnM e w base v V R) (hi : i < R.length) (hv : V i = .slice (some ⟨g, 0, none⟩) (gR R i).length cap) (j : Nat) (x : Int) :
    OwnM e (w.setCell ⟨g, j, none⟩ (.int .i64 x)) base v V (R.set i ((gR R i).set j x)) := by
  have hk := keeps_set w g j (.int .i64 x)
  have hg : (V i).ownBlock = some g := by rw [hv]; rfl
  refine ⟨?_, fun i' hi' => ?_, fun a b ha hb => h.apart a b (by simpa using ha) (by simpa using hb), fun a ha => h.self a (by simpa using ha)⟩
  · rcases h.shape with ⟨_, h2⟩ | ⟨g', cap', h1, h2, h3, h4, h5, h6⟩
    · rw [h2] at hi; simp at hi
    · refine .inr ⟨g', cap', by rw [h1]; simp, h2, by simpa using h3, by simpa using h4, h5, fun a ha => ?_⟩
      rw [hk.cell (p := ⟨g', a, none⟩) h3 (fun e => by subst e; exact h.self i hi g hg (by rw [h1]; rfl))]
      exact h6 a (by simpa using ha)
  · have hi2 : i' < R.length := by simpa using hi'
    by_cases c : i' = i
    · subst c
      rw [gR_set_at hi2]
      have hr := h.row i' hi2
      rw [hv] at hr ⊢
      have := hr.set j x
      rw [List.length_set] at *
      exact this
    · rw [gR_set_ne (Ne.symm c)]
      exact (h.row i' hi2).keeps hk (fun k k1 k2 => by subst k2; exact h.apart i i' hi hi2 (Ne.symm c) g hg k1)
theorem GrowM.store {e te : TypeId} {w : World} {base : Nat} {v : Value} {vs : List Value} {R : List (List Int)} {i g cap : Nat} (h : GrowM e te w base v vs R) (hi : i < R.length) (hv : vs.getD i (.slice none 0 0) = .slice (some ⟨g, 0, none⟩) (gR R i).length cap) (j : Nat) (x : Int) :
    GrowM e te (w.setCell ⟨g, j, none⟩ (.int .i64 x)) base v vs (R.set i ((gR R i).set j x)) := by
  have hk := keeps_set w g j (.int .i64 x)
  have hm := h.own.store hi hv j x
  refine ⟨by rw [List.length_set]; exact h.len, ⟨h.out.1, ?_⟩, hm.row, hm.apart, hm.self⟩
  rcases h.out.2 with hn' | ⟨g', cap', cur, hv', hbg, hg, rest⟩
  · exact .inl hn'
  · refine .inr ⟨g', cap', cur, hv', hbg, ?_, rest⟩
    have hlt := (Array.getElem?_eq_some_iff.1 hg).1
    rw [hk.block g' hlt (fun e => by subst e; exact h.self i hi g (by rw [hv]; rfl) (by rw [hv']; rfl))]; exact hg
theorem gR_rowsOf2 {R : List (Int × Int)} {i : Nat} (h : i < R.length) : gR (rowsOf R) i = [(R.getD i (0, 0)).1, (R.getD i (0, 0)).2] := by
  rw [gR_lt (by simpa using h)]
  simp [rowsOf, List.getD, h]
theorem rowsOf_set {R : List (Int × Int)} {i : Nat} (h : i < R.length) (x : Int) : (rowsOf R).set i ((gR (rowsOf R) i).set 1 x) = rowsOf (R.set i ((R.getD i (0, 0)).1, x)) := by
  rw [gR_rowsOf2 h]
  unfold rowsOf
  rw [List.map_set]
  rfl

/-- The last count is one more. -/
def upLast (R : List (Int × Int)) : List (Int × Int) := R.set (R.length - 1) ((R.getD (R.length - 1) (0, 0)).1, (R.getD (R.length - 1) (0, 0)).2 + 1)
@[simp] theorem upLast_len (R : List (Int × Int)) : (upLast R).length = R.length := by simp [upLast]
/-- Is y the number of another block than the last? -/
def newB (R : List (Int × Int)) (y : Int) : Bool := decide (R.length = 0 ∨ (R.getD (R.length - 1) (0, 0)).1 ≠ y)
def openB (R : List (Int × Int)) (y : Int) : List (Int × Int) := if newB R y then R ++ [(y, 0)] else R
def blkStep (R : List (Int × Int)) (y : Int) : List (Int × Int) := upLast (openB R y)
/-- The blocks of a list: the number, and how often it stands there. -/
def blk (L : List Int) : List (Int × Int) := L.foldl blkStep []
theorem blk_nil : blk [] = [] := rfl
theorem blk_take_succ {L : List Int} {k : Nat} (h : k < L.length) : blk (L.take (k + 1)) = blkStep (blk (L.take k)) (gI L k) := by
  unfold blk
  rw [List.take_succ_eq_append_getElem h, List.foldl_append, gI_lt h]
  rfl
theorem upLast_app (R : List (Int × Int)) (x c : Int) : upLast (R ++ [(x, c)]) = R ++ [(x, c + 1)] := by
  unfold upLast
  simp [List.getD]
theorem newB_app (R : List (Int × Int)) (x c y : Int) : newB (R ++ [(x, c)]) y = decide (x ≠ y) := by
  unfold newB
  simp [List.getD]
theorem blkStep_same (R : List (Int × Int)) (x c : Int) : blkStep (R ++ [(x, c)]) x = R ++ [(x, c + 1)] := by
  unfold blkStep openB
  rw [newB_app]
  simp [upLast_app]
theorem blkStep_new (R : List (Int × Int)) (x c y : Int) (h : x ≠ y) : blkStep (R ++ [(x, c)]) y = R ++ [(x, c)] ++ [(y, 1)] := by
  unfold blkStep openB
  rw [newB_app]
  simp only [h, ne_eq, not_false_eq_true, decide_true, if_true]
  rw [upLast_app]; rfl
theorem blkStep_nil (y : Int) : blkStep [] y = [(y, 1)] := by simp [blkStep, openB, newB, upLast]
theorem fold_rep (R : List (Int × Int)) (x : Int) (Y : List Int) : ∀ (q : Nat) (c : Int), List.foldl blkStep (R ++ [(x, c)]) (List.replicate q x ++ Y) = List.foldl blkStep (R ++ [(x, c + (q : Int))]) Y := by
  intro q
  induction q with
  | zero => intro c; simp
  | succ q ih =>
    intro c
    rw [List.replicate_succ, List.cons_append, List.foldl_cons, blkStep_same, ih]
    congr 4
    push_cast; omega
theorem fold_off (R : List (Int × Int)) (x : Int) : ∀ (Y : List Int) (c : Int), Y.head? ≠ some x → List.foldl blkStep (R ++ [(x, c)]) Y = R ++ [(x, c)] ++ blk Y := by
  have key : ∀ (Y : List Int) (R : List (Int × Int)) (x c : Int) (R0 : List (Int × Int)), List.foldl blkStep (R0 ++ (R ++ [(x, c)])) Y = R0 ++ List.foldl blkStep (R ++ [(x, c)]) Y := by
    intro Y
    induction Y with
    | nil => intro R x c R0; rfl
    | cons y Y ih =>
      intro R x c R0
      rw [List.foldl_cons, List.foldl_cons, ← List.append_assoc]
      by_cases h : x = y
      · subst h
        rw [blkStep_same, blkStep_same, List.append_assoc, ih]
      · rw [blkStep_new _ _ _ _ h, blkStep_new _ _ _ _ h, List.append_assoc R0, List.append_assoc R0, ih]
  intro Y c hh
  cases Y with
  | nil => simp [blk]
  | cons y Y =>
    have hxy : x ≠ y := by intro e; exact hh (by rw [e]; rfl)
    rw [List.foldl_cons, blkStep_new _ _ _ _ hxy]
    have h1 := key Y [] y 1 (R ++ [(x, c)])
    rw [List.nil_append] at h1
    rw [h1]
    congr 1
/-- The first block is known. -/
theorem blk_rep (x : Int) (q : Nat) (Y : List Int) (h : Y.head? ≠ some x) : blk (List.replicate (q + 1) x ++ Y) = (x, (q : Int) + 1) :: blk Y := by
  unfold blk
  rw [List.replicate_succ, List.cons_append, List.foldl_cons, blkStep_nil]
  have h1 := fold_rep [] x Y q 1
  rw [List.nil_append] at h1
  rw [h1, fold_off _ _ _ _ h]
  show _ = _ :: blk Y
  simp; omega
/-- What the blocks of the first k numbers have. -/
theorem blk_inv {L : List Int} : ∀ k, k ≤ L.length → (blk (L.take k)).length ≤ k ∧ (∀ s, s ∈ blk (L.take k) → 0 ≤ s.2 ∧ s.2 ≤ (k : Int)) ∧ (0 < k → ∃ R0 c, blk (L.take k) = R0 ++ [(gI L (k - 1), c)]) := by
  intro k
  induction k with
  | zero => intro _; exact ⟨by simp [blk], fun s hs => by simp [blk] at hs, fun h => by omega⟩
  | succ k ih =>
    intro hk
    obtain ⟨h1, h2, h3⟩ := ih (by omega)
    rw [blk_take_succ (by omega)]
    generalize blk (L.take k) = R at *
    rw [Nat.add_sub_cancel]
    generalize gI L k = y at *
    rcases List.eq_nil_or_concat R with rfl | ⟨R0, ⟨x, c⟩, rfl⟩
    · rw [blkStep_nil]
      exact ⟨by simp, fun s hs => by simp at hs; subst hs; simp; omega, fun _ => ⟨[], 1, rfl⟩⟩
    · simp only [List.concat_eq_append] at h1 h2 h3 ⊢
      have hx := h2 (x, c) (by simp)
      simp at h1
      by_cases e : x = y
      · subst e
        rw [blkStep_same]
        refine ⟨by simp; omega, fun s hs => ?_, fun _ => ⟨R0, c + 1, rfl⟩⟩
        rcases List.mem_append.1 hs with hs | hs
        · have := h2 s (List.mem_append_left _ hs); omega
        · simp at hs; subst hs; simp at hx ⊢; omega
      · rw [blkStep_new _ _ _ _ e]
        refine ⟨by simp; omega, fun s hs => ?_, fun _ => ⟨R0 ++ [(x, c)], 1, by simp⟩⟩
        rcases List.mem_append.1 hs with hs | hs
        · have := h2 s hs; omega
        · simp at hs; subst hs; simp; omega
theorem newB_blk {L : List Int} {k : Nat} (hk : k ≤ L.length) (h0 : 0 < k) (y : Int) : newB (blk (L.take k)) y = decide (gI L (k - 1) ≠ y) := by
  obtain ⟨R0, c, h⟩ := (blk_inv k hk).2.2 h0
  rw [h, newB_app]
theorem openB_yes {R : List (Int × Int)} {y : Int} (h : newB R y = true) : openB R y = R ++ [(y, 0)] := by unfold openB; rw [h]; rfl
theorem openB_no {R : List (Int × Int)} {y : Int} (h : newB R y = false) : openB R y = R := by unfold openB; rw [h]; rfl
end Go.Proofs.Ytiinceflafigeaa

/- Contract: spec.l04Blocks. -/
namespace Go.Proofs.Ytiinceflafigeaa
open Go.RowKit

set_option maxRecDepth 100000 in
set_option maxHeartbeats 4000000 in
theorem l04Blocks_c (v : Value) (L : List Int) (w : World) (h : Rd w v L) (hl : L.length ≤ 1000) :
    Calls Try.prog 200 #[v] w (RetM 2 w (rowsOf (blk L))) := by
  obtain ⟨j0, ji, jz0, jz1, jz2⟩ := info_parts Try.infoII
  obtain ⟨a0, c0, rfl⟩ := h.len0
  have hE : GrowM 2 24 (w.alloc (.cells #[] 24)) w.heap.size (.slice (some ⟨w.heap.size, 0, none⟩) 0 0) [] [] := GrowM.empty _ _ w w.heap.size w.heap.size rfl (Nat.le_refl _)
  have hal : Below w.heap.size w (w.alloc (.cells #[] 24)) := (Below.refl _ _).alloc (Nat.le_refl _) _
  have HALL : Hid (blk (L.take L.length) = blk L) := Lib.hid (by rw [List.take_length])
  obtain ⟨n, hn⟩ : ∃ n, L.length = n := ⟨_, rfl⟩
  have HN := Lib.hid hn
  rw [hn] at hl ⊢
  have HH := Lib.hid h
  clear h hn
  go_enter Try.func200, Try.ntmps200
  go_wp2_with fail
  go_loopw [3, 4, 5] (fun lv iv _ wr => ∃ (k : Nat) (g c : Nat) (vs : List Value), k ≤ n ∧ iv = .int .i64 (k : Int) ∧ lv = .slice (some ⟨g, 0, none⟩) (rowsOf (blk (L.take k))).length c ∧ GrowM 2 24 wr w.heap.size (.slice (some ⟨g, 0, none⟩) (rowsOf (blk (L.take k))).length c) vs (rowsOf (blk (L.take k))) ∧ Below w.heap.size w wr) (fun _ iv _ _ => n - (intOf iv).toNat)
  case atStart => exact ⟨0, w.heap.size, 0, [], Nat.zero_le _, rfl, rfl, hE, hal⟩
  case round =>
    obtain ⟨k, g, c, vs, hk, rfl, rfl, hG, hbl⟩ := hrel
    clear hE hal
    obtain ⟨wo, rfl⟩ : ∃ wo : World, wo = wr := ⟨_, rfl⟩
    by_cases hlt : k < n
    · have hinv := blk_inv (L := L) k (by rw [HN.out]; exact hk)
      have HST := Lib.hid (blk_take_succ (L := L) (k := k) (by rw [HN.out]; exact hlt))
      --ROUND
      generalize hgR : blk (L.take k) = R at *
      generalize hgy : gI L k = y at *
      have HB : Hid (∀ s, s ∈ openB R y → 0 ≤ s.2 ∧ s.2 ≤ 1000) := Lib.hid (fun s hs => by
        unfold openB at hs
        split at hs
        · rcases List.mem_append.1 hs with hs | hs
          · have := hinv.2.1 s hs; omega
          · simp at hs; subst hs; simp
        · have := hinv.2.1 s hs; omega)
      have hRb := hinv.1
      have HRL := Lib.hid hRb
      have HML : Hid (∀ m, (openB R y).length = m + 1 → m ≤ 1000) := Lib.hid (fun m hm => by
        unfold openB at hm
        split at hm
        · simp at hm; omega
        · omega)
      obtain ⟨b, off, cap, he, hc1, hc2, hb, hc⟩ := HH.out.cells (by rw [HN.out]; omega)
      injection he with he1 he2 he3
      subst he1 he3
      have dy : wo.cell? ⟨b, off + k, none⟩ = some (.int .i64 y) := by rw [hbl.cell (p := ⟨b, off + k, none⟩) hb, ← hgy]; exact hc k (by rw [HN.out]; exact hlt)
      by_cases hk0 : k = 0
      · subst hk0
        have hR0 : R = [] := by rw [← hgR]; rfl
        have HNB : Hid (newB R y = true) := Lib.hid (by rw [hR0]; rfl)
        clear hR0 hc hinv he2 hgR hgy
        go_wp2_with fail
        go_quiet (fail)
        rename_i nq
        have hG1 := hG.below (below_drewN (Below.refl wo.heap.size wo) nq)
        have hbl1 := below_drewN hbl nq
        have dy1 : (wo.drewN nq).cell? ⟨b, off, none⟩ = some (.int .i64 y) := dy
        generalize wo.drewN nq = w1 at *
        clear hG hbl dy
        have hal2 : Below w1.heap.size w1 (w1.alloc (.cells #[.int .i64 y, .int .i64 0] 2)) := (Below.refl _ _).alloc (Nat.le_refl _) _
        have hG2 := hG1.below hal2
        have hsz := hbl1.size
        have hgl := (hG1.block g rfl).2
        have hu : Own 2 (w1.alloc (.cells #[.int .i64 y, .int .i64 0] 2)) w.heap.size (.slice (some ⟨w1.heap.size, 0, none⟩) 2 2) [y, 0] := own_blk2 (Blk.new w1 _ _) hsz
        have hua : Apart (.slice (some ⟨w1.heap.size, 0, none⟩) 2 2) (.slice (some ⟨g, 0, none⟩) (rowsOf R).length c) := fun x h1 h2 => by simp [Value.ownBlock] at h1 h2; omega
        have hur : ∀ i, i < (rowsOf R).length → Apart (vs.getD i (.slice none 0 0)) (.slice (some ⟨w1.heap.size, 0, none⟩) 2 2) := fun i hi x h1 h2 => by simp [Value.ownBlock] at h2; have := ((hG1.row i hi).block x h1).2; omega
        go_upto_region 7 with (at_builtin; refine wpList_pushR rfl (.tmp 27) (.tmp 33) 64 rfl w.heap.size 2 24 j0 Try.underlying64 ji jz0 jz1 jz2 (.slice (some ⟨g, 0, none⟩) (rowsOf R).length c) vs (rowsOf R) (.slice (some ⟨w1.heap.size, 0, none⟩) 2 2) [y, 0] (by simp [go_sem]) hG2 (w1.heap.size + 1) (by simp) rfl hu hua hur (by have := HRL.out; simp; omega) (by simp; omega) ?_; intro g2 c2 w2 hG3 hkp hlt3)
        have hbl2 := (hbl1.trans (hal2.mono hsz)).trans (hkp.below (by simp; omega) (fun k hk => by simp [Value.ownBlock] at hk; have := (hG1.block g rfl).1; omega))
        have hOP : openB R y = R ++ [(y, 0)] := openB_yes HNB.out
        rw [rowsOf_len] at hG3
        rw [← rowsOf_snoc R (y, 0), ← hOP] at hG3
        have hl3 : R.length + 1 = (rowsOf (openB R y)).length := by rw [rowsOf_len, hOP]; simp
        rw [hl3] at hG3 ⊢
        have hG2 := hG3
        have hcnt2 := hl3
        clear hkp hG1 hal2 hu hua hur hl3 hG3 hbl1
        have hR2p : 0 < (openB R y).length := by rw [hOP]; simp
        have hR2b : ∀ s, s ∈ openB R y → 0 ≤ s.2 ∧ s.2 ≤ 1000 := HB.out
        obtain ⟨m, hm⟩ : ∃ m, (openB R y).length = m + 1 := ⟨(openB R y).length - 1, by omega⟩
        have hrl : (rowsOf (openB R y)).length = m + 1 := by rw [rowsOf_len, hm]
        have hrow := hG2.row m (by omega)
        rw [gR_rowsOf2 (by omega)] at hrow
        obtain ⟨bu, cu, hVe, hbu1, hbu2, _, _⟩ := Own.pos hrow (by simp)
        have hst := hG2.store (i := m) (g := bu) (cap := cu) (by omega) (by rw [gR_rowsOf2 (by omega)]; exact hVe) 1 (((openB R y).getD m (0, 0)).2 + 1)
        rw [rowsOf_set (by omega)] at hst
        have hup : (openB R y).set m (((openB R y).getD m (0, 0)).1, ((openB R y).getD m (0, 0)).2 + 1) = upLast (openB R y) := by unfold upLast; rw [hm, Nat.add_sub_cancel]
        rw [hup] at hst
        have hcnt := hR2b ((openB R y).getD m (0, 0)) (by simp [List.getD, show m < (openB R y).length by omega])
        rw [hVe] at hrow
        have du1 := Own.cell hrow 1 (by simp)
        have fu1 := Own.free hrow 1
        have gg1 : gI [((openB R y).getD m (0, 0)).1, ((openB R y).getD m (0, 0)).2] 1 = ((openB R y).getD m (0, 0)).2 := rfl
        rw [gg1] at du1
        have dV : w2.cell? ⟨g2, m, none⟩ = some (.slice (some ⟨bu, 0, none⟩) 2 cu) := by
          rcases hG2.own.shape with ⟨he, _⟩ | ⟨g', cap', he, _, _, _, _, h6⟩
          · cases he
          · injection he with he1 _ _
            injection he1 with he1
            injection he1 with he1 _ _
            subst he1
            have := h6 m (by omega)
            rw [this]
            exact congrArg some hVe
        have hbb : Below w.heap.size w (w2.setCell ⟨bu, 1, none⟩ (.int .i64 (((openB R y).getD m (0, 0)).2 + 1))) := hbl2.setCell (p := ⟨bu, 1, none⟩) (by show w.heap.size ≤ bu; omega) _
        have hul : (rowsOf (upLast (openB R y))).length = m + 1 := by rw [rowsOf_len, upLast_len, hm]
        have HFR : Hid (∃ vs', GrowM 2 24 (w2.setCell ⟨bu, 1, none⟩ (.int .i64 (((openB R y).getD m (0, 0)).2 + 1))) w.heap.size (.slice (some ⟨g2, 0, none⟩) (rowsOf (blk (L.take (0 + 1)))).length c2) vs' (rowsOf (blk (L.take (0 + 1))))) := Lib.hid ⟨_, by rw [HST.out]; show GrowM _ _ _ _ (.slice (some ⟨g2, 0, none⟩) (rowsOf (upLast (openB R y))).length c2) _ (rowsOf (upLast (openB R y))); rw [hul, ← hrl]; exact hst⟩
        have HLN : Hid ((rowsOf (blk (L.take (0 + 1)))).length = m + 1) := Lib.hid (by rw [HST.out]; exact hul)
        have HBB := Lib.hid hbb
        generalize ((openB R y).getD m (0, 0)).2 = cnt at *
        have e1 : IntKind.i64.wrap (m : Int) = (m : Int) := IntWalk.i64_in _ (by have := HML.out m hm; omega)
        have e2 : (m : Int) + 1 - 1 = (m : Int) := by omega
        have e3 : (0 : Int) ≤ (m : Int) := by omega
        have e4 : (m : Int) < ((m + 1 : Nat) : Int) := by omega
        have e5 : (m : Int) < (m : Int) + 1 := by omega
        rw [hrl] at *
        clear hst hrow hVe hup hcnt2 hbb hul hrl hG2 hR2b hm gg1 hbl2 hRb hOP
        go_wp2
        obtain ⟨vs', hgv⟩ := HFR.out
        go_roundw
        case rel => exact ⟨0 + 1, g2, c2, vs', by omega, by go_num, by rw [HLN.out], hgv, HBB.out⟩
        case measure => simp [intOf]; omega
      · have dx : wo.cell? ⟨b, off + (k - 1), none⟩ = some (.int .i64 (gI L (k - 1))) := by rw [hbl.cell (p := ⟨b, off + (k - 1), none⟩) hb]; exact hc (k - 1) (by rw [HN.out]; omega)
        have hnb := newB_blk (L := L) (k := k) (by rw [HN.out]; exact hk) (by omega) y
        rw [hgR] at hnb
        obtain ⟨R0, c0, hR0⟩ := hinv.2.2 (by omega)
        have hRp : 0 < R.length := by rw [hR0]; simp
        have HRP := Lib.hid hRp
        have hkb : ((k : Int) == 0) = false := by simp; omega
        obtain ⟨q, hq⟩ : ∃ q, k - 1 = q := ⟨_, rfl⟩
        rw [hq] at dx hnb
        have f1 : (k : Int) - 1 = (q : Int) := by omega
        have f2 : IntKind.i64.wrap (q : Int) = (q : Int) := IntWalk.i64_in _ (by omega)
        have f3 : (0 : Int) ≤ (q : Int) := by omega
        have f4 : (q : Int) < (n : Int) := by omega
        generalize gI L q = x at *
        by_cases hxy : x = y
        · have HNB : Hid (newB R y = false) := Lib.hid (by rw [hnb]; simp [hxy])
          have g1 : (y != x) = false := by simp [hxy]
          have g2 : (y == x) = true := by simp [hxy]
          clear hc hinv he2 hgR hgy hnb hR0 hq hxy
          go_wp2_with fail
          go_quiet (fail)
          rename_i nq
          have hG1 := hG.below (below_drewN (Below.refl wo.heap.size wo) nq)
          have hbl1 := below_drewN hbl nq
          have dy1 : (wo.drewN nq).cell? ⟨b, off + k, none⟩ = some (.int .i64 y) := dy
          generalize wo.drewN nq = w1 at *
          clear hG hbl dy
          have hOP : openB R y = R := openB_no HNB.out
          obtain ⟨g2, hg2⟩ : ∃ g2, g2 = g := ⟨_, rfl⟩
          obtain ⟨c2, hc2⟩ : ∃ c2, c2 = c := ⟨_, rfl⟩
          obtain ⟨w2, hw2⟩ : ∃ w2 : World, w2 = w1 := ⟨_, rfl⟩
          have hG2 := hG1
          have hbl2 := hbl1
          rw [← hOP] at hG2 ⊢
          rw [← hg2, ← hc2, ← hw2] at hG2 ⊢
          rw [← hw2] at hbl2
          have hcnt2 := hg2
          clear hG1 hbl1 hg2 hc2 hw2
          have hR2p : 0 < (openB R y).length := by rw [hOP]; exact HRP.out
          have hR2b : ∀ s, s ∈ openB R y → 0 ≤ s.2 ∧ s.2 ≤ 1000 := HB.out
          obtain ⟨m, hm⟩ : ∃ m, (openB R y).length = m + 1 := ⟨(openB R y).length - 1, by omega⟩
          have hrl : (rowsOf (openB R y)).length = m + 1 := by rw [rowsOf_len, hm]
          have hrow := hG2.row m (by omega)
          rw [gR_rowsOf2 (by omega)] at hrow
          obtain ⟨bu, cu, hVe, hbu1, hbu2, _, _⟩ := Own.pos hrow (by simp)
          have hst := hG2.store (i := m) (g := bu) (cap := cu) (by omega) (by rw [gR_rowsOf2 (by omega)]; exact hVe) 1 (((openB R y).getD m (0, 0)).2 + 1)
          rw [rowsOf_set (by omega)] at hst
          have hup : (openB R y).set m (((openB R y).getD m (0, 0)).1, ((openB R y).getD m (0, 0)).2 + 1) = upLast (openB R y) := by unfold upLast; rw [hm, Nat.add_sub_cancel]
          rw [hup] at hst
          have hcnt := hR2b ((openB R y).getD m (0, 0)) (by simp [List.getD, show m < (openB R y).length by omega])
          rw [hVe] at hrow
          have du1 := Own.cell hrow 1 (by simp)
          have fu1 := Own.free hrow 1
          have gg1 : gI [((openB R y).getD m (0, 0)).1, ((openB R y).getD m (0, 0)).2] 1 = ((openB R y).getD m (0, 0)).2 := rfl
          rw [gg1] at du1
          have dV : w2.cell? ⟨g2, m, none⟩ = some (.slice (some ⟨bu, 0, none⟩) 2 cu) := by
            rcases hG2.own.shape with ⟨he, _⟩ | ⟨g', cap', he, _, _, _, _, h6⟩
            · cases he
            · injection he with he1 _ _
              injection he1 with he1
              injection he1 with he1 _ _
              subst he1
              have := h6 m (by omega)
              rw [this]
              exact congrArg some hVe
          have hbb : Below w.heap.size w (w2.setCell ⟨bu, 1, none⟩ (.int .i64 (((openB R y).getD m (0, 0)).2 + 1))) := hbl2.setCell (p := ⟨bu, 1, none⟩) (by show w.heap.size ≤ bu; omega) _
          have hul : (rowsOf (upLast (openB R y))).length = m + 1 := by rw [rowsOf_len, upLast_len, hm]
          have HFR : Hid (∃ vs', GrowM 2 24 (w2.setCell ⟨bu, 1, none⟩ (.int .i64 (((openB R y).getD m (0, 0)).2 + 1))) w.heap.size (.slice (some ⟨g2, 0, none⟩) (rowsOf (blk (L.take (k + 1)))).length c2) vs' (rowsOf (blk (L.take (k + 1))))) := Lib.hid ⟨_, by rw [HST.out]; show GrowM _ _ _ _ (.slice (some ⟨g2, 0, none⟩) (rowsOf (upLast (openB R y))).length c2) _ (rowsOf (upLast (openB R y))); rw [hul, ← hrl]; exact hst⟩
          have HLN : Hid ((rowsOf (blk (L.take (k + 1)))).length = m + 1) := Lib.hid (by rw [HST.out]; exact hul)
          have HBB := Lib.hid hbb
          generalize ((openB R y).getD m (0, 0)).2 = cnt at *
          have e1 : IntKind.i64.wrap (m : Int) = (m : Int) := IntWalk.i64_in _ (by have := HML.out m hm; omega)
          have e2 : (m : Int) + 1 - 1 = (m : Int) := by omega
          have e3 : (0 : Int) ≤ (m : Int) := by omega
          have e4 : (m : Int) < ((m + 1 : Nat) : Int) := by omega
          have e5 : (m : Int) < (m : Int) + 1 := by omega
          rw [hrl] at *
          clear hst hrow hVe hup hcnt2 hbb hul hrl hG2 hR2b hm gg1 hbl2 hRb hOP
          go_wp2
          obtain ⟨vs', hgv⟩ := HFR.out
          go_roundw
          case rel => exact ⟨k + 1, g2, c2, vs', by omega, by go_num, by rw [HLN.out], hgv, HBB.out⟩
          case measure => simp [intOf]; omega
        · have HNB : Hid (newB R y = true) := Lib.hid (by rw [hnb]; simp [hxy])
          have g1 : (y != x) = true := by simp; exact fun e => hxy e.symm
          have g2 : (y == x) = false := by simp; exact fun e => hxy e.symm
          clear hc hinv he2 hgR hgy hnb hR0 hq hxy
          go_wp2_with fail
          go_quiet (fail)
          rename_i nq
          have hG1 := hG.below (below_drewN (Below.refl wo.heap.size wo) nq)
          have hbl1 := below_drewN hbl nq
          have dy1 : (wo.drewN nq).cell? ⟨b, off + k, none⟩ = some (.int .i64 y) := dy
          generalize wo.drewN nq = w1 at *
          clear hG hbl dy
          have hal2 : Below w1.heap.size w1 (w1.alloc (.cells #[.int .i64 y, .int .i64 0] 2)) := (Below.refl _ _).alloc (Nat.le_refl _) _
          have hG2 := hG1.below hal2
          have hsz := hbl1.size
          have hgl := (hG1.block g rfl).2
          have hu : Own 2 (w1.alloc (.cells #[.int .i64 y, .int .i64 0] 2)) w.heap.size (.slice (some ⟨w1.heap.size, 0, none⟩) 2 2) [y, 0] := own_blk2 (Blk.new w1 _ _) hsz
          have hua : Apart (.slice (some ⟨w1.heap.size, 0, none⟩) 2 2) (.slice (some ⟨g, 0, none⟩) (rowsOf R).length c) := fun x h1 h2 => by simp [Value.ownBlock] at h1 h2; omega
          have hur : ∀ i, i < (rowsOf R).length → Apart (vs.getD i (.slice none 0 0)) (.slice (some ⟨w1.heap.size, 0, none⟩) 2 2) := fun i hi x h1 h2 => by simp [Value.ownBlock] at h2; have := ((hG1.row i hi).block x h1).2; omega
          go_upto_region 7 with (at_builtin; refine wpList_pushR rfl (.tmp 27) (.tmp 33) 64 rfl w.heap.size 2 24 j0 Try.underlying64 ji jz0 jz1 jz2 (.slice (some ⟨g, 0, none⟩) (rowsOf R).length c) vs (rowsOf R) (.slice (some ⟨w1.heap.size, 0, none⟩) 2 2) [y, 0] (by simp [go_sem]) hG2 (w1.heap.size + 1) (by simp) rfl hu hua hur (by have := HRL.out; simp; omega) (by simp; omega) ?_; intro g2 c2 w2 hG3 hkp hlt3)
          have hbl2 := (hbl1.trans (hal2.mono hsz)).trans (hkp.below (by simp; omega) (fun k hk => by simp [Value.ownBlock] at hk; have := (hG1.block g rfl).1; omega))
          have hOP : openB R y = R ++ [(y, 0)] := openB_yes HNB.out
          rw [rowsOf_len] at hG3
          rw [← rowsOf_snoc R (y, 0), ← hOP] at hG3
          have hl3 : R.length + 1 = (rowsOf (openB R y)).length := by rw [rowsOf_len, hOP]; simp
          rw [hl3] at hG3 ⊢
          have hG2 := hG3
          have hcnt2 := hl3
          clear hkp hG1 hal2 hu hua hur hl3 hG3 hbl1
          have hR2p : 0 < (openB R y).length := by rw [hOP]; simp
          have hR2b : ∀ s, s ∈ openB R y → 0 ≤ s.2 ∧ s.2 ≤ 1000 := HB.out
          obtain ⟨m, hm⟩ : ∃ m, (openB R y).length = m + 1 := ⟨(openB R y).length - 1, by omega⟩
          have hrl : (rowsOf (openB R y)).length = m + 1 := by rw [rowsOf_len, hm]
          have hrow := hG2.row m (by omega)
          rw [gR_rowsOf2 (by omega)] at hrow
          obtain ⟨bu, cu, hVe, hbu1, hbu2, _, _⟩ := Own.pos hrow (by simp)
          have hst := hG2.store (i := m) (g := bu) (cap := cu) (by omega) (by rw [gR_rowsOf2 (by omega)]; exact hVe) 1 (((openB R y).getD m (0, 0)).2 + 1)
          rw [rowsOf_set (by omega)] at hst
          have hup : (openB R y).set m (((openB R y).getD m (0, 0)).1, ((openB R y).getD m (0, 0)).2 + 1) = upLast (openB R y) := by unfold upLast; rw [hm, Nat.add_sub_cancel]
          rw [hup] at hst
          have hcnt := hR2b ((openB R y).getD m (0, 0)) (by simp [List.getD, show m < (openB R y).length by omega])
          rw [hVe] at hrow
          have du1 := Own.cell hrow 1 (by simp)
          have fu1 := Own.free hrow 1
          have gg1 : gI [((openB R y).getD m (0, 0)).1, ((openB R y).getD m (0, 0)).2] 1 = ((openB R y).getD m (0, 0)).2 := rfl
          rw [gg1] at du1
          have dV : w2.cell? ⟨g2, m, none⟩ = some (.slice (some ⟨bu, 0, none⟩) 2 cu) := by
            rcases hG2.own.shape with ⟨he, _⟩ | ⟨g', cap', he, _, _, _, _, h6⟩
            · cases he
            · injection he with he1 _ _
              injection he1 with he1
              injection he1 with he1 _ _
              subst he1
              have := h6 m (by omega)
              rw [this]
              exact congrArg some hVe
          have hbb : Below w.heap.size w (w2.setCell ⟨bu, 1, none⟩ (.int .i64 (((openB R y).getD m (0, 0)).2 + 1))) := hbl2.setCell (p := ⟨bu, 1, none⟩) (by show w.heap.size ≤ bu; omega) _
          have hul : (rowsOf (upLast (openB R y))).length = m + 1 := by rw [rowsOf_len, upLast_len, hm]
          have HFR : Hid (∃ vs', GrowM 2 24 (w2.setCell ⟨bu, 1, none⟩ (.int .i64 (((openB R y).getD m (0, 0)).2 + 1))) w.heap.size (.slice (some ⟨g2, 0, none⟩) (rowsOf (blk (L.take (k + 1)))).length c2) vs' (rowsOf (blk (L.take (k + 1))))) := Lib.hid ⟨_, by rw [HST.out]; show GrowM _ _ _ _ (.slice (some ⟨g2, 0, none⟩) (rowsOf (upLast (openB R y))).length c2) _ (rowsOf (upLast (openB R y))); rw [hul, ← hrl]; exact hst⟩
          have HLN : Hid ((rowsOf (blk (L.take (k + 1)))).length = m + 1) := Lib.hid (by rw [HST.out]; exact hul)
          have HBB := Lib.hid hbb
          generalize ((openB R y).getD m (0, 0)).2 = cnt at *
          have e1 : IntKind.i64.wrap (m : Int) = (m : Int) := IntWalk.i64_in _ (by have := HML.out m hm; omega)
          have e2 : (m : Int) + 1 - 1 = (m : Int) := by omega
          have e3 : (0 : Int) ≤ (m : Int) := by omega
          have e4 : (m : Int) < ((m + 1 : Nat) : Int) := by omega
          have e5 : (m : Int) < (m : Int) + 1 := by omega
          rw [hrl] at *
          clear hst hrow hVe hup hcnt2 hbb hul hrl hG2 hR2b hm gg1 hbl2 hRb hOP
          go_wp2
          obtain ⟨vs', hgv⟩ := HFR.out
          go_roundw
          case rel => exact ⟨k + 1, g2, c2, vs', by omega, by go_num, by rw [HLN.out], hgv, HBB.out⟩
          case measure => simp [intOf]; omega
    · have hke : k = n := by omega
      subst hke
      have hret := retM_mk hG.own hbl
      rw [show L.take k = L by rw [← HN.out, List.take_length]] at hret
      have HR := Lib.hid hret
      have HTK : Hid (L.take k = L) := Lib.hid (by rw [← HN.out, List.take_length])
      rw [HTK.out]
      clear hG hret
      go_wp2
      go_ret
      exact HR.out
end Go.Proofs.Ytiinceflafigeaa
