/- The law of the points: what is added for each entry of a row of proximate points. No program in sight. -/
import Derived.Test.YtiinceflafigeaaPtO2
import Derived.Test.YtiinceflafigeaaPtP
namespace Go.Proofs.Ytiinceflafigeaa
open Go.RowKit

/-- The sums over the points behind, of the first n points. -/
def smI (M : List Int) (n i : Nat) : Int := sumTo (fun t => if pB M i t = true then gI M t else 0) n
def smL (M : List Int) (n : Nat) : List Int := (List.range M.length).map (smI M n)
@[simp] theorem smL_len (M : List Int) (n : Nat) : (smL M n).length = M.length := by simp [smL]
theorem gI_smL {M : List Int} {n i : Nat} (h : i < M.length) : gI (smL M n) i = smI M n i := by rw [gI_lt (by simpa using h)]; simp [smL]
theorem smI_succ (M : List Int) (n i : Nat) : smI M (n + 1) i = smI M n i + if pB M i n = true then gI M n else 0 := sumTo_succ _ _
theorem smL_zero (M : List Int) : smL M 0 = List.replicate M.length 0 := by
  refine gI_ext (by simp) fun i hi => ?_
  rw [smL_len] at hi
  rw [gI_smL hi, gI_rep hi]; rfl
theorem smI_bd {M : List Int} (h : Eu M) {n i : Nat} (hn : n ≤ M.length) (hi : i < M.length) : 0 ≤ smI M n i ∧ smI M n i ≤ 64 := by
  have h1 := prox_le h hi n hn
  have h2 := (h.pos i hi).2
  have h3 : 0 ≤ smI M n i := sum_nn n fun t ht => by
    split
    · have := (h.pos t (by omega)).1; omega
    · omega
  exact ⟨h3, by unfold smI; omega⟩
/-- The entries of a row add x each. -/
def addsL (x : Int) : List Int → List Int → List Int
  | L, [] => L
  | L, r :: R => addsL x (bump L r.toNat x) R
/-- The row of the point j. -/
def rowI (M : List Int) (j : Nat) : List Int := proxOf (parL M.length) (secM M) j
theorem rowI_cases {M : List Int} {j : Nat} (hj : j < M.length) : (j = 0 ∧ rowI M j = [] ∧ ¬ 0 ≤ sI M j) ∨ (0 < j ∧ rowI M j = [((j - 1 : Nat) : Int)] ∧ ¬ 0 ≤ sI M j) ∨ ∃ s : Nat, s + 1 < j ∧ sI M j = (s : Int) ∧ rowI M j = [(s : Int), ((j - 1 : Nat) : Int)] := by
  have hb := sI_bd M j
  cases j with
  | zero =>
    left
    refine ⟨rfl, by simp [rowI, proxOf], ?_⟩
    intro h; have := hb.2 h; omega
  | succ j =>
    by_cases h : 0 ≤ sI M (j + 1)
    · right; right
      obtain ⟨s, hs⟩ := Int.eq_ofNat_of_zero_le h
      have := hb.2 h
      refine ⟨s, by omega, hs, ?_⟩
      unfold rowI
      rw [(row_two hj h).1, hs]; simp
    · right; left
      refine ⟨by omega, ?_, h⟩
      unfold rowI
      rw [(row_one hj h).1]; simp
/-- The whole row leads to the next sums. -/
theorem pB_of {M : List Int} (h : Eu M) {i j : Nat} (hj : j < M.length) (hp : pB M i j = true) : i + 1 = j ∨ (i : Int) = sI M j := by
  have h1 := pB_iff.1 hp
  by_cases e : i + 1 = j
  · exact .inl e
  · right
    rcases secTo_cases M j (j - 1) with ⟨_, h2⟩ | ⟨i', h2, h3, h4⟩
    · have := h2 i (by omega); rw [hp] at this; cases this
    · unfold sI
      rw [h3]
      rcases Nat.lt_trichotomy i i' with c | c | c
      · exact (pB_one h c (by omega) hj hp h4).elim
      · rw [c]
      · exact (pB_one h c (by omega) hj h4 hp).elim
theorem adds_row {M : List Int} (h : Eu M) {j : Nat} (hj : j < M.length) : addsL (gI M j) (smL M j) (rowI M j) = smL M (j + 1) := by
  have hno : ∀ i, ¬ (i + 1 = j ∨ (i : Int) = sI M j) → pB M i j = false := fun i hi => by
    cases c : pB M i j
    · rfl
    · exact (hi (pB_of h hj c)).elim
  rcases rowI_cases hj with ⟨rfl, hr, hs⟩ | ⟨h0, hr, hs⟩ | ⟨s, h0, hs, hr⟩
  · rw [hr]
    refine gI_ext (by simp [addsL]) fun i hi => ?_
    simp [addsL] at hi
    show gI (smL M 0) i = _
    rw [gI_smL hi, gI_smL hi, smI_succ, hno i (by omega)]; simp
  · rw [hr]
    refine gI_ext (by simp [addsL]) fun i hi => ?_
    simp [addsL] at hi
    show gI (bump (smL M j) (((j - 1 : Nat) : Int)).toNat (gI M j)) i = _
    rw [Int.toNat_natCast, gI_bump (by simp; omega), gI_smL hi, gI_smL hi, gI_smL (by omega), smI_succ]
    by_cases e : i = j - 1
    · subst e
      have hpp := pB_prev h (j := j - 1) (by omega)
      rw [show j - 1 + 1 = j by omega] at hpp
      rw [if_pos rfl, hpp]; simp
    · rw [if_neg e, hno i (by omega)]; simp
  · rw [hr]
    refine gI_ext (by simp [addsL]) fun i hi => ?_
    simp [addsL] at hi
    show gI (bump (bump (smL M j) ((s : Int)).toNat (gI M j)) (((j - 1 : Nat) : Int)).toNat (gI M j)) i = _
    rw [Int.toNat_natCast, Int.toNat_natCast, gI_bump (by simp; omega), gI_bump (by simp; omega), gI_bump (by simp; omega), gI_smL hi, gI_smL hi, gI_smL (by omega), gI_smL (by omega), smI_succ]
    by_cases e : i = j - 1
    · subst e
      have hpp := pB_prev h (j := j - 1) (by omega)
      rw [show j - 1 + 1 = j by omega] at hpp
      rw [if_pos rfl, if_neg (by omega), hpp]; simp
    · rw [if_neg e]
      by_cases e2 : i = s
      · subst e2
        have hpp := pB_sec (M := M) (j := j) (by omega)
        rw [hs, Int.toNat_natCast] at hpp
        rw [if_pos rfl, hpp]; simp
      · rw [if_neg e2, hno i (by omega)]; simp
/-- The satellites among the first n points. -/
def satN (M : List Int) : Nat → Int
  | 0 => 0
  | n + 1 => satN M n + if 0 ≤ sI M n then 1 else 0
theorem satN_bd (M : List Int) (n : Nat) : 0 ≤ satN M n ∧ satN M n ≤ n := by
  induction n with
  | zero => exact ⟨by simp [satN], by simp [satN]⟩
  | succ n ih => unfold satN; split <;> omega
theorem satN_succ (M : List Int) (n : Nat) : satN M (n + 1) = satN M n + if 0 ≤ sI M n then 1 else 0 := rfl
@[simp] theorem adds_len (x : Int) : ∀ (A L : List Int), (addsL x L A).length = L.length
  | [], _ => rfl
  | r :: A, L => by rw [addsL, adds_len x A]; simp
theorem adds_snoc (x r : Int) : ∀ (A L : List Int), addsL x L (A ++ [r]) = bump (addsL x L A) r.toNat x
  | [], _ => rfl
  | a :: A, L => by rw [List.cons_append, addsL, addsL, adds_snoc x r A]
theorem adds_bd {x : Int} (hx : 0 ≤ x) (t : Nat) : ∀ (A L : List Int), gI L t ≤ gI (addsL x L A) t ∧ gI (addsL x L A) t ≤ gI L t + A.length * x
  | [], _ => by simp [addsL]
  | r :: A, L => by
    have h := adds_bd hx t A (bump L r.toNat x)
    have h2 : gI L t ≤ gI (bump L r.toNat x) t ∧ gI (bump L r.toNat x) t ≤ gI L t + x := by
      by_cases hr : r.toNat < L.length
      · rw [gI_bump hr]; split
        · rename_i e; rw [e]; omega
        · omega
      · unfold bump
        rw [List.set_eq_of_length_le (by omega)]; omega
    rw [addsL, List.length_cons]
    have e : ((A.length + 1 : Nat) : Int) * x = A.length * x + x := by
      rw [Int.natCast_add, Int.add_mul]; simp
    rw [e]; omega
theorem rowI_bd {M : List Int} {j i : Nat} (hj : j < M.length) (hi : i < (rowI M j).length) : 0 ≤ gI (rowI M j) i ∧ gI (rowI M j) i < j := by
  rcases rowI_cases hj with ⟨h0, hr, _⟩ | ⟨h0, hr, _⟩ | ⟨s, h0, _, hr⟩ <;> rw [hr] at hi ⊢ <;> simp at hi
  · subst hi; show 0 ≤ ((j - 1 : Nat) : Int) ∧ ((j - 1 : Nat) : Int) < j; omega
  · have : i = 0 ∨ i = 1 := by omega
    rcases this with rfl | rfl
    · show 0 ≤ (s : Int) ∧ (s : Int) < j; omega
    · show 0 ≤ ((j - 1 : Nat) : Int) ∧ ((j - 1 : Nat) : Int) < j; omega
theorem rowI_len {M : List Int} {j : Nat} (hj : j < M.length) : (rowI M j).length ≤ 2 ∧ ((rowI M j).length = 0 ↔ j = 0) := by
  rcases rowI_cases hj with ⟨h0, hr, _⟩ | ⟨h0, hr, _⟩ | ⟨s, h0, _, hr⟩ <;> rw [hr] <;> simp <;> omega
/-- The own numbers. -/
def mOf (M : List Int) (t : Nat) : Int := gI M t
/-- The number of j and the orders of the first i entries of its row. -/
def ordP (M : List Int) (j i : Nat) : Int := gI M j + sumTo (fun t => oI (mOf M) M (gI (rowI M j) t).toNat) i
theorem ordP_zero (M : List Int) (j : Nat) : ordP M j 0 = gI M j := by simp [ordP, sumTo]
theorem ordP_succ (M : List Int) (j i : Nat) : ordP M j (i + 1) = ordP M j i + oI (mOf M) M (gI (rowI M j) i).toNat := by
  unfold ordP; rw [sumTo_succ]; omega
theorem ordP_all {M : List Int} {j : Nat} (hj : j < M.length) : ordP M j (rowI M j).length = oI (mOf M) M j := by
  have e := oI_eq (mOf M) hj
  rcases rowI_cases hj with ⟨h0, hr, hs⟩ | ⟨h0, hr, hs⟩ | ⟨s, h0, hs, hr⟩
  · rw [if_pos h0, if_neg hs] at e
    rw [e]; unfold ordP; rw [hr]; simp [sumTo, mOf]
  · rw [if_neg (by omega), if_neg hs] at e
    rw [e]; unfold ordP; rw [hr]
    have e2 : (gI [((j - 1 : Nat) : Int)] 0).toNat = j - 1 := rfl
    simp [sumTo, mOf, e2]
  · rw [if_neg (by omega), if_pos (by omega), hs] at e
    rw [e]; unfold ordP; rw [hr]
    have e2 : (gI [(s : Int), ((j - 1 : Nat) : Int)] 0).toNat = s := rfl
    have e3 : (gI [(s : Int), ((j - 1 : Nat) : Int)] 1).toNat = j - 1 := rfl
    simp [sumTo, mOf, e2, e3]; omega
theorem oM_bd {M : List Int} (h : Eu M) (hl : M.length ≤ 400) {i : Nat} (hi : i < M.length) : 0 ≤ oI (mOf M) M i ∧ oI (mOf M) M i ≤ 1638400 :=
  oI_small h hl (fun t ht => by have := h.pos t ht; unfold mOf; omega) hi
theorem ordP_bd {M : List Int} (h : Eu M) (hl : M.length ≤ 400) {j i : Nat} (hj : j < M.length) (hi : i ≤ (rowI M j).length) : 0 ≤ ordP M j i ∧ ordP M j i ≤ 64 + i * 1638400 := by
  have h0 := h.pos j hj
  induction i with
  | zero => rw [ordP_zero]; omega
  | succ i ih =>
    have h1 := ih (by omega)
    have h2 := rowI_bd hj (i := i) (by omega)
    have h3 := oM_bd h hl (i := (gI (rowI M j) i).toNat) (by omega)
    rw [ordP_succ]; omega
/-- The sums after the first i entries of the row of j. -/
def smP (M : List Int) (j i : Nat) : List Int := addsL (gI M j) (smL M j) ((rowI M j).take i)
@[simp] theorem smP_len (M : List Int) (j i : Nat) : (smP M j i).length = M.length := by simp [smP]
theorem smP_zero (M : List Int) (j : Nat) : smP M j 0 = smL M j := by simp [smP, addsL]
theorem smP_succ {M : List Int} {j i : Nat} (hi : i < (rowI M j).length) : smP M j (i + 1) = bump (smP M j i) (gI (rowI M j) i).toNat (gI M j) := by
  unfold smP
  rw [List.take_succ_eq_append_getElem hi, adds_snoc, gI_lt hi]
theorem smP_all {M : List Int} (h : Eu M) {j : Nat} (hj : j < M.length) : smP M j (rowI M j).length = smL M (j + 1) := by
  unfold smP; rw [List.take_length, adds_row h hj]
theorem smP_bd {M : List Int} (h : Eu M) {j i t : Nat} (hj : j < M.length) (ht : t < M.length) : 0 ≤ gI (smP M j i) t ∧ gI (smP M j i) t ≤ 200 := by
  have h0 := h.pos j hj
  have h1 := adds_bd (x := gI M j) (by omega) t ((rowI M j).take i) (smL M j)
  have h2 := smI_bd h (n := j) (i := t) (by omega) ht
  have h3 := (rowI_len hj).1
  have h4 : ((rowI M j).take i).length ≤ 2 := by simp; omega
  have h5 : (((rowI M j).take i).length : Int) * gI M j ≤ 2 * 64 := Int.mul_le_mul (by omega) (by omega) (by omega) (by omega)
  rw [gI_smL ht] at h1
  unfold smP; omega
theorem gR_rwL {T : List Int} {n j : Nat} (h : j < n) : gR (rwL T n) j = rowI (seqL T n) j := by
  unfold rwL; rw [gR_map h]; unfold rwT rowI; rw [seqL_len]
theorem gI_orL {T : List Int} {n i : Nat} (h : i < n) : gI (orL T n) i = oI (mOf (seqL T n)) (seqL T n) i := by
  have := gI_ord (M := seqL T n) (own := mOf (seqL T n)) h
  rw [seqL_len] at this
  exact this
theorem cnz_sat {M : List Int} : ∀ n, n + 1 ≤ M.length → cnz (codeL M) n = satN M (n + 1) := by
  intro n
  have h0 := sI_bd M 0
  induction n with
  | zero =>
    intro _
    have e : ¬ 0 ≤ sI M 0 := fun h => by have := h0.2 h; omega
    simp [cnz, satN, e]
  | succ n ih =>
    intro hn
    have ih := ih (by omega)
    have hg := gI_codeL (M := M) (j := n) (by omega)
    rw [satN_succ]
    by_cases hs : 0 ≤ sI M (n + 1)
    · have h1 := (sI_bd M (n + 1)).2 hs
      have e : cI M n = ((n + 1 : Nat) : Int) - sI M (n + 1) := by simp [cI, hs]
      rw [cnz_no (by rw [hg, e]; omega), ih, if_pos hs]
    · have e : cI M n = 0 := by simp [cI, hs]
      rw [cnz_yes (by rw [hg, e]), ih, if_neg hs]; omega
theorem csN_sat {T : List Int} {n : Nat} (h0 : ckC T (n : Int) = 0) : csN T (n : Int) = satN (seqL T n) n := by
  obtain ⟨_, h1, _⟩ := ckC_zero h0
  unfold csN
  rw [ckL_ok h0]
  show cnz (codeL (seqL T n)) (codeL (seqL T n)).length = _
  rw [cnz_sat _ (by simp; omega)]
  congr 1
  simp; omega
theorem cI_prev {M : List Int} {j : Nat} (h : 0 < j) : cI M (j - 1) = if 0 ≤ sI M j then (j : Int) - sI M j else 0 := by
  unfold cI; rw [show j - 1 + 1 = j by omega]
/-- A slice of n numbers of the call's own: a cell, and a store. -/
theorem Own.cellN {e : TypeId} {w : World} {base g cap n : Nat} {xs : List Int} (h : Own e w base (.slice (some ⟨g, 0, none⟩) n cap) xs) (hn : xs.length = n) {j : Nat} (hj : j < n) : w.cell? ⟨g, j, none⟩ = some (.int .i64 (gI xs j)) := by
  subst hn; exact h.cell j hj
theorem Own.freeN {e : TypeId} {w : World} {base g cap n : Nat} {xs : List Int} (h : Own e w base (.slice (some ⟨g, 0, none⟩) n cap) xs) (hn : xs.length = n) (j : Nat) : w.frozen? ⟨g, j, none⟩ = false := by
  subst hn; exact h.free j
theorem Own.setN {e : TypeId} {w : World} {base g cap n : Nat} {xs : List Int} (h : Own e w base (.slice (some ⟨g, 0, none⟩) n cap) xs) (hn : xs.length = n) (j : Nat) (x : Int) : Own e (w.setCell ⟨g, j, none⟩ (.int .i64 x)) base (.slice (some ⟨g, 0, none⟩) n cap) (xs.set j x) := by
  subst hn; exact h.set j x
end Go.Proofs.Ytiinceflafigeaa
