/- How the words of a cluster's text are read: by the reference, by the program. No program in sight. -/
import Derived.Test.YtiinceflafigeaaDoorTxtP
namespace Go.Proofs.YtiinceflafigeaaDoor

/-- What stands before the first byte c, what stands behind it; is there one? -/
def bef (c : UInt8) : List UInt8 → List UInt8
  | [] => []
  | x :: r => if x = c then [] else x :: bef c r
def aft (c : UInt8) : List UInt8 → List UInt8
  | [] => []
  | x :: r => if x = c then r else aft c r
def hasC (c : UInt8) : List UInt8 → Bool
  | [] => false
  | x :: r => if x = c then true else hasC c r
theorem hasC_no {c : UInt8} {s : List UInt8} (h : c ∉ s) : hasC c s = false ∧ bef c s = s ∧ aft c s = [] := by
  induction s with
  | nil => exact ⟨rfl, rfl, rfl⟩
  | cons x r ih =>
    simp only [List.mem_cons, not_or] at h
    obtain ⟨h1, h2, h3⟩ := ih h.2
    have e : ¬ x = c := fun e => h.1 e.symm
    simp only [hasC, bef, aft, if_neg e]
    exact ⟨h1, by rw [h2], h3⟩
theorem hasC_at {c : UInt8} {u r : List UInt8} (h : c ∉ u) : hasC c (u ++ c :: r) = true ∧ bef c (u ++ c :: r) = u ∧ aft c (u ++ c :: r) = r := by
  induction u with
  | nil => simp [hasC, bef, aft]
  | cons x u ih =>
    simp only [List.mem_cons, not_or] at h
    obtain ⟨h1, h2, h3⟩ := ih h.2
    have e : ¬ x = c := fun e => h.1 e.symm
    simp only [List.cons_append, hasC, bef, aft, if_neg e]
    exact ⟨h1, by rw [h2], h3⟩
theorem spl_has (c : UInt8) (s : List UInt8) : splitL c s = if hasC c s then bef c s :: splitL c (aft c s) else [s] := by
  rcases cut_first c s with h | ⟨u, r, rfl, hu⟩
  · rw [(hasC_no h).1, spl_no h]; rfl
  · obtain ⟨h1, h2, h3⟩ := hasC_at (r := r) hu
    rw [h1, h2, h3, spl_at hu]; rfl

/-- The integer that is written, or one that is too large. -/
def intI (s : List UInt8) : Int := if s.head? = some 45 then (if valI s.tail < 0 then 100001 else -(valI s.tail)) else (if valI s < 0 then 100001 else valI s)
theorem intI_neg (t : List UInt8) : intI (45 :: t) = if valI t < 0 then 100001 else -(valI t) := by unfold intI; rw [if_pos (show (45 :: t).head? = some 45 from rfl)]; rfl
theorem intI_nn {t : List UInt8} (h : t.head? ≠ some 45) : intI t = if valI t < 0 then 100001 else valI t := by unfold intI; rw [if_neg h]
theorem intI_sgn {w : Int} (h1 : -1000000000 < w) (h2 : w < 1000000000) : intI (sgnL w) = w := by
  by_cases h : w < 0
  · rw [sgnL_neg h, intI_neg, valI_dec (by omega), if_neg (by omega)]; omega
  · rw [sgnL_nn h, intI_nn (dec_head45 _), valI_dec (by omega), if_neg (by omega)]; omega
def gT (l : List (List UInt8)) (i : Nat) : List UInt8 := l.getD i []
/-- The reference's reading of a word. -/
def spW (x : List UInt8) : Int := intI (gT (splitL 58 x) 0)
def spP (x : List UInt8) : Int := if (splitL 58 x).length = 2 then valI (gT (splitL 44 (gT (splitL 58 x) 1)) 0) else -1
def spS (x : List UInt8) : Int := if (splitL 58 x).length = 2 then (if (splitL 44 (gT (splitL 58 x) 1)).length = 2 then valI (gT (splitL 44 (gT (splitL 58 x) 1)) 1) else -1) else -1
theorem sp_word {w p s : Int} (h1 : -1000000000 < w) (h2 : w < 1000000000) (hp1 : -1 ≤ p) (hp2 : p < 1000000000) (hs1 : -1 ≤ s) (hs2 : s < 1000000000) (hps : p = -1 → s = -1) :
    spW (wordT w p s) = w ∧ spP (wordT w p s) = p ∧ spS (wordT w p s) = s := by
  have n58 : ∀ n, (58 : UInt8) ∉ sgnL n := fun n => sgn_no n (.inr (by decide)) (by decide)
  have d44 : ∀ n, (44 : UInt8) ∉ decL n := fun n => dec_no n (.inl (by decide))
  have d58 : ∀ n, (58 : UInt8) ∉ decL n := fun n => dec_no n (.inr (by decide))
  unfold spW spP spS
  by_cases hp : 0 ≤ p
  · by_cases hs : 0 ≤ s
    · rw [wordT_3 hp hs, spl_at (n58 w), spl_no (c := 58) (s := decL p.toNat ++ 44 :: decL s.toNat) (by
        simp only [List.mem_append, List.mem_cons, not_or]; exact ⟨d58 _, by decide, d58 _⟩)]
      simp only [gT, List.getD_cons_zero, List.getD_cons_succ, List.length_cons, List.length_nil, if_true]
      rw [spl_at (d44 _), spl_no (d44 _)]
      simp only [List.getD_cons_zero, List.getD_cons_succ, List.length_cons, List.length_nil, if_true]
      rw [intI_sgn h1 h2, valI_dec (by omega), valI_dec (by omega)]
      omega
    · rw [wordT_2 hp hs, spl_at (n58 w), spl_no (d58 _)]
      simp only [gT, List.getD_cons_zero, List.getD_cons_succ, List.length_cons, List.length_nil, if_true]
      rw [spl_no (d44 _)]
      simp only [List.getD_cons_zero, List.length_cons, List.length_nil]
      rw [intI_sgn h1 h2, valI_dec (by omega)]
      simp
      omega
  · rw [wordT_1 hp, spl_no (n58 w)]
    simp only [gT, List.getD_cons_zero, List.length_cons, List.length_nil]
    rw [intI_sgn h1 h2]
    simp
    omega

/-- The program's reading of a signed number: may it be, and which. -/
def sgB (s : List UInt8) : Bool := if s.head? = some 45 then numB s.tail && decide (0 < valN s.tail) else numB s
def sgV (s : List UInt8) : Int := if s.head? = some 45 then -(valN s.tail : Int) else valN s
theorem sgB_neg (t : List UInt8) : sgB (45 :: t) = (numB t && decide (0 < valN t)) := by unfold sgB; rw [if_pos (show (45 :: t).head? = some 45 from rfl)]; rfl
theorem sgV_neg (t : List UInt8) : sgV (45 :: t) = -(valN t : Int) := by unfold sgV; rw [if_pos (show (45 :: t).head? = some 45 from rfl)]; rfl
theorem sgB_nn {t : List UInt8} (h : t.head? ≠ some 45) : sgB t = numB t := by unfold sgB; rw [if_neg h]
theorem sgV_nn {t : List UInt8} (h : t.head? ≠ some 45) : sgV t = valN t := by unfold sgV; rw [if_neg h]
theorem sg_sgn {w : Int} (h1 : -1000000000 < w) (h2 : w < 1000000000) : sgB (sgnL w) = true ∧ sgV (sgnL w) = w := by
  by_cases h : w < 0
  · rw [sgnL_neg h, sgB_neg, sgV_neg, num_dec (by omega), decL_val]
    simp; omega
  · rw [sgnL_nn h, sgB_nn (dec_head45 _), sgV_nn (dec_head45 _), num_dec (by omega), decL_val]
    exact ⟨rfl, by omega⟩
theorem sgn_sg {s : List UInt8} (h : sgB s = true) : sgnL (sgV s) = s ∧ -1000000000 < sgV s ∧ sgV s < 1000000000 := by
  unfold sgB at h
  unfold sgV
  by_cases e : s.head? = some 45
  · rw [if_pos e] at h ⊢
    simp only [Bool.and_eq_true, decide_eq_true_eq] at h
    have hv := num_val h.1
    have hs : s = 45 :: s.tail := by
      cases s with
      | nil => simp at e
      | cons x r => simp at e; rw [e]; rfl
    refine ⟨?_, by omega, by omega⟩
    rw [sgnL_neg (by omega), show (- -(valN s.tail : Int)).toNat = valN s.tail by omega, can_dec _ (numB_iff.1 h.1).1]
    exact hs.symm
  · rw [if_neg e] at h ⊢
    have hv := num_val h
    refine ⟨?_, by omega, by omega⟩
    rw [sgnL_nn (by omega), show ((valN s : Nat) : Int).toNat = valN s by omega, can_dec _ (numB_iff.1 h).1]
/-- The program's reading of a word. -/
def imB (x : List UInt8) : Bool := sgB (bef 58 x) && (!hasC 58 x || (numB (bef 44 (aft 58 x)) && (!hasC 44 (aft 58 x) || numB (aft 44 (aft 58 x)))))
def imW (x : List UInt8) : Int := sgV (bef 58 x)
def imP (x : List UInt8) : Int := if hasC 58 x then (valN (bef 44 (aft 58 x)) : Int) else -1
def imS (x : List UInt8) : Int := if hasC 58 x && hasC 44 (aft 58 x) then (valN (aft 44 (aft 58 x)) : Int) else -1
theorem im_word {w p s : Int} (h1 : -1000000000 < w) (h2 : w < 1000000000) (hp1 : -1 ≤ p) (hp2 : p < 1000000000) (hs1 : -1 ≤ s) (hs2 : s < 1000000000) (hps : p = -1 → s = -1) :
    imB (wordT w p s) = true ∧ imW (wordT w p s) = w ∧ imP (wordT w p s) = p ∧ imS (wordT w p s) = s := by
  have n58 : ∀ n, (58 : UInt8) ∉ sgnL n := fun n => sgn_no n (.inr (by decide)) (by decide)
  have d44 : ∀ n, (44 : UInt8) ∉ decL n := fun n => dec_no n (.inl (by decide))
  obtain ⟨g1, g2⟩ := sg_sgn h1 h2
  unfold imB imW imP imS
  by_cases hp : 0 ≤ p
  · by_cases hs : 0 ≤ s
    · rw [wordT_3 hp hs]
      obtain ⟨e1, e2, e3⟩ := hasC_at (r := decL p.toNat ++ 44 :: decL s.toNat) (n58 w)
      obtain ⟨f1, f2, f3⟩ := hasC_at (c := 44) (r := decL s.toNat) (d44 p.toNat)
      rw [e1, e2, e3, f1, f2, f3, g1, g2, num_dec (by omega), num_dec (by omega), decL_val, decL_val]
      simp; omega
    · rw [wordT_2 hp hs]
      obtain ⟨e1, e2, e3⟩ := hasC_at (r := decL p.toNat) (n58 w)
      obtain ⟨f1, f2, f3⟩ := hasC_no (d44 p.toNat)
      rw [e1, e2, e3, f1, f2, g1, g2, num_dec (by omega), decL_val]
      simp; omega
  · rw [wordT_1 hp]
    obtain ⟨e1, e2, e3⟩ := hasC_no (n58 w)
    rw [e1, e2, g1, g2]
    simp; omega
theorem has_cut {c : UInt8} {s : List UInt8} (h : hasC c s = true) : s = bef c s ++ c :: aft c s := by
  rcases cut_first c s with h' | ⟨u, r, rfl, hu⟩
  · rw [(hasC_no h').1] at h; cases h
  · obtain ⟨_, h2, h3⟩ := hasC_at (r := r) hu
    rw [h2, h3]
/-- A word that the program reads is the word of what it reads. -/
theorem word_im {x : List UInt8} (h : imB x = true) : wordT (imW x) (imP x) (imS x) = x ∧ (-1 ≤ imP x ∧ imP x < 1000000000) ∧ (-1 ≤ imS x ∧ imS x < 1000000000) ∧ -1000000000 < imW x ∧ imW x < 1000000000 := by
  unfold imB at h
  unfold imW imP imS
  simp only [Bool.and_eq_true, Bool.or_eq_true, Bool.not_eq_true'] at h
  obtain ⟨h1, h2⟩ := h
  obtain ⟨g1, g2, g3⟩ := sgn_sg h1
  rcases h2 with h2 | ⟨h3, h4⟩
  · rw [h2]
    simp only [Bool.false_and, if_false, Bool.false_eq_true]
    refine ⟨?_, by omega, by omega, g2, g3⟩
    rw [wordT_1 (by omega), g1]
    rcases cut_first 58 x with h' | ⟨u, r, rfl, hu⟩
    · exact (hasC_no h').2.1
    · rw [(hasC_at hu).1] at h2; cases h2
  · have hv3 := num_val h3
    cases h58 : hasC 58 x
    · simp only [Bool.false_and, if_false, Bool.false_eq_true]
      refine ⟨?_, by omega, by omega, g2, g3⟩
      rw [wordT_1 (by omega), g1]
      rcases cut_first 58 x with h' | ⟨u, r, rfl, hu⟩
      · exact (hasC_no h').2.1
      · rw [(hasC_at hu).1] at h58; cases h58
    · have hx := has_cut h58
      simp only [Bool.true_and, if_true]
      cases h44 : hasC 44 (aft 58 x)
      · simp only [if_false, Bool.false_eq_true]
        refine ⟨?_, by omega, by omega, g2, g3⟩
        rw [wordT_2 (by omega) (by omega), g1]
        rcases cut_first 44 (aft 58 x) with h' | ⟨u, r, he, hu⟩
        · rw [show ((valN (bef 44 (aft 58 x)) : Nat) : Int).toNat = valN (bef 44 (aft 58 x)) by omega, can_dec _ (numB_iff.1 h3).1, (hasC_no h').2.1]
          exact hx.symm
        · rw [he, (hasC_at hu).1] at h44; cases h44
      · rcases h4 with h4 | h4
        · rw [h44] at h4; cases h4
        · have hv4 := num_val h4
          simp only [if_true]
          refine ⟨?_, by omega, by omega, g2, g3⟩
          rw [wordT_3 (by omega) (by omega), g1, show ((valN (bef 44 (aft 58 x)) : Nat) : Int).toNat = valN (bef 44 (aft 58 x)) by omega, can_dec _ (numB_iff.1 h3).1,
            show ((valN (aft 44 (aft 58 x)) : Nat) : Int).toNat = valN (aft 44 (aft 58 x)) by omega, can_dec _ (numB_iff.1 h4).1, ← has_cut h44]
          exact hx.symm
end Go.Proofs.YtiinceflafigeaaDoor
