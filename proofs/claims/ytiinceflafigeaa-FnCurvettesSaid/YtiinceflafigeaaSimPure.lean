/- The inverse of the proximity matrix: rows by recursion from the front, and lists led back from the last point. No program in sight. -/
import Derived.Test.YtiinceflafigeaaRev
namespace Go.Proofs.Ytiinceflafigeaa

/-- x added to the number at i. -/
def inc (L : List Int) (i x : Int) : List Int := L.set i.toNat (gI L i.toNat + x)
@[simp] theorem inc_len (L : List Int) (i x : Int) : (inc L i x).length = L.length := by simp [inc]
theorem gI_inc {L : List Int} {i x : Int} {j : Nat} : gI (inc L i x) j = if i.toNat = j ∧ i.toNat < L.length then gI L j + x else gI L j := by
  unfold inc
  rw [gI_set]
  by_cases h : i.toNat = j ∧ i.toNat < L.length
  · rw [if_pos h, if_pos h, h.1]
  · rw [if_neg h, if_neg h]
theorem inc_comm (L : List Int) (i j x : Int) : inc (inc L i x) j x = inc (inc L j x) i x := by
  apply gI_ext (by simp)
  intro k _
  rw [gI_inc, gI_inc, gI_inc, gI_inc]
  simp only [inc_len]
  split <;> split <;> rfl

/-- x added to the numbers at the first m places of a row. -/
def incTo (row : List Int) (x : Int) (L : List Int) : Nat → List Int
  | 0 => L
  | m + 1 => inc (incTo row x L m) (gI row m) x
theorem incTo_succ (row : List Int) (x : Int) (L : List Int) (m : Nat) : incTo row x L (m + 1) = inc (incTo row x L m) (gI row m) x := rfl
theorem incTo_len (row : List Int) (x : Int) (L : List Int) (m : Nat) : (incTo row x L m).length = L.length := by
  induction m with
  | zero => rfl
  | succ m ih => rw [incTo_succ, inc_len, ih]
theorem inc_bd {L : List Int} {i x A X : Int} (hx : -X ≤ x ∧ x ≤ X) (hX : 0 ≤ X) (hL : ∀ k, -A ≤ gI L k ∧ gI L k ≤ A) (k : Nat) : -(A + X) ≤ gI (inc L i x) k ∧ gI (inc L i x) k ≤ A + X := by
  rw [gI_inc]
  have := hL k
  split <;> omega
theorem incTo_other {row : List Int} {x : Int} {L : List Int} {m : Nat} {j : Nat} (h : ∀ i, i < m → (gI row i).toNat ≠ j) : gI (incTo row x L m) j = gI L j := by
  induction m with
  | zero => rfl
  | succ m ih =>
    rw [incTo_succ, gI_inc, if_neg (fun e => h m (by omega) e.1)]
    exact ih (fun i hi => h i (by omega))
theorem incTo_bd {row : List Int} {x : Int} {L : List Int} {A X : Int} (hx : -X ≤ x ∧ x ≤ X) (hX : 0 ≤ X) (hL : ∀ k, -A ≤ gI L k ∧ gI L k ≤ A) {m : Nat} (hm : m ≤ 2) (k : Nat) : -(A + 2 * X) ≤ gI (incTo row x L m) k ∧ gI (incTo row x L m) k ≤ A + 2 * X := by
  match m, hm with
  | 0, _ => have := hL k; simp only [incTo]; omega
  | 1, _ => have := inc_bd (i := gI row 0) hx hX hL k; simp only [incTo]; omega
  | 2, _ => have := inc_bd (i := gI row 1) hx hX (inc_bd (i := gI row 0) hx hX hL) k; simp only [incTo]; omega

/-- The point j handed on to those to which it is proximate. -/
def bStep (P S L : List Int) (j : Nat) : List Int := if 0 ≤ gI S j then inc (inc L (gI P j) (gI L j)) (gI S j) (gI L j) else inc L (gI P j) (gI L j)
@[simp] theorem bStep_len (P S L : List Int) (j : Nat) : (bStep P S L j).length = L.length := by unfold bStep; split <;> simp
/-- The points t, .., 1 handed on, in this order. -/
def backTo (P S : List Int) : Nat → List Int → List Int
  | 0, L => L
  | t + 1, L => backTo P S t (bStep P S L (t + 1))
theorem backTo_succ (P S : List Int) (t : Nat) (L : List Int) : backTo P S (t + 1) L = backTo P S t (bStep P S L (t + 1)) := rfl
theorem backTo_len (P S : List Int) (t : Nat) (L : List Int) : (backTo P S t L).length = L.length := by
  induction t generalizing L with
  | zero => rfl
  | succ t ih => rw [backTo_succ, ih, bStep_len]
theorem bStep_row {P S L : List Int} {j : Nat} (h0 : 0 < j) : bStep P S L j = incTo (proxOf P S j) (gI L j) L (proxOf P S j).length := by
  have e : proxOf P S j = secL S j ++ [gI P j] := by unfold proxOf; rw [if_neg (by omega)]
  rw [e]
  unfold bStep
  by_cases hs : 0 ≤ gI S j
  · rw [secL_yes hs, if_pos hs]
    show _ = inc (inc L (gI S j) (gI L j)) (gI P j) (gI L j)
    exact inc_comm _ _ _ _
  · rw [secL_no hs, if_neg hs]; rfl
theorem bStep_bd {P S L : List Int} {j : Nat} {A : Int} (hL : ∀ k, -A ≤ gI L k ∧ gI L k ≤ A) (k : Nat) : -(3 * A) ≤ gI (bStep P S L j) k ∧ gI (bStep P S L j) k ≤ 3 * A := by
  have hA : 0 ≤ A := by have := hL 0; omega
  unfold bStep
  split
  · have := inc_bd (i := gI S j) (hL j) hA (inc_bd (i := gI P j) (hL j) hA hL) k; omega
  · have := inc_bd (i := gI P j) (hL j) hA hL k; omega

/-- The number k of the row i of the inverse. -/
def mI (P S : List Int) (i k : Nat) : Int := gI (ordTo (fun j => if j = k then 1 else 0) P S P.length) i
theorem mI_at {P S : List Int} {i : Nat} (k : Nat) (h : i < P.length) :
    mI P S i k = (if i = k then 1 else 0) + (if i = 0 then 0 else gI (ordTo (fun j => if j = k then 1 else 0) P S i) (gI P i).toNat) + (if 0 ≤ gI S i then gI (ordTo (fun j => if j = k then 1 else 0) P S i) (gI S i).toNat else 0) :=
  ordTo_at _ P S h
theorem ordTo_same (own : Nat → Int) (P S : List Int) {i k n : Nat} (h : i < k) (h' : i < n) : gI (ordTo own P S k) i = gI (ordTo own P S n) i := by
  rw [ordTo_old own P S h, ordTo_old own P S h']
theorem mI_step {P S W : List Int} (hc : CluOk P S W) {i : Nat} (k : Nat) (h : i < P.length) (h0 : 0 < i) :
    mI P S i k = (if i = k then 1 else 0) + mI P S (gI P i).toNat k + (if 0 ≤ gI S i then mI P S (gI S i).toNat k else 0) := by
  obtain ⟨h1, h2, h3⟩ := clu_place hc h h0
  rw [mI_at k h, if_neg (show ¬ i = 0 by omega), ordTo_same _ P S (show (gI P i).toNat < i by omega) (show (gI P i).toNat < P.length by omega)]
  congr 1
  split
  · rename_i hs
    rw [ordTo_same _ P S (show (gI S i).toNat < i by omega) (show (gI S i).toNat < P.length by omega)]; rfl
  · rfl
theorem mI_zero {P S W : List Int} (hc : CluOk P S W) (k : Nat) : mI P S 0 k = if 0 = k then 1 else 0 := by
  have := (clu_zero hc).2
  rw [mI_at k hc.1.1, if_pos rfl, if_neg (show ¬ 0 ≤ gI S 0 by omega)]
  omega
theorem mI_gt {P S W : List Int} (hc : CluOk P S W) (k : Nat) (i : Nat) : i < k → i < P.length → mI P S i k = 0 := by
  induction i using Nat.strongRecOn with
  | _ i ih =>
    intro hk hi
    by_cases h0 : i = 0
    · subst h0; rw [mI_zero hc, if_neg (by omega)]
    · obtain ⟨h1, h2, h3⟩ := clu_place hc hi (by omega)
      rw [mI_step hc k hi (by omega), if_neg (by omega), ih _ (by omega) (by omega) (by omega)]
      split
      · rw [ih _ (by omega) (by omega) (by omega)]; rfl
      · rfl
theorem mI_self {P S W : List Int} (hc : CluOk P S W) {i : Nat} (hi : i < P.length) : mI P S i i = 1 := by
  by_cases h0 : i = 0
  · subst h0; rw [mI_zero hc, if_pos rfl]
  · obtain ⟨h1, h2, h3⟩ := clu_place hc hi (by omega)
    rw [mI_step hc i hi (by omega), if_pos rfl, mI_gt hc i _ (by omega) (by omega)]
    split
    · rw [mI_gt hc i _ (by omega) (by omega)]; rfl
    · rfl
theorem mI_bd {P S W : List Int} (hc : CluOk P S W) {i : Nat} (k : Nat) (hi : i < P.length) : -1677721500000 ≤ mI P S i k ∧ mI P S i k ≤ 1677721500000 :=
  ord_small hc (fun j _ => by split <;> omega) hi hi

theorem sumTo_inc {L : List Int} {i x : Int} {f : Nat → Int} {n : Nat} (h0 : i.toNat < n) (h1 : i.toNat < L.length) : sumTo (fun k => gI (inc L i x) k * f k) n = sumTo (fun k => gI L k * f k) n + x * f i.toNat := by
  induction n with
  | zero => omega
  | succ n ih =>
    rw [sumTo_succ, sumTo_succ]
    by_cases e : i.toNat = n
    · have : sumTo (fun k => gI (inc L i x) k * f k) n = sumTo (fun k => gI L k * f k) n := sumTo_congr (fun k hk => by rw [gI_inc, if_neg (by omega)])
      rw [this, gI_inc, if_pos ⟨e, h1⟩, e, Int.add_mul]; omega
    · rw [ih (by omega), gI_inc, if_neg (by omega)]; omega

/-- What the points 0, .., t will hand to the point k. -/
def phiS (P S L : List Int) (t k : Nat) : Int := sumTo (fun x => gI L x * mI P S x k) (t + 1) + if t < k then gI L k else 0
theorem phi_step {P S W L : List Int} (hc : CluOk P S W) (hl : L.length = P.length) {t : Nat} (ht : t + 1 < P.length) (k : Nat) : phiS P S (bStep P S L (t + 1)) t k = phiS P S L (t + 1) k := by
  obtain ⟨h1, h2, h3⟩ := clu_place hc ht (by omega)
  unfold phiS bStep
  have e0 : sumTo (fun x => gI L x * mI P S x k) (t + 1 + 1) = sumTo (fun x => gI L x * mI P S x k) (t + 1) + gI L (t + 1) * mI P S (t + 1) k := sumTo_succ _ _
  rw [e0, mI_step hc k ht (by omega), Int.mul_add, Int.mul_add]
  have e1 : gI L (t + 1) * (if t + 1 = k then 1 else 0) + (if t + 1 < k then gI L k else 0) = if t < k then gI L k else 0 := by
    by_cases a : t + 1 = k
    · subst a; simp
    · rw [if_neg a]
      by_cases b : t < k
      · rw [if_pos b, if_pos (by omega)]; omega
      · rw [if_neg b, if_neg (by omega)]; omega
  by_cases hs : 0 ≤ gI S (t + 1)
  · rw [if_pos hs, if_pos hs, sumTo_inc (by omega) (by simp; omega), sumTo_inc (by omega) (by omega)]
    have e2 : (if t < k then gI (inc (inc L (gI P (t + 1)) (gI L (t + 1))) (gI S (t + 1)) (gI L (t + 1))) k else 0) = if t < k then gI L k else 0 := by
      split
      · rw [gI_inc, if_neg (by omega), gI_inc, if_neg (by omega)]
      · rfl
    rw [e2]
    omega
  · rw [if_neg hs, if_neg hs, sumTo_inc (by omega) (by omega)]
    have e2 : (if t < k then gI (inc L (gI P (t + 1)) (gI L (t + 1))) k else 0) = if t < k then gI L k else 0 := by
      split
      · rw [gI_inc, if_neg (by omega)]
      · rfl
    rw [e2, Int.mul_zero]
    omega
theorem back_phi {P S W : List Int} (hc : CluOk P S W) (t : Nat) : ∀ L : List Int, L.length = P.length → t < P.length → ∀ k, gI (backTo P S t L) k = phiS P S L t k := by
  induction t with
  | zero =>
    intro L hl ht k
    show gI L k = phiS P S L 0 k
    unfold phiS
    show _ = sumTo (fun x => gI L x * mI P S x k) 0 + gI L 0 * mI P S 0 k + _
    rw [mI_zero hc, sumTo_zero]
    by_cases e : 0 = k
    · subst e; simp
    · rw [if_neg e, if_pos (by omega)]; omega
  | succ t ih =>
    intro L hl ht k
    rw [backTo_succ, ih _ (by simp; omega) (by omega), phi_step hc hl ht]

/-- The row i of the inverse. -/
def mRow (P S : List Int) (i : Nat) : List Int := (List.range P.length).map (mI P S i)
@[simp] theorem mRow_len (P S : List Int) (i : Nat) : (mRow P S i).length = P.length := by simp [mRow]
theorem gI_mRow {P S : List Int} {i k : Nat} (h : k < P.length) : gI (mRow P S i) k = mI P S i k := by rw [gI_lt (by simpa using h)]; simp [mRow]
/-- The list that has 1 at i alone. -/
def unitL (n i : Nat) : List Int := (List.replicate n 0).set i 1
@[simp] theorem unitL_len (n i : Nat) : (unitL n i).length = n := by simp [unitL]
theorem gI_unit {n i k : Nat} (hi : i < n) : gI (unitL n i) k = if k = i then 1 else 0 := by
  unfold unitL
  rw [gI_set]
  by_cases e : i = k
  · rw [if_pos ⟨e, by simpa using hi⟩, if_pos e.symm]
  · rw [if_neg (fun h => e h.1), if_neg (fun h => e h.symm)]
    by_cases h : k < n
    · exact gI_rep h
    · simp [gI, List.getD, List.getElem?_eq_none (show (List.replicate n (0 : Int)).length ≤ k by simp; omega)]
theorem sumTo_unit {i : Nat} {f : Nat → Int} (n : Nat) : sumTo (fun x => (if x = i then 1 else 0) * f x) n = if i < n then f i else 0 := by
  induction n with
  | zero => simp [sumTo]
  | succ n ih =>
    rw [sumTo_succ, ih]
    by_cases e : n = i
    · subst e; rw [if_pos rfl, if_neg (by omega), if_pos (by omega)]; omega
    · rw [if_neg e]
      by_cases h : i < n
      · rw [if_pos h, if_pos (by omega)]; omega
      · rw [if_neg h, if_neg (by omega)]; omega
theorem back_unit {P S W : List Int} (hc : CluOk P S W) {i : Nat} (hi : i < P.length) : backTo P S i (unitL P.length i) = mRow P S i := by
  apply gI_ext (by rw [backTo_len]; simp)
  intro k hk
  have hk' : k < P.length := by rw [backTo_len] at hk; simpa using hk
  rw [back_phi hc i _ (by simp) hi, gI_mRow hk']
  unfold phiS
  rw [sumTo_congr (g := fun x => (if x = i then 1 else 0) * mI P S x k) (fun x _ => by rw [gI_unit hi]), sumTo_unit, if_pos (by omega), gI_unit hi]
  split
  · rw [if_neg (by omega)]; omega
  · omega

/-- The weights with the excesses E. -/
def linTo (P S E : List Int) (m : Nat) : List Int := (List.range P.length).map fun k => sumTo (fun x => gI E x * mI P S x k) m
@[simp] theorem linTo_len (P S E : List Int) (m : Nat) : (linTo P S E m).length = P.length := by simp [linTo]
theorem gI_linTo {P S E : List Int} {m k : Nat} (h : k < P.length) : gI (linTo P S E m) k = sumTo (fun x => gI E x * mI P S x k) m := by rw [gI_lt (by simpa using h)]; simp [linTo]
theorem back_lin {P S W E : List Int} (hc : CluOk P S W) (hl : E.length = P.length) : backTo P S (P.length - 1) E = linTo P S E P.length := by
  have h0 := hc.1.1
  apply gI_ext (by rw [backTo_len]; simp [hl])
  intro k hk
  have hk' : k < P.length := by rw [backTo_len] at hk; omega
  rw [back_phi hc _ _ hl (by omega), gI_linTo hk']
  unfold phiS
  rw [show P.length - 1 + 1 = P.length by omega, if_neg (by omega)]
  omega
end Go.Proofs.Ytiinceflafigeaa
