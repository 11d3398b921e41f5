/- Unloading: all numbers stay small, and the way ends. No program in sight. -/
import Derived.Test.YtiinceflafigeaaUnlPure
namespace Go.Proofs.Ytiinceflafigeaa

theorem m0_pos {P S W : List Int} (hc : CluOk P S W) : ∀ i, i < P.length → 1 ≤ mI P S i 0 := by
  intro i
  induction i using Nat.strongRecOn with
  | _ i ih =>
    intro hi
    by_cases h0 : i = 0
    · subst h0; rw [mI_zero hc, if_pos rfl]; omega
    · obtain ⟨h1, h2, h3⟩ := clu_place hc hi (by omega)
      rw [mI_step hc 0 hi (by omega), if_neg h0]
      have := ih (gI P i).toNat (by omega) (by omega)
      split
      · have := ih (gI S i).toNat (by omega) (by omega); omega
      · omega
def fibI : Nat → Int
  | 0 => 1
  | 1 => 1
  | n + 2 => fibI (n + 1) + fibI n
theorem fibI_two (n : Nat) : fibI (n + 2) = fibI (n + 1) + fibI n := rfl
theorem fibI_pos (n : Nat) : 1 ≤ fibI n ∧ 1 ≤ fibI (n + 1) := by
  induction n with
  | zero => exact ⟨by decide, by decide⟩
  | succ n ih => rw [fibI_two]; omega
theorem fibI_step (n : Nat) : fibI n ≤ fibI (n + 1) := by
  match n with
  | 0 => decide
  | n + 1 => rw [fibI_two]; have := (fibI_pos n).1; omega
theorem fibI_mono {n m : Nat} (h : n ≤ m) : fibI n ≤ fibI m := by
  induction m with
  | zero => rw [show n = 0 by omega]; exact Int.le_refl _
  | succ m ih =>
    by_cases e : n = m + 1
    · rw [e]; exact Int.le_refl _
    · have := ih (by omega); have := fibI_step m; omega
theorem fibI_23 : fibI 23 = 46368 := by decide +kernel
theorem m0_fib {P S W : List Int} (hc : CluOk P S W) : ∀ i, i < P.length → mI P S i 0 ≤ fibI i := by
  intro i
  induction i using Nat.strongRecOn with
  | _ i ih =>
    intro hi
    by_cases h0 : i = 0
    · subst h0; rw [mI_zero hc, if_pos rfl]; decide
    · obtain ⟨h1, h2, h3⟩ := clu_place hc hi (by omega)
      rw [mI_step hc 0 hi (by omega), if_neg h0]
      have a1 := ih (gI P i).toNat (by omega) (by omega)
      have a2 := fibI_mono (n := (gI P i).toNat) (m := i - 1) (by omega)
      by_cases hs : 0 ≤ gI S i
      · rw [if_pos hs]
        have hne := clu_ne hc hi hs
        have b1 := ih (gI S i).toNat (by omega) (by omega)
        have b2 := fibI_mono (n := (gI S i).toNat) (m := i - 2) (by omega)
        have b3 := fibI_two (i - 2)
        rw [show i - 2 + 2 = i by omega, show i - 2 + 1 = i - 1 by omega] at b3
        omega
      · rw [if_neg hs]
        have := fibI_mono (n := i - 1) (m := i) (by omega)
        omega
theorem m0_bd {P S W : List Int} (hc : CluOk P S W) {i : Nat} (hi : i < P.length) : 1 ≤ mI P S i 0 ∧ mI P S i 0 ≤ 46368 := by
  have h1 := m0_pos hc i hi
  have h2 := m0_fib hc i hi
  have h3 := fibI_mono (n := i) (m := 23) (by have := hc.1.2.1; omega)
  rw [fibI_23] at h3
  omega
theorem sum_m0 {P S W : List Int} (hc : CluOk P S W) {i : Nat} (hi : i < P.length) : sumTo (fun q => nB P S i q * mI P S q 0) P.length = mI P S i 0 - if i = 0 then 1 else 0 := by
  have := ordF_eq hc (fun j => if j = 0 then 1 else 0) hi
  show sumTo (fun q => nB P S i q * ordF P S (fun j => if j = 0 then 1 else 0) q) P.length = ordF P S (fun j => if j = 0 then 1 else 0) i - _
  omega

/-- The orders of weights are small enough. -/
def UnlOk (P S : List Int) (A : Nat → Int) : Prop := ∀ i, i < P.length → -(2400000 * mI P S i 0) ≤ ordF P S A i ∧ ordF P S A i ≤ 2400000 * mI P S i 0
/-- With weights of at most b. -/
theorem ord_m0 {P S W : List Int} (hc : CluOk P S W) {A : Nat → Int} {b : Int} (hb : 0 ≤ b) (hA : ∀ i, i < P.length → -b ≤ A i ∧ A i ≤ b) :
    ∀ i, i < P.length → -(b * ((i : Int) + 1) * mI P S i 0) ≤ ordF P S A i ∧ ordF P S A i ≤ b * ((i : Int) + 1) * mI P S i 0 := by
  intro i
  induction i using Nat.strongRecOn with
  | _ i ih =>
    intro hi
    have hm := m0_pos hc i hi
    have hs := sum_m0 hc hi
    have ha := hA i hi
    rw [ordF_eq hc A hi]
    have hup : sumTo (fun q => nB P S i q * ordF P S A q) P.length ≤ sumTo (fun q => nB P S i q * (b * (i : Int) * mI P S q 0)) P.length := sum_nB_le hc hi fun q hq => by
      have h1 := (ih q hq (by omega)).2
      have hq0 := m0_pos hc q (by omega)
      have h2 : b * ((q : Int) + 1) * mI P S q 0 ≤ b * (i : Int) * mI P S q 0 := Int.mul_le_mul_of_nonneg_right (Int.mul_le_mul_of_nonneg_left (by omega) hb) (by omega)
      omega
    have hdn : sumTo (fun q => nB P S i q * (-(b * (i : Int) * mI P S q 0))) P.length ≤ sumTo (fun q => nB P S i q * ordF P S A q) P.length := sum_nB_le hc hi fun q hq => by
      have h1 := (ih q hq (by omega)).1
      have hq0 := m0_pos hc q (by omega)
      have h2 : b * ((q : Int) + 1) * mI P S q 0 ≤ b * (i : Int) * mI P S q 0 := Int.mul_le_mul_of_nonneg_right (Int.mul_le_mul_of_nonneg_left (by omega) hb) (by omega)
      omega
    have e1 : sumTo (fun q => nB P S i q * (b * (i : Int) * mI P S q 0)) P.length = b * (i : Int) * sumTo (fun q => nB P S i q * mI P S q 0) P.length := by
      rw [← sumTo_mul]
      exact sumTo_congr fun q _ => by rw [← Int.mul_assoc, Int.mul_comm (nB P S i q), Int.mul_assoc]
    have e2 : sumTo (fun q => nB P S i q * (-(b * (i : Int) * mI P S q 0))) P.length = -(b * (i : Int) * sumTo (fun q => nB P S i q * mI P S q 0) P.length) := by
      rw [sumTo_congr (g := fun q => - (nB P S i q * (b * (i : Int) * mI P S q 0))) (fun q _ => Int.mul_neg _ _), sumTo_neg, e1]
    rw [e1] at hup
    rw [e2] at hdn
    have e3 : b * ((i : Int) + 1) * mI P S i 0 = b * (i : Int) * mI P S i 0 + b * mI P S i 0 := by rw [Int.mul_add, Int.mul_one, Int.add_mul]
    have e4 : b * 1 ≤ b * mI P S i 0 := Int.mul_le_mul_of_nonneg_left hm hb
    have e5 : b * (i : Int) * sumTo (fun q => nB P S i q * mI P S q 0) P.length ≤ b * (i : Int) * mI P S i 0 := by
      refine Int.mul_le_mul_of_nonneg_left ?_ (Int.mul_nonneg hb (by omega))
      rw [hs]; split <;> omega
    omega
theorem unlOk_of {P S W : List Int} (hc : CluOk P S W) {A : Nat → Int} (hA : ∀ i, i < P.length → -100000 ≤ A i ∧ A i ≤ 100000) : UnlOk P S A := by
  intro i hi
  have h := ord_m0 hc (b := 100000) (by omega) hA i hi
  have hm := m0_pos hc i hi
  have h24 := hc.1.2.1
  have : 100000 * ((i : Int) + 1) * mI P S i 0 ≤ 2400000 * mI P S i 0 := Int.mul_le_mul_of_nonneg_right (by omega) (by omega)
  omega

theorem ordF_mul {P S W : List Int} (hc : CluOk P S W) (c : Int) (A : Nat → Int) : ∀ i, i < P.length → ordF P S (fun j => c * A j) i = c * ordF P S A i := by
  refine clu_induct hc fun i hi ih => ?_
  rw [ordF_eq hc _ hi, ordF_eq hc A hi, Int.mul_add, ← sumTo_mul]
  congr 1
  refine sumTo_congr fun q hq => ?_
  by_cases e : nB P S i q = 0
  · rw [e]; simp
  · have hqi : q < i := by
      by_cases h : q < i
      · exact h
      · exact absurd (nB_ge hc hi (by omega)) e
    rw [ih q hqi e, ← Int.mul_assoc, Int.mul_comm (nB P S i q), Int.mul_assoc]
/-- A consistent cluster above all: a great weight at the first point alone. -/
def topF (j : Nat) : Int := 2400000 * if j = 0 then 1 else 0
theorem topF_ord {P S W : List Int} (hc : CluOk P S W) {i : Nat} (hi : i < P.length) : ordF P S topF i = 2400000 * mI P S i 0 := ordF_mul hc 2400000 _ i hi
theorem topF_ex {P S W : List Int} (hc : CluOk P S W) {p : Nat} : 0 ≤ exF P S topF p := by
  have h0 : nB P S 0 p = 0 := nB_ge hc hc.1.1 (Nat.zero_le _)
  unfold exF
  have : sumTo (fun j => nB P S j p * topF j) P.length = 0 := sumTo_const_zero fun j _ => by
    by_cases e : j = 0
    · subst e; rw [h0]; simp
    · simp [topF, e]
  rw [this]
  unfold topF
  split <;> omega
theorem good_bd {P S W : List Int} (hc : CluOk P S W) {A0 A : Nat → Int} (hu : UnlOk P S A0) (h : Good P S A0 A) {i : Nat} (hi : i < P.length) :
    -111283200000 ≤ ordF P S A i ∧ ordF P S A i ≤ 2400000 * mI P S i 0 ∧ ordF P S A i ≤ 111283200000 := by
  have h1 := h.ge i hi
  have h2 := h.le topF (fun _ _ => topF_ex hc) (fun j hj => by rw [topF_ord hc hj]; exact (hu j hj).2) i hi
  rw [topF_ord hc hi] at h2
  have h3 := (hu i hi).1
  have h4 := m0_bd hc hi
  omega
theorem of_ord_bd {P S W : List Int} (hc : CluOk P S W) {A : Nat → Int} {b : Int} (h : ∀ i, i < P.length → -b ≤ ordF P S A i ∧ ordF P S A i ≤ b) {i : Nat} (hi : i < P.length) : -(3 * b) ≤ A i ∧ A i ≤ 3 * b := by
  have h1 := ordF_eq hc A hi
  rw [sum_nB hc hi] at h1
  have h2 := h i hi
  by_cases h0 : i = 0
  · subst h0
    have := clu_zero hc
    rw [if_pos rfl, if_neg (show ¬ 0 ≤ gI S 0 by omega)] at h1
    omega
  · obtain ⟨k1, k2, k3⟩ := clu_place hc hi (by omega)
    rw [if_neg h0] at h1
    have h3 := h (gI P i).toNat (by omega)
    by_cases hs : 0 ≤ gI S i
    · rw [if_pos hs] at h1
      have h4 := h (gI S i).toNat (by omega)
      omega
    · rw [if_neg hs] at h1
      omega
theorem good_small {P S W : List Int} (hc : CluOk P S W) {A0 A : Nat → Int} (hu : UnlOk P S A0) (h : Good P S A0 A) {i : Nat} (hi : i < P.length) : -333849600000 ≤ A i ∧ A i ≤ 333849600000 := by
  have := of_ord_bd hc (A := A) (b := 111283200000) (fun j hj => by have := good_bd hc hu h hj; omega) hi
  omega
theorem exF_bd {P S : List Int} {A : Nat → Int} {b : Int} (h24 : P.length ≤ 24) (hA : ∀ i, i < P.length → -b ≤ A i ∧ A i ≤ b) {p : Nat} (hp : p < P.length) : -(25 * b) ≤ exF P S A p ∧ exF P S A p ≤ 25 * b := by
  have h1 := hA p hp
  have hb : 0 ≤ b := by omega
  have h2 := sumTo_bound (f := fun j => nB P S j p * A j) (n := P.length) (-b) b (fun j hj => by
    have := hA j hj
    rcases nB_01 P S j p with e | e <;> rw [e] <;> omega)
  have h3 : (P.length : Int) * b ≤ 24 * b := Int.mul_le_mul_of_nonneg_right (by omega) hb
  rw [Int.mul_neg] at h2
  unfold exF
  omega

/-- How much the orders can still grow. -/
def measN (P S : List Int) (A : Nat → Int) : Nat := (sumTo (fun i => 2400000 * mI P S i 0 - ordF P S A i) P.length).toNat
theorem meas_step {P S W : List Int} (hc : CluOk P S W) {A0 A : Nat → Int} (hu : UnlOk P S A0) (h : Good P S A0 A) {p : Nat} (hp : p < P.length) (he : exF P S A p < 0) :
    measN P S (stF P S A p (upS (exF P S A p) (hB P S p))) < measN P S A := by
  have hh := (hB_bd P S p hc.1.2.1).1
  have hs := upS_pos he hh
  have hg := h.step hc hp he
  unfold measN
  have e1 : sumTo (fun i => 2400000 * mI P S i 0 - ordF P S (stF P S A p (upS (exF P S A p) (hB P S p))) i) P.length = sumTo (fun i => 2400000 * mI P S i 0 - ordF P S A i) P.length - upS (exF P S A p) (hB P S p) := by
    rw [sumTo_congr (g := fun i => (2400000 * mI P S i 0 - ordF P S A i) - (if i = p then 1 else 0) * upS (exF P S A p) (hB P S p)) (fun i hi => by
      rw [ordF_step hc A _ hp i hi]
      split <;> simp <;> omega), sumTo_sub, sumTo_unit, if_pos hp]
  have h0 := sumTo_bound (f := fun i => 2400000 * mI P S i 0 - ordF P S (stF P S A p (upS (exF P S A p) (hB P S p))) i) (n := P.length) 0 10000000000000 (fun i hi => by
    have := good_bd hc hu hg hi
    have := m0_bd hc hi
    omega)
  rw [e1] at h0 ⊢
  omega
theorem meas_congr {P S W : List Int} (hc : CluOk P S W) {A B : Nat → Int} (h : ∀ i, i < P.length → A i = B i) : measN P S A = measN P S B := by
  unfold measN
  rw [sumTo_congr (g := fun i => 2400000 * mI P S i 0 - ordF P S B i) (fun i hi => by rw [ordF_congr hc h i hi])]

/-- The least place before k with a negative number, or -1. -/
def leastTo (E : List Int) : Nat → Int
  | 0 => -1
  | k + 1 => if 0 ≤ leastTo E k then leastTo E k else if gI E k < 0 then k else -1
theorem leastTo_none {E : List Int} {k : Nat} : (∀ i, i < k → 0 ≤ gI E i) → leastTo E k = -1 := by
  induction k with
  | zero => intro _; rfl
  | succ k ih => intro h; unfold leastTo; rw [ih (fun i hi => h i (by omega)), if_neg (by omega), if_neg (by have := h k (by omega); omega)]
theorem leastTo_spec (E : List Int) (k : Nat) : (leastTo E k = -1 ∧ ∀ i, i < k → 0 ≤ gI E i) ∨ (0 ≤ leastTo E k ∧ leastTo E k < k ∧ gI E (leastTo E k).toNat < 0 ∧ ∀ i : Nat, (i : Int) < leastTo E k → 0 ≤ gI E i) := by
  induction k with
  | zero => exact .inl ⟨rfl, fun i hi => by omega⟩
  | succ k ih =>
    unfold leastTo
    rcases ih with ⟨h1, h2⟩ | ⟨h1, h2, h3, h4⟩
    · rw [h1, if_neg (by omega)]
      by_cases e : gI E k < 0
      · rw [if_pos e]
        exact .inr ⟨by omega, by omega, by simpa using e, fun i hi => h2 i (by omega)⟩
      · rw [if_neg e]
        refine .inl ⟨rfl, fun i hi => ?_⟩
        by_cases e2 : i = k
        · subst e2; omega
        · exact h2 i (by omega)
    · rw [if_pos h1]
      exact .inr ⟨h1, by omega, h3, h4⟩
theorem leastTo_at {E : List Int} {p k : Nat} (hp : p < k) (h1 : gI E p < 0) (h2 : ∀ i, i < p → 0 ≤ gI E i) : leastTo E k = p := by
  rcases leastTo_spec E k with ⟨_, h⟩ | ⟨a1, a2, a3, a4⟩
  · have := h p hp; omega
  · by_cases e : (leastTo E k).toNat < p
    · have := h2 _ e; omega
    · by_cases e2 : (p : Int) < leastTo E k
      · have := a4 p e2; omega
      · omega

/-- The list of n numbers of a function. -/
def lF (n : Nat) (A : Nat → Int) : List Int := (List.range n).map A
@[simp] theorem lF_len (n : Nat) (A : Nat → Int) : (lF n A).length = n := by simp [lF]
theorem gI_lF {n i : Nat} {A : Nat → Int} (h : i < n) : gI (lF n A) i = A i := by rw [gI_lt (by simpa using h)]; simp [lF]
theorem lF_gI {L : List Int} {n : Nat} (h : L.length = n) : lF n (fun i => gI L i) = L := by
  apply gI_ext (by simp [h])
  intro i hi
  rw [gI_lF (by simpa using hi)]

/-- The excesses of weights. -/
def exL (P S L : List Int) : List Int := exTo (proxL P S) L P.length
theorem exL_len (P S L : List Int) : (exL P S L).length = L.length := exTo_len _ _ _
theorem exL_at {P S W L : List Int} (hc : CluOk P S W) (hl : L.length = P.length) {p : Nat} (hp : p < P.length) : gI (exL P S L) p = exF P S (fun i => gI L i) p := by
  unfold exF exL
  suffices h : ∀ k, k ≤ P.length → gI (exTo (proxL P S) L k) p = gI L p - sumTo (fun j => nB P S j p * gI L j) k by exact h _ (Nat.le_refl _)
  intro k
  induction k with
  | zero => intro _; simp [exTo, sumTo]
  | succ k ih =>
    intro hk
    have ih := ih (by omega)
    by_cases h0 : k = 0
    · subst h0
      rw [exTo_one L hc, sumTo_succ, sumTo_zero, nB_ge hc (by omega) (Nat.zero_le _)]; omega
    · obtain ⟨h1, h2, h3⟩ := clu_place hc (by omega : k < P.length) (by omega)
      rw [exTo_step L (by omega) (by omega), sumTo_succ, nB_eq hc (by omega), if_neg h0]
      unfold exStep
      by_cases hs : 0 ≤ gI S k
      · have hne := clu_ne hc (by omega : k < P.length) hs
        rw [if_pos hs, if_pos hs, gI_dec, gI_dec, dec_len, exTo_len, ih]
        by_cases e1 : p = (gI P k).toNat
        · rw [if_neg (by omega), if_pos (by omega), if_pos e1, if_neg (by omega)]; simp; omega
        · by_cases e2 : p = (gI S k).toNat
          · rw [if_pos (by omega), if_neg (by omega), if_neg e1, if_pos e2]; simp; omega
          · rw [if_neg (by omega), if_neg (by omega), if_neg e1, if_neg e2]; simp
      · rw [if_neg hs, if_neg hs, gI_dec, exTo_len, ih]
        by_cases e1 : p = (gI P k).toNat
        · rw [if_pos (by omega), if_pos e1]; simp; omega
        · rw [if_neg (by omega), if_neg e1]; simp

/-- The weights after a step at p. -/
def stL (P S L : List Int) (p : Nat) : List Int := lF P.length (stF P S (fun i => gI L i) p (upS (gI (exL P S L) p) (hB P S p)))
@[simp] theorem stL_len (P S L : List Int) (p : Nat) : (stL P S L p).length = P.length := by simp [stL]
theorem gI_stL {P S W L : List Int} (hc : CluOk P S W) (hl : L.length = P.length) {p i : Nat} (hp : p < P.length) (hi : i < P.length) : gI (stL P S L p) i = stF P S (fun i => gI L i) p (upS (exF P S (fun i => gI L i) p) (hB P S p)) i := by
  unfold stL
  rw [gI_lF hi, exL_at hc hl hp]
/-- The weights at the end of the way. -/
def unlTo (P S : List Int) : Nat → List Int → List Int
  | 0, L => L
  | f + 1, L => if leastTo (exL P S L) P.length < 0 then L else unlTo P S f (stL P S L (leastTo (exL P S L) P.length).toNat)
def unlL (P S L : List Int) : List Int := unlTo P S (measN P S fun i => gI L i) L
/-- Weights on the way from W0. -/
def OnWay (P S W0 L : List Int) : Prop := L.length = P.length ∧ Good P S (fun i => gI W0 i) (fun i => gI L i)
theorem OnWay.step {P S W W0 L : List Int} (hc : CluOk P S W) (h : OnWay P S W0 L) {p : Nat} (hp : p < P.length) (he : gI (exL P S L) p < 0) : OnWay P S W0 (stL P S L p) := by
  rw [exL_at hc h.1 hp] at he
  exact ⟨by simp, (h.2.step hc hp he).congr hc (fun i hi => gI_stL hc h.1 hp hi)⟩
theorem OnWay.less {P S W W0 L : List Int} (hc : CluOk P S W) (hu : UnlOk P S fun i => gI W0 i) (h : OnWay P S W0 L) {p : Nat} (hp : p < P.length) (he : gI (exL P S L) p < 0) : measN P S (fun i => gI (stL P S L p) i) < measN P S fun i => gI L i := by
  rw [exL_at hc h.1 hp] at he
  rw [meas_congr hc (fun i hi => gI_stL hc h.1 hp hi)]
  exact meas_step hc hu h.2 hp he
theorem OnWay.eq {P S W W0 L L' : List Int} (hc : CluOk P S W) (h : OnWay P S W0 L) (h' : OnWay P S W0 L') (e : ∀ i, i < P.length → 0 ≤ gI (exL P S L) i) (e' : ∀ i, i < P.length → 0 ≤ gI (exL P S L') i) : L = L' := by
  apply gI_ext (by rw [h.1, h'.1])
  intro i hi
  exact good_end hc h.2 h'.2 (fun i hi => by have := e i hi; rwa [exL_at hc h.1 hi] at this) (fun i hi => by have := e' i hi; rwa [exL_at hc h'.1 hi] at this) i (by rw [h.1] at hi; exact hi)
theorem OnWay.small {P S W W0 L : List Int} (hc : CluOk P S W) (hu : UnlOk P S fun i => gI W0 i) (h : OnWay P S W0 L) {i : Nat} (hi : i < P.length) : -333849600000 ≤ gI L i ∧ gI L i ≤ 333849600000 := good_small hc hu h.2 hi
theorem unlTo_ok {P S W W0 : List Int} (hc : CluOk P S W) (hu : UnlOk P S fun i => gI W0 i) (f : Nat) : ∀ L, OnWay P S W0 L → measN P S (fun i => gI L i) ≤ f → OnWay P S W0 (unlTo P S f L) ∧ ∀ i, i < P.length → 0 ≤ gI (exL P S (unlTo P S f L)) i := by
  induction f with
  | zero =>
    intro L h hf
    refine ⟨h, fun i hi => ?_⟩
    show 0 ≤ gI (exL P S L) i
    by_cases e : gI (exL P S L) i < 0
    · have := h.less hc hu hi e; omega
    · omega
  | succ f ih =>
    intro L h hf
    unfold unlTo
    rcases leastTo_spec (exL P S L) P.length with ⟨h1, h2⟩ | ⟨h1, h2, h3, _⟩
    · rw [if_pos (by omega)]; exact ⟨h, h2⟩
    · rw [if_neg (by omega)]
      have hp : (leastTo (exL P S L) P.length).toNat < P.length := by omega
      have := h.less hc hu hp h3
      exact ih _ (h.step hc hp h3) (by omega)
theorem unlL_ok {P S W W0 : List Int} (hc : CluOk P S W) (hu : UnlOk P S fun i => gI W0 i) (hl : W0.length = P.length) : OnWay P S W0 (unlL P S W0) ∧ ∀ i, i < P.length → 0 ≤ gI (exL P S (unlL P S W0)) i :=
  unlTo_ok hc hu _ W0 ⟨hl, Good.refl _ _ _⟩ (Nat.le_refl _)
theorem OnWay.done {P S W W0 L : List Int} (hc : CluOk P S W) (hu : UnlOk P S fun i => gI W0 i) (hl : W0.length = P.length) (h : OnWay P S W0 L) (e : ∀ i, i < P.length → 0 ≤ gI (exL P S L) i) : L = unlL P S W0 :=
  h.eq hc (unlL_ok hc hu hl).1 e (unlL_ok hc hu hl).2
end Go.Proofs.Ytiinceflafigeaa
