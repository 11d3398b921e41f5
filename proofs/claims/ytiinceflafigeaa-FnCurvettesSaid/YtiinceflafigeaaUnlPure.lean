/- Unloading: a step at a point with a negative excess raises one order and stays below every consistent cluster; so the end does not depend on the order of steps. No program in sight. -/
import Derived.Test.YtiinceflafigeaaSimPure
import Derived.Test.YtiinceflafigeaaNear
namespace Go.Proofs.Ytiinceflafigeaa

/-- 1 for a point i that is proximate to q, else 0. -/
def nB (P S : List Int) (i q : Nat) : Int := if nearB P S i (q : Int) then 1 else 0
theorem nB_01 (P S : List Int) (i q : Nat) : nB P S i q = 0 ∨ nB P S i q = 1 := by unfold nB; split <;> simp
theorem nB_nn (P S : List Int) (i q : Nat) : 0 ≤ nB P S i q := by rcases nB_01 P S i q with h | h <;> omega
theorem near_lt {P S W : List Int} (hc : CluOk P S W) {i q : Nat} (hi : i < P.length) (h : nearB P S i (q : Int) = true) : q < i := by
  have h1 := (nearB_iff.1 h).2
  by_cases h0 : i = 0
  · subst h0; have := clu_zero hc; omega
  · have := clu_place hc hi (by omega); omega
theorem nB_ge {P S W : List Int} (hc : CluOk P S W) {i q : Nat} (hi : i < P.length) (h : i ≤ q) : nB P S i q = 0 := by
  unfold nB
  by_cases e : nearB P S i (q : Int) = true
  · have := near_lt hc hi e; omega
  · rw [if_neg e]
/-- Parent and second are not the same. -/
theorem clu_ne {P S W : List Int} (hc : CluOk P S W) {i : Nat} (hi : i < P.length) (hs : 0 ≤ gI S i) : gI P i ≠ gI S i ∧ gI S i < gI P i ∧ 0 < i := by
  have h0 : 0 < i := by
    rcases Nat.eq_zero_or_pos i with e | e
    · subst e; have := clu_zero hc; omega
    · exact e
  have hp := clu_place hc hi h0
  rcases (hc.2.2 i hi).1 with h | h
  · omega
  · obtain ⟨_, h1, h2, h3⟩ := h
    have hpi : (gI P i).toNat < P.length := by omega
    by_cases hz : (gI P i).toNat = 0
    · have := clu_zero hc
      rw [hz] at h3; omega
    · have := clu_place hc hpi (by omega)
      rcases h3 with h3 | ⟨_, h3⟩
      · omega
      · omega
theorem nB_eq {P S W : List Int} (hc : CluOk P S W) {i : Nat} (hi : i < P.length) (q : Nat) : nB P S i q = (if i = 0 then 0 else if q = (gI P i).toNat then 1 else 0) + (if 0 ≤ gI S i then (if q = (gI S i).toNat then 1 else 0) else 0) := by
  have yes : nearB P S i (q : Int) = true → nB P S i q = 1 := fun h => by unfold nB; rw [if_pos h]
  have no : ¬ nearB P S i (q : Int) = true → nB P S i q = 0 := fun h => by unfold nB; rw [if_neg h]
  by_cases h0 : i = 0
  · subst h0
    have hz := clu_zero hc
    rw [if_pos rfl, if_neg (show ¬ 0 ≤ gI S 0 by omega), no (by rw [nearB_iff]; omega)]
    rfl
  · obtain ⟨h1, h2, h3⟩ := clu_place hc hi (by omega)
    rw [if_neg h0]
    by_cases hs : 0 ≤ gI S i
    · have hne := clu_ne hc hi hs
      rw [if_pos hs]
      by_cases e1 : q = (gI P i).toNat
      · rw [if_pos e1, if_neg (show ¬ q = (gI S i).toNat by omega), yes (nearB_iff.2 (by omega))]; rfl
      · by_cases e2 : q = (gI S i).toNat
        · rw [if_neg e1, if_pos e2, yes (nearB_iff.2 (by omega))]; rfl
        · rw [if_neg e1, if_neg e2, no (by rw [nearB_iff]; omega)]; rfl
    · rw [if_neg hs]
      by_cases e1 : q = (gI P i).toNat
      · rw [if_pos e1, yes (nearB_iff.2 (by omega))]; rfl
      · rw [if_neg e1, no (by rw [nearB_iff]; omega)]; rfl
theorem sum_nB {P S W : List Int} (hc : CluOk P S W) {i : Nat} (hi : i < P.length) (f : Nat → Int) : sumTo (fun q => nB P S i q * f q) P.length = (if i = 0 then 0 else f (gI P i).toNat) + (if 0 ≤ gI S i then f (gI S i).toNat else 0) := by
  rw [sumTo_congr (g := fun q => (if i = 0 then 0 else if q = (gI P i).toNat then 1 else 0) * f q + (if 0 ≤ gI S i then (if q = (gI S i).toNat then 1 else 0) else 0) * f q) (fun q _ => by rw [nB_eq hc hi, Int.add_mul]), sumTo_add]
  congr 1
  · by_cases h0 : i = 0
    · rw [if_pos h0, sumTo_const_zero (fun q _ => by rw [if_pos h0]; omega)]
    · obtain ⟨h1, h2, h3⟩ := clu_place hc hi (by omega)
      rw [if_neg h0, sumTo_congr (g := fun q => (if q = (gI P i).toNat then 1 else 0) * f q) (fun q _ => by rw [if_neg h0]), sumTo_unit, if_pos (by omega)]
  · by_cases hs : 0 ≤ gI S i
    · have := clu_ne hc hi hs
      have h3 := clu_place hc hi this.2.2
      rw [if_pos hs, sumTo_congr (g := fun q => (if q = (gI S i).toNat then 1 else 0) * f q) (fun q _ => by rw [if_pos hs]), sumTo_unit, if_pos (by omega)]
    · rw [if_neg hs, sumTo_const_zero (fun q _ => by rw [if_neg hs]; omega)]

/-- The order of a point for some weights. -/
def ordF (P S : List Int) (A : Nat → Int) (i : Nat) : Int := gI (ordTo A P S P.length) i
/-- The excess of a point for some weights. -/
def exF (P S : List Int) (A : Nat → Int) (p : Nat) : Int := A p - sumTo (fun j => nB P S j p * A j) P.length
theorem ordF_eq {P S W : List Int} (hc : CluOk P S W) (A : Nat → Int) {i : Nat} (hi : i < P.length) : ordF P S A i = A i + sumTo (fun q => nB P S i q * ordF P S A q) P.length := by
  rw [sum_nB hc hi]
  unfold ordF
  rw [ordTo_at A P S hi, Int.add_assoc]
  congr 1
  by_cases h0 : i = 0
  · subst h0
    have := clu_zero hc
    rw [if_pos rfl, if_pos rfl, if_neg (show ¬ 0 ≤ gI S 0 by omega), if_neg (show ¬ 0 ≤ gI S 0 by omega)]
  · obtain ⟨h1, h2, h3⟩ := clu_place hc hi (by omega)
    rw [if_neg h0, if_neg h0, ordTo_same A P S (show (gI P i).toNat < i by omega) (show (gI P i).toNat < P.length by omega)]
    congr 1
    by_cases hs : 0 ≤ gI S i
    · rw [if_pos hs, if_pos hs, ordTo_same A P S (show (gI S i).toNat < i by omega) (show (gI S i).toNat < P.length by omega)]
    · rw [if_neg hs, if_neg hs]

/-- What holds for the first points and is handed on holds for all. -/
theorem clu_induct {P S W : List Int} (_ : CluOk P S W) {p : Nat → Prop} (h : ∀ i, i < P.length → (∀ q, q < i → nB P S i q ≠ 0 → p q) → p i) : ∀ i, i < P.length → p i := by
  intro i
  induction i using Nat.strongRecOn with
  | _ i ih => intro hi; exact h i hi (fun q hq _ => ih q hq (by omega))
theorem sum_nB_congr {P S W : List Int} (hc : CluOk P S W) {i : Nat} (hi : i < P.length) {f g : Nat → Int} (h : ∀ q, q < i → f q = g q) : sumTo (fun q => nB P S i q * f q) P.length = sumTo (fun q => nB P S i q * g q) P.length :=
  sumTo_congr fun q _ => by
    by_cases hq : q < i
    · rw [h q hq]
    · rw [nB_ge hc hi (by omega)]; omega
theorem sumTo_le {f g : Nat → Int} {n : Nat} (h : ∀ i, i < n → f i ≤ g i) : sumTo f n ≤ sumTo g n := by
  induction n with
  | zero => simp [sumTo]
  | succ n ih =>
    rw [sumTo_succ, sumTo_succ]
    have := ih (fun i hi => h i (by omega))
    have := h n (by omega)
    omega
theorem sum_nB_le {P S W : List Int} (hc : CluOk P S W) {i : Nat} (hi : i < P.length) {f g : Nat → Int} (h : ∀ q, q < i → f q ≤ g q) : sumTo (fun q => nB P S i q * f q) P.length ≤ sumTo (fun q => nB P S i q * g q) P.length :=
  sumTo_le fun q _ => by
    rcases nB_01 P S i q with e | e
    · rw [e]; omega
    · by_cases hq : q < i
      · rw [e]; have := h q hq; omega
      · have := nB_ge hc hi (show i ≤ q by omega); omega

/-- The number of points that are proximate to p and to q. -/
def kB (P S : List Int) (p q n : Nat) : Int := sumTo (fun j => nB P S j p * nB P S j q) n
theorem near_pair {P S W : List Int} (hc : CluOk P S W) {j p q : Nat} (hj : j < P.length) (hne : p < q) (h1 : nearB P S j (p : Int) = true) (h2 : nearB P S j (q : Int) = true) : gI P j = q ∧ gI S j = p ∧ nearB P S q (p : Int) = true := by
  have a1 := (nearB_iff.1 h1).2
  have a2 := (nearB_iff.1 h2).2
  have hs : 0 ≤ gI S j := by omega
  have hlt := clu_ne hc hj hs
  have hP : gI P j = q := by omega
  have hS : gI S j = p := by omega
  refine ⟨hP, hS, nearB_iff.2 ⟨by omega, ?_⟩⟩
  rcases (hc.2.2 j hj).1 with h | h
  · omega
  · obtain ⟨_, _, _, h3⟩ := h
    have : (gI P j).toNat = q := by omega
    rw [this] at h3
    omega
theorem kB_lt {P S W : List Int} (hc : CluOk P S W) {p q : Nat} (hpq : p < q) (n : Nat) : n ≤ P.length → kB P S p q n ≤ nB P S q p ∧ (kB P S p q n ≠ 0 → ∃ j, j < n ∧ nearB P S j (p : Int) = true ∧ nearB P S j (q : Int) = true) := by
  induction n with
  | zero => intro _; exact ⟨nB_nn _ _ _ _, fun h => absurd rfl h⟩
  | succ n ih =>
    intro hn
    obtain ⟨h1, h2⟩ := ih (by omega)
    unfold kB at *
    rw [sumTo_succ]
    by_cases e1 : nearB P S n (p : Int) = true
    · by_cases e2 : nearB P S n (q : Int) = true
      · obtain ⟨hP, hS, hN⟩ := near_pair hc (by omega) hpq e1 e2
        have hzero : sumTo (fun j => nB P S j p * nB P S j q) n = 0 := by
          by_cases hz : sumTo (fun j => nB P S j p * nB P S j q) n = 0
          · exact hz
          · exfalso
            obtain ⟨j, hj, k1, k2⟩ := h2 hz
            obtain ⟨hP', hS', _⟩ := near_pair hc (by omega) hpq k1 k2
            exact (hc.2.2 n (by omega)).2 j hj ⟨by omega, by omega, by omega⟩
        rw [hzero]
        refine ⟨?_, fun _ => ⟨n, by omega, e1, e2⟩⟩
        simp [nB, e1, e2, hN]
      · have : nB P S n p * nB P S n q = 0 := by simp [nB, e2]
        rw [this, Int.add_zero]
        exact ⟨h1, fun h => by obtain ⟨j, hj, k⟩ := h2 h; exact ⟨j, by omega, k⟩⟩
    · have : nB P S n p * nB P S n q = 0 := by simp [nB, e1]
      rw [this, Int.add_zero]
      exact ⟨h1, fun h => by obtain ⟨j, hj, k⟩ := h2 h; exact ⟨j, by omega, k⟩⟩
theorem kB_comm (P S : List Int) (p q n : Nat) : kB P S p q n = kB P S q p n := sumTo_congr fun _ _ => Int.mul_comm _ _
theorem kB_le {P S W : List Int} (hc : CluOk P S W) {p q : Nat} (hne : q ≠ p) : kB P S p q P.length ≤ nB P S p q + nB P S q p := by
  have n1 := nB_nn P S p q
  have n2 := nB_nn P S q p
  by_cases h : p < q
  · have := (kB_lt hc h P.length (Nat.le_refl _)).1; omega
  · rw [kB_comm]
    have := (kB_lt hc (show q < p by omega) P.length (Nat.le_refl _)).1; omega

theorem sumTo_swap (f : Nat → Nat → Int) (n m : Nat) : sumTo (fun i => sumTo (fun j => f i j) m) n = sumTo (fun j => sumTo (fun i => f i j) n) m := by
  induction n with
  | zero => simp only [sumTo_zero]; exact (sumTo_const_zero (fun _ _ => rfl)).symm
  | succ n ih =>
    rw [sumTo_succ, ih, ← sumTo_add]
    exact sumTo_congr fun j _ => (sumTo_succ _ _).symm
theorem sumTo_mul_r (c : Int) (f : Nat → Int) (n : Nat) : sumTo (fun i => f i * c) n = sumTo f n * c := by
  rw [sumTo_congr (g := fun i => c * f i) (fun i _ => Int.mul_comm _ _), sumTo_mul, Int.mul_comm]
theorem sumTo_neg (f : Nat → Int) (n : Nat) : sumTo (fun i => - f i) n = - sumTo f n := by
  induction n with
  | zero => rfl
  | succ n ih => rw [sumTo_succ, sumTo_succ, ih]; omega
theorem sumTo_sub (f g : Nat → Int) (n : Nat) : sumTo (fun i => f i - g i) n = sumTo f n - sumTo g n := by
  induction n with
  | zero => rfl
  | succ n ih => rw [sumTo_succ, sumTo_succ, sumTo_succ, ih]; omega

/-- How many points are proximate to p. -/
def hB (P S : List Int) (p : Nat) : Int := sumTo (fun j => nB P S j p) P.length
theorem hB_bd (P S : List Int) (p : Nat) (h24 : P.length ≤ 24) : 0 ≤ hB P S p ∧ hB P S p ≤ 24 := by
  have := sumTo_bound (f := fun j => nB P S j p) (n := P.length) 0 1 (fun j _ => by rcases nB_01 P S j p with h | h <;> omega)
  unfold hB
  omega
/-- Where all orders are at least 0, an excess is at most 1 plus the number of proximate points times the order. -/
theorem ex_le {P S W : List Int} (hc : CluOk P S W) (A : Nat → Int) (hv : ∀ i, i < P.length → 0 ≤ ordF P S A i) {p : Nat} (hp : p < P.length) : exF P S A p ≤ (1 + hB P S p) * ordF P S A p := by
  have eA : ∀ j, j < P.length → A j = ordF P S A j - sumTo (fun q => nB P S j q * ordF P S A q) P.length := fun j hj => by have := ordF_eq hc A hj; omega
  unfold exF
  rw [sumTo_congr (g := fun j => nB P S j p * ordF P S A j - nB P S j p * sumTo (fun q => nB P S j q * ordF P S A q) P.length) (fun j hj => by rw [eA j hj, Int.mul_sub]), sumTo_sub, eA p hp]
  have e1 : sumTo (fun j => nB P S j p * sumTo (fun q => nB P S j q * ordF P S A q) P.length) P.length = sumTo (fun q => kB P S p q P.length * ordF P S A q) P.length := by
    rw [sumTo_congr (g := fun j => sumTo (fun q => nB P S j p * (nB P S j q * ordF P S A q)) P.length) (fun j _ => (sumTo_mul _ _ _).symm), sumTo_swap]
    refine sumTo_congr fun q _ => ?_
    unfold kB
    rw [← sumTo_mul_r]
    exact sumTo_congr fun j _ => (Int.mul_assoc _ _ _).symm
  rw [e1]
  have e2 : sumTo (fun q => kB P S p q P.length * ordF P S A q) P.length ≤ sumTo (fun q => (if q = p then 1 else 0) * (hB P S p * ordF P S A q) + (nB P S p q * ordF P S A q + nB P S q p * ordF P S A q)) P.length := by
    refine sumTo_le fun q hq => ?_
    have hvq := hv q hq
    by_cases e : q = p
    · subst e
      have hk : kB P S q q P.length = hB P S q := sumTo_congr fun j _ => by rcases nB_01 P S j q with h | h <;> rw [h] <;> rfl
      have hn : nB P S q q = 0 := nB_ge hc hq (Nat.le_refl _)
      rw [hk, hn, if_pos rfl]; omega
    · rw [if_neg e, ← Int.add_mul, Int.zero_mul, Int.zero_add]
      exact Int.mul_le_mul_of_nonneg_right (kB_le hc e) hvq
  have e3 : sumTo (fun q => (if q = p then 1 else 0) * (hB P S p * ordF P S A q) + (nB P S p q * ordF P S A q + nB P S q p * ordF P S A q)) P.length = hB P S p * ordF P S A p + (sumTo (fun q => nB P S p q * ordF P S A q) P.length + sumTo (fun q => nB P S q p * ordF P S A q) P.length) := by
    rw [sumTo_add, sumTo_add, sumTo_unit, if_pos hp]
  rw [e3] at e2
  rw [Int.add_mul]
  omega

theorem ordF_sub {P S W : List Int} (hc : CluOk P S W) (A B : Nat → Int) : ∀ i, i < P.length → ordF P S (fun j => A j - B j) i = ordF P S A i - ordF P S B i := by
  refine clu_induct hc fun i hi ih => ?_
  rw [ordF_eq hc _ hi, ordF_eq hc A hi, ordF_eq hc B hi]
  have : sumTo (fun q => nB P S i q * ordF P S (fun j => A j - B j) q) P.length = sumTo (fun q => nB P S i q * ordF P S A q - nB P S i q * ordF P S B q) P.length := by
    refine sumTo_congr fun q hq => ?_
    by_cases e : nB P S i q = 0
    · rw [e]; omega
    · have hqi : q < i := by
        by_cases h : q < i
        · exact h
        · exact absurd (nB_ge hc hi (by omega)) e
      rw [ih q hqi e, Int.mul_sub]
  rw [this, sumTo_sub]
  omega
theorem exF_sub (P S : List Int) (A B : Nat → Int) (p : Nat) : exF P S (fun j => A j - B j) p = exF P S A p - exF P S B p := by
  unfold exF
  show A p - B p - _ = _
  rw [sumTo_congr (g := fun j => nB P S j p * A j - nB P S j p * B j) (fun j _ => by rw [Int.mul_sub]), sumTo_sub]
  omega
theorem ordF_congr {P S W : List Int} (hc : CluOk P S W) {A B : Nat → Int} (h : ∀ i, i < P.length → A i = B i) : ∀ i, i < P.length → ordF P S A i = ordF P S B i := by
  refine clu_induct hc fun i hi ih => ?_
  rw [ordF_eq hc _ hi, ordF_eq hc B hi, h i hi]
  congr 1
  refine sumTo_congr fun q hq => ?_
  by_cases e : nB P S i q = 0
  · rw [e]; omega
  · have hqi : q < i := by
      by_cases h : q < i
      · exact h
      · exact absurd (nB_ge hc hi (by omega)) e
    rw [ih q hqi e]
theorem exF_congr {P S : List Int} {A B : Nat → Int} (h : ∀ i, i < P.length → A i = B i) {p : Nat} (hp : p < P.length) : exF P S A p = exF P S B p := by
  unfold exF
  rw [h p hp, sumTo_congr (g := fun j => nB P S j p * B j) (fun j hj => by rw [h j hj])]

/-- The weights after the point p has been raised by s. -/
def stF (P S : List Int) (A : Nat → Int) (p : Nat) (s : Int) (i : Nat) : Int := A i + (if i = p then s else 0) - nB P S i p * s
theorem ordF_step {P S W : List Int} (hc : CluOk P S W) (A : Nat → Int) {p : Nat} (s : Int) (hp : p < P.length) : ∀ i, i < P.length → ordF P S (stF P S A p s) i = ordF P S A i + if i = p then s else 0 := by
  refine clu_induct hc fun i hi ih => ?_
  rw [ordF_eq hc _ hi, ordF_eq hc A hi]
  have : sumTo (fun q => nB P S i q * ordF P S (stF P S A p s) q) P.length = sumTo (fun q => nB P S i q * ordF P S A q + (if q = p then 1 else 0) * (nB P S i q * s)) P.length := by
    refine sumTo_congr fun q hq => ?_
    by_cases e : nB P S i q = 0
    · rw [e]; omega
    · have hqi : q < i := by
        by_cases h : q < i
        · exact h
        · exact absurd (nB_ge hc hi (by omega)) e
      rw [ih q hqi e, Int.mul_add]
      split <;> simp
  rw [this, sumTo_add, sumTo_unit, if_pos hp]
  unfold stF
  omega

/-- The rest of the least number that has to be added. -/
def upS (e h : Int) : Int := (-e + h) / (1 + h)
theorem upS_pos {e h : Int} (he : e < 0) (hh : 0 ≤ h) : 1 ≤ upS e h := by
  unfold upS
  rw [Int.le_ediv_iff_mul_le (by omega)]; omega
theorem upS_le {e h d : Int} (hh : 0 ≤ h) (hd : 0 ≤ e + (1 + h) * d) : upS e h ≤ d := by
  unfold upS
  have h1 : -e + h < (d + 1) * (1 + h) := by rw [Int.add_mul, Int.mul_comm d]; omega
  have := Int.ediv_lt_of_lt_mul (by omega : (0 : Int) < 1 + h) h1
  omega

/-- A are weights on the way from the weights A0: the orders are not less, and not greater than those of a consistent cluster. -/
structure Good (P S : List Int) (A0 A : Nat → Int) : Prop where
  ge : ∀ i, i < P.length → ordF P S A0 i ≤ ordF P S A i
  le : ∀ U : Nat → Int, (∀ i, i < P.length → 0 ≤ exF P S U i) → (∀ i, i < P.length → ordF P S A0 i ≤ ordF P S U i) → ∀ i, i < P.length → ordF P S A i ≤ ordF P S U i
theorem Good.refl (P S : List Int) (A : Nat → Int) : Good P S A A := ⟨fun _ _ => Int.le_refl _, fun _ _ h => h⟩
theorem Good.congr {P S W : List Int} (hc : CluOk P S W) {A0 A B : Nat → Int} (h : Good P S A0 A) (e : ∀ i, i < P.length → B i = A i) : Good P S A0 B :=
  ⟨fun i hi => by rw [ordF_congr hc e i hi]; exact h.ge i hi, fun U h1 h2 i hi => by rw [ordF_congr hc e i hi]; exact h.le U h1 h2 i hi⟩
theorem Good.step {P S W : List Int} (hc : CluOk P S W) {A0 A : Nat → Int} (h : Good P S A0 A) {p : Nat} (hp : p < P.length) (he : exF P S A p < 0) : Good P S A0 (stF P S A p (upS (exF P S A p) (hB P S p))) := by
  have hh := (hB_bd P S p hc.1.2.1).1
  have hs := upS_pos he hh
  refine ⟨fun i hi => ?_, fun U h1 h2 i hi => ?_⟩
  · rw [ordF_step hc A _ hp i hi]
    have := h.ge i hi
    split <;> omega
  · rw [ordF_step hc A _ hp i hi]
    have hle := h.le U h1 h2
    by_cases e : i = p
    · subst e
      rw [if_pos rfl]
      have hd := ex_le hc (fun j => U j - A j) (fun j hj => by rw [ordF_sub hc U A j hj]; have := hle j hj; omega) hp
      rw [exF_sub, ordF_sub hc U A i hi] at hd
      have hu := h1 i hi
      have := upS_le (e := exF P S A i) (d := ordF P S U i - ordF P S A i) hh (by omega)
      omega
    · rw [if_neg e]
      have := hle i hi; omega
/-- The end is one alone. -/
theorem good_end {P S W : List Int} (hc : CluOk P S W) {A0 A B : Nat → Int} (h : Good P S A0 A) (h' : Good P S A0 B) (hA : ∀ i, i < P.length → 0 ≤ exF P S A i) (hB : ∀ i, i < P.length → 0 ≤ exF P S B i) : ∀ i, i < P.length → A i = B i := by
  have ho : ∀ i, i < P.length → ordF P S A i = ordF P S B i := fun i hi => by
    have := h.le B hB h'.ge i hi
    have := h'.le A hA h.ge i hi
    omega
  intro i hi
  have e1 := ordF_eq hc A hi
  have e2 := ordF_eq hc B hi
  have : sumTo (fun q => nB P S i q * ordF P S A q) P.length = sumTo (fun q => nB P S i q * ordF P S B q) P.length := sumTo_congr fun q hq => by rw [ho q hq]
  have := ho i hi
  omega
end Go.Proofs.Ytiinceflafigeaa
