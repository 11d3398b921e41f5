/- Unloading: a step at a point with a negative excess raises one order and stays below every consistent cluster; so the end does not depend on the order of steps. No program in sight. -/
import Derived.Test.YtglghdkjppcedaaGreatDoorPart3
import Derived.Test.YtglghdkjppcedaaGreatDoorPart4
namespace Go.Proofs.YtglghdkjppcedaaGreatDoor

/-- 1 for a point i that is proximate to q, else 0. -/
def nB (P S : List Int) (i q : Nat) : Int := if nearB P S i (q : Int) then 1 else 0
theorem nB_01 (P S : List Int) (i q : Nat) : nB P S i q = 0 ∨ nB P S i q = 1 := by unfold nB; split <;> simp
theorem nB_nn (P S : List Int) (i q : Nat) : 0 ≤ nB P S i q := by rcases nB_01 P S i q with h | h <;> omega
theorem near_lt {P S W : List Int} (hc : CluOk P S W) {i q : Nat} (hi : i < P.length) (h : nearB P S i (q : Int) = true) : q < i := by
  have h1 := (nearB_iff.1 h).2
  by_cases h0 : i = 0
  · subst h0; have := clu_zero hc; omega
  · have := clu_place hc hi (by omega); omega
theorem nB_ge {P S W : List Int} (hc : CluOk P S W) {i q : Nat} (hi : i < P.length) (h : i ≤ q) : nB P S i q = 0 := by
  unfold nB
  by_cases e : nearB P S i (q : Int) = true
  · have := near_lt hc hi e; omega
  · rw [if_neg e]
/-- Parent and second are not the same. -/
theorem clu_ne {P S W : List Int} (hc : CluOk P S W) {i : Nat} (hi : i < P.length) (hs : 0 ≤ gI S i) : gI P i ≠ gI S i ∧ gI S i < gI P i ∧ 0 < i := by
  have h0 : 0 < i := by
    rcases Nat.eq_zero_or_pos i with e | e
    · subst e; have := clu_zero hc; omega
    · exact e
  have hp := clu_place hc hi h0
  rcases (hc.2.2 i hi).1 with h | h
  · omega
  · obtain ⟨_, h1, h2, h3⟩ := h
    have hpi : (gI P i).toNat < P.length := by omega
    by_cases hz : (gI P i).toNat = 0
    · have := clu_zero hc
      rw [hz] at h3; omega
    · have := clu_place hc hpi (by omega)
      rcases h3 with h3 | ⟨_, h3⟩
      · omega
      · omega
theorem nB_eq {P S W : List Int} (hc : CluOk P S W) {i : Nat} (hi : i < P.length) (q : Nat) : nB P S i q = (if i = 0 then 0 else if q = (gI P i).toNat then 1 else 0) + (if 0 ≤ gI S i then (if q = (gI S i).toNat then 1 else 0) else 0) := by
  have yes : nearB P S i (q : Int) = true → nB P S i q = 1 := fun h => by unfold nB; rw [if_pos h]
  have no : ¬ nearB P S i (q : Int) = true → nB P S i q = 0 := fun h => by unfold nB; rw [if_neg h]
  by_cases h0 : i = 0
  · subst h0
    have hz := clu_zero hc
    rw [if_pos rfl, if_neg (show ¬ 0 ≤ gI S 0 by omega), no (by rw [nearB_iff]; omega)]
    rfl
  · obtain ⟨h1, h2, h3⟩ := clu_place hc hi (by omega)
    rw [if_neg h0]
    by_cases hs : 0 ≤ gI S i
    · have hne := clu_ne hc hi hs
      rw [if_pos hs]
      by_cases e1 : q = (gI P i).toNat
      · rw [if_pos e1, if_neg (show ¬ q = (gI S i).toNat by omega), yes (nearB_iff.2 (by omega))]; rfl
      · by_cases e2 : q = (gI S i).toNat
        · rw [if_neg e1, if_pos e2, yes (nearB_iff.2 (by omega))]; rfl
        · rw [if_neg e1, if_neg e2, no (by rw [nearB_iff]; omega)]; rfl
    · rw [if_neg hs]
      by_cases e1 : q = (gI P i).toNat
      · rw [if_pos e1, yes (nearB_iff.2 (by omega))]; rfl
      · rw [if_neg e1, no (by rw [nearB_iff]; omega)]; rfl
theorem sum_nB {P S W : List Int} (hc : CluOk P S W) {i : Nat} (hi : i < P.length) (f : Nat → Int) : sumTo (fun q => nB P S i q * f q) P.length = (if i = 0 then 0 else f (gI P i).toNat) + (if 0 ≤ gI S i then f (gI S i).toNat else 0) := by
  rw [sumTo_congr (g := fun q => (if i = 0 then 0 else if q = (gI P i).toNat then 1 else 0) * f q + (if 0 ≤ gI S i then (if q = (gI S i).toNat then 1 else 0) else 0) * f q) (fun q _ => by rw [nB_eq hc hi, Int.add_mul]), sumTo_add]
  congr 1
  · by_cases h0 : i = 0
    · rw [if_pos h0, sumTo_const_zero (fun q _ => by rw [if_pos h0]; omega)]
    · obtain ⟨h1, h2, h3⟩ := clu_place hc hi (by omega)
      rw [if_neg h0, sumTo_congr (g := fun q => (if q = (gI P i).toNat then 1 else 0) * f q) (fun q _ => by rw [if_neg h0]), sumTo_unit, if_pos (by omega)]
  · by_cases hs : 0 ≤ gI S i
    · have := clu_ne hc hi hs
      have h3 := clu_place hc hi this.2.2
      rw [if_pos hs, sumTo_congr (g := fun q => (if q = (gI S i).toNat then 1 else 0) * f q) (fun q _ => by rw [if_pos hs]), sumTo_unit, if_pos (by omega)]
    · rw [if_neg hs, sumTo_const_zero (fun q _ => by rw [if_neg hs]; omega)]

/-- The order of a point for some weights. -/
def ordF (P S : List Int) (A : Nat → Int) (i : Nat) : Int := gI (ordTo A P S P.length) i
/-- The excess of a point for some weights. -/
def exF (P S : List Int) (A : Nat → Int) (p : Nat) : Int := A p - sumTo (fun j => nB P S j p * A j) P.length
theorem ordF_eq {P S W : List Int} (hc : CluOk P S W) (A : Nat → Int) {i : Nat} (hi : i < P.length) : ordF P S A i = A i + sumTo (fun q => nB P S i q * ordF P S A q) P.length := by
  rw [sum_nB hc hi]
  unfold ordF
  rw [ordTo_at A P S hi, Int.add_assoc]
  congr 1
  by_cases h0 : i = 0
  · subst h0
    have := clu_zero hc
    rw [if_pos rfl, if_pos rfl, if_neg (show ¬ 0 ≤ gI S 0 by omega), if_neg (show ¬ 0 ≤ gI S 0 by omega)]
  · obtain ⟨h1, h2, h3⟩ := clu_place hc hi (by omega)
    rw [if_neg h0, if_neg h0, ordTo_same A P S (show (gI P i).toNat < i by omega) (show (gI P i).toNat < P.length by omega)]
    congr 1
    by_cases hs : 0 ≤ gI S i
    · rw [if_pos hs, if_pos hs, ordTo_same A P S (show (gI S i).toNat < i by omega) (show (gI S i).toNat < P.length by omega)]
    · rw [if_neg hs, if_neg hs]

/-- What holds for the first points and is handed on holds for all. -/
theorem clu_induct {P S W : List Int} (_ : CluOk P S W) {p : Nat → Prop} (h : ∀ i, i < P.length → (∀ q, q < i → nB P S i q ≠ 0 → p q) → p i) : ∀ i, i < P.length → p i := by
  intro i
  induction i using Nat.strongRecOn with
  | _ i ih => intro hi; exact h i hi (fun q hq _ => ih q hq (by omega))
theorem sumTo_le {f g : Nat → Int} {n : Nat} (h : ∀ i, i < n → f i ≤ g i) : sumTo f n ≤ sumTo g n := by
  induction n with
  | zero => simp [sumTo]
  | succ n ih =>
    rw [sumTo_succ, sumTo_succ]
    have := ih (fun i hi => h i (by omega))
    have := h n (by omega)
    omega
/-- The number of points that are proximate to p and to q. -/
def kB (P S : List Int) (p q n : Nat) : Int := sumTo (fun j => nB P S j p * nB P S j q) n
theorem near_pair {P S W : List Int} (hc : CluOk P S W) {j p q : Nat} (hj : j < P.length) (hne : p < q) (h1 : nearB P S j (p : Int) = true) (h2 : nearB P S j (q : Int) = true) : gI P j = q ∧ gI S j = p ∧ nearB P S q (p : Int) = true := by
  have a1 := (nearB_iff.1 h1).2
  have a2 := (nearB_iff.1 h2).2
  have hs : 0 ≤ gI S j := by omega
  have hlt := clu_ne hc hj hs
  have hP : gI P j = q := by omega
  have hS : gI S j = p := by omega
  refine ⟨hP, hS, nearB_iff.2 ⟨by omega, ?_⟩⟩
  rcases (hc.2.2 j hj).1 with h | h
  · omega
  · obtain ⟨_, _, _, h3⟩ := h
    have : (gI P j).toNat = q := by omega
    rw [this] at h3
    omega
theorem kB_lt {P S W : List Int} (hc : CluOk P S W) {p q : Nat} (hpq : p < q) (n : Nat) : n ≤ P.length → kB P S p q n ≤ nB P S q p ∧ (kB P S p q n ≠ 0 → ∃ j, j < n ∧ nearB P S j (p : Int) = true ∧ nearB P S j (q : Int) = true) := by
  induction n with
  | zero => intro _; exact ⟨nB_nn _ _ _ _, fun h => absurd rfl h⟩
  | succ n ih =>
    intro hn
    obtain ⟨h1, h2⟩ := ih (by omega)
    unfold kB at *
    rw [sumTo_succ]
    by_cases e1 : nearB P S n (p : Int) = true
    · by_cases e2 : nearB P S n (q : Int) = true
      · obtain ⟨hP, hS, hN⟩ := near_pair hc (by omega) hpq e1 e2
        have hzero : sumTo (fun j => nB P S j p * nB P S j q) n = 0 := by
          by_cases hz : sumTo (fun j => nB P S j p * nB P S j q) n = 0
          · exact hz
          · exfalso
            obtain ⟨j, hj, k1, k2⟩ := h2 hz
            obtain ⟨hP', hS', _⟩ := near_pair hc (by omega) hpq k1 k2
            exact (hc.2.2 n (by omega)).2 j hj ⟨by omega, by omega, by omega⟩
        rw [hzero]
        refine ⟨?_, fun _ => ⟨n, by omega, e1, e2⟩⟩
        simp [nB, e1, e2, hN]
      · have : nB P S n p * nB P S n q = 0 := by simp [nB, e2]
        rw [this, Int.add_zero]
        exact ⟨h1, fun h => by obtain ⟨j, hj, k⟩ := h2 h; exact ⟨j, by omega, k⟩⟩
    · have : nB P S n p * nB P S n q = 0 := by simp [nB, e1]
      rw [this, Int.add_zero]
      exact ⟨h1, fun h => by obtain ⟨j, hj, k⟩ := h2 h; exact ⟨j, by omega, k⟩⟩
theorem kB_comm (P S : List Int) (p q n : Nat) : kB P S p q n = kB P S q p n := sumTo_congr fun _ _ => Int.mul_comm _ _
theorem kB_le {P S W : List Int} (hc : CluOk P S W) {p q : Nat} (hne : q ≠ p) : kB P S p q P.length ≤ nB P S p q + nB P S q p := by
  have n1 := nB_nn P S p q
  have n2 := nB_nn P S q p
  by_cases h : p < q
  · have := (kB_lt hc h P.length (Nat.le_refl _)).1; omega
  · rw [kB_comm]
    have := (kB_lt hc (show q < p by omega) P.length (Nat.le_refl _)).1; omega

theorem sumTo_swap (f : Nat → Nat → Int) (n m : Nat) : sumTo (fun i => sumTo (fun j => f i j) m) n = sumTo (fun j => sumTo (fun i => f i j) n) m := by
  induction n with
  | zero => simp only [sumTo_zero]; exact (sumTo_const_zero (fun _ _ => rfl)).symm
  | succ n ih =>
    rw [sumTo_succ, ih, ← sumTo_add]
    exact sumTo_congr fun j _ => (sumTo_succ _ _).symm
theorem sumTo_mul_r (c : Int) (f : Nat → Int) (n : Nat) : sumTo (fun i => f i * c) n = sumTo f n * c := by
  rw [sumTo_congr (g := fun i => c * f i) (fun i _ => Int.mul_comm _ _), sumTo_mul, Int.mul_comm]
theorem sumTo_neg (f : Nat → Int) (n : Nat) : sumTo (fun i => - f i) n = - sumTo f n := by
  induction n with
  | zero => rfl
  | succ n ih => rw [sumTo_succ, sumTo_succ, ih]; omega
theorem sumTo_sub (f g : Nat → Int) (n : Nat) : sumTo (fun i => f i - g i) n = sumTo f n - sumTo g n := by
  induction n with
  | zero => rfl
  | succ n ih => rw [sumTo_succ, sumTo_succ, sumTo_succ, ih]; omega

/-- How many points are proximate to p. -/
def hB (P S : List Int) (p : Nat) : Int := sumTo (fun j => nB P S j p) P.length
theorem hB_bd (P S : List Int) (p : Nat) (h24 : P.length ≤ 24) : 0 ≤ hB P S p ∧ hB P S p ≤ 24 := by
  have := sumTo_bound (f := fun j => nB P S j p) (n := P.length) 0 1 (fun j _ => by rcases nB_01 P S j p with h | h <;> omega)
  unfold hB
  omega
/-- Where all orders are at least 0, an excess is at most 1 plus the number of proximate points times the order. -/
theorem ex_le {P S W : List Int} (hc : CluOk P S W) (A : Nat → Int) (hv : ∀ i, i < P.length → 0 ≤ ordF P S A i) {p : Nat} (hp : p < P.length) : exF P S A p ≤ (1 + hB P S p) * ordF P S A p := by
  have eA : ∀ j, j < P.length → A j = ordF P S A j - sumTo (fun q => nB P S j q * ordF P S A q) P.length := fun j hj => by have := ordF_eq hc A hj; omega
  unfold exF
  rw [sumTo_congr (g := fun j => nB P S j p * ordF P S A j - nB P S j p * sumTo (fun q => nB P S j q * ordF P S A q) P.length) (fun j hj => by rw [eA j hj, Int.mul_sub]), sumTo_sub, eA p hp]
  have e1 : sumTo (fun j => nB P S j p * sumTo (fun q => nB P S j q * ordF P S A q) P.length) P.length = sumTo (fun q => kB P S p q P.length * ordF P S A q) P.length := by
    rw [sumTo_congr (g := fun j => sumTo (fun q => nB P S j p * (nB P S j q * ordF P S A q)) P.length) (fun j _ => (sumTo_mul _ _ _).symm), sumTo_swap]
    refine sumTo_congr fun q _ => ?_
    unfold kB
    rw [← sumTo_mul_r]
    exact sumTo_congr fun j _ => (Int.mul_assoc _ _ _).symm
  rw [e1]
  have e2 : sumTo (fun q => kB P S p q P.length * ordF P S A q) P.length ≤ sumTo (fun q => (if q = p then 1 else 0) * (hB P S p * ordF P S A q) + (nB P S p q * ordF P S A q + nB P S q p * ordF P S A q)) P.length := by
    refine sumTo_le fun q hq => ?_
    have hvq := hv q hq
    by_cases e : q = p
    · subst e
      have hk : kB P S q q P.length = hB P S q := sumTo_congr fun j _ => by rcases nB_01 P S j q with h | h <;> rw [h] <;> rfl
      have hn : nB P S q q = 0 := nB_ge hc hq (Nat.le_refl _)
      rw [hk, hn, if_pos rfl]; omega
    · rw [if_neg e, ← Int.add_mul, Int.zero_mul, Int.zero_add]
      exact Int.mul_le_mul_of_nonneg_right (kB_le hc e) hvq
  have e3 : sumTo (fun q => (if q = p then 1 else 0) * (hB P S p * ordF P S A q) + (nB P S p q * ordF P S A q + nB P S q p * ordF P S A q)) P.length = hB P S p * ordF P S A p + (sumTo (fun q => nB P S p q * ordF P S A q) P.length + sumTo (fun q => nB P S q p * ordF P S A q) P.length) := by
    rw [sumTo_add, sumTo_add, sumTo_unit, if_pos hp]
  rw [e3] at e2
  rw [Int.add_mul]
  omega

theorem ordF_sub {P S W : List Int} (hc : CluOk P S W) (A B : Nat → Int) : ∀ i, i < P.length → ordF P S (fun j => A j - B j) i = ordF P S A i - ordF P S B i := by
  refine clu_induct hc fun i hi ih => ?_
  rw [ordF_eq hc _ hi, ordF_eq hc A hi, ordF_eq hc B hi]
  have : sumTo (fun q => nB P S i q * ordF P S (fun j => A j - B j) q) P.length = sumTo (fun q => nB P S i q * ordF P S A q - nB P S i q * ordF P S B q) P.length := by
    refine sumTo_congr fun q hq => ?_
    by_cases e : nB P S i q = 0
    · rw [e]; omega
    · have hqi : q < i := by
        by_cases h : q < i
        · exact h
        · exact absurd (nB_ge hc hi (by omega)) e
      rw [ih q hqi e, Int.mul_sub]
  rw [this, sumTo_sub]
  omega
theorem exF_sub (P S : List Int) (A B : Nat → Int) (p : Nat) : exF P S (fun j => A j - B j) p = exF P S A p - exF P S B p := by
  unfold exF
  show A p - B p - _ = _
  rw [sumTo_congr (g := fun j => nB P S j p * A j - nB P S j p * B j) (fun j _ => by rw [Int.mul_sub]), sumTo_sub]
  omega
theorem ordF_congr {P S W : List Int} (hc : CluOk P S W) {A B : Nat → Int} (h : ∀ i, i < P.length → A i = B i) : ∀ i, i < P.length → ordF P S A i = ordF P S B i := by
  refine clu_induct hc fun i hi ih => ?_
  rw [ordF_eq hc _ hi, ordF_eq hc B hi, h i hi]
  congr 1
  refine sumTo_congr fun q hq => ?_
  by_cases e : nB P S i q = 0
  · rw [e]; omega
  · have hqi : q < i := by
      by_cases h : q < i
      · exact h
      · exact absurd (nB_ge hc hi (by omega)) e
    rw [ih q hqi e]
theorem exF_congr {P S : List Int} {A B : Nat → Int} (h : ∀ i, i < P.length → A i = B i) {p : Nat} (hp : p < P.length) : exF P S A p = exF P S B p := by
  unfold exF
  rw [h p hp, sumTo_congr (g := fun j => nB P S j p * B j) (fun j hj => by rw [h j hj])]

/-- The weights after the point p has been raised by s. -/
def stF (P S : List Int) (A : Nat → Int) (p : Nat) (s : Int) (i : Nat) : Int := A i + (if i = p then s else 0) - nB P S i p * s
theorem ordF_step {P S W : List Int} (hc : CluOk P S W) (A : Nat → Int) {p : Nat} (s : Int) (hp : p < P.length) : ∀ i, i < P.length → ordF P S (stF P S A p s) i = ordF P S A i + if i = p then s else 0 := by
  refine clu_induct hc fun i hi ih => ?_
  rw [ordF_eq hc _ hi, ordF_eq hc A hi]
  have : sumTo (fun q => nB P S i q * ordF P S (stF P S A p s) q) P.length = sumTo (fun q => nB P S i q * ordF P S A q + (if q = p then 1 else 0) * (nB P S i q * s)) P.length := by
    refine sumTo_congr fun q hq => ?_
    by_cases e : nB P S i q = 0
    · rw [e]; omega
    · have hqi : q < i := by
        by_cases h : q < i
        · exact h
        · exact absurd (nB_ge hc hi (by omega)) e
      rw [ih q hqi e, Int.mul_add]
      split <;> simp
  rw [this, sumTo_add, sumTo_unit, if_pos hp]
  unfold stF
  omega

/-- The rest of the least number that has to be added. -/
def upS (e h : Int) : Int := (-e + h) / (1 + h)
theorem upS_pos {e h : Int} (he : e < 0) (hh : 0 ≤ h) : 1 ≤ upS e h := by
  unfold upS
  rw [Int.le_ediv_iff_mul_le (by omega)]; omega
theorem upS_le {e h d : Int} (hh : 0 ≤ h) (hd : 0 ≤ e + (1 + h) * d) : upS e h ≤ d := by
  unfold upS
  have h1 : -e + h < (d + 1) * (1 + h) := by rw [Int.add_mul, Int.mul_comm d]; omega
  have := Int.ediv_lt_of_lt_mul (by omega : (0 : Int) < 1 + h) h1
  omega

/-- A are weights on the way from the weights A0: the orders are not less, and not greater than those of a consistent cluster. -/
structure Good (P S : List Int) (A0 A : Nat → Int) : Prop where
  ge : ∀ i, i < P.length → ordF P S A0 i ≤ ordF P S A i
  le : ∀ U : Nat → Int, (∀ i, i < P.length → 0 ≤ exF P S U i) → (∀ i, i < P.length → ordF P S A0 i ≤ ordF P S U i) → ∀ i, i < P.length → ordF P S A i ≤ ordF P S U i
theorem Good.refl (P S : List Int) (A : Nat → Int) : Good P S A A := ⟨fun _ _ => Int.le_refl _, fun _ _ h => h⟩
theorem Good.congr {P S W : List Int} (hc : CluOk P S W) {A0 A B : Nat → Int} (h : Good P S A0 A) (e : ∀ i, i < P.length → B i = A i) : Good P S A0 B :=
  ⟨fun i hi => by rw [ordF_congr hc e i hi]; exact h.ge i hi, fun U h1 h2 i hi => by rw [ordF_congr hc e i hi]; exact h.le U h1 h2 i hi⟩
theorem Good.step {P S W : List Int} (hc : CluOk P S W) {A0 A : Nat → Int} (h : Good P S A0 A) {p : Nat} (hp : p < P.length) (he : exF P S A p < 0) : Good P S A0 (stF P S A p (upS (exF P S A p) (hB P S p))) := by
  have hh := (hB_bd P S p hc.1.2.1).1
  have hs := upS_pos he hh
  refine ⟨fun i hi => ?_, fun U h1 h2 i hi => ?_⟩
  · rw [ordF_step hc A _ hp i hi]
    have := h.ge i hi
    split <;> omega
  · rw [ordF_step hc A _ hp i hi]
    have hle := h.le U h1 h2
    by_cases e : i = p
    · subst e
      rw [if_pos rfl]
      have hd := ex_le hc (fun j => U j - A j) (fun j hj => by rw [ordF_sub hc U A j hj]; have := hle j hj; omega) hp
      rw [exF_sub, ordF_sub hc U A i hi] at hd
      have hu := h1 i hi
      have := upS_le (e := exF P S A i) (d := ordF P S U i - ordF P S A i) hh (by omega)
      omega
    · rw [if_neg e]
      have := hle i hi; omega
/-- The end is one alone. -/
theorem good_end {P S W : List Int} (hc : CluOk P S W) {A0 A B : Nat → Int} (h : Good P S A0 A) (h' : Good P S A0 B) (hA : ∀ i, i < P.length → 0 ≤ exF P S A i) (hB : ∀ i, i < P.length → 0 ≤ exF P S B i) : ∀ i, i < P.length → A i = B i := by
  have ho : ∀ i, i < P.length → ordF P S A i = ordF P S B i := fun i hi => by
    have := h.le B hB h'.ge i hi
    have := h'.le A hA h.ge i hi
    omega
  intro i hi
  have e1 := ordF_eq hc A hi
  have e2 := ordF_eq hc B hi
  have : sumTo (fun q => nB P S i q * ordF P S A q) P.length = sumTo (fun q => nB P S i q * ordF P S B q) P.length := sumTo_congr fun q hq => by rw [ho q hq]
  have := ho i hi
  omega
end Go.Proofs.YtglghdkjppcedaaGreatDoor

/- Unloading: all numbers stay small, and the way ends. No program in sight. -/
namespace Go.Proofs.YtglghdkjppcedaaGreatDoor

theorem m0_pos {P S W : List Int} (hc : CluOk P S W) : ∀ i, i < P.length → 1 ≤ mI P S i 0 := by
  intro i
  induction i using Nat.strongRecOn with
  | _ i ih =>
    intro hi
    by_cases h0 : i = 0
    · subst h0; rw [mI_zero hc, if_pos rfl]; omega
    · obtain ⟨h1, h2, h3⟩ := clu_place hc hi (by omega)
      rw [mI_step hc 0 hi (by omega), if_neg h0]
      have := ih (gI P i).toNat (by omega) (by omega)
      split
      · have := ih (gI S i).toNat (by omega) (by omega); omega
      · omega
def fibI : Nat → Int
  | 0 => 1
  | 1 => 1
  | n + 2 => fibI (n + 1) + fibI n
theorem fibI_two (n : Nat) : fibI (n + 2) = fibI (n + 1) + fibI n := rfl
theorem fibI_pos (n : Nat) : 1 ≤ fibI n ∧ 1 ≤ fibI (n + 1) := by
  induction n with
  | zero => exact ⟨by decide, by decide⟩
  | succ n ih => rw [fibI_two]; omega
theorem fibI_step (n : Nat) : fibI n ≤ fibI (n + 1) := by
  match n with
  | 0 => decide
  | n + 1 => rw [fibI_two]; have := (fibI_pos n).1; omega
theorem fibI_mono {n m : Nat} (h : n ≤ m) : fibI n ≤ fibI m := by
  induction m with
  | zero => rw [show n = 0 by omega]; exact Int.le_refl _
  | succ m ih =>
    by_cases e : n = m + 1
    · rw [e]; exact Int.le_refl _
    · have := ih (by omega); have := fibI_step m; omega
theorem fibI_23 : fibI 23 = 46368 := by decide +kernel
theorem m0_fib {P S W : List Int} (hc : CluOk P S W) : ∀ i, i < P.length → mI P S i 0 ≤ fibI i := by
  intro i
  induction i using Nat.strongRecOn with
  | _ i ih =>
    intro hi
    by_cases h0 : i = 0
    · subst h0; rw [mI_zero hc, if_pos rfl]; decide
    · obtain ⟨h1, h2, h3⟩ := clu_place hc hi (by omega)
      rw [mI_step hc 0 hi (by omega), if_neg h0]
      have a1 := ih (gI P i).toNat (by omega) (by omega)
      have a2 := fibI_mono (n := (gI P i).toNat) (m := i - 1) (by omega)
      by_cases hs : 0 ≤ gI S i
      · rw [if_pos hs]
        have hne := clu_ne hc hi hs
        have b1 := ih (gI S i).toNat (by omega) (by omega)
        have b2 := fibI_mono (n := (gI S i).toNat) (m := i - 2) (by omega)
        have b3 := fibI_two (i - 2)
        rw [show i - 2 + 2 = i by omega, show i - 2 + 1 = i - 1 by omega] at b3
        omega
      · rw [if_neg hs]
        have := fibI_mono (n := i - 1) (m := i) (by omega)
        omega
theorem m0_bd {P S W : List Int} (hc : CluOk P S W) {i : Nat} (hi : i < P.length) : 1 ≤ mI P S i 0 ∧ mI P S i 0 ≤ 46368 := by
  have h1 := m0_pos hc i hi
  have h2 := m0_fib hc i hi
  have h3 := fibI_mono (n := i) (m := 23) (by have := hc.1.2.1; omega)
  rw [fibI_23] at h3
  omega
/-- The orders of weights are small enough. -/
def UnlOk (P S : List Int) (A : Nat → Int) : Prop := ∀ i, i < P.length → -(2400000 * mI P S i 0) ≤ ordF P S A i ∧ ordF P S A i ≤ 2400000 * mI P S i 0
theorem ordF_mul {P S W : List Int} (hc : CluOk P S W) (c : Int) (A : Nat → Int) : ∀ i, i < P.length → ordF P S (fun j => c * A j) i = c * ordF P S A i := by
  refine clu_induct hc fun i hi ih => ?_
  rw [ordF_eq hc _ hi, ordF_eq hc A hi, Int.mul_add, ← sumTo_mul]
  congr 1
  refine sumTo_congr fun q hq => ?_
  by_cases e : nB P S i q = 0
  · rw [e]; simp
  · have hqi : q < i := by
      by_cases h : q < i
      · exact h
      · exact absurd (nB_ge hc hi (by omega)) e
    rw [ih q hqi e, ← Int.mul_assoc, Int.mul_comm (nB P S i q), Int.mul_assoc]
/-- A consistent cluster above all: a great weight at the first point alone. -/
def topF (j : Nat) : Int := 2400000 * if j = 0 then 1 else 0
theorem topF_ord {P S W : List Int} (hc : CluOk P S W) {i : Nat} (hi : i < P.length) : ordF P S topF i = 2400000 * mI P S i 0 := ordF_mul hc 2400000 _ i hi
theorem topF_ex {P S W : List Int} (hc : CluOk P S W) {p : Nat} : 0 ≤ exF P S topF p := by
  have h0 : nB P S 0 p = 0 := nB_ge hc hc.1.1 (Nat.zero_le _)
  unfold exF
  have : sumTo (fun j => nB P S j p * topF j) P.length = 0 := sumTo_const_zero fun j _ => by
    by_cases e : j = 0
    · subst e; rw [h0]; simp
    · simp [topF, e]
  rw [this]
  unfold topF
  split <;> omega
theorem good_bd {P S W : List Int} (hc : CluOk P S W) {A0 A : Nat → Int} (hu : UnlOk P S A0) (h : Good P S A0 A) {i : Nat} (hi : i < P.length) :
    -111283200000 ≤ ordF P S A i ∧ ordF P S A i ≤ 2400000 * mI P S i 0 ∧ ordF P S A i ≤ 111283200000 := by
  have h1 := h.ge i hi
  have h2 := h.le topF (fun _ _ => topF_ex hc) (fun j hj => by rw [topF_ord hc hj]; exact (hu j hj).2) i hi
  rw [topF_ord hc hi] at h2
  have h3 := (hu i hi).1
  have h4 := m0_bd hc hi
  omega
theorem of_ord_bd {P S W : List Int} (hc : CluOk P S W) {A : Nat → Int} {b : Int} (h : ∀ i, i < P.length → -b ≤ ordF P S A i ∧ ordF P S A i ≤ b) {i : Nat} (hi : i < P.length) : -(3 * b) ≤ A i ∧ A i ≤ 3 * b := by
  have h1 := ordF_eq hc A hi
  rw [sum_nB hc hi] at h1
  have h2 := h i hi
  by_cases h0 : i = 0
  · subst h0
    have := clu_zero hc
    rw [if_pos rfl, if_neg (show ¬ 0 ≤ gI S 0 by omega)] at h1
    omega
  · obtain ⟨k1, k2, k3⟩ := clu_place hc hi (by omega)
    rw [if_neg h0] at h1
    have h3 := h (gI P i).toNat (by omega)
    by_cases hs : 0 ≤ gI S i
    · rw [if_pos hs] at h1
      have h4 := h (gI S i).toNat (by omega)
      omega
    · rw [if_neg hs] at h1
      omega
theorem good_small {P S W : List Int} (hc : CluOk P S W) {A0 A : Nat → Int} (hu : UnlOk P S A0) (h : Good P S A0 A) {i : Nat} (hi : i < P.length) : -333849600000 ≤ A i ∧ A i ≤ 333849600000 := by
  have := of_ord_bd hc (A := A) (b := 111283200000) (fun j hj => by have := good_bd hc hu h hj; omega) hi
  omega
/-- How much the orders can still grow. -/
def measN (P S : List Int) (A : Nat → Int) : Nat := (sumTo (fun i => 2400000 * mI P S i 0 - ordF P S A i) P.length).toNat
theorem meas_step {P S W : List Int} (hc : CluOk P S W) {A0 A : Nat → Int} (hu : UnlOk P S A0) (h : Good P S A0 A) {p : Nat} (hp : p < P.length) (he : exF P S A p < 0) :
    measN P S (stF P S A p (upS (exF P S A p) (hB P S p))) < measN P S A := by
  have hh := (hB_bd P S p hc.1.2.1).1
  have hs := upS_pos he hh
  have hg := h.step hc hp he
  unfold measN
  have e1 : sumTo (fun i => 2400000 * mI P S i 0 - ordF P S (stF P S A p (upS (exF P S A p) (hB P S p))) i) P.length = sumTo (fun i => 2400000 * mI P S i 0 - ordF P S A i) P.length - upS (exF P S A p) (hB P S p) := by
    rw [sumTo_congr (g := fun i => (2400000 * mI P S i 0 - ordF P S A i) - (if i = p then 1 else 0) * upS (exF P S A p) (hB P S p)) (fun i hi => by
      rw [ordF_step hc A _ hp i hi]
      split <;> simp <;> omega), sumTo_sub, sumTo_unit, if_pos hp]
  have h0 := sumTo_bound (f := fun i => 2400000 * mI P S i 0 - ordF P S (stF P S A p (upS (exF P S A p) (hB P S p))) i) (n := P.length) 0 10000000000000 (fun i hi => by
    have := good_bd hc hu hg hi
    have := m0_bd hc hi
    omega)
  rw [e1] at h0 ⊢
  omega
theorem meas_congr {P S W : List Int} (hc : CluOk P S W) {A B : Nat → Int} (h : ∀ i, i < P.length → A i = B i) : measN P S A = measN P S B := by
  unfold measN
  rw [sumTo_congr (g := fun i => 2400000 * mI P S i 0 - ordF P S B i) (fun i hi => by rw [ordF_congr hc h i hi])]

/-- The least place before k with a negative number, or -1. -/
def leastTo (E : List Int) : Nat → Int
  | 0 => -1
  | k + 1 => if 0 ≤ leastTo E k then leastTo E k else if gI E k < 0 then k else -1
theorem leastTo_spec (E : List Int) (k : Nat) : (leastTo E k = -1 ∧ ∀ i, i < k → 0 ≤ gI E i) ∨ (0 ≤ leastTo E k ∧ leastTo E k < k ∧ gI E (leastTo E k).toNat < 0 ∧ ∀ i : Nat, (i : Int) < leastTo E k → 0 ≤ gI E i) := by
  induction k with
  | zero => exact .inl ⟨rfl, fun i hi => by omega⟩
  | succ k ih =>
    unfold leastTo
    rcases ih with ⟨h1, h2⟩ | ⟨h1, h2, h3, h4⟩
    · rw [h1, if_neg (by omega)]
      by_cases e : gI E k < 0
      · rw [if_pos e]
        exact .inr ⟨by omega, by omega, by simpa using e, fun i hi => h2 i (by omega)⟩
      · rw [if_neg e]
        refine .inl ⟨rfl, fun i hi => ?_⟩
        by_cases e2 : i = k
        · subst e2; omega
        · exact h2 i (by omega)
    · rw [if_pos h1]
      exact .inr ⟨h1, by omega, h3, h4⟩
/-- The list of n numbers of a function. -/
def lF (n : Nat) (A : Nat → Int) : List Int := (List.range n).map A
@[simp] theorem lF_len (n : Nat) (A : Nat → Int) : (lF n A).length = n := by simp [lF]
theorem gI_lF {n i : Nat} {A : Nat → Int} (h : i < n) : gI (lF n A) i = A i := by rw [gI_lt (by simpa using h)]; simp [lF]
/-- The excesses of weights. -/
def exL (P S L : List Int) : List Int := exTo (proxL P S) L P.length
theorem exL_len (P S L : List Int) : (exL P S L).length = L.length := exTo_len _ _ _
theorem exL_at {P S W L : List Int} (hc : CluOk P S W) (hl : L.length = P.length) {p : Nat} (hp : p < P.length) : gI (exL P S L) p = exF P S (fun i => gI L i) p := by
  unfold exF exL
  suffices h : ∀ k, k ≤ P.length → gI (exTo (proxL P S) L k) p = gI L p - sumTo (fun j => nB P S j p * gI L j) k by exact h _ (Nat.le_refl _)
  intro k
  induction k with
  | zero => intro _; simp [exTo, sumTo]
  | succ k ih =>
    intro hk
    have ih := ih (by omega)
    by_cases h0 : k = 0
    · subst h0
      rw [exTo_one L hc, sumTo_succ, sumTo_zero, nB_ge hc (by omega) (Nat.zero_le _)]; omega
    · obtain ⟨h1, h2, h3⟩ := clu_place hc (by omega : k < P.length) (by omega)
      rw [exTo_step L (by omega) (by omega), sumTo_succ, nB_eq hc (by omega), if_neg h0]
      unfold exStep
      by_cases hs : 0 ≤ gI S k
      · have hne := clu_ne hc (by omega : k < P.length) hs
        rw [if_pos hs, if_pos hs, gI_dec, gI_dec, dec_len, exTo_len, ih]
        by_cases e1 : p = (gI P k).toNat
        · rw [if_neg (by omega), if_pos (by omega), if_pos e1, if_neg (by omega)]; simp; omega
        · by_cases e2 : p = (gI S k).toNat
          · rw [if_pos (by omega), if_neg (by omega), if_neg e1, if_pos e2]; simp; omega
          · rw [if_neg (by omega), if_neg (by omega), if_neg e1, if_neg e2]; simp
      · rw [if_neg hs, if_neg hs, gI_dec, exTo_len, ih]
        by_cases e1 : p = (gI P k).toNat
        · rw [if_pos (by omega), if_pos e1]; simp; omega
        · rw [if_neg (by omega), if_neg e1]; simp

/-- The weights after a step at p. -/
def stL (P S L : List Int) (p : Nat) : List Int := lF P.length (stF P S (fun i => gI L i) p (upS (gI (exL P S L) p) (hB P S p)))
@[simp] theorem stL_len (P S L : List Int) (p : Nat) : (stL P S L p).length = P.length := by simp [stL]
theorem gI_stL {P S W L : List Int} (hc : CluOk P S W) (hl : L.length = P.length) {p i : Nat} (hp : p < P.length) (hi : i < P.length) : gI (stL P S L p) i = stF P S (fun i => gI L i) p (upS (exF P S (fun i => gI L i) p) (hB P S p)) i := by
  unfold stL
  rw [gI_lF hi, exL_at hc hl hp]
/-- The weights at the end of the way. -/
def unlTo (P S : List Int) : Nat → List Int → List Int
  | 0, L => L
  | f + 1, L => if leastTo (exL P S L) P.length < 0 then L else unlTo P S f (stL P S L (leastTo (exL P S L) P.length).toNat)
def unlL (P S L : List Int) : List Int := unlTo P S (measN P S fun i => gI L i) L
/-- Weights on the way from W0. -/
def OnWay (P S W0 L : List Int) : Prop := L.length = P.length ∧ Good P S (fun i => gI W0 i) (fun i => gI L i)
theorem OnWay.step {P S W W0 L : List Int} (hc : CluOk P S W) (h : OnWay P S W0 L) {p : Nat} (hp : p < P.length) (he : gI (exL P S L) p < 0) : OnWay P S W0 (stL P S L p) := by
  rw [exL_at hc h.1 hp] at he
  exact ⟨by simp, (h.2.step hc hp he).congr hc (fun i hi => gI_stL hc h.1 hp hi)⟩
theorem OnWay.less {P S W W0 L : List Int} (hc : CluOk P S W) (hu : UnlOk P S fun i => gI W0 i) (h : OnWay P S W0 L) {p : Nat} (hp : p < P.length) (he : gI (exL P S L) p < 0) : measN P S (fun i => gI (stL P S L p) i) < measN P S fun i => gI L i := by
  rw [exL_at hc h.1 hp] at he
  rw [meas_congr hc (fun i hi => gI_stL hc h.1 hp hi)]
  exact meas_step hc hu h.2 hp he
theorem OnWay.eq {P S W W0 L L' : List Int} (hc : CluOk P S W) (h : OnWay P S W0 L) (h' : OnWay P S W0 L') (e : ∀ i, i < P.length → 0 ≤ gI (exL P S L) i) (e' : ∀ i, i < P.length → 0 ≤ gI (exL P S L') i) : L = L' := by
  apply gI_ext (by rw [h.1, h'.1])
  intro i hi
  exact good_end hc h.2 h'.2 (fun i hi => by have := e i hi; rwa [exL_at hc h.1 hi] at this) (fun i hi => by have := e' i hi; rwa [exL_at hc h'.1 hi] at this) i (by rw [h.1] at hi; exact hi)
theorem OnWay.small {P S W W0 L : List Int} (hc : CluOk P S W) (hu : UnlOk P S fun i => gI W0 i) (h : OnWay P S W0 L) {i : Nat} (hi : i < P.length) : -333849600000 ≤ gI L i ∧ gI L i ≤ 333849600000 := good_small hc hu h.2 hi
theorem unlTo_ok {P S W W0 : List Int} (hc : CluOk P S W) (hu : UnlOk P S fun i => gI W0 i) (f : Nat) : ∀ L, OnWay P S W0 L → measN P S (fun i => gI L i) ≤ f → OnWay P S W0 (unlTo P S f L) ∧ ∀ i, i < P.length → 0 ≤ gI (exL P S (unlTo P S f L)) i := by
  induction f with
  | zero =>
    intro L h hf
    refine ⟨h, fun i hi => ?_⟩
    show 0 ≤ gI (exL P S L) i
    by_cases e : gI (exL P S L) i < 0
    · have := h.less hc hu hi e; omega
    · omega
  | succ f ih =>
    intro L h hf
    unfold unlTo
    rcases leastTo_spec (exL P S L) P.length with ⟨h1, h2⟩ | ⟨h1, h2, h3, _⟩
    · rw [if_pos (by omega)]; exact ⟨h, h2⟩
    · rw [if_neg (by omega)]
      have hp : (leastTo (exL P S L) P.length).toNat < P.length := by omega
      have := h.less hc hu hp h3
      exact ih _ (h.step hc hp h3) (by omega)
theorem unlL_ok {P S W W0 : List Int} (hc : CluOk P S W) (hu : UnlOk P S fun i => gI W0 i) (hl : W0.length = P.length) : OnWay P S W0 (unlL P S W0) ∧ ∀ i, i < P.length → 0 ≤ gI (exL P S (unlL P S W0)) i :=
  unlTo_ok hc hu _ W0 ⟨hl, Good.refl _ _ _⟩ (Nat.le_refl _)
theorem OnWay.done {P S W W0 L : List Int} (hc : CluOk P S W) (hu : UnlOk P S fun i => gI W0 i) (hl : W0.length = P.length) (h : OnWay P S W0 L) (e : ∀ i, i < P.length → 0 ≤ gI (exL P S L) i) : L = unlL P S W0 :=
  h.eq hc (unlL_ok hc hu hl).1 e (unlL_ok hc hu hl).2
end Go.Proofs.YtglghdkjppcedaaGreatDoor
