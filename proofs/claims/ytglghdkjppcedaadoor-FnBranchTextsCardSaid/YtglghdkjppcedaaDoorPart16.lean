/- The semigroup of a branch: every number has just one signed representation, and it is a value if the last part of it is not negative. No program in sight. -/
import Derived.Test.YtglghdkjppcedaaDoorPart15
import Derived.Test.YtglghdkjppcedaaDoorPart3
import Derived.Deep.OwnRows
import Derived.Deep.RegionHeld3
import Derived.Test.YtglghdkjppcedaaDoorPart1
import Derived.Deep.RegionLaw
import Derived.Deep.DeepCutAuto
namespace Go.Proofs.YtglghdkjppcedaaDoor

theorem vI_cong (T : List Int) : ∀ i, eI T i ∣ vI T (i + 1) - gI T (i + 1) ∧ eI T i ∣ vI T i := by
  intro i
  induction i with
  | zero => exact ⟨by rw [vI_one, Int.sub_self]; exact Int.dvd_zero _, by rw [vI_zero]; exact Int.dvd_refl _⟩
  | succ i ih =>
    have h1 : eI T (i + 1) ∣ vI T (i + 1) := by
      have := Int.dvd_add (Int.dvd_trans (eI_dvd_step T i) ih.1) (eI_dvd_term T (i + 1))
      rwa [Int.sub_add_cancel] at this
    refine ⟨?_, h1⟩
    have e : vI T (i + 2) - gI T (i + 2) = rI T (i + 1) * vI T (i + 1) - gI T (i + 1) := by rw [vI_two]; omega
    show eI T (i + 1) ∣ vI T (i + 2) - gI T (i + 2)
    rw [e]
    exact Int.dvd_sub (Int.dvd_trans h1 (Int.dvd_mul_left _ _)) (eI_dvd_term T (i + 1))
theorem vI_dvd (T : List Int) (i : Nat) : eI T i ∣ vI T i := (vI_cong T i).2
theorem vI_gcd (T : List Int) (i : Nat) : gcdI (eI T i) (vI T (i + 1)) = eI T (i + 1) := by
  have e : vI T (i + 1) = gI T (i + 1) + (vI T (i + 1) - gI T (i + 1)) := by omega
  rw [eI_succ, e]
  exact gcdI_add (vI_cong T i).1

theorem gcdI_mk {x y c : Int} (hx : c ∣ x) (hy : c ∣ y) : c ∣ gcdI x y := by
  unfold gcdI
  have h1 : c.natAbs ∣ Nat.gcd x.natAbs y.natAbs := Nat.dvd_gcd (Int.natAbs_dvd_natAbs.2 hx) (Int.natAbs_dvd_natAbs.2 hy)
  exact Int.natAbs_dvd.1 (Int.natCast_dvd_natCast.2 h1)
theorem gcdI_mul (c x y : Int) : gcdI (c * x) (c * y) = (c.natAbs : Int) * gcdI x y := by
  unfold gcdI
  rw [Int.natAbs_mul, Int.natAbs_mul, Nat.gcd_mul_left, Int.natCast_mul]
/-- A multiple of the generator that is divisible by the divisor before. -/
theorem dig_div {T : List Int} (h0 : 0 < gI T 0) {i : Nat} {c : Int} (h : eI T i ∣ c * vI T (i + 1)) : rI T (i + 1) ∣ c := by
  have h1 : eI T i ∣ gcdI (c * eI T i) (c * vI T (i + 1)) := gcdI_mk (Int.dvd_mul_left _ _) h
  rw [gcdI_mul, vI_gcd, ← rI_mul T i] at h1
  have hp := eI_pos h0 (i + 1)
  obtain ⟨k, hk⟩ := h1
  have h2 : (c.natAbs : Int) * eI T (i + 1) = (rI T (i + 1) * k) * eI T (i + 1) := by
    rw [hk, Int.mul_assoc, Int.mul_assoc, Int.mul_comm (eI T (i + 1)) k]
  have h3 := Int.eq_of_mul_eq_mul_right (by omega) h2
  exact Int.dvd_natAbs.1 ⟨k, h3⟩

theorem bezN : ∀ m n : Nat, ∃ x y : Int, (Nat.gcd m n : Int) = m * x + n * y := by
  intro m n
  induction m, n using Nat.gcd.induction with
  | H0 n => exact ⟨0, 1, by simp⟩
  | H1 m n hm ih =>
    obtain ⟨x, y, h⟩ := ih
    have hz : (n : Int) = m * ((n / m : Nat) : Int) + ((n % m : Nat) : Int) := by
      have := Nat.div_add_mod n m
      rw [← Int.natCast_mul, ← Int.natCast_add, this]
    refine ⟨y - ((n / m : Nat) : Int) * x, x, ?_⟩
    rw [Nat.gcd_rec, h]
    generalize ((n / m : Nat) : Int) = q at hz
    generalize ((n % m : Nat) : Int) = a at hz
    rw [hz, Int.mul_sub, Int.add_mul, Int.mul_assoc]
    omega
theorem bezI (a b : Int) (ha : 0 ≤ a) (hb : 0 ≤ b) : ∃ x y : Int, gcdI a b = a * x + b * y := by
  obtain ⟨x, y, h⟩ := bezN a.natAbs b.natAbs
  refine ⟨x, y, ?_⟩
  unfold gcdI
  rw [h, Int.natAbs_of_nonneg ha, Int.natAbs_of_nonneg hb]
theorem dig_has {T : List Int} (h0 : 0 < gI T 0) {i : Nat} (hv : 0 ≤ vI T (i + 1)) {z : Int} (hz : eI T (i + 1) ∣ z) : ∃ c : Nat, (c : Int) < rI T (i + 1) ∧ eI T i ∣ z - c * vI T (i + 1) := by
  obtain ⟨x, y, hb⟩ := bezI (eI T i) (vI T (i + 1)) (Int.le_of_lt (eI_pos h0 i)) hv
  rw [vI_gcd] at hb
  obtain ⟨q, rfl⟩ := hz
  have hr := rI_mul T i
  have hp := eI_pos h0 (i + 1)
  have hp' := eI_pos h0 i
  have hrp : 0 < rI T (i + 1) := by
    apply Int.lt_of_not_ge
    intro hle
    have := Int.mul_nonpos_of_nonpos_of_nonneg hle (Int.le_of_lt hp)
    omega
  have hm0 := Int.emod_nonneg (y * q) (Int.ne_of_gt hrp)
  have hm1 := Int.emod_lt_of_pos (y * q) hrp
  refine ⟨(y * q % rI T (i + 1)).toNat, by omega, ?_⟩
  rw [Int.toNat_of_nonneg hm0]
  have hd := Int.emod_add_mul_ediv (y * q) (rI T (i + 1))
  obtain ⟨u, hu⟩ := vI_dvd T (i + 1)
  refine ⟨x * q + (y * q / rI T (i + 1)) * u, ?_⟩
  generalize y * q / rI T (i + 1) = k at hd
  generalize y * q % rI T (i + 1) = c at hd
  generalize rI T (i + 1) = r at hd hr
  generalize eI T (i + 1) = e' at hu hr hb
  generalize eI T i = e at hr hb
  generalize vI T (i + 1) = v at hu hb
  grind

/-- The least number c, from c0 on, such that e divides what is left. -/
def dgF (e v : Int) : Nat → Int → Nat → Nat
  | 0, _, c => c
  | f + 1, z, c => if z % e = 0 then c else dgF e v f (z - v) (c + 1)
theorem dgF_spec (e v : Int) : ∀ (f : Nat) (z : Int) (c : Nat), (∃ k : Nat, k < f ∧ e ∣ z - k * v) → ∃ k : Nat, k < f ∧ dgF e v f z c = c + k ∧ e ∣ z - k * v ∧ ∀ j : Nat, j < k → ¬ e ∣ z - j * v := by
  intro f
  induction f with
  | zero => intro z c ⟨k, hk, _⟩; omega
  | succ f ih =>
    intro z c ⟨k, hk, hd⟩
    unfold dgF
    by_cases hz : z % e = 0
    · rw [if_pos hz]
      exact ⟨0, by omega, by omega, by simpa using Int.dvd_of_emod_eq_zero hz, fun j hj => absurd hj (by omega)⟩
    · rw [if_neg hz]
      have hz' : ¬ e ∣ z := fun h => hz (Int.emod_eq_zero_of_dvd h)
      have hsh : ∀ j : Nat, z - v - (j : Int) * v = z - ((j + 1 : Nat) : Int) * v := by
        intro j
        rw [Int.natCast_add, Int.add_mul]
        simp
        omega
      have hk0 : k ≠ 0 := by
        intro e0; subst e0
        simp at hd
        exact hz' hd
      obtain ⟨j, rfl⟩ : ∃ j, k = j + 1 := ⟨k - 1, by omega⟩
      obtain ⟨m, h1, h2, h3, h4⟩ := ih (z - v) (c + 1) ⟨j, by omega, by rw [hsh]; exact hd⟩
      refine ⟨m + 1, by omega, by omega, by rw [← hsh]; exact h3, fun t ht => ?_⟩
      by_cases e0 : t = 0
      · subst e0; simpa using hz'
      · obtain ⟨s, rfl⟩ : ∃ s, t = s + 1 := ⟨t - 1, by omega⟩
        rw [← hsh]
        exact h4 s (by omega)

/-- The digit i + 1 of z. -/
def dig (T : List Int) (i : Nat) (z : Int) : Nat := dgF (eI T i) (vI T (i + 1)) (rI T (i + 1)).toNat z 0
structure SemOk (T : List Int) : Prop where
  bra : BraOk T
theorem dig_ok {T : List Int} (h : BraOk T) {i : Nat} (hi : i + 1 < T.length) {z : Int} (hz : eI T (i + 1) ∣ z) : (dig T i z : Int) < rI T (i + 1) ∧ eI T i ∣ z - dig T i z * vI T (i + 1) ∧ ∀ j : Nat, j < dig T i z → ¬ eI T i ∣ z - j * vI T (i + 1) := by
  have h0 : 0 < gI T 0 := by have := h.first; omega
  have hv := (vI_bd h hi).1
  obtain ⟨c, hc, hd⟩ := dig_has h0 (i := i) (by omega) hz
  obtain ⟨k, h1, h2, h3, h4⟩ := dgF_spec (eI T i) (vI T (i + 1)) (rI T (i + 1)).toNat z 0 ⟨c, by omega, hd⟩
  have e : dig T i z = k := by unfold dig; omega
  rw [e]
  exact ⟨by omega, h3, h4⟩
theorem dig_eq {T : List Int} (h : BraOk T) {i : Nat} (hi : i + 1 < T.length) {z : Int} {c : Nat} (hc : (c : Int) < rI T (i + 1)) (hd : eI T i ∣ z - c * vI T (i + 1)) : dig T i z = c := by
  have h0 : 0 < gI T 0 := by have := h.first; omega
  have hz : eI T (i + 1) ∣ z := by
    have := Int.dvd_add (Int.dvd_trans (eI_dvd_step T i) hd) (Int.dvd_trans (vI_dvd T (i + 1)) (Int.dvd_mul_left (c : Int) _))
    rwa [Int.sub_add_cancel] at this
  obtain ⟨h1, h2, _⟩ := dig_ok h hi hz
  have h3 := Int.dvd_sub h2 hd
  have e : z - (dig T i z : Int) * vI T (i + 1) - (z - (c : Int) * vI T (i + 1)) = ((c : Int) - dig T i z) * vI T (i + 1) := by rw [Int.sub_mul]; omega
  rw [e] at h3
  obtain ⟨k, hk⟩ := dig_div h0 h3
  have hr : 2 ≤ rI T (i + 1) := rI_two h hi
  have : k = 0 := by
    apply Classical.byContradiction
    intro hk0
    by_cases hp : 0 < k
    · have := Int.mul_le_mul_of_nonneg_left (show 1 ≤ k by omega) (show 0 ≤ rI T (i + 1) by omega)
      omega
    · have := Int.mul_le_mul_of_nonneg_left (show k ≤ -1 by omega) (show 0 ≤ rI T (i + 1) by omega)
      omega
  subst this
  omega
/-- Digits go by the remainder. -/
theorem dig_add {T : List Int} (h : BraOk T) {i : Nat} (hi : i + 1 < T.length) {z d : Int} (hz : eI T (i + 1) ∣ z) (hd : eI T i ∣ d) : dig T i (z + d) = dig T i z := by
  obtain ⟨h1, h2, _⟩ := dig_ok h hi hz
  refine dig_eq h hi h1 ?_
  have e : z + d - (dig T i z : Int) * vI T (i + 1) = (z - (dig T i z : Int) * vI T (i + 1)) + d := by omega
  rw [e]
  exact Int.dvd_add h2 hd

/-- What is left of z when its digits k, k - 1, .., 1 are taken off. -/
def strip (T : List Int) : Nat → Int → Int
  | 0, z => z
  | k + 1, z => strip T k (z - dig T k z * vI T (k + 1))
theorem strip_succ (T : List Int) (k : Nat) (z : Int) : strip T (k + 1) z = strip T k (z - dig T k z * vI T (k + 1)) := rfl
theorem strip_dvd {T : List Int} (h : BraOk T) : ∀ k, k < T.length → ∀ z, eI T k ∣ z → eI T 0 ∣ strip T k z := by
  intro k
  induction k with
  | zero => intro _ z hz; exact hz
  | succ k ih => intro hk z hz; rw [strip_succ]; exact ih (by omega) _ (dig_ok h hk hz).2.1
theorem vI_step {T : List Int} (h : BraOk T) {k : Nat} (hk : k + 2 < T.length) : rI T (k + 1) * vI T (k + 1) + 1 ≤ vI T (k + 2) := by
  have : gI T (k + 1) < gI T (k + 2) := h.asc (k + 1) hk
  rw [vI_two]; omega
theorem strip_ge {T : List Int} (h : BraOk T) : ∀ k, k + 1 < T.length → ∀ z, eI T k ∣ z → z - vI T (k + 1) + 1 ≤ strip T k z := by
  intro k
  induction k with
  | zero => intro hk z _; have : 1 ≤ vI T 1 := (vI_bd h hk).1; show z - vI T 1 + 1 ≤ z; omega
  | succ k ih =>
    intro hk z hz
    have hd := dig_ok h (by omega : k + 1 < T.length) hz
    have h1 := ih (by omega) _ hd.2.1
    have h2 := vI_step h hk
    have hv := (vI_bd h (i := k + 1) (by omega)).1
    have h3 : ((dig T k z : Int) + 1) * vI T (k + 1) ≤ rI T (k + 1) * vI T (k + 1) := Int.mul_le_mul_of_nonneg_right (by omega) (by omega)
    rw [Int.add_mul] at h3
    rw [strip_succ]
    show z - vI T (k + 2) + 1 ≤ _
    omega
theorem strip_low {T : List Int} (h : BraOk T) {k : Nat} (hk : k + 1 < T.length) {y : Int} (hy : eI T k ∣ y) {c : Nat} (hc : (c : Int) < rI T (k + 1)) : strip T (k + 1) (y + c * vI T (k + 1)) = strip T k y := by
  have e : y + (c : Int) * vI T (k + 1) - c * vI T (k + 1) = y := by omega
  have hd : dig T k (y + c * vI T (k + 1)) = c := dig_eq h hk hc (by rw [e]; exact hy)
  rw [strip_succ, hd, e]

/-- z is normal and not negative, at the level k. -/
def NorP (T : List Int) (k : Nat) (z : Int) : Prop := eI T k ∣ z ∧ 0 ≤ strip T k z
theorem NorP.up {T : List Int} (h : BraOk T) {k : Nat} (hk : k + 1 < T.length) {y : Int} (hy : NorP T k y) {c : Nat} (hc : (c : Int) < rI T (k + 1)) : NorP T (k + 1) (y + c * vI T (k + 1)) :=
  ⟨Int.dvd_add (Int.dvd_trans (eI_dvd_step T k) hy.1) (Int.dvd_trans (vI_dvd T (k + 1)) (Int.dvd_mul_left _ _)), by rw [strip_low h hk hy.1 hc]; exact hy.2⟩
theorem NorP.down {T : List Int} (h : BraOk T) {k : Nat} (hk : k + 1 < T.length) {z : Int} (hz : NorP T (k + 1) z) : ∃ y c : _, NorP T k y ∧ ((c : Nat) : Int) < rI T (k + 1) ∧ z = y + c * vI T (k + 1) := by
  have hd := dig_ok h hk hz.1
  exact ⟨z - dig T k z * vI T (k + 1), dig T k z, ⟨hd.2.1, hz.2⟩, hd.1, by omega⟩
theorem NorP.carry {T : List Int} (h : BraOk T) {k : Nat} (hk : k + 1 < T.length) : NorP T k (rI T (k + 1) * vI T (k + 1)) := by
  have hv := (vI_bd h (i := k + 1) (by omega)).1
  have hd : eI T k ∣ rI T (k + 1) * vI T (k + 1) := by
    obtain ⟨u, hu⟩ := vI_dvd T (k + 1)
    refine ⟨u, ?_⟩
    rw [hu, ← rI_mul T k, Int.mul_assoc]
  refine ⟨hd, ?_⟩
  have h1 := strip_ge h k hk _ hd
  have h2 : 1 * vI T (k + 1) ≤ rI T (k + 1) * vI T (k + 1) := Int.mul_le_mul_of_nonneg_right (by have := rI_two h hk; omega) (by omega)
  omega
theorem NorP.add {T : List Int} (h : BraOk T) : ∀ k, k < T.length → ∀ z z', NorP T k z → NorP T k z' → NorP T k (z + z') := by
  intro k
  induction k with
  | zero => intro _ z z' hz hz'; exact ⟨Int.dvd_add hz.1 hz'.1, Int.add_nonneg hz.2 hz'.2⟩
  | succ k ih =>
    intro hk z z' hz hz'
    obtain ⟨y, c, hy, hc, rfl⟩ := hz.down h hk
    obtain ⟨y', c', hy', hc', rfl⟩ := hz'.down h hk
    have hs := ih (by omega) _ _ hy hy'
    by_cases hlt : ((c + c' : Nat) : Int) < rI T (k + 1)
    · have := hs.up h hk hlt
      have e : y + y' + ((c + c' : Nat) : Int) * vI T (k + 1) = y + c * vI T (k + 1) + (y' + c' * vI T (k + 1)) := by rw [Int.natCast_add, Int.add_mul]; omega
      rwa [e] at this
    · have h2 := ih (by omega) _ _ hs (NorP.carry h hk)
      have hr := rI_two h hk
      obtain ⟨r, hrn⟩ := Int.eq_ofNat_of_zero_le (show 0 ≤ rI T (k + 1) by omega)
      rw [hrn] at hlt hc hc' h2
      have := h2.up h hk (c := c + c' - r) (by rw [hrn]; omega)
      have e : y + y' + (r : Int) * vI T (k + 1) + ((c + c' - r : Nat) : Int) * vI T (k + 1) = y + c * vI T (k + 1) + (y' + c' * vI T (k + 1)) := by
        have e1 : ((c + c' - r : Nat) : Int) = c + c' - r := by omega
        rw [e1, Int.sub_mul, Int.add_mul]
        omega
      rwa [e] at this
theorem NorP.raise {T : List Int} (h : BraOk T) {i : Nat} {z : Int} (hz : NorP T i z) : ∀ k, i ≤ k → k < T.length → NorP T k z := by
  intro k
  induction k with
  | zero => intro hi _; have : i = 0 := by omega
            subst this; exact hz
  | succ k ih =>
    intro hi hk
    by_cases e : i = k + 1
    · subst e; exact hz
    · have h1 := (ih (by omega) (by omega)).up h hk (c := 0) (by have := rI_two h hk; omega)
      simpa using h1
theorem NorP.gen {T : List Int} (h : BraOk T) {i k : Nat} (hik : i ≤ k) (hk : k < T.length) : NorP T k (vI T i) := by
  refine NorP.raise h (i := i) ?_ k hik hk
  cases i with
  | zero => exact ⟨vI_dvd T 0, by have := (vI_bd h h.len).1; show 0 ≤ vI T 0; omega⟩
  | succ i =>
    have h1 : NorP T i 0 := by
      refine NorP.raise h (i := 0) ⟨Int.dvd_zero _, Int.le_refl _⟩ i (Nat.zero_le _) (by omega)
    have h2 := h1.up h (by omega : i + 1 < T.length) (c := 1) (by have := rI_two h (i := i) (by omega); omega)
    simpa using h2

/-- The values: sums of generators. -/
inductive Val (T : List Int) : Int → Prop
  | zero : Val T 0
  | add {z : Int} {i : Nat} (hz : Val T z) (hi : i < T.length) : Val T (z + vI T i)
theorem Val.plus {T : List Int} {z y : Int} (hz : Val T z) (hy : Val T y) : Val T (z + y) := by
  induction hy with
  | zero => simpa using hz
  | add _ hi ih => rw [← Int.add_assoc]; exact ih.add hi
theorem e_last {T : List Int} (h : BraOk T) (z : Int) : eI T (T.length - 1) ∣ z := by rw [h.last]; exact Int.one_dvd z
/-- What is left of z when all digits are taken off. -/
def low (T : List Int) (z : Int) : Int := strip T (T.length - 1) z
theorem low_dvd {T : List Int} (h : BraOk T) (z : Int) : gI T 0 ∣ low T z := strip_dvd h _ (by have := h.len; omega) z (e_last h z)
end Go.Proofs.YtglghdkjppcedaaDoor

/- The semigroup of a branch: the digits of a number, and the least value with a remainder. No program in sight. -/
namespace Go.Proofs.YtglghdkjppcedaaDoor

/-- The digits 1 .. k of z. -/
def digs (T : List Int) : Nat → Int → List Int
  | 0, _ => []
  | k + 1, z => digs T k (z - dig T k z * vI T (k + 1)) ++ [(dig T k z : Int)]
theorem digs_succ (T : List Int) (k : Nat) (z : Int) : digs T (k + 1) z = digs T k (z - dig T k z * vI T (k + 1)) ++ [(dig T k z : Int)] := rfl
@[simp] theorem digs_len (T : List Int) : ∀ k z, (digs T k z).length = k := by
  intro k
  induction k with
  | zero => intro _; rfl
  | succ k ih => intro z; rw [digs_succ, List.length_append, ih]; rfl
/-- The sum of the generators with the numbers D. -/
def sumV (T D : List Int) (k : Nat) : Int := sumTo (fun i => gI D i * vI T (i + 1)) k
theorem sumV_succ (T D : List Int) (k : Nat) : sumV T D (k + 1) = sumV T D k + gI D k * vI T (k + 1) := rfl
theorem sumV_congr {T D D' : List Int} {k : Nat} (h : ∀ i, i < k → gI D i = gI D' i) : sumV T D k = sumV T D' k := sumTo_congr fun i hi => by rw [h i hi]
theorem sumV_app {T D : List Int} {c : Int} {k : Nat} (h : D.length = k) : sumV T (D ++ [c]) (k + 1) = sumV T D k + c * vI T (k + 1) := by
  rw [sumV_succ, gI_app_at h.symm, sumV_congr (D' := D) (fun i hi => gI_app_lt (by omega))]
theorem strip_sum (T : List Int) : ∀ k z, strip T k z = z - sumV T (digs T k z) k := by
  intro k
  induction k with
  | zero => intro z; show z = z - 0; omega
  | succ k ih => intro z; rw [strip_succ, ih, digs_succ, sumV_app (digs_len T k _)]; omega
/-- Numbers that may be digits. -/
def TupOk (T D : List Int) (k : Nat) : Prop := D.length = k ∧ ∀ i, i < k → 0 ≤ gI D i ∧ gI D i < rI T (i + 1)
theorem digs_ok {T : List Int} (h : BraOk T) : ∀ k, k < T.length → ∀ z, eI T k ∣ z → TupOk T (digs T k z) k := by
  intro k
  induction k with
  | zero => intro _ z _; exact ⟨rfl, fun i hi => absurd hi (by omega)⟩
  | succ k ih =>
    intro hk z hz
    have hd := dig_ok h hk hz
    have h1 := ih (by omega) _ hd.2.1
    refine ⟨digs_len _ _ _, fun i hi => ?_⟩
    rw [digs_succ]
    by_cases e : i < k
    · rw [gI_app_lt (by rw [digs_len]; exact e)]; exact h1.2 i e
    · have : i = k := by omega
      subst this
      rw [gI_app_at (digs_len T i _).symm]
      exact ⟨Int.natCast_nonneg _, hd.1⟩
theorem sumV_dvd {T : List Int} {D : List Int} : ∀ k, eI T k ∣ sumV T D k := by
  intro k
  induction k with
  | zero => exact Int.dvd_zero _
  | succ k ih => exact Int.dvd_add (Int.dvd_trans (eI_dvd_step T k) ih) (Int.dvd_trans (vI_dvd T (k + 1)) (Int.dvd_mul_left _ _))
/-- A tuple is found again. -/
theorem digs_tup {T : List Int} (h : BraOk T) : ∀ k, k < T.length → ∀ D y, TupOk T D k → eI T 0 ∣ y → digs T k (y + sumV T D k) = D ∧ strip T k (y + sumV T D k) = y := by
  intro k
  induction k with
  | zero =>
    intro _ D y hD _
    have : D = [] := List.eq_nil_of_length_eq_zero hD.1
    subst this
    exact ⟨rfl, by show y + 0 = y; omega⟩
  | succ k ih =>
    intro hk D y hD hy
    have hc := hD.2 k (by omega)
    obtain ⟨c, hcn⟩ := Int.eq_ofNat_of_zero_le hc.1
    have hD' : TupOk T (D.take k) k := ⟨by have := hD.1; simp; omega, fun i hi => by rw [gI_take hi]; exact hD.2 i (by omega)⟩
    have hs : sumV T D k = sumV T (D.take k) k := sumV_congr fun i hi => (gI_take hi).symm
    have e : y + sumV T D (k + 1) = (y + sumV T (D.take k) k) + c * vI T (k + 1) := by rw [sumV_succ, hcn, hs]; omega
    have hdv : eI T k ∣ y + sumV T (D.take k) k := Int.dvd_add (Int.dvd_trans (eI_dvd T (Nat.zero_le k)) hy) (sumV_dvd k)
    have e2 : (y + sumV T (D.take k) k) + (c : Int) * vI T (k + 1) - c * vI T (k + 1) = y + sumV T (D.take k) k := by omega
    have hdg : dig T k ((y + sumV T (D.take k) k) + c * vI T (k + 1)) = c := dig_eq h hk (by rw [← hcn]; exact hc.2) (by rw [e2]; exact hdv)
    obtain ⟨h1, h2⟩ := ih (by omega) (D.take k) y hD' hy
    rw [e]
    refine ⟨?_, ?_⟩
    · rw [digs_succ, hdg, e2, h1, ← hcn]
      apply gI_ext (by have := hD.1; simp; omega)
      intro i hi
      have hi' : i < k + 1 := by have := hD.1; simp at hi; omega
      by_cases el : i < k
      · rw [gI_app_lt (by rw [hD'.1]; exact el), gI_take el]
      · have : i = k := by omega
        subst this
        rw [gI_app_at hD'.1.symm]
    · rw [strip_succ, hdg, e2, h2]
theorem digs_add {T : List Int} (h : BraOk T) : ∀ k, k < T.length → ∀ z d, eI T k ∣ z → eI T 0 ∣ d → digs T k (z + d) = digs T k z := by
  intro k
  induction k with
  | zero => intro _ z d _ _; rfl
  | succ k ih =>
    intro hk z d hz hd
    rw [digs_succ, digs_succ, dig_add h hk hz (Int.dvd_trans (eI_dvd T (Nat.zero_le k)) hd)]
    have e : z + d - (dig T k z : Int) * vI T (k + 1) = z - (dig T k z : Int) * vI T (k + 1) + d := by omega
    rw [e, ih (by omega) _ _ (dig_ok h hk hz).2.1 hd]

/-- All digits of z. -/
def digA (T : List Int) (z : Int) : List Int := digs T (T.length - 1) z
@[simp] theorem digA_len (T : List Int) (z : Int) : (digA T z).length = T.length - 1 := digs_len _ _ _
theorem digA_ok {T : List Int} (h : BraOk T) (z : Int) : TupOk T (digA T z) (T.length - 1) := digs_ok h _ (by have := h.len; omega) z (e_last h z)
/-- The least value with the remainder of z. -/
def lst (T : List Int) (z : Int) : Int := sumV T (digA T z) (T.length - 1)
theorem lst_low (T : List Int) (z : Int) : low T z = z - lst T z := strip_sum T _ z
theorem lst_tup {T : List Int} (h : BraOk T) {D : List Int} (hD : TupOk T D (T.length - 1)) : digA T (sumV T D (T.length - 1) % gI T 0) = D ∧ lst T (sumV T D (T.length - 1) % gI T 0) = sumV T D (T.length - 1) := by
  have hl := h.len
  have h1 := (digs_tup h _ (by omega) D 0 hD (Int.dvd_zero _)).1
  rw [Int.zero_add] at h1
  generalize hs : sumV T D (T.length - 1) = s at h1
  have hd : eI T 0 ∣ s % gI T 0 - s := by
    refine ⟨-(s / gI T 0), ?_⟩
    have := Int.emod_add_mul_ediv s (gI T 0)
    show _ = gI T 0 * _
    rw [Int.mul_neg]; omega
  have e : s % gI T 0 = s + (s % gI T 0 - s) := by omega
  have h2 : digA T (s % gI T 0) = D := by
    rw [e]
    unfold digA
    rw [digs_add h _ (by omega) _ _ (e_last h s) hd]
    exact h1
  exact ⟨h2, by unfold lst; rw [h2, hs]⟩
theorem lst_mod {T : List Int} (h : BraOk T) {r : Int} (h0 : 0 ≤ r) (h1 : r < gI T 0) : lst T r % gI T 0 = r := by
  obtain ⟨q, hq⟩ := low_dvd h r
  have e : lst T r = r + gI T 0 * (-q) := by have := lst_low T r; rw [Int.mul_neg]; omega
  rw [e, Int.add_mul_emod_self_left, Int.emod_eq_of_lt h0 h1]
end Go.Proofs.YtglghdkjppcedaaDoor

/- The semigroup of a branch: which numbers are values, step by step; the conductor; mixed radix. No program in sight. -/
namespace Go.Proofs.YtglghdkjppcedaaDoor

/-- v is a value. -/
def valB (T : List Int) (v : Int) : Bool := decide (lst T (v % gI T 0) ≤ v)
/-- v is a generator above a value; the first i generators. -/
def hasTo (T : List Int) (v : Int) : Nat → Bool
  | 0 => false
  | i + 1 => hasTo T v i || (decide (vI T i ≤ v) && valB T (v - vI T i))
/-- The conductor. -/
def conI (T : List Int) : Int := conTo T (T.length - 1)
/-- What is left of z behind i digits of a mixed radix. -/
def rst (T : List Int) (z : Int) : Nat → Int
  | 0 => z
  | i + 1 => rst T z i / rI T (i + 1)
theorem rst_succ (T : List Int) (z : Int) (i : Nat) : rst T z (i + 1) = rst T z i / rI T (i + 1) := rfl
/-- The first k digits. -/
def mix (T : List Int) (z : Int) (k : Nat) : List Int := (List.range k).map fun i => rst T z i % rI T (i + 1)
@[simp] theorem mix_len (T : List Int) (z : Int) (k : Nat) : (mix T z k).length = k := by simp [mix]
theorem gI_mix {T : List Int} {z : Int} {k i : Nat} (h : i < k) : gI (mix T z k) i = rst T z i % rI T (i + 1) := by rw [gI_lt (by simpa using h)]; simp [mix]
theorem mix_ok {T : List Int} (h : BraOk T) (z : Int) : TupOk T (mix T z (T.length - 1)) (T.length - 1) := by
  refine ⟨by simp, fun i hi => ?_⟩
  rw [gI_mix hi]
  have := rI_two h (i := i) (by omega)
  exact ⟨Int.emod_nonneg _ (by omega), Int.emod_lt_of_pos _ (by omega)⟩
/-- The sum of the first k digits. -/
def mixS (T : List Int) (z : Int) (k : Nat) : Int := sumTo (fun i => rst T z i % rI T (i + 1) * vI T (i + 1)) k
theorem mixS_all (T : List Int) (z : Int) (k : Nat) : mixS T z k = sumV T (mix T z k) k := sumTo_congr fun i hi => by rw [gI_mix hi]
theorem mixS_lst {T : List Int} (h : BraOk T) (z : Int) : lst T (mixS T z (T.length - 1) % gI T 0) = mixS T z (T.length - 1) := by
  rw [mixS_all]
  exact (lst_tup h (mix_ok h z)).2
/-- Every tuple is hit. -/
theorem mix_hit {T : List Int} (h : BraOk T) {D : List Int} (hD : TupOk T D (T.length - 1)) : ∃ z, 0 ≤ z ∧ z < gI T 0 ∧ mix T z (T.length - 1) = D := by
  have hl := h.len
  have key : ∀ m, m ≤ T.length - 1 → ∃ z, 0 ≤ z ∧ z < eI T (T.length - 1 - m) ∧ ∀ x, (∀ i, i ≤ m → True) → rst T x (T.length - 1 - m) = z → ∀ i, T.length - 1 - m ≤ i → i < T.length - 1 → rst T x i % rI T (i + 1) = gI D i := by
    intro m
    induction m with
    | zero => intro _; exact ⟨0, Int.le_refl _, by rw [Nat.sub_zero, h.last]; omega, fun x _ _ i h1 h2 => by omega⟩
    | succ m ih =>
      intro hm
      obtain ⟨z, h0, h1, h2⟩ := ih (by omega)
      generalize hk : T.length - 1 - (m + 1) = k
      have hk1 : T.length - 1 - m = k + 1 := by omega
      rw [hk1] at h1 h2
      have hd := hD.2 k (by omega)
      have hr := rI_two h (i := k) (by omega)
      have hm1 := rI_mul T k
      have hle := Int.mul_le_mul_of_nonneg_left (show z ≤ eI T (k + 1) - 1 by omega) (show 0 ≤ rI T (k + 1) by omega)
      rw [Int.mul_sub] at hle
      have hnn := Int.mul_nonneg (show 0 ≤ rI T (k + 1) by omega) h0
      refine ⟨gI D k + rI T (k + 1) * z, by omega, by omega, fun x _ hx i hi1 hi2 => ?_⟩
      by_cases e : i = k
      · subst e
        rw [hx, Int.add_mul_emod_self_left, Int.emod_eq_of_lt hd.1 hd.2]
      · refine h2 x (fun _ _ => trivial) ?_ i (by omega) hi2
        rw [rst_succ, hx, Int.add_mul_ediv_left _ _ (by omega), Int.ediv_eq_zero_of_lt hd.1 hd.2, Int.zero_add]
  obtain ⟨z, h0, h1, h2⟩ := key (T.length - 1) (Nat.le_refl _)
  rw [Nat.sub_self] at h1 h2
  refine ⟨z, h0, h1, gI_ext (by simp [hD.1]) (fun i hi => ?_)⟩
  rw [mix_len] at hi
  rw [gI_mix hi]
  exact h2 z (fun _ _ => trivial) rfl i (by omega) hi
theorem mix_rem {T : List Int} (h : BraOk T) {r : Int} (h0 : 0 ≤ r) (h1 : r < gI T 0) : ∃ z, 0 ≤ z ∧ z < gI T 0 ∧ mixS T z (T.length - 1) % gI T 0 = r := by
  obtain ⟨z, hz0, hz1, hz⟩ := mix_hit h (digA_ok h r)
  refine ⟨z, hz0, hz1, ?_⟩
  rw [mixS_all, hz]
  exact lst_mod h h0 h1
end Go.Proofs.YtglghdkjppcedaaDoor

/- Contracts: semigroup.has, spec.l05Values. -/
namespace Go.Proofs.YtglghdkjppcedaaDoor
open Go.RowKit

/-- The number of remainders. -/
def nT (T : List Int) : Nat := (gI T 0).toNat
/-- The least values, and their numbers. -/
def lstL (T : List Int) : List Int := (List.range (nT T)).map fun (r : Nat) => lst T (r : Int)
def parR (T : List Int) : List (List Int) := (List.range (nT T)).map fun (r : Nat) => digA T (r : Int)
@[simp] theorem lstL_len (T : List Int) : (lstL T).length = nT T := by simp [lstL]
@[simp] theorem parR_len (T : List Int) : (parR T).length = nT T := by simp [parR]
theorem gI_lstL {T : List Int} {r : Nat} (h : r < nT T) : gI (lstL T) r = lst T r := by rw [gI_lt (by simpa using h)]; simp [lstL]
/-- The block g has the n truths f. e: the number of bool. -/
def OwnB (e : TypeId) (w : World) (base g n : Nat) (f : Nat → Bool) : Prop := w.ownsRow base e 1 (.slice (some ⟨g, 0, none⟩) n n) n ((List.range n).map fun i => Value.bool (f i))
theorem OwnB.cell {e : TypeId} {w : World} {base g n : Nat} {f : Nat → Bool} (h : OwnB e w base g n f) {i : Nat} (hi : i < n) : w.cell? ⟨g, i, none⟩ = some (.bool (f i)) := by
  rw [World.ownsRow.cellAt h i (by omega)]; simp [hi]
theorem OwnB.free {e : TypeId} {w : World} {base g n : Nat} {f : Nat → Bool} (h : OwnB e w base g n f) (i : Nat) : w.frozen? ⟨g, i, none⟩ = false := World.ownsRow.frozenAt h i
theorem OwnB.set {e : TypeId} {w : World} {base g n : Nat} {f : Nat → Bool} (h : OwnB e w base g n f) (j : Nat) (x : Bool) : OwnB e (w.setCell ⟨g, j, none⟩ (.bool x)) base g n (upd f j x) := by
  have := (World.ownsRow.stored h j (.bool x)).1
  unfold OwnB
  have e1 : ((List.range n).map fun i => Value.bool (f i)).set j (.bool x) = (List.range n).map fun i => Value.bool (upd f j x i) := by
    apply List.ext_getElem
    · simp
    · intro i h1 h2
      by_cases e : i = j
      · subst e; simp [upd]
      · rw [List.getElem_set_ne (by omega)]; simp [upd, e]
  rw [e1] at this
  exact this
theorem OwnB.congr {e : TypeId} {w : World} {base g n : Nat} {f f' : Nat → Bool} (h : OwnB e w base g n f) (hf : ∀ i, i < n → f i = f' i) : OwnB e w base g n f' := by
  unfold OwnB at *
  have : ((List.range n).map fun i => Value.bool (f i)) = (List.range n).map fun i => Value.bool (f' i) := List.map_congr_left (fun i hi => by rw [hf i (by simpa using hi)])
  rw [← this]; exact h
theorem OwnB.block {e : TypeId} {w : World} {base g n : Nat} {f : Nat → Bool} (h : OwnB e w base g n f) : base ≤ g ∧ g < w.heap.size := by
  rcases h.2 with ⟨hv, _⟩ | ⟨g', cap, cur, hv, hbg, hg, _⟩
  · cases hv
  · injection hv with hv1 _ _
    injection hv1 with hv1
    injection hv1 with hv1
    subst hv1
    exact ⟨hbg, (Array.getElem?_eq_some_iff.1 hg).1⟩
theorem OwnB.below {e : TypeId} {w w' : World} {base g n B : Nat} {f : Nat → Bool} (h : OwnB e w base g n f) (hb : Below B w w') (hB : w.heap.size ≤ B) : OwnB e w' base g n f := by
  refine ⟨h.1, ?_⟩
  rcases h.2 with hn | ⟨g', cap, cur, hv, hbg, hg, rest⟩
  · exact .inl hn
  · refine .inr ⟨g', cap, cur, hv, hbg, ?_, rest⟩
    have hlt := (Array.getElem?_eq_some_iff.1 hg).1
    rw [hb.block g' (by omega)]; exact hg
theorem OwnB.base_le {e : TypeId} {w : World} {base base' g n : Nat} {f : Nat → Bool} (h : OwnB e w base g n f) (hB : base' ≤ base) : OwnB e w base' g n f := by
  refine ⟨h.1, ?_⟩
  rcases h.2 with hn | ⟨g', cap, cur, hv, hbg, rest⟩
  · exact .inl hn
  · exact .inr ⟨g', cap, cur, hv, by omega, rest⟩
/-- The values up to k, the truth b at k. -/
def valTo (T : List Int) (k : Nat) (b : Bool) : Nat → Bool := fun i => if i < k then valB T i else if i = k then b else false
/-- The truths are handed back. -/
def RetBo (e0 : TypeId) (w : World) (T : List Int) (n : Nat) (e : Ending) (w' : World) : Prop :=
  ∃ g, e = .returned (.slice (some ⟨g, 0, none⟩) n n) ∧ OwnB e0 w' w.heap.size g n (fun i => valB T i) ∧ Below w.heap.size w w'
end Go.Proofs.YtglghdkjppcedaaDoor

/- One number put behind an owned slice that is used again: either its own block was taken, or a new one. No program in sight. -/
namespace Go.Proofs.YtglghdkjppcedaaDoor
open Go.RowKit

/-- Where the longer slice lies. -/
def Back (v : Value) (w w' : World) (g n cap : Nat) : Prop := (v = .slice (some ⟨g, 0, none⟩) n cap ∧ n + 1 ≤ cap) ∨ (g = w.heap.size ∧ Keeps (fun _ => False) w w')

/-- The elder slice is still there, with its numbers. -/
theorem Back.old {e : TypeId} {w w1 w2 : World} {base g n cap : Nat} {v : Value} {xs : List Int} {y : Int} {M : Nat → Prop} (hn : xs.length = n) (hb : Back v w w1 g n cap) (ho : Own e w base v xs)
    (ho2 : Own e w2 base (.slice (some ⟨g, 0, none⟩) (n + 1) cap) (xs ++ [y])) (hk : Keeps (fun k => M k ∨ k = g) w1 w2) (hM : ∀ k, v.ownBlock = some k → ¬ M k) : Own e w2 base v xs := by
  subst hn
  rcases hb with ⟨rfl, hc⟩ | ⟨hg, hk1⟩
  · rcases ho2.2 with ⟨h, _⟩ | ⟨g', cap', cur, hv, h1, h2, h3, h4, h5, h6⟩
    · cases h
    · injection hv with hv1 _ hv3
      injection hv1 with hv1
      injection hv1 with hv1
      subst hv1
      subst hv3
      refine ⟨by simp, .inr ⟨g, cap, cur, rfl, h1, h2, by omega, h4, h5, ?_⟩⟩
      rw [Nat.mul_one] at h6 ⊢
      have h7 := congrArg (List.take xs.length) h6
      rw [List.take_take, List.map_append, List.take_left' (by simp), Nat.min_eq_left (by omega)] at h7
      exact h7
  · have ho1 := ho.keeps hk1 (fun _ _ h => h)
    refine ho1.keeps hk (fun k hv h => ?_)
    rcases h with h | h
    · exact hM k hv h
    · have := ho.block k hv; omega

end Go.Proofs.YtglghdkjppcedaaDoor

/- Contracts: impl.clusterProximates. -/
namespace Go.Proofs.YtglghdkjppcedaaDoor
open Go.RowKit

theorem Tryd.infoII : (Tryd.prog.info? 24).map (fun i => (i.zero, i.size, i.bytes)) = some (some (.slice none 0 0), 1, 24) := by kernel_rfl

/-- What the rows are after k rounds. -/
def proxTo (P S : List Int) (k : Nat) : Nat → List Int := fun i => if i < k then proxOf P S i else []

/-- A list of lists that is new. -/
def RetR (w : World) (n : Nat) (R : Nat → List Int) (e : Ending) (w' : World) : Prop :=
  ∃ g V, e = .returned (.slice (some ⟨g, 0, none⟩) n n) ∧ Rows 2 w' w.heap.size g n V R ∧ Below w.heap.size w w'

end Go.Proofs.YtglghdkjppcedaaDoor
