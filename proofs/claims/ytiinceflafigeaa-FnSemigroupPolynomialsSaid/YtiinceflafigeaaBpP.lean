/- The polynomial of a semigroup times its binomials. No program in sight. -/
import Derived.Test.YtiinceflafigeaaSemPo
import Derived.Test.YtiinceflafigeaaSbS
namespace Go.Proofs.Ytiinceflafigeaa
open Go.RowKit

/-- A row of numbers times t^d - 1. -/
def nd (d : Int) (f : Int → Int) (z : Int) : Int := f (z - d) - f z
theorem nd_comm (d e : Int) (f : Int → Int) : nd d (nd e f) = nd e (nd d f) := by
  funext z
  unfold nd
  rw [show z - d - e = z - e - d by omega]
  omega
theorem nd_inj {d : Int} (hd : 0 < d) {f g : Int → Int} (h0 : ∀ z, z < 0 → f z = g z) (h : nd d f = nd d g) : f = g := by
  have key : ∀ n : Nat, ∀ z : Int, z < n → f z = g z := by
    intro n
    induction n with
    | zero => intro z hz; exact h0 z (by omega)
    | succ n ih =>
      intro z hz
      have h1 := congrFun h z
      unfold nd at h1
      have h2 := ih (z - d) (by omega)
      omega
  funext z
  exact key (z.toNat + 1) z (by omega)
def delF (z : Int) : Int := if z = 0 then 1 else 0
def chi (T : List Int) (k : Nat) (z : Int) : Int := if eI T k ∣ z ∧ 0 ≤ strip T k z then -1 else 0
theorem chi_no {T : List Int} {k : Nat} {z : Int} (h : ¬ eI T k ∣ z) : chi T k z = 0 := by unfold chi; rw [if_neg (fun x => h x.1)]
theorem chi_eq {T : List Int} {k l : Nat} {y z : Int} (h1 : eI T k ∣ y) (h2 : eI T l ∣ z) (h : strip T k y = strip T l z) : chi T k y = chi T l z := by
  unfold chi
  rw [h]
  by_cases hp : 0 ≤ strip T l z
  · rw [if_pos ⟨h1, hp⟩, if_pos ⟨h2, hp⟩]
  · rw [if_neg (fun x => hp x.2), if_neg (fun x => hp x.2)]
theorem chi_zero {T : List Int} (h : BraOk T) : nd (vI T 0) (chi T 0) = delF := by
  have hp : 0 < gI T 0 := by have := h.first; omega
  have e0 : eI T 0 = gI T 0 := rfl
  funext z
  unfold nd
  rw [vI_zero]
  unfold chi delF
  show (if eI T 0 ∣ z - gI T 0 ∧ 0 ≤ z - gI T 0 then (-1 : Int) else 0) - (if eI T 0 ∣ z ∧ 0 ≤ z then -1 else 0) = _
  rw [e0]
  by_cases hd : gI T 0 ∣ z
  · have hd2 : gI T 0 ∣ z - gI T 0 := Int.dvd_sub hd (Int.dvd_refl _)
    by_cases hz : 0 ≤ z
    · by_cases hz2 : z = 0
      · subst hz2
        rw [if_neg (by omega), if_pos ⟨hd, hz⟩, if_pos rfl]; rfl
      · have hle : gI T 0 ≤ z := Int.le_of_dvd (by omega) hd
        rw [if_pos ⟨hd2, by omega⟩, if_pos ⟨hd, hz⟩, if_neg hz2]; rfl
    · rw [if_neg (by omega), if_neg (by omega), if_neg (by omega)]; rfl
  · have hd2 : ¬ gI T 0 ∣ z - gI T 0 := fun hx => hd (by have := Int.dvd_add hx (Int.dvd_refl (gI T 0)); rwa [Int.sub_add_cancel] at this)
    rw [if_neg (fun x => hd2 x.1), if_neg (fun x => hd x.1), if_neg (fun e => hd (by rw [e]; exact Int.dvd_zero _))]; rfl
theorem chi_step {T : List Int} (h : BraOk T) {k : Nat} (hk : k + 1 < T.length) : nd (vI T (k + 1)) (chi T (k + 1)) = nd (rI T (k + 1) * vI T (k + 1)) (chi T k) := by
  have hr := rI_two h hk
  have hdv := vI_dvd T (k + 1)
  have hrv : eI T k ∣ rI T (k + 1) * vI T (k + 1) := by
    obtain ⟨u, hu⟩ := hdv
    exact ⟨u, by rw [hu, ← rI_mul T k, Int.mul_assoc]⟩
  obtain ⟨r, hrn⟩ := Int.eq_ofNat_of_zero_le (show 0 ≤ rI T (k + 1) by omega)
  funext z
  unfold nd
  by_cases hz : eI T (k + 1) ∣ z
  · have hz2 : eI T (k + 1) ∣ z - vI T (k + 1) := Int.dvd_sub hz hdv
    obtain ⟨h1, h2, h3⟩ := dig_ok h hk hz
    by_cases hc : dig T k z = 0
    · have hy : eI T k ∣ z := by rw [hc] at h2; simpa using h2
      have e1 : strip T (k + 1) z = strip T k z := by rw [strip_succ, hc]; simp
      have hyn : eI T k ∣ z - rI T (k + 1) * vI T (k + 1) := Int.dvd_sub hy hrv
      have e2 : z - vI T (k + 1) = (z - rI T (k + 1) * vI T (k + 1)) + ((r - 1 : Nat) : Int) * vI T (k + 1) := by
        have : ((r - 1 : Nat) : Int) = (r : Int) - 1 := by omega
        rw [this, hrn, Int.sub_mul]; omega
      rw [chi_eq (k := k + 1) (l := k) hz hy e1]
      have e3 := strip_low h hk hyn (c := r - 1) (by rw [hrn]; omega)
      rw [← e2] at e3
      rw [chi_eq (k := k + 1) (l := k) hz2 hyn e3]
    · obtain ⟨c, hcc⟩ : ∃ c, dig T k z = c + 1 := ⟨dig T k z - 1, by omega⟩
      have hny : ¬ eI T k ∣ z := fun hx => h3 0 (by omega) (by simpa using hx)
      have hnn : ¬ eI T k ∣ z - rI T (k + 1) * vI T (k + 1) := fun hx => hny (by have := Int.dvd_add hx hrv; rwa [Int.sub_add_cancel] at this)
      rw [hcc] at h1 h2
      have ey : eI T k ∣ z - ((c + 1 : Nat) : Int) * vI T (k + 1) := h2
      have e1 : z - vI T (k + 1) = (z - ((c + 1 : Nat) : Int) * vI T (k + 1)) + (c : Int) * vI T (k + 1) := by
        rw [Int.natCast_add, Int.add_mul]; omega
      have e2 : strip T (k + 1) z = strip T (k + 1) (z - vI T (k + 1)) := by
        rw [e1, strip_low h hk ey (by omega), strip_succ, hcc]
      rw [chi_no hny, chi_no hnn, chi_eq (k := k + 1) (l := k + 1) hz hz2 e2]
      omega
  · have hz2 : ¬ eI T (k + 1) ∣ z - vI T (k + 1) := fun hx => hz (by have := Int.dvd_add hx hdv; rwa [Int.sub_add_cancel] at this)
    have hs := eI_dvd_step T k
    have hy : ¬ eI T k ∣ z := fun hx => hz (Int.dvd_trans hs hx)
    have hy2 : ¬ eI T k ∣ z - rI T (k + 1) * vI T (k + 1) := fun hx => hy (by have := Int.dvd_add hx hrv; rwa [Int.sub_add_cancel] at this)
    rw [chi_no hz, chi_no hz2, chi_no hy, chi_no hy2]
/-- Times all t^v(i) - 1, and times all t^(n(i) v(i)) - 1. -/
def vsN (T : List Int) : Nat → (Int → Int) → Int → Int
  | 0, f => f
  | k + 1, f => nd (vI T (k + 1)) (vsN T k f)
def wsN (T : List Int) : Nat → (Int → Int) → Int → Int
  | 0, f => f
  | k + 1, f => nd (rI T (k + 1) * vI T (k + 1)) (wsN T k f)
theorem vsN_nd (T : List Int) (d : Int) : ∀ k f, vsN T k (nd d f) = nd d (vsN T k f) := by
  intro k
  induction k with
  | zero => intro f; rfl
  | succ k ih => intro f; show nd _ (vsN T k (nd d f)) = _; rw [ih, nd_comm]; rfl
theorem chi_all {T : List Int} (h : BraOk T) : ∀ k, k < T.length → nd (vI T 0) (vsN T k (chi T k)) = wsN T k delF := by
  intro k
  induction k with
  | zero => intro _; exact chi_zero h
  | succ k ih =>
    intro hk
    show nd (vI T 0) (nd (vI T (k + 1)) (vsN T k (chi T (k + 1)))) = nd (rI T (k + 1) * vI T (k + 1)) (wsN T k delF)
    rw [← vsN_nd T (vI T (k + 1)), chi_step h hk, vsN_nd, nd_comm, ih (by omega)]
theorem chi_val {T : List Int} (h : BraOk T) (z : Int) : chi T (T.length - 1) z = if valB T z = true then -1 else 0 := by
  unfold chi
  by_cases hv : valB T z = true
  · rw [if_pos hv, if_pos ⟨e_last h z, (val_iff h z).1 ((valB_iff h z).1 hv)⟩]
  · rw [if_neg hv, if_neg (fun x => hv ((valB_iff h z).2 ((val_iff h z).2 x.2)))]
theorem spI_chi {T : List Int} (h : BraOk T) : spI T = nd 1 (chi T (T.length - 1)) := by
  funext z
  unfold nd spI
  rw [chi_val h, chi_val h]
  split <;> split <;> rfl
/-- The polynomial times the binomials below is the product of the binomials above. -/
theorem spI_prod {T : List Int} (h : BraOk T) : nd (vI T 0) (vsN T (T.length - 1) (spI T)) = nd 1 (wsN T (T.length - 1) delF) := by
  have hl := h.len
  rw [spI_chi h, vsN_nd, nd_comm, chi_all h _ (by omega)]
end Go.Proofs.Ytiinceflafigeaa

/- Products and quotients of polynomials by binomials, as rows of coefficients. No program in sight. -/
namespace Go.Proofs.Ytiinceflafigeaa
open Go.RowKit

/-- The coefficient at z, and 0 outside. -/
def gz (p : List Int) (z : Int) : Int := if 0 ≤ z ∧ z < p.length then gI p z.toNat else 0
theorem gz_in {p : List Int} {i : Nat} (h : i < p.length) : gz p i = gI p i := by
  unfold gz; rw [if_pos (by omega)]; rfl
theorem gz_neg {p : List Int} {z : Int} (h : z < 0) : gz p z = 0 := by unfold gz; rw [if_neg (by omega)]
theorem gz_big {p : List Int} {z : Int} (h : (p.length : Int) ≤ z) : gz p z = 0 := by unfold gz; rw [if_neg (by omega)]
theorem gz_ext {p q : List Int} (hl : p.length = q.length) (h : gz p = gz q) : p = q := by
  refine gI_ext hl fun i hi => ?_
  have := congrFun h (i : Int)
  rwa [gz_in hi, gz_in (by omega)] at this
/-- t^d - 1. -/
def binL (d : Nat) : List Int := (List.range (d + 1)).map fun i => if i = 0 then -1 else if i = d then 1 else 0
@[simp] theorem binL_len (d : Nat) : (binL d).length = d + 1 := by simp [binL]
theorem gI_binL {d i : Nat} (h : i < d + 1) : gI (binL d) i = if i = 0 then -1 else if i = d then 1 else 0 := by
  rw [gI_lt (by simpa using h)]; simp [binL]
theorem binL_bd {d i : Nat} (h : i < d + 1) : -1 ≤ gI (binL d) i ∧ gI (binL d) i ≤ 1 := by
  rw [gI_binL h]; split <;> (try split) <;> omega
/-- The product's coefficients when k numbers of q have been taken, and i of p with the next. -/
def cvS (p q : List Int) (k : Nat) (z : Int) : Int := sumTo (fun j => gI q j * gz p (z - j)) k
def cvL (p q : List Int) (N k i : Nat) : List Int := (List.range N).map fun (z : Nat) => cvS p q k z + if k ≤ z ∧ z < k + i then gI q k * gz p ((z : Int) - k) else 0
@[simp] theorem cvL_len (p q : List Int) (N k i : Nat) : (cvL p q N k i).length = N := by simp [cvL]
theorem gI_cvL {p q : List Int} {N k i z : Nat} (h : z < N) : gI (cvL p q N k i) z = cvS p q k z + if k ≤ z ∧ z < k + i then gI q k * gz p ((z : Int) - k) else 0 := by
  rw [gI_lt (by simpa using h)]; simp [cvL]
theorem cvL_start (p q : List Int) (N : Nat) : cvL p q N 0 0 = List.replicate N 0 := by
  refine gI_ext (by simp) fun i hi => ?_
  rw [cvL_len] at hi
  rw [gI_cvL hi, gI_rep hi, if_neg (by omega)]; rfl
theorem cvL_set {p q : List Int} {N k i : Nat} (hi : i < p.length) : (cvL p q N k i).set (i + k) (gI (cvL p q N k i) (i + k) + gI p i * gI q k) = cvL p q N k (i + 1) := by
  refine gI_ext (by simp) fun z hz => ?_
  have hz' : z < N := by simpa using hz
  by_cases e : i + k = z
  · subst e
    rw [gI_set_at (by simpa using hz'), gI_cvL hz', gI_cvL hz', if_neg (by omega), if_pos (by omega), show ((i + k : Nat) : Int) - k = i by omega, gz_in hi, Int.mul_comm]
    omega
  · rw [gI_set_ne e, gI_cvL hz', gI_cvL hz']
    congr 1
    by_cases h2 : k ≤ z ∧ z < k + i
    · rw [if_pos h2, if_pos (by omega)]
    · rw [if_neg h2, if_neg (by omega)]
theorem cvL_next {p q : List Int} {N k : Nat} : cvL p q N k p.length = cvL p q N (k + 1) 0 := by
  refine gI_ext (by simp) fun z hz => ?_
  have hz' : z < N := by simpa using hz
  rw [gI_cvL hz', gI_cvL hz', if_neg (show ¬ (k + 1 ≤ z ∧ z < k + 1 + 0) by omega)]
  unfold cvS
  rw [sumTo_succ]
  by_cases h : k ≤ z ∧ z < k + p.length
  · rw [if_pos h]; omega
  · rw [if_neg h]
    have : gz p ((z : Int) - k) = 0 := by
      unfold gz; rw [if_neg (by omega)]
    rw [this]; omega
theorem cvL_skip {p q : List Int} {N k : Nat} (h : gI q k = 0) : cvL p q N k 0 = cvL p q N (k + 1) 0 := by
  refine gI_ext (by simp) fun z hz => ?_
  have hz' : z < N := by simpa using hz
  rw [gI_cvL hz', gI_cvL hz', if_neg (by omega), if_neg (by omega)]
  unfold cvS
  rw [sumTo_succ, h]
  omega
theorem sum_ends {f : Nat → Int} {d : Nat} (hd : 1 ≤ d) (h : ∀ i, 1 ≤ i → i < d → f i = 0) : sumTo f (d + 1) = f 0 + f d := by
  have key : ∀ k, 1 ≤ k → k ≤ d → sumTo f k = f 0 := by
    intro k
    induction k with
    | zero => intro h1 _; omega
    | succ k ih =>
      intro _ hk
      rw [sumTo_succ]
      by_cases e : k = 0
      · subst e; rw [sumTo_zero]; omega
      · rw [ih (by omega) (by omega), h k (by omega) (by omega)]; omega
  rw [sumTo_succ, key d hd (Nat.le_refl _)]
theorem cvL_bin {p : List Int} {d : Nat} (hd : 1 ≤ d) : gz (cvL p (binL d) (p.length + d) (d + 1) 0) = nd d (gz p) := by
  funext z
  unfold nd
  by_cases h0 : z < 0
  · rw [gz_neg h0, gz_neg h0, gz_neg (by omega)]; rfl
  · obtain ⟨n, rfl⟩ := Int.eq_ofNat_of_zero_le (show 0 ≤ z by omega)
    by_cases h1 : n < p.length + d
    · rw [show gz (cvL p (binL d) (p.length + d) (d + 1) 0) (n : Int) = _ from gz_in (by simpa using h1), gI_cvL h1, if_neg (by omega)]
      unfold cvS
      rw [sum_ends hd (fun i a b => by rw [gI_binL (by omega), if_neg (by omega), if_neg (by omega)]; omega), gI_binL (by omega), gI_binL (by omega), if_pos rfl, if_neg (by omega), if_pos rfl]
      have e : (n : Int) - ((0 : Nat) : Int) = n := by omega
      rw [e]
      omega
    · rw [gz_big (by rw [cvL_len]; omega), gz_big (show (p.length : Int) ≤ (n : Int) by omega), gz_big (by omega)]; rfl
/-- How the quotient's loop stands: the numbers of the quotient below k are not yet known. -/
def QuoI (p O R : List Int) (d k : Nat) : Prop := O.length + d = p.length ∧ R.length = p.length ∧ (∀ i, i < k → i < O.length → gI O i = 0) ∧ ∀ z, gz R z = gz p z - nd d (gz O) z
theorem gz_set {L : List Int} {i : Nat} {x : Int} (h : i < L.length) (z : Int) : gz (L.set i x) z = if z = i then x else gz L z := by
  unfold gz
  by_cases hz : 0 ≤ z ∧ z < L.length
  · rw [if_pos (by simpa using hz), if_pos hz]
    by_cases e : z = i
    · subst e; rw [if_pos rfl]; exact gI_set_at h
    · rw [if_neg e, gI_set_ne (by omega)]
  · rw [if_neg (by simpa using hz), if_neg hz, if_neg (by omega)]
theorem quo_start {p : List Int} {d : Nat} (hd : d ≤ p.length) : QuoI p (List.replicate (p.length - d) 0) p d (p.length - d) := by
  have hz : ∀ z, gz (List.replicate (p.length - d) 0) z = 0 := by
    intro z
    by_cases h : 0 ≤ z ∧ z < ((p.length - d : Nat) : Int)
    · unfold gz; rw [if_pos (by simpa using h), gI_rep (by omega)]
    · unfold gz; rw [if_neg (by simpa using h)]
  refine ⟨by simp; omega, rfl, fun i hi h => gI_rep hi, fun z => ?_⟩
  unfold nd
  rw [hz, hz]
  omega
theorem quo_skip {p O R : List Int} {d k : Nat} (h : QuoI p O R d (k + 1)) (hk : k < O.length) (ht : gI R (k + d) = 0) : QuoI p (O.set k (gI R (k + d))) R d k := by
  have hO : O.set k (gI R (k + d)) = O := by
    refine gI_ext (by simp) fun i hi => ?_
    by_cases e : k = i
    · subst e; rw [gI_set_at hk, ht, h.2.2.1 k (by omega) hk]
    · rw [gI_set_ne e]
  rw [hO]
  exact ⟨h.1, h.2.1, fun i hi hl => h.2.2.1 i (by omega) hl, h.2.2.2⟩
theorem quo_step {p O R : List Int} {d k : Nat} {x y : Int} (h : QuoI p O R d (k + 1)) (hk : k < O.length) (hd : 1 ≤ d) (hx : x = gI R k + -(gI R (k + d)) * gI (binL d) 0) (hy : y = gI R (k + d) + -(gI R (k + d)) * gI (binL d) d) : QuoI p (O.set k (gI R (k + d))) ((R.set k x).set (k + d) y) d k := by
  obtain ⟨h1, h2, h3, h4⟩ := h
  rw [gI_binL (by omega), if_pos rfl] at hx
  rw [gI_binL (by omega), if_neg (by omega), if_pos rfl] at hy
  refine ⟨by simpa using h1, by simpa using h2, fun i hi hl => ?_, fun z => ?_⟩
  · rw [gI_set_ne (by omega)]; exact h3 i (by omega) (by simpa using hl)
  · have hz := h4 z
    unfold nd at hz ⊢
    rw [gz_set (by simp; omega), gz_set (by omega), gz_set hk, gz_set hk, hz]
    have hO : gz O (k : Int) = 0 := by rw [gz_in hk]; exact h3 k (by omega) hk
    have hk1 := h4 (k : Int)
    have hk2 := h4 (((k + d : Nat)) : Int)
    unfold nd at hk1 hk2
    rw [gz_in (by omega)] at hk1 hk2
    rw [show (((k + d : Nat)) : Int) - d = k by omega] at hk2
    generalize gI R (k + d) = t at *
    by_cases e1 : z = ((k + d : Nat) : Int)
    · subst e1
      rw [if_pos rfl, show (((k + d : Nat)) : Int) - d = k by omega, if_pos rfl, if_neg (by omega)]
      omega
    · rw [if_neg e1]
      by_cases e2 : z = (k : Int)
      · subst e2
        rw [if_pos rfl, if_pos rfl, if_neg (by omega)]
        omega
      · rw [if_neg e2, if_neg e2, if_neg (by omega)]
theorem quo_end {p O R : List Int} {d : Nat} (h : QuoI p O R d 0) (hz : ∀ i, i < R.length → gI R i = 0) : nd d (gz O) = gz p := by
  funext z
  have h4 := h.2.2.2 z
  have : gz R z = 0 := by
    unfold gz
    by_cases e : 0 ≤ z ∧ z < R.length
    · rw [if_pos e]; exact hz _ (by omega)
    · rw [if_neg e]
  omega
/-- d, n times. -/
def itM (d : Int) : Nat → (Int → Int) → Int → Int
  | 0, f => f
  | n + 1, f => nd d (itM d n f)
def upM (R : List (List Int)) (f : Int → Int) : Int → Int := R.foldl (fun f r => itM (gI r 0) (gI r 1).toNat f) f
def dnM (R : List (List Int)) (f : Int → Int) : Int → Int := R.foldl (fun f r => itM (gI r 0) (-(gI r 1)).toNat f) f
def upD (R : List (List Int)) : Int := R.foldl (fun s r => s + gI r 0 * ((gI r 1).toNat : Int)) 0
def dnD (R : List (List Int)) : Int := R.foldl (fun s r => s + gI r 0 * ((-(gI r 1)).toNat : Int)) 0
theorem take_gR {R : List (List Int)} {k : Nat} (h : k < R.length) : R.take (k + 1) = R.take k ++ [gR R k] := by rw [List.take_succ_eq_append_getElem h, gR_lt h]
theorem upM_step {R : List (List Int)} {k : Nat} (h : k < R.length) (f : Int → Int) : upM (R.take (k + 1)) f = itM (gI (gR R k) 0) (gI (gR R k) 1).toNat (upM (R.take k) f) := by
  rw [take_gR h]; unfold upM; rw [List.foldl_append]; rfl
theorem dnM_step {R : List (List Int)} {k : Nat} (h : k < R.length) (f : Int → Int) : dnM (R.take (k + 1)) f = itM (gI (gR R k) 0) (-(gI (gR R k) 1)).toNat (dnM (R.take k) f) := by
  rw [take_gR h]; unfold dnM; rw [List.foldl_append]; rfl
theorem upD_step {R : List (List Int)} {k : Nat} (h : k < R.length) : upD (R.take (k + 1)) = upD (R.take k) + gI (gR R k) 0 * ((gI (gR R k) 1).toNat : Int) := by
  rw [take_gR h]; unfold upD; rw [List.foldl_append]; rfl
theorem dnD_step {R : List (List Int)} {k : Nat} (h : k < R.length) : dnD (R.take (k + 1)) = dnD (R.take k) + gI (gR R k) 0 * ((-(gI (gR R k) 1)).toNat : Int) := by
  rw [take_gR h]; unfold dnD; rw [List.foldl_append]; rfl
theorem itM_nd (d e : Int) : ∀ n f, itM d n (nd e f) = nd e (itM d n f) := by
  intro n
  induction n with
  | zero => intro f; rfl
  | succ n ih => intro f; show nd d (itM d n (nd e f)) = _; rw [ih, nd_comm]; rfl
theorem dnM_nd (e : Int) : ∀ (R : List (List Int)) f, dnM R (nd e f) = nd e (dnM R f) := by
  intro R
  induction R with
  | nil => intro f; rfl
  | cons r R ih =>
    intro f
    show dnM R (itM (gI r 0) (-(gI r 1)).toNat (nd e f)) = nd e (dnM R (itM (gI r 0) (-(gI r 1)).toNat f))
    rw [itM_nd, ih]
/-- A product of binomials: q times those below is the product of those above. -/
def BinP (R : List (List Int)) (q : List Int) : Prop := dnM R (gz q) = upM R delF ∧ (q.length : Int) = 1 + upD R - dnD R
theorem upM_app (R S : List (List Int)) (f : Int → Int) : upM (R ++ S) f = upM S (upM R f) := by unfold upM; rw [List.foldl_append]
theorem dnM_app (R S : List (List Int)) (f : Int → Int) : dnM (R ++ S) f = dnM S (dnM R f) := by unfold dnM; rw [List.foldl_append]
theorem foldl_plus {g : List Int → Int} : ∀ (S : List (List Int)) (s : Int), S.foldl (fun s r => s + g r) s = s + S.foldl (fun s r => s + g r) 0 := by
  intro S
  induction S with
  | nil => intro s; simp
  | cons r S ih => intro s; rw [List.foldl_cons, List.foldl_cons, ih, ih (0 + g r)]; omega
theorem upD_app (R S : List (List Int)) : upD (R ++ S) = upD R + upD S := by unfold upD; rw [List.foldl_append, foldl_plus]
theorem dnD_app (R S : List (List Int)) : dnD (R ++ S) = dnD R + dnD S := by unfold dnD; rw [List.foldl_append, foldl_plus]
theorem up_two (a b : Int) (f : Int → Int) : upM [[a, 1], [b, -1]] f = nd a f ∧ dnM [[a, 1], [b, -1]] f = nd b f := ⟨rfl, rfl⟩
theorem up_last (a b : Int) (f : Int → Int) : upM [[a, -1], [b, 1]] f = nd b f ∧ dnM [[a, -1], [b, 1]] f = nd a f := ⟨rfl, rfl⟩
theorem deg_two (a b : Int) : upD [[a, 1], [b, -1]] = a ∧ dnD [[a, 1], [b, -1]] = b ∧ upD [[b, -1], [a, 1]] = a ∧ dnD [[b, -1], [a, 1]] = b := by
  have e1 : (1 : Int).toNat = 1 := rfl
  have e2 : (-1 : Int).toNat = 0 := rfl
  have e3 : (-(-1) : Int).toNat = 1 := rfl
  refine ⟨?_, ?_, ?_, ?_⟩ <;> simp only [upD, dnD, gI, List.foldl_cons, List.foldl_nil, List.getD_cons_zero, List.getD_cons_succ, e1, e2, e3] <;> omega
theorem sb_up (T : List Int) (f : Int → Int) : ∀ k, upM (sbTo T k) f = wsN T k f ∧ dnM (sbTo T k) f = vsN T k f := by
  intro k
  induction k with
  | zero => exact ⟨rfl, rfl⟩
  | succ k ih => rw [sbTo_succ, upM_app, dnM_app, ih.1, ih.2, (up_two _ _ _).1, (up_two _ _ _).2]; exact ⟨rfl, rfl⟩
theorem sb_deg (T : List Int) : ∀ k, upD (sbTo T k) - dnD (sbTo T k) = conTo T k - 1 + gI T 0 := by
  intro k
  induction k with
  | zero => rw [conTo_zero]; show (0 : Int) - 0 = _; omega
  | succ k ih =>
    obtain ⟨e1, e2, _, _⟩ := deg_two (rI T (k + 1) * vI T (k + 1)) (vI T (k + 1))
    rw [sbTo_succ, upD_app, dnD_app, e1, e2, conTo_succ, Int.sub_mul]
    omega
theorem vsN_neg {T : List Int} (h : BraOk T) {f : Int → Int} (hf : ∀ z, z < 0 → f z = 0) : ∀ k, k < T.length → ∀ z, z < 0 → vsN T k f z = 0 := by
  intro k
  induction k with
  | zero => intro _; exact hf
  | succ k ih =>
    intro hk z hz
    have hv := (vI_bd h hk).1
    show nd _ (vsN T k f) z = 0
    unfold nd
    rw [ih (by omega) z hz, ih (by omega) _ (by omega)]; rfl
theorem vsN_inj {T : List Int} (h : BraOk T) {f g : Int → Int} (hf : ∀ z, z < 0 → f z = 0) (hg : ∀ z, z < 0 → g z = 0) : ∀ k, k < T.length → vsN T k f = vsN T k g → f = g := by
  intro k
  induction k with
  | zero => intro _ e; exact e
  | succ k ih =>
    intro hk e
    refine ih (by omega) (nd_inj (d := vI T (k + 1)) (by have := (vI_bd h hk).1; omega) (fun z hz => ?_) e)
    rw [vsN_neg h hf k (by omega) z hz, vsN_neg h hg k (by omega) z hz]
theorem spI_neg {T : List Int} (h : BraOk T) {z : Int} (hz : z < 0) : spI T z = 0 := by
  rw [spI_of (valB_neg h hz) (valB_neg h (by omega : z - 1 < 0))]; rfl
/-- The product of the binomials is the polynomial of the semigroup. -/
theorem binP_sp {T q : List Int} (h : BraOk T) (hq : BinP (sbL T) q) : q = poL T ((conI T).toNat + 1) := by
  have hcn := conI_nn h
  have hl := h.len
  obtain ⟨h1, h2⟩ := hq
  by_cases e : T.length = 1
  · rw [sbL_one e] at h1 h2
    have hc : conI T = 0 := by
      have hlast := h.last
      unfold conI
      rw [e] at hlast ⊢
      show 1 - gI T 0 = 0
      have : eI T 0 = gI T 0 := rfl
      simp at hlast
      omega
    rw [hc]
    have hlen : q.length = 1 := by simp [upD, dnD] at h2; omega
    refine gI_ext (by simp [hlen]) fun i hi => ?_
    have hi0 : i = 0 := by omega
    subst hi0
    have h3 := congrFun h1 0
    have h4 : gz q 0 = 1 := h3
    have h5 : gI q 0 = 1 := by rw [← h4]; exact (gz_in (i := 0) (by omega)).symm
    rw [h5, gI_lt (by simp)]
    simp only [poL, List.getElem_map, List.getElem_range]
    rw [show spI T ((0 : Nat) : Int) = _ from spI_of (valB_zero h) (valB_neg h (by decide))]; rfl
  · rw [sbL_more e] at h1 h2
    obtain ⟨_, _, e3, e4⟩ := deg_two 1 (vI T 0)
    have hd := sb_deg T (T.length - 1)
    have hc : conTo T (T.length - 1) = conI T := rfl
    rw [upD_app, dnD_app, e3, e4, vI_zero] at h2
    rw [upM_app, dnM_app, (up_last _ _ _).1, (up_last _ _ _).2, (sb_up T _ _).1, (sb_up T _ _).2, ← spI_prod h] at h1
    have hlen : q.length = (conI T).toNat + 1 := by omega
    have hv0 := (vI_bd h hl).1
    have h6 := vsN_inj h (fun z hz => gz_neg hz) (fun z hz => spI_neg h hz) (T.length - 1) (by omega) (nd_inj (d := vI T 0) (by omega) (fun z hz => by rw [vsN_neg h (fun z hz => gz_neg hz) _ (by omega) z hz, vsN_neg h (fun z hz => spI_neg h hz) _ (by omega) z hz]) h1)
    refine gI_ext (by simp [hlen]) fun i hi => ?_
    have h7 := congrFun h6 (i : Int)
    rw [gz_in hi] at h7
    rw [h7, gI_lt (by rw [poL_len]; omega)]
    simp only [poL, List.getElem_map, List.getElem_range]
end Go.Proofs.Ytiinceflafigeaa
