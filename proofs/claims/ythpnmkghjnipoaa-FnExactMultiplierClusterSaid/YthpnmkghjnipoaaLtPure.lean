/- The least threshold: the fraction is found the same way whether it is reduced at once or at the end. No program in sight. -/
import Derived.Test.YthpnmkghjnipoaaUnlBd
import Derived.Test.YthpnmkghjnipoaaBogPure
import Derived.Test.YthpnmkghjnipoaaDisc
namespace Go.Proofs.Ythpnmkghjnipoaa

/-- Top and bottom of the least fraction of the first k points. -/
def ltTo (V D : List Int) : Nat → Int × Int
  | 0 => (1, 0)
  | k + 1 => if 0 < gI V k ∧ (1 + gI D k) * (ltTo V D k).2 < (ltTo V D k).1 * gI V k then (1 + gI D k, gI V k) else ltTo V D k
theorem ltTo_yes {V D : List Int} {k : Nat} (h : 0 < gI V k) (h2 : (1 + gI D k) * (ltTo V D k).2 < (ltTo V D k).1 * gI V k) : ltTo V D (k + 1) = (1 + gI D k, gI V k) := by
  show (if _ then _ else _) = _
  rw [if_pos ⟨h, h2⟩]
theorem ltTo_no {V D : List Int} {k : Nat} (h : ¬ (0 < gI V k ∧ (1 + gI D k) * (ltTo V D k).2 < (ltTo V D k).1 * gI V k)) : ltTo V D (k + 1) = ltTo V D k := by
  show (if _ then _ else _) = _
  rw [if_neg h]
theorem ltTo_bd {V D : List Int} {n : Nat} (hV : ∀ i, i < n → gI V i ≤ 120000000000) (hD : ∀ i, i < n → 0 ≤ gI D i ∧ gI D i ≤ 2000000) : ∀ k, k ≤ n → 1 ≤ (ltTo V D k).1 ∧ (ltTo V D k).1 ≤ 2000001 ∧ 0 ≤ (ltTo V D k).2 ∧ (ltTo V D k).2 ≤ 120000000000 := by
  intro k
  induction k with
  | zero => intro _; show (1 : Int) ≤ 1 ∧ (1 : Int) ≤ 2000001 ∧ (0 : Int) ≤ 0 ∧ (0 : Int) ≤ 120000000000; omega
  | succ k ih =>
    intro hk
    have ih := ih (by omega)
    by_cases h : 0 < gI V k ∧ (1 + gI D k) * (ltTo V D k).2 < (ltTo V D k).1 * gI V k
    · rw [ltTo_yes h.1 h.2]
      have := hD k (by omega)
      have := hV k (by omega)
      have := h.1
      show 1 ≤ 1 + gI D k ∧ 1 + gI D k ≤ 2000001 ∧ 0 ≤ gI V k ∧ gI V k ≤ 120000000000
      omega
    · rw [ltTo_no h]; exact ih

/-- The same, reduced; 0 / 0 where there is none yet. -/
def rdF (p : Int × Int) : Int × Int := if p.2 = 0 then (0, 0) else (p.1 / gcdI p.1 p.2, p.2 / gcdI p.1 p.2)
theorem rdF_zero {p : Int × Int} (h : p.2 = 0) : rdF p = (0, 0) := by simp [rdF, h]
theorem rdF_pos {p : Int × Int} (h : 0 < p.2) : rdF p = (p.1 / gcdI p.1 p.2, p.2 / gcdI p.1 p.2) := by unfold rdF; rw [if_neg (by omega)]
theorem red_mul (a b : Int) : a / gcdI a b * gcdI a b = a ∧ b / gcdI a b * gcdI a b = b := ⟨Int.ediv_mul_cancel (gcdI_dvd_left a b), Int.ediv_mul_cancel (gcdI_dvd_right a b)⟩
theorem red_bot {a b : Int} (ha : 0 < a) (hb : 0 < b) : 1 ≤ b / gcdI a b ∧ b / gcdI a b ≤ b ∧ 1 ≤ a / gcdI a b ∧ a / gcdI a b ≤ a := by
  have hg := gcdI_pos (a := a) (b := b) ha
  have h := red_mul a b
  refine ⟨?_, Int.ediv_le_self _ (by omega), ?_, Int.ediv_le_self _ (by omega)⟩
  · apply Int.le_of_not_gt
    intro hlt
    have := Int.mul_nonpos_of_nonpos_of_nonneg (show b / gcdI a b ≤ 0 by omega) (Int.le_of_lt hg)
    omega
  · apply Int.le_of_not_gt
    intro hlt
    have := Int.mul_nonpos_of_nonpos_of_nonneg (show a / gcdI a b ≤ 0 by omega) (Int.le_of_lt hg)
    omega
theorem red_gcd {a b : Int} (ha : 0 < a) : gcdI (a / gcdI a b) (b / gcdI a b) = 1 := by
  have hg := gcdI_pos (a := a) (b := b) ha
  have h := red_mul a b
  have h1 : gcdI (gcdI a b * (a / gcdI a b)) (gcdI a b * (b / gcdI a b)) = ((gcdI a b).natAbs : Int) * gcdI (a / gcdI a b) (b / gcdI a b) := by
    unfold gcdI
    rw [Int.natAbs_mul, Int.natAbs_mul, Nat.gcd_mul_left, Int.natCast_mul]
  rw [Int.mul_comm _ (a / _), Int.mul_comm _ (b / _), h.1, h.2, Int.natAbs_of_nonneg (by omega)] at h1
  generalize gcdI (a / gcdI a b) (b / gcdI a b) = d at h1
  generalize gcdI a b = g at h1 hg
  have h2 : g * 1 = g * d := by omega
  exact (Int.eq_of_mul_eq_mul_left (by omega) h2).symm
/-- Reduced fractions compare like the others. -/
theorem red_lt {a b c d : Int} (ha : 0 < a) (hc : 0 < c) : (a / gcdI a b * (d / gcdI c d) < c / gcdI c d * (b / gcdI a b)) ↔ (a * d < c * b) := by
  have g1 := gcdI_pos (a := a) (b := b) ha
  have g2 := gcdI_pos (a := c) (b := d) hc
  have h1 := red_mul a b
  have h2 := red_mul c d
  generalize gcdI a b = g at g1 h1
  generalize gcdI c d = h at g2 h2
  generalize a / g = x at h1
  generalize b / g = y at h1
  generalize c / h = z at h2
  generalize d / h = u at h2
  obtain ⟨rfl, rfl⟩ := h1
  obtain ⟨rfl, rfl⟩ := h2
  have e1 : x * g * (u * h) = x * u * (g * h) := by grind
  have e2 : z * h * (y * g) = z * y * (g * h) := by grind
  have hp := Int.mul_pos g1 g2
  rw [e1, e2]
  constructor
  · intro hlt; exact Int.mul_lt_mul_of_pos_right hlt hp
  · intro hlt; exact Int.lt_of_mul_lt_mul_right hlt (Int.le_of_lt hp)
/-- A round of the reference. -/
theorem rdF_step {V D : List Int} {n k : Nat} (hV : ∀ i, i < n → gI V i ≤ 120000000000) (hD : ∀ i, i < n → 0 ≤ gI D i ∧ gI D i ≤ 2000000) (hk : k < n) (hv : 0 < gI V k) :
    rdF (ltTo V D (k + 1)) = if (rdF (ltTo V D k)).2 = 0 ∨ (1 + gI D k) / gcdI (1 + gI D k) (gI V k) * (rdF (ltTo V D k)).2 < (rdF (ltTo V D k)).1 * (gI V k / gcdI (1 + gI D k) (gI V k)) then ((1 + gI D k) / gcdI (1 + gI D k) (gI V k), gI V k / gcdI (1 + gI D k) (gI V k)) else rdF (ltTo V D k) := by
  have hb := ltTo_bd hV hD k (by omega)
  have hd := hD k hk
  have hr : rdF (1 + gI D k, gI V k) = ((1 + gI D k) / gcdI (1 + gI D k) (gI V k), gI V k / gcdI (1 + gI D k) (gI V k)) := rdF_pos (p := (1 + gI D k, gI V k)) hv
  by_cases h0 : (ltTo V D k).2 = 0
  · rw [if_pos (.inl (by rw [rdF_zero h0])), ltTo_yes hv (by rw [h0, Int.mul_zero]; exact Int.mul_pos (by omega) hv), hr]
  · have hp : 0 < (ltTo V D k).2 := by omega
    have hrk := rdF_pos hp
    have hb2 := red_bot (a := (ltTo V D k).1) (by omega) hp
    rw [hrk]
    have hiff := red_lt (a := 1 + gI D k) (b := gI V k) (c := (ltTo V D k).1) (d := (ltTo V D k).2) (by omega) (by omega)
    by_cases hlt : (1 + gI D k) * (ltTo V D k).2 < (ltTo V D k).1 * gI V k
    · rw [if_pos (.inr (hiff.2 hlt)), ltTo_yes hv hlt, hr]
    · rw [if_neg (by
        intro h
        rcases h with h | h
        · have h : (ltTo V D k).2 / gcdI (ltTo V D k).1 (ltTo V D k).2 = 0 := h
          omega
        · exact hlt (hiff.1 h)), ltTo_no (fun h => hlt h.2), hrk]
theorem rdF_skip {V D : List Int} {k : Nat} (hv : ¬ 0 < gI V k) : ltTo V D (k + 1) = ltTo V D k := ltTo_no (fun h => hv h.1)

/-- Numbers that are not negative have orders that are not negative. -/
theorem ordF_nn {P S W : List Int} (hc : CluOk P S W) {A : Nat → Int} (hA : ∀ i, i < P.length → 0 ≤ A i) : ∀ i, i < P.length → 0 ≤ ordF P S A i := by
  intro i
  induction i using Nat.strongRecOn with
  | _ i ih =>
    intro hi
    rw [ordF_eq hc A hi, sum_nB hc hi]
    have h1 := hA i hi
    by_cases h0 : i = 0
    · subst h0
      have hz := clu_zero hc
      rw [if_pos rfl, if_neg (by omega)]; omega
    · obtain ⟨p1, p2, p3⟩ := clu_place hc hi (by omega)
      rw [if_neg h0]
      have h2 := ih (gI P i).toNat (by omega) (by omega)
      split
      · have h3 := ih (gI S i).toNat (by omega) (by omega)
        omega
      · omega
/-- The weights of a consistent cluster are not negative. -/
theorem con_nn {P S W : List Int} (hc : CluOk P S W) {A : Nat → Int} (he : ∀ i, i < P.length → 0 ≤ exF P S A i) : ∀ d i, i + d = P.length → 0 < d → 0 ≤ A i := by
  intro d
  induction d using Nat.strongRecOn with
  | _ d ih =>
    intro i hid hd
    have h1 := he i (by omega)
    unfold exF at h1
    have h2 : 0 ≤ sumTo (fun j => nB P S j i * A j) P.length := by
      have key : ∀ n, n ≤ P.length → 0 ≤ sumTo (fun j => nB P S j i * A j) n := by
        intro n
        induction n with
        | zero => intro _; exact Int.le_refl _
        | succ n ihn =>
          intro hn
          have h3 := ihn (by omega)
          rw [sumTo_succ]
          have h4 : 0 ≤ nB P S n i * A n := by
            by_cases hle : n ≤ i
            · rw [nB_ge hc (by omega) hle]; omega
            · exact Int.mul_nonneg (nB_nn _ _ _ _) (ih (P.length - n) (by omega) n (by omega) (by omega))
          omega
      exact key _ (Nat.le_refl _)
    omega
/-- The orders and the discrepancies of a consistent cluster. -/
theorem lt_num {P S W : List Int} (hc : CluOk P S W) (he : nonNeg (exTo (proxL P S) W P.length) = true) : (∀ i, i < P.length → 0 ≤ gI (ordTo (fun j => gI W j) P S P.length) i ∧ gI (ordTo (fun j => gI W j) P S P.length) i ≤ 120000000000) ∧ ∀ i, i < P.length → 0 ≤ gI (discTo P S P.length) i ∧ gI (discTo P S P.length) i ≤ 2000000 := by
  have hl : W.length = P.length := hc.1.2.2.2
  have h24 := hc.1.2.1
  have hex : ∀ i, i < P.length → 0 ≤ exF P S (fun j => gI W j) i := by
    intro i hi
    rw [← exL_at hc hl hi]
    have h1 : ∀ i, i < (exTo (proxL P S) W P.length).length → 0 ≤ gI (exTo (proxL P S) W P.length) i := by simpa [nonNeg] using he
    exact h1 i (by rw [exTo_len]; omega)
  have hA : ∀ i, i < P.length → 0 ≤ gI W i := fun i hi => con_nn hc hex (P.length - i) i (by omega) (by omega)
  refine ⟨fun i hi => ⟨ordF_nn hc hA i hi, ?_⟩, fun i hi => ⟨ordF_nn hc (A := fun _ => 1) (fun _ _ => by omega) i hi, ?_⟩⟩
  · have h1 := (ord_m0 hc (A := fun j => gI W j) (b := 100000) (by omega) (fun i hi => by have := hc.2.1 i (by omega); exact this) i hi).2
    have hm := m0_bd hc hi
    have h2 : 100000 * ((i : Int) + 1) * mI P S i 0 ≤ 2400000 * 46368 := Int.mul_le_mul (by omega) hm.2 (by omega) (by omega)
    have h3 : gI (ordTo (fun j => gI W j) P S P.length) i = ordF P S (fun j => gI W j) i := rfl
    omega
  · have h1 := (ord_m0 hc (A := fun _ => (1 : Int)) (b := 1) (by omega) (fun i hi => by omega) i hi).2
    have hm := m0_bd hc hi
    have h2 : 1 * ((i : Int) + 1) * mI P S i 0 ≤ 24 * 46368 := Int.mul_le_mul (by omega) hm.2 (by omega) (by omega)
    have h3 : gI (discTo P S P.length) i = ordF P S (fun _ => 1) i := rfl
    omega

/-- Do the numbers of a fraction lie in their ranges? -/
def fitB (x y : Int) : Bool := inB x (-1000000000) 1000000000 && inB y 1 1000000000
def ltP (P S W : List Int) : Int × Int := ltTo (ordTo (fun j => gI W j) P S P.length) (discTo P S P.length) P.length
def ltR (P S W : List Int) : Int × Int := rdF (ltP P S W)
def ltG (P S W : List Int) : Bool := cluB P S W && nonNeg (exTo (proxL P S) W P.length)
def ltB (P S W : List Int) : Bool := ltG P S W && (decide ((ltP P S W).2 ≠ 0) && fitB (ltR P S W).1 (ltR P S W).2)
def ltC (P S W : List Int) : Int := if cluB P S W then (if nonNeg (exTo (proxL P S) W P.length) then (if (ltP P S W).2 = 0 then 5 else okC (fitB (ltR P S W).1 (ltR P S W).2) 3) else 5) else 1
theorem lt_1 {P S W : List Int} (h : cluB P S W = false) : ltB P S W = false ∧ ltC P S W = 1 := by simp [ltB, ltG, ltC, h]
theorem lt_2 {P S W : List Int} (h : cluB P S W = true) (h2 : nonNeg (exTo (proxL P S) W P.length) = false) : ltB P S W = false ∧ ltC P S W = 5 := by simp [ltB, ltG, ltC, h, h2]
theorem lt_3 {P S W : List Int} (h : cluB P S W = true) (h2 : nonNeg (exTo (proxL P S) W P.length) = true) (h3 : (ltP P S W).2 = 0) : ltB P S W = false ∧ ltC P S W = 5 := by simp [ltB, ltG, ltC, h, h2, h3]
theorem lt_4 {P S W : List Int} (h : cluB P S W = true) (h2 : nonNeg (exTo (proxL P S) W P.length) = true) (h3 : (ltP P S W).2 ≠ 0) : ltB P S W = fitB (ltR P S W).1 (ltR P S W).2 ∧ ltC P S W = okC (fitB (ltR P S W).1 (ltR P S W).2) 3 := by simp [ltB, ltG, ltC, h, h2, h3]
end Go.Proofs.Ythpnmkghjnipoaa
