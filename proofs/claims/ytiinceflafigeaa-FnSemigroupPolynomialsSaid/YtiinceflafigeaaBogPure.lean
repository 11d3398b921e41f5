/- The branch of some generators: its terms, and why its divisors are those of the generators. No program in sight. -/
import Derived.Test.YtiinceflafigeaaBraPure
import Derived.Test.YtiinceflafigeaaRowL
namespace Go.Proofs.Ytiinceflafigeaa

theorem gcdI_add {a b d : Int} (h : a ∣ d) : gcdI a (b + d) = gcdI a b := by
  have mk : ∀ x y c : Int, c ∣ x → c ∣ y → c ∣ gcdI x y := by
    intro x y c hx hy
    unfold gcdI
    have h1 : c.natAbs ∣ Nat.gcd x.natAbs y.natAbs := Nat.dvd_gcd (Int.natAbs_dvd_natAbs.2 hx) (Int.natAbs_dvd_natAbs.2 hy)
    exact Int.natAbs_dvd.1 (Int.natCast_dvd_natCast.2 h1)
  have e1 : gcdI a (b + d) ∣ gcdI a b := by
    refine mk _ _ _ (gcdI_dvd_left _ _) ?_
    have h1 := gcdI_dvd_right a (b + d)
    have h2 : gcdI a (b + d) ∣ d := Int.dvd_trans (gcdI_dvd_left _ _) h
    have := Int.dvd_sub h1 h2
    rwa [Int.add_sub_cancel] at this
  have e2 : gcdI a b ∣ gcdI a (b + d) := mk _ _ _ (gcdI_dvd_left _ _) (Int.dvd_add (gcdI_dvd_right a b) (Int.dvd_trans (gcdI_dvd_left _ _) h))
  exact Int.dvd_antisymm (gcdI_nn _ _) (gcdI_nn _ _) e1 e2

/-- The term i of the branch with the generators G. -/
def tI (G : List Int) : Nat → Int
  | 0 => gI G 0
  | 1 => gI G 1
  | i + 2 => tI G (i + 1) + gI G (i + 2) - eI G i / eI G (i + 1) * gI G (i + 1)
theorem tI_zero (G : List Int) : tI G 0 = gI G 0 := rfl
theorem tI_one (G : List Int) : tI G 1 = gI G 1 := rfl
theorem tI_two (G : List Int) (i : Nat) : tI G (i + 2) = tI G (i + 1) + gI G (i + 2) - eI G i / eI G (i + 1) * gI G (i + 1) := rfl
def tTo (G : List Int) (k : Nat) : List Int := (List.range k).map (tI G)
@[simp] theorem tTo_len (G : List Int) (k : Nat) : (tTo G k).length = k := by simp [tTo]
theorem tTo_succ (G : List Int) (k : Nat) : tTo G (k + 1) = tTo G k ++ [tI G k] := by simp [tTo, List.range_succ]
theorem gI_tTo {G : List Int} {k i : Nat} (h : i < k) : gI (tTo G k) i = tI G i := by rw [gI_lt (by simpa using h)]; simp [tTo]

theorem tI_dvd (G : List Int) : ∀ k, eI G k ∣ tI G k - gI G k ∧ eI G k ∣ tI G k := by
  intro k
  induction k with
  | zero => exact ⟨by rw [tI_zero, Int.sub_self]; exact Int.dvd_zero _, Int.dvd_refl _⟩
  | succ k ih =>
    cases k with
    | zero => exact ⟨by rw [tI_one, Int.sub_self]; exact Int.dvd_zero _, by rw [tI_one]; exact eI_dvd_term G 1⟩
    | succ k =>
      have h1 : eI G (k + 1) ∣ tI G (k + 2) - gI G (k + 2) := by
        have e : tI G (k + 2) - gI G (k + 2) = tI G (k + 1) - eI G k / eI G (k + 1) * gI G (k + 1) := by rw [tI_two]; omega
        rw [e]
        exact Int.dvd_sub ih.2 (Int.dvd_trans (eI_dvd_term G (k + 1)) (Int.dvd_mul_left _ _))
      have h2 : eI G (k + 2) ∣ tI G (k + 2) - gI G (k + 2) := Int.dvd_trans (eI_dvd_step G (k + 1)) h1
      refine ⟨h2, ?_⟩
      have := Int.dvd_add h2 (eI_dvd_term G (k + 2))
      rwa [Int.sub_add_cancel] at this
theorem tI_step (G : List Int) (k : Nat) : eI G k ∣ tI G (k + 1) - gI G (k + 1) := by
  cases k with
  | zero => rw [tI_one, Int.sub_self]; exact Int.dvd_zero _
  | succ k =>
    have e : tI G (k + 2) - gI G (k + 2) = tI G (k + 1) - eI G k / eI G (k + 1) * gI G (k + 1) := by rw [tI_two]; omega
    show eI G (k + 1) ∣ tI G (k + 2) - gI G (k + 2)
    rw [e]
    exact Int.dvd_sub (tI_dvd G (k + 1)).2 (Int.dvd_trans (eI_dvd_term G (k + 1)) (Int.dvd_mul_left _ _))
/-- The divisors of the terms are those of the generators. -/
theorem eI_tTo (G : List Int) (n : Nat) : ∀ k, k < n → eI (tTo G n) k = eI G k := by
  intro k
  induction k with
  | zero => intro h; show gI (tTo G n) 0 = gI G 0; rw [gI_tTo h, tI_zero]
  | succ k ih =>
    intro h
    rw [eI_succ, eI_succ, ih (by omega), gI_tTo h]
    have e : tI G (k + 1) = gI G (k + 1) + (tI G (k + 1) - gI G (k + 1)) := by omega
    rw [e]
    exact gcdI_add (tI_step G k)
theorem bog_first {G : List Int} {n : Nat} (hn : 0 < n) (h : braB (tTo G n) = true) : gI G 0 ≤ 64 := by
  have := (braB_iff.1 h).first
  rw [gI_tTo hn, tI_zero] at this
  exact this.2
theorem bog_falls {G : List Int} (hn : 0 < G.length) (h : braB (tTo G G.length) = true) : fallB G = true := by
  have hb := braB_iff.1 h
  rw [fallB_iff]
  refine ⟨fun i hi => ?_, ?_⟩
  · have := hb.fall i (by simpa using hi)
    rwa [eI_tTo G _ _ (by omega), eI_tTo G _ _ (by omega)] at this
  · have := hb.last
    rw [tTo_len] at this
    rwa [eI_tTo G _ _ (by omega)] at this

theorem e_bd {G : List Int} {B : Int} (hG : ∀ i, i < G.length → 1 ≤ gI G i ∧ gI G i ≤ B) (hn : 0 < G.length) (k : Nat) : 1 ≤ eI G k ∧ eI G k ≤ B := by
  have h0 := hG 0 hn
  have h1 := eI_pos (T := G) (by omega) k
  have h2 := eI_le0 (T := G) (by omega) k
  omega
theorem r_bd {G : List Int} {B : Int} (hG : ∀ i, i < G.length → 1 ≤ gI G i ∧ gI G i ≤ B) (hn : 0 < G.length) (k : Nat) : 0 ≤ eI G k / eI G (k + 1) ∧ eI G k / eI G (k + 1) ≤ B := by
  have h0 := e_bd hG hn k
  have h1 := e_bd hG hn (k + 1)
  exact ⟨Int.ediv_nonneg (by omega) (by omega), Int.le_trans (Int.ediv_le_self _ (by omega)) h0.2⟩
theorem tI_bd {G : List Int} (hG : ∀ i, i < G.length → 1 ≤ gI G i ∧ gI G i ≤ 1000000) (hn : 0 < G.length) : ∀ k, k < G.length → -(2000000000000 * (k + 1)) ≤ tI G k ∧ tI G k ≤ 2000000000000 * (k + 1) := by
  intro k
  induction k with
  | zero => intro hk; have := hG 0 hk; rw [tI_zero]; omega
  | succ k ih =>
    intro hk
    have ih := ih (by omega)
    cases k with
    | zero => have := hG 1 hk; rw [tI_one]; omega
    | succ k =>
      have h1 := hG (k + 2) hk
      have h2 := hG (k + 1) (by omega)
      have h3 := r_bd hG hn k
      have h4 : eI G k / eI G (k + 1) * gI G (k + 1) ≤ 1000000 * 1000000 := Int.mul_le_mul h3.2 h2.2 (by omega) (by omega)
      have h5 : 0 ≤ eI G k / eI G (k + 1) * gI G (k + 1) := Int.mul_nonneg h3.1 (by omega)
      rw [tI_two]
      omega

/-- The list may be the generators of a branch, by its size and numbers. -/
def rgB (G : List Int) : Bool := decide (1 ≤ G.length) && (decide (G.length ≤ 8) && allIn G 1 1000000)
def bogB (G : List Int) : Bool := rgB G && braB (tTo G G.length)
def bogC (G : List Int) : Int := if rgB G then okC (braB (tTo G G.length)) 5 else 2
theorem bog_range {G : List Int} (h : rgB G = false) : bogB G = false ∧ bogC G = 2 := by simp [bogB, bogC, h]
theorem bog_state {G : List Int} (h : rgB G = true) (h2 : braB (tTo G G.length) = false) : bogB G = false ∧ bogC G = 5 := by simp [bogB, bogC, h, h2, okC]
theorem bog_ok {G : List Int} (h : rgB G = true) (h2 : braB (tTo G G.length) = true) : bogB G = true ∧ bogC G = 0 := by simp [bogB, bogC, h, h2, okC]
theorem bog_big {G : List Int} (h : rgB G = true) (h2 : 64 < gI G 0) : bogB G = false ∧ bogC G = 5 := by
  refine bog_state h ?_
  cases c : braB (tTo G G.length)
  · rfl
  · have hn : 0 < G.length := by simp [rgB] at h; omega
    have := bog_first hn c; omega
theorem bog_nofall {G : List Int} (h : rgB G = true) (h2 : fallB G = false) : bogB G = false ∧ bogC G = 5 := by
  refine bog_state h ?_
  cases c : braB (tTo G G.length)
  · rfl
  · have hn : 0 < G.length := by simp [rgB] at h; omega
    rw [bog_falls hn c] at h2
    cases h2
theorem rgB_iff {G : List Int} : rgB G = true ↔ 1 ≤ G.length ∧ G.length ≤ 8 ∧ ∀ i, i < G.length → 1 ≤ gI G i ∧ gI G i ≤ 1000000 := by
  unfold rgB
  simp only [Bool.and_eq_true, decide_eq_true_eq, allIn_iff]
end Go.Proofs.Ytiinceflafigeaa
