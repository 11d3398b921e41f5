/- The multiplicities of the curvette of a code: what stands behind each number is exact. No program in sight. -/
import Derived.Test.YtiinceflafigeaaEuProx
import Derived.Test.YtiinceflafigeaaCode
namespace Go.Proofs.Ytiinceflafigeaa
open Go.RowKit

/-- The steps back of a code: what the code's rule says of them. -/
structure KCo (K : List Int) : Prop where
  ok : KOk K
  step : ∀ i, i < K.length → gI K i = 0 ∨ (0 < i ∧ (gI K i = 2 ∨ (2 ≤ gI K (i - 1) ∧ gI K i = gI K (i - 1) + 1)))
/-- The point j is proximate to the point i. -/
def pK (K : List Int) (i j : Nat) : Bool := decide (0 < j ∧ (j = i + 1 ∨ (0 < gI K (j - 1) ∧ (gI K (j - 1)).toNat + i = j)))
theorem kco_ge {K : List Int} (h : KCo K) {i : Nat} (hi : i < K.length) (h0 : gI K i ≠ 0) : 2 ≤ gI K i := by
  rcases h.step i hi with h1 | ⟨_, h1 | h1⟩ <;> omega
theorem cuStep_at {K : List Int} (h : KCo K) {L : List Int} (hl : L.length = K.length + 1) {j i : Nat} (hj : 0 < j) (hj2 : j ≤ K.length) (hi : i ≤ K.length) :
    gI (cuStep K j L) i = gI L i + (if pK K i j = true then gI L j else 0) := by
  have hk := h.ok.2 (j - 1) (by omega)
  have hg := kco_ge h (i := j - 1) (by omega)
  unfold cuStep
  by_cases hz : gI K (j - 1) = 0
  · rw [if_pos hz, gI_bump (by omega)]
    by_cases e : i = j - 1
    · subst e
      have : pK K (j - 1) j = true := by simp [pK]; omega
      rw [if_pos rfl, this, if_pos rfl]
    · have : pK K i j = false := by
        simp only [pK, decide_eq_false_iff_not]; rintro ⟨_, h1 | ⟨h1, _⟩⟩
        · omega
        · omega
      rw [if_neg e, this]; simp
  · have hg := hg hz
    rw [if_neg hz, gI_bump (by rw [bump_len]; omega), gI_bump (by omega), gI_bump (by omega)]
    by_cases e : i = j - (gI K (j - 1)).toNat
    · have : pK K i j = true := by simp only [pK, decide_eq_true_eq]; exact ⟨hj, .inr ⟨by omega, by omega⟩⟩
      rw [if_pos e, if_neg (by omega), this, if_pos rfl, e]
    · rw [if_neg e]
      by_cases e2 : i = j - 1
      · have : pK K i j = true := by simp only [pK, decide_eq_true_eq]; exact ⟨hj, .inl (by omega)⟩
        rw [if_pos e2, this, if_pos rfl, e2]
      · have : pK K i j = false := by
          simp only [pK, decide_eq_false_iff_not]; rintro ⟨_, h1 | ⟨_, h1⟩⟩ <;> omega
        rw [if_neg e2, this]; simp
/-- All the multiplicities. -/
abbrev cuM (K : List Int) : List Int := cuAt K K.length
theorem cuAt_sum {K : List Int} (h : KCo K) : ∀ d t, t + d = K.length → ∀ i, i ≤ K.length → gI (cuM K) i = gI (cuAt K t) i + sumTo (fun j => if pK K i j = true then gI (cuM K) j else 0) (d + 1) := by
  intro d
  induction d with
  | zero =>
    intro t ht i hi
    have e : t = K.length := by omega
    have : pK K i 0 = false := by simp [pK]
    rw [e, sumTo_succ, this]
    simp [sumTo]
  | succ d ih =>
    intro t ht i hi
    have h1 := ih (t + 1) (by omega) i hi
    have h2 := ih (t + 1) (by omega) (d + 1) (by omega)
    have hz : sumTo (fun j => if pK K (d + 1) j = true then gI (cuM K) j else 0) (d + 1) = 0 := by
      have hz0 : ∀ m, m ≤ d + 1 → sumTo (fun j => if pK K (d + 1) j = true then gI (cuM K) j else 0) m = 0 := by
        intro m
        induction m with
        | zero => intro _; rfl
        | succ m ih =>
          intro hm
          have : pK K (d + 1) m = false := by simp only [pK, decide_eq_false_iff_not]; omega
          rw [sumTo_succ, ih (by omega), this]; simp
      exact hz0 _ (Nat.le_refl _)
    have hq : K.length - t = d + 1 := by omega
    have hs : cuAt K (t + 1) = cuStep K (d + 1) (cuAt K t) := by rw [← hq]; rfl
    rw [hs, cuStep_at h (cuAt_len K t) (by omega) (by omega) hi] at h1
    rw [hs, cuStep_at h (cuAt_len K t) (by omega) (by omega) (by omega), hz] at h2
    have : pK K (d + 1) (d + 1) = false := by simp only [pK, decide_eq_false_iff_not]; omega
    rw [this] at h2
    simp at h2
    rw [h1]
    conv => rhs; rw [sumTo_succ]
    rw [h2]
    omega
theorem cuM_sum {K : List Int} (h : KCo K) {i : Nat} (hi : i ≤ K.length) : gI (cuM K) i = (if i = K.length then 1 else 0) + sumTo (fun j => if pK K i j = true then gI (cuM K) j else 0) (K.length + 1) := by
  rw [cuAt_sum h K.length 0 (by omega) i hi]
  congr 1
  unfold cuAt
  by_cases e : i = K.length
  · rw [if_pos e, gI_app_at (by simpa using e)]
  · rw [if_neg e, gI_app_lt (by simp; omega), gI_rep (by omega)]
theorem pK_down {K : List Int} (h : KCo K) {i j : Nat} (hj : j + 1 ≤ K.length) (hij : i < j) (hp : pK K i (j + 1) = true) : pK K i j = true := by
  simp only [pK, decide_eq_true_eq] at hp ⊢
  obtain ⟨_, h1 | ⟨h1, h2⟩⟩ := hp
  · omega
  · rw [Nat.add_sub_cancel] at h1 h2
    by_cases e : j = i + 1
    · exact ⟨by omega, .inl e⟩
    · have h3 := h.step j (by omega)
      have h4 := h.ok.2 j (by omega)
      have h5 := h.ok.2 (j - 1) (by omega)
      refine ⟨by omega, .inr ?_⟩
      rcases h3 with h3 | ⟨_, h3 | h3⟩
      · omega
      · omega
      · omega
theorem pK_last {K : List Int} {i j : Nat} (h : pK K i j = true) : i < j := by
  simp only [pK, decide_eq_true_eq] at h
  obtain ⟨h0, h1 | ⟨h1, h2⟩⟩ := h
  · omega
  · omega
theorem pK_self (K : List Int) (i : Nat) : pK K i (i + 1) = true := by simp [pK]
theorem pK_upto {K : List Int} (h : KCo K) {i j j' : Nat} (hj : j ≤ K.length) (hi : i < j') (hle : j' ≤ j) (hp : pK K i j = true) : pK K i j' = true := by
  induction j with
  | zero => omega
  | succ j ih =>
    by_cases e : j' = j + 1
    · rw [e]; exact hp
    · exact ih (by omega) (by omega) (pK_down h hj (by omega) hp)
/-- Between two points to which it belongs a point is proximate to one alone. -/
theorem pK_mid {K : List Int} {i j : Nat} (hij : i < j - 1) (h0 : 0 < j) (hp : pK K i (j + 1) = true) : pK K (j - 1) (j + 1) = false := by
  simp only [pK, decide_eq_true_eq, decide_eq_false_iff_not] at hp ⊢
  rintro ⟨_, h1 | ⟨h1, h2⟩⟩
  · omega
  · obtain ⟨_, h3 | ⟨h3, h4⟩⟩ := hp
    · omega
    · omega
theorem cuM_nn {K : List Int} (h : KCo K) : ∀ d i, i + d = K.length → 1 ≤ gI (cuM K) i ∧ ∀ j, i ≤ j → j ≤ K.length → 1 ≤ gI (cuM K) j := by
  intro d
  induction d with
  | zero =>
    intro i hi
    have e : gI (cuM K) i = 1 := by
      rw [cuM_sum h (by omega), if_pos (by omega)]
      have hz0 : ∀ m, m ≤ K.length + 1 → sumTo (fun j => if pK K i j = true then gI (cuM K) j else 0) m = 0 := by
        intro m
        induction m with
        | zero => intro _; rfl
        | succ m ih =>
          intro hm
          have : pK K i m = false := by
            cases c : pK K i m
            · rfl
            · have := pK_last c; omega
          rw [sumTo_succ, ih (by omega), this]; simp
      rw [hz0 _ (Nat.le_refl _)]; rfl
    exact ⟨by omega, fun j h1 h2 => by have : j = i := by omega
                                       subst this; omega⟩
  | succ d ih =>
    intro i hi
    have hp := (ih (i + 1) (by omega)).2
    have h1 : 1 ≤ gI (cuM K) i := by
      rw [cuM_sum h (by omega), if_neg (by omega)]
      have hm := sumTo_mono (f := fun j => if pK K i j = true then gI (cuM K) j else 0) (n := i + 2) (m := K.length + 1) (by omega) (fun x hx => by
        show 0 ≤ if pK K i x = true then gI (cuM K) x else 0
        split
        · rename_i c
          have := pK_last c
          have := hp x (by omega) (by omega); omega
        · omega)
      have h3 : 0 ≤ sumTo (fun j => if pK K i j = true then gI (cuM K) j else 0) (i + 1) := by
        have hz0 : ∀ m, m ≤ i + 1 → sumTo (fun j => if pK K i j = true then gI (cuM K) j else 0) m = 0 := by
          intro m
          induction m with
          | zero => intro _; rfl
          | succ m ih =>
            intro hm
            have : pK K i m = false := by
              cases c : pK K i m
              · rfl
              · have := pK_last c; omega
            rw [sumTo_succ, ih (by omega), this]; simp
        rw [hz0 _ (Nat.le_refl _)]; exact Int.le_refl _
      rw [sumTo_succ, pK_self, if_pos rfl] at hm
      have := hp (i + 1) (by omega) (by omega)
      omega
    exact ⟨h1, fun j h2 h3 => by
      by_cases e : j = i
      · subst e; exact h1
      · exact hp j (by omega) h3⟩
theorem cuM_pos {K : List Int} (h : KCo K) {i : Nat} (hi : i ≤ K.length) : 1 ≤ gI (cuM K) i := (cuM_nn h (K.length - i) i (by omega)).1
theorem cuM_last {K : List Int} (h : KCo K) : gI (cuM K) K.length = 1 := by
  rw [cuM_sum h (Nat.le_refl _), if_pos rfl]
  have hz0 : ∀ m, m ≤ K.length + 1 → sumTo (fun j => if pK K K.length j = true then gI (cuM K) j else 0) m = 0 := by
    intro m
    induction m with
    | zero => intro _; rfl
    | succ m ih =>
      intro hm
      have : pK K K.length m = false := by
        cases c : pK K K.length m
        · rfl
        · have := pK_last c; omega
      rw [sumTo_succ, ih (by omega), this]; simp
  rw [hz0 _ (Nat.le_refl _)]; rfl

/-- How far the points reach that are proximate to i. -/
theorem span_ex {K : List Int} (h : KCo K) {i : Nat} (hi : i < K.length) : ∃ s, 1 ≤ s ∧ i + s ≤ K.length ∧ ∀ j, j ≤ K.length → (pK K i j = true ↔ i < j ∧ j ≤ i + s) := by
  have key : ∀ d s, i + s + d = K.length → 1 ≤ s → pK K i (i + s) = true → ∃ s', 1 ≤ s' ∧ i + s' ≤ K.length ∧ ∀ j, j ≤ K.length → (pK K i j = true ↔ i < j ∧ j ≤ i + s') := by
    intro d
    induction d with
    | zero =>
      intro s hs h1 hp
      exact ⟨s, h1, by omega, fun j hj => ⟨fun c => ⟨pK_last c, by omega⟩, fun c => pK_upto h (j := i + s) (by omega) c.1 c.2 hp⟩⟩
    | succ d ih =>
      intro s hs h1 hp
      cases c : pK K i (i + s + 1)
      · refine ⟨s, h1, by omega, fun j hj => ⟨fun c' => ⟨pK_last c', ?_⟩, fun c' => pK_upto h (j := i + s) (by omega) c'.1 c'.2 hp⟩⟩
        apply Nat.le_of_not_lt
        intro hlt
        have := pK_upto h (j := j) (j' := i + s + 1) hj (by omega) (by omega) c'
        rw [c] at this; cases this
      · exact ih (s + 1) (by omega) (by omega) c
  exact key (K.length - i - 1) 1 (by omega) (by omega) (pK_self K i)

/-- The sum over the points behind i. -/
theorem span_sum {K : List Int} {i s : Nat} (hp : ∀ j, j ≤ K.length → (pK K i j = true ↔ i < j ∧ j ≤ i + s)) : ∀ m, m ≤ K.length + 1 → sumTo (fun j => if pK K i j = true then gI (cuM K) j else 0) m = sumTo (fun x => gI (cuM K) (i + 1 + x)) (min (m - (i + 1)) s) := by
  intro m
  induction m with
  | zero => intro _; rw [show min (0 - (i + 1)) s = 0 by omega]; rfl
  | succ m ih =>
    intro hm
    rw [sumTo_succ, ih (by omega)]
    by_cases c : i < m ∧ m ≤ i + s
    · have hpt : pK K i m = true := (hp m (by omega)).2 c
      rw [if_pos hpt, show min (m + 1 - (i + 1)) s = min (m - (i + 1)) s + 1 by omega, sumTo_succ, show i + 1 + min (m - (i + 1)) s = m by omega]
    · have hpf : pK K i m = false := by
        cases c' : pK K i m
        · rfl
        · exact absurd ((hp m (by omega)).1 c') c
      rw [hpf, show min (m + 1 - (i + 1)) s = min (m - (i + 1)) s by omega]
      simp
theorem cuM_span {K : List Int} (h : KCo K) {i s : Nat} (hi : i < K.length) (hs : i + s ≤ K.length) (hp : ∀ j, j ≤ K.length → (pK K i j = true ↔ i < j ∧ j ≤ i + s)) : gI (cuM K) i = sumTo (fun x => gI (cuM K) (i + 1 + x)) s := by
  rw [cuM_sum h (by omega), if_neg (by omega), span_sum hp _ (Nat.le_refl _), show min (K.length + 1 - (i + 1)) s = s by omega]
  omega
/-- A point to which the next one alone is proximate. -/
theorem cuM_one {K : List Int} (h : KCo K) {i : Nat} (hi : i < K.length) (hp : i + 2 ≤ K.length → pK K i (i + 2) = false) : gI (cuM K) i = gI (cuM K) (i + 1) := by
  have := cuM_span h (s := 1) hi (by omega) (fun j hj => ⟨fun c => ⟨pK_last c, by
    apply Nat.le_of_not_lt
    intro hlt
    have h1 := pK_upto h (j := j) (j' := i + 2) hj (by omega) (by omega) c
    rw [hp (by omega)] at h1; cases h1⟩, fun c => by
      have : j = i + 1 := by omega
      subst this; exact pK_self K i⟩)
  rw [this]
  simp [sumTo]
theorem gI_replicate_app {n i : Nat} {y : Int} {Z : List Int} (h : i < n) : gI (List.replicate n y ++ Z) i = y := by rw [gI_app_lt (by simpa using h), gI_rep h]
/-- What stands behind the number at i. -/
theorem cuM_beh {K : List Int} (h : KCo K) {i : Nat} (hi : i < K.length) : Beh (gI (cuM K) i) ((cuM K).drop (i + 1)) := by
  obtain ⟨s, hs1, hs2, hp⟩ := span_ex h hi
  have hsum := cuM_span h hi hs2 hp
  have hl : (cuM K).length = K.length + 1 := cuAt_len K K.length
  -- the numbers before the last are the first one
  have hc : ∀ x, x + 1 < s → gI (cuM K) (i + 1 + x) = gI (cuM K) (i + 1) := by
    intro x
    induction x with
    | zero => intro _; rfl
    | succ x ih =>
      intro hx
      rw [← ih (by omega)]
      have hp2 : pK K i (i + 1 + x + 1 + 1) = true := (hp (i + 1 + x + 1 + 1) (by omega)).2 ⟨by omega, by omega⟩
      have h3 := pK_mid (i := i) (j := i + 1 + x + 1) (by omega) (by omega) hp2
      exact (cuM_one h (i := i + 1 + x) (by omega) (fun _ => h3)).symm
  have hlast : 2 ≤ s → gI (cuM K) (i + s) ≤ gI (cuM K) (i + 1) := by
    intro h2
    have hl1 := hc (s - 2) (by omega)
    rw [show i + 1 + (s - 2) = i + s - 1 by omega] at hl1
    rw [← hl1]
    obtain ⟨s', e1, e2, e3⟩ := span_ex h (i := i + s - 1) (by omega)
    have e4 := cuM_span h (i := i + s - 1) (by omega) e2 e3
    rw [e4]
    have hm := sumTo_mono (f := fun x => gI (cuM K) (i + s - 1 + 1 + x)) (n := 1) (m := s') e1 (fun x hx => by have := cuM_pos h (i := i + s - 1 + 1 + x) (by omega); omega)
    simp only [sumTo, Nat.add_zero] at hm
    rw [show i + s - 1 + 1 = i + s by omega] at hm ⊢
    omega
  intro r hr
  have er : gI (cuM K) (i + 1) = r := by
    rw [List.head?_drop] at hr
    have := gI_some (xs := cuM K) (i := i + 1) (by omega)
    rw [hr] at this
    injection this with this
    exact this.symm
  rw [er] at hc hlast
  have hr0 : 1 ≤ r := by rw [← er]; exact cuM_pos h (by omega)
  have hps := cuM_pos h (i := i + s) (by omega)
  obtain ⟨m, rfl⟩ : ∃ m, s = m + 1 := ⟨s - 1, by omega⟩
  rw [sumTo_succ, sumTo_const (c := r) (fun x hx => hc x (by omega)), show i + 1 + m = i + (m + 1) by omega] at hsum
  have hle : gI (cuM K) (i + (m + 1)) ≤ r := by
    by_cases e : m = 0
    · subst e; rw [er]; omega
    · exact hlast (by omega)
  generalize hr' : gI (cuM K) (i + (m + 1)) = r' at *
  have hD : ∀ x, x < m → gI ((cuM K).drop (i + 1)) x = r := fun x hx => by rw [gI_drop]; exact hc x (by omega)
  have hDl : ((cuM K).drop (i + 1)).length = K.length - i := by rw [List.length_drop, hl]; omega
  have hDm : gI ((cuM K).drop (i + 1)) m = r' := by rw [gI_drop, show i + 1 + m = i + (m + 1) by omega]; exact hr'
  have hmr : 0 ≤ (m : Int) * r := Int.mul_nonneg (by omega) (by omega)
  generalize (cuM K).drop (i + 1) = D at *
  by_cases e : r' = r
  · rw [e] at hsum hDm
    have hee : gI (cuM K) i = ((m + 1 : Nat) : Int) * r := by rw [hsum]; push_cast; rw [Int.add_mul]; omega
    refine ⟨by omega, by rw [hsum]; omega, (D.drop (m + 1)), ?_⟩
    rw [hee, Int.mul_ediv_cancel _ (by omega), Int.mul_emod_left, if_pos rfl]
    simp only [Int.toNat_natCast, List.nil_append]
    apply gI_ext
    · simp; omega
    · intro x hx
      by_cases c : x < m + 1
      · rw [gI_replicate_app c]
        by_cases c2 : x < m
        · exact hD x c2
        · have : x = m := by omega
          subst this; exact hDm
      · rw [gI_app_ge (by simp; omega), gI_drop]
        congr 1; simp; omega
  · have hq : gI (cuM K) i / r = (m : Int) := by
      rw [hsum, Int.add_comm, Int.add_mul_ediv_right _ _ (by omega), Int.ediv_eq_zero_of_lt (by omega) (by omega)]; omega
    have hm2 : gI (cuM K) i % r = r' := by
      rw [hsum, Int.add_comm, Int.add_mul_emod_self_right, Int.emod_eq_of_lt (by omega) (by omega)]
    have hm0 : 0 < m := by
      apply Nat.pos_of_ne_zero
      intro e0
      subst e0
      rw [er] at hr'
      exact e hr'.symm
    have hmr1 : r ≤ (m : Int) * r := by
      have := Int.mul_le_mul_of_nonneg_right (show (1 : Int) ≤ m by omega) (show 0 ≤ r by omega)
      omega
    refine ⟨by omega, by rw [hsum]; omega, (D.drop (m + 1)), ?_⟩
    rw [hq, hm2, if_neg (by omega)]
    simp only [Int.toNat_natCast]
    apply gI_ext
    · simp; omega
    · intro x hx
      by_cases c2 : x < m
      · rw [gI_replicate_app c2]; exact hD x c2
      · rw [gI_app_ge (by simp; omega)]
        by_cases c : x = m
        · subst c
          rw [hDm]; simp [gI]
        · rw [gI_app_ge (by simp; omega), gI_drop]
          congr 1; simp; omega
theorem cuM_good {K : List Int} (h : KCo K) : GoodM (cuM K) := by
  intro A e Y he
  have hl : (cuM K).length = K.length + 1 := cuAt_len K K.length
  have hal : A.length < (cuM K).length := by rw [he]; simp
  have h1 : gI (cuM K) A.length = e := by rw [he]; simp [gI]
  have h2 : (cuM K).drop (A.length + 1) = Y := by rw [he]; simp
  rw [← h1, ← h2]
  refine ⟨by have := cuM_pos h (i := A.length) (by omega); omega, ?_⟩
  by_cases c : A.length < K.length
  · exact cuM_beh h c
  · rw [List.drop_eq_nil_of_le (by omega)]
    intro r hr; simp at hr
theorem kco_of_code {K : List Int} (h : isCodeB K = true) : KCo K := by
  simp only [isCodeB, decide_eq_true_eq] at h
  obtain ⟨hl, hs⟩ := h
  have hb : ∀ i, i < K.length → 0 ≤ gI K i ∧ gI K i ≤ (i : Int) + 1 := by
    intro i
    induction i with
    | zero => intro hi; have := hs 0 hi; simp [codeStep] at this; omega
    | succ i ih =>
      intro hi
      have h1 := hs (i + 1) hi
      have h2 := ih (by omega)
      rw [Nat.add_sub_cancel] at h1
      have hw : Go.RowKit.wrap64 (gI K i + 1) = gI K i + 1 := IntWalk.wrap64_in _ ⟨by omega, by omega⟩
      simp [codeStep, hw] at h1
      omega
  refine ⟨⟨hl, hb⟩, fun i hi => ?_⟩
  have h1 := hs i hi
  cases i with
  | zero => simp [codeStep] at h1; exact .inl h1
  | succ i =>
    have h2 := hb i (by omega)
    rw [Nat.add_sub_cancel] at h1 ⊢
    have hw : Go.RowKit.wrap64 (gI K i + 1) = gI K i + 1 := IntWalk.wrap64_in _ ⟨by omega, by omega⟩
    simp [codeStep, hw] at h1
    rcases h1 with h1 | h1 | ⟨h1, h3⟩
    · exact .inl h1
    · exact .inr ⟨by omega, .inl h1⟩
    · refine .inr ⟨by omega, ?_⟩
      by_cases e : gI K i = 1
      · left; omega
      · right; omega
end Go.Proofs.Ytiinceflafigeaa

/- The list of multiplicities of a curvette is the sequence of terms, and ones. No program in sight. -/
namespace Go.Proofs.Ytiinceflafigeaa
open Go.RowKit

/-- M is the sequence of T and z ones. -/
structure CurT (M T : List Int) (z : Nat) : Prop where
  len : 0 < T.length
  len7 : T.length ≤ 7
  first : gI T 0 = gI M 0
  asc : ∀ i, i + 1 < T.length → gI T i < gI T (i + 1)
  fall : ∀ i, i + 1 < T.length → eI T (i + 1) < eI T i
  last : eI T (T.length - 1) = 1
  bd : ∀ i, i < T.length → 1 ≤ gI T i ∧ gI T i ≤ 26000 * ((i : Int) + 1)
  eq : M = flat (pre T (T.length - 1)) ++ List.replicate z 1

theorem gI_snoc_lt {T : List Int} {x : Int} {i : Nat} (h : i < T.length) : gI (T ++ [x]) i = gI T i := gI_app_lt h
theorem eI_snoc {T : List Int} {x : Int} : ∀ i, i < T.length → eI (T ++ [x]) i = eI T i := by
  intro i
  induction i with
  | zero => intro h; exact gI_snoc_lt h
  | succ i ih => intro h; rw [eI_succ, eI_succ, ih (by omega), gI_snoc_lt h]
theorem kI_snoc {T : List Int} {x : Int} {i : Nat} (h : i + 1 < T.length) : kI (T ++ [x]) i = kI T i := by
  cases i with
  | zero => exact gI_snoc_lt h
  | succ i => show gI (T ++ [x]) (i + 2) - gI (T ++ [x]) (i + 1) = _; rw [gI_snoc_lt h, gI_snoc_lt (by omega)]; rfl
theorem pre_snoc {T : List Int} {x : Int} : ∀ i, i < T.length → pre (T ++ [x]) i = pre T i := by
  intro i
  induction i with
  | zero => intro _; rfl
  | succ i ih => intro h; rw [pre_succ, pre_succ, ih (by omega), kI_snoc h, eI_snoc i (by omega)]

/-- The e's that a list begins with. -/
theorem lead (e : Int) (L : List Int) : ∃ c L', L = List.replicate c e ++ L' ∧ L'.head? ≠ some e ∧ c + L'.length = L.length := by
  induction L with
  | nil => exact ⟨0, [], rfl, by simp, rfl⟩
  | cons x L ih =>
    by_cases h : x = e
    · obtain ⟨c, L', h1, h2, h3⟩ := ih
      refine ⟨c + 1, L', ?_, h2, by simp; omega⟩
      rw [h, List.replicate_succ, List.cons_append, ← h1]
    · exact ⟨0, x :: L, rfl, by simpa using h, by simp⟩
theorem beh_steps {M : List Int} (hg : GoodM M) : ∀ n : Nat, ∀ (A : List Int) (e r : Int) (L : List Int), r.toNat ≤ n → M = A ++ e :: L → L.head? = some r → ∃ L'', L = flat (stB e r) ++ L'' ∧ ∃ A', M = A' ++ gcdI e r :: L'' := by
  intro n
  induction n with
  | zero =>
    intro A e r L hn hM hh
    obtain ⟨_, hb⟩ := hg A e L hM
    obtain ⟨h1, _⟩ := hb r hh
    omega
  | succ n ih =>
    intro A e r L hn hM hh
    obtain ⟨he, hb⟩ := hg A e L hM
    obtain ⟨h1, h2, Z, hZ⟩ := hb r hh
    have hq := div_one_le h1 h2
    have hqn : (e / r).toNat = ((e / r).toNat - 1) + 1 := by omega
    have hm0 := Int.emod_nonneg e (show r ≠ 0 by omega)
    have hm1 := Int.emod_lt_of_pos e h1
    have hrep : List.replicate (e / r).toNat r = List.replicate ((e / r).toNat - 1) r ++ [r] := by
      conv => lhs; rw [hqn]
      rw [List.replicate_succ']
    by_cases hz : e % r = 0
    · rw [if_pos hz, List.nil_append] at hZ
      refine ⟨Z, ?_, A ++ e :: List.replicate ((e / r).toNat - 1) r, ?_⟩
      · rw [stB_pos h1, stB_zero (by omega), flat_cons, flat_nil, List.append_nil]; exact hZ
      · rw [hM, gcdI_dvd_self h1 hz, hZ, hrep]; simp
    · rw [if_neg hz] at hZ
      have hM2 : M = (A ++ e :: List.replicate ((e / r).toNat - 1) r) ++ r :: (e % r :: Z) := by rw [hM, hZ, hrep]; simp
      obtain ⟨L'', h3, A', h4⟩ := ih _ r (e % r) (e % r :: Z) (by omega) hM2 rfl
      refine ⟨L'', ?_, A', ?_⟩
      · rw [stB_pos h1, flat_cons, List.append_assoc, ← h3, hZ]; simp [rep]
      · rw [h4, gcdI_step _ e r (by omega) h1 rfl]
theorem all_one {M : List Int} (hg : GoodM M) {A L : List Int} (h : M = A ++ 1 :: L) : L = List.replicate L.length 1 := by
  have h1 := (hg A 1 L h).2
  have h2 : GoodM L := fun A' e Y he => hg (A ++ 1 :: A') e Y (by rw [h, he]; simp)
  apply List.eq_replicate_of_mem
  intro x hx
  have := good_le L h2 1 h1 x hx
  omega
theorem curT_step {M : List Int} (hg : GoodM M) (h0 : 0 < M.length) (hl : gI M (M.length - 1) = 1) (h400 : M.length ≤ 400) (h64 : gI M 0 ≤ 64) : ∀ n : Nat, ∀ (T L : List Int), (eI T (T.length - 1)).toNat ≤ n → 0 < T.length → eI T (T.length - 1) * 2 ^ (T.length - 1) ≤ 64 →
    gI T 0 = gI M 0 → (∀ i, i + 1 < T.length → gI T i < gI T (i + 1)) → (∀ i, i + 1 < T.length → eI T (i + 1) < eI T i) → (∀ i, i < T.length → 1 ≤ gI T i ∧ gI T i ≤ 26000 * ((i : Int) + 1)) →
    M = flat (pre T (T.length - 1)) ++ L → ((T.length = 1 ∧ L.head? = some (eI T 0)) ∨ ∃ A, M = A ++ eI T (T.length - 1) :: L) → ∃ T' z, CurT M T' z := by
  intro n
  induction n with
  | zero =>
    intro T L hn hT _ hf _ _ hb _ _
    have : 0 < eI T (T.length - 1) := eI_pos (by have := hb 0 hT; omega) _
    omega
  | succ n ih =>
    intro T L hn hT h2 hf ha hd hb hM hpre
    have hep : 0 < eI T (T.length - 1) := eI_pos (by have := hb 0 hT; omega) _
    have hT7 : T.length ≤ 7 := by
      apply Nat.le_of_not_lt
      intro hlt
      have h7 : (2 : Nat) ^ 7 ≤ 2 ^ (T.length - 1) := Nat.pow_le_pow_right (by omega) (by omega)
      have : (128 : Int) ≤ 2 ^ (T.length - 1) := by have := Int.ofNat_le.2 h7; simpa using this
      have h3 := Int.mul_le_mul (show 1 ≤ eI T (T.length - 1) by omega) this (by decide) (by omega)
      simp at h3
      omega
    obtain ⟨t, ht⟩ : ∃ t, T.length = t + 1 := ⟨T.length - 1, by omega⟩
    rw [ht, Nat.add_sub_cancel] at hn h2 hM hpre hep
    generalize hee : eI T t = e at *
    by_cases he1 : e = 1
    · -- all that is left are ones
      subst he1
      have hL : L = List.replicate L.length 1 := by
        rcases hpre with ⟨h3, h4⟩ | ⟨A, h3⟩
        · have ht0 : t = 0 := by omega
          subst ht0
          rw [hee] at h4
          rw [show pre T 0 = [] from rfl, flat_nil, List.nil_append] at hM
          obtain ⟨L1, rfl⟩ : ∃ L1, L = 1 :: L1 := by
            cases L with
            | nil => simp at h4
            | cons x L => simp at h4; subst h4; exact ⟨L, rfl⟩
          have := all_one hg (A := []) (L := L1) (by rw [hM]; rfl)
          rw [this]; simp [List.replicate_succ]
        · exact all_one hg h3
      exact ⟨T, L.length, hT, hT7, hf, ha, hd, by rw [ht, Nat.add_sub_cancel]; exact hee, hb, by rw [ht, Nat.add_sub_cancel, ← hL]; exact hM⟩
    · obtain ⟨c, L', hLL, hh, hcl⟩ := lead e L
      have hlast : ∀ A x, M = A ++ [x] → x = 1 := by
        intro A x h
        rw [h] at hl
        simpa [gI] using hl
      have hML : L.length ≤ M.length := by rw [hM]; simp
      -- the e before L'
      have hbef : ∃ A, M = A ++ e :: L' := by
        cases c with
        | zero =>
          rw [List.replicate_zero, List.nil_append] at hLL
          rcases hpre with ⟨h3, h4⟩ | ⟨A, h3⟩
          · rw [show t = 0 by omega] at hee
            rw [hee, hLL] at h4
            exact absurd h4 hh
          · exact ⟨A, by rw [← hLL]; exact h3⟩
        | succ c => exact ⟨flat (pre T t) ++ List.replicate c e, by rw [hM, hLL, List.replicate_succ']; simp⟩
      obtain ⟨A, hA⟩ := hbef
      have hne : L' ≠ [] := by
        intro e0
        rw [e0] at hA
        exact he1 (hlast A e hA)
      obtain ⟨r, Y, rfl⟩ : ∃ r Y, L' = r :: Y := by
        cases L' with
        | nil => exact absurd rfl hne
        | cons r Y => exact ⟨r, Y, rfl⟩
      have hb1 := (hg A e (r :: Y) hA).2 r rfl
      have hre : r < e := by
        have : r ≠ e := by intro h; exact hh (by rw [h]; rfl)
        omega
      obtain ⟨L'', h3, A', h4⟩ := beh_steps hg _ A e r (r :: Y) (Nat.le_refl _) hA rfl
      have he64 : e ≤ 64 := by
        have h5 := eI_le0 (T := T) (by have := hb 0 hT; omega) t
        rw [hee] at h5; omega
      -- the first number of the run
      have hc0 : 0 ≤ (c : Int) * e := Int.mul_nonneg (by omega) (by omega)
      have hc1 : (c : Int) * e ≤ 400 * 64 := Int.mul_le_mul (by omega) he64 (by omega) (by omega)
      have hkq : ((c : Int) * e + r) / e = c := by rw [Int.add_comm, Int.add_mul_ediv_right _ _ (by omega), Int.ediv_eq_zero_of_lt (by omega) hre]; omega
      have hkm : ((c : Int) * e + r) % e = r := by rw [Int.add_comm, Int.add_mul_emod_self_right, Int.emod_eq_of_lt (by omega) hre]
      have hst : flat (stB ((c : Int) * e + r) e) ++ L'' = L := by
        rw [stB_pos hep, hkq, hkm, flat_cons, hLL, h3]; simp [rep]
      have hgg : gcdI ((c : Int) * e + r) e = gcdI e r := by rw [← hkm, gcdI_step _ ((c : Int) * e + r) e (by omega) hep rfl, hkm]
      generalize hk : (c : Int) * e + r = k at *
      have hgr : gcdI e r ≤ r := by rw [gcdI_sym]; exact gcdI_le_left hb1.1
      have hgp : 0 < gcdI e r := gcdI_pos hep
      have hg2 : 2 * gcdI e r ≤ e := by
        obtain ⟨d, hd⟩ := gcdI_dvd_left e r
        have : 1 < d := by
          apply Int.lt_of_not_ge
          intro hle
          have := Int.mul_le_mul_of_nonneg_left hle (Int.le_of_lt hgp)
          omega
        have := Int.mul_le_mul_of_nonneg_left (show 2 ≤ d by omega) (Int.le_of_lt hgp)
        omega
      -- the new term
      obtain ⟨x, hx⟩ : ∃ x, (if t = 0 then k else gI T t + k) = x := ⟨_, rfl⟩
      have hsn : (T ++ [x]).length = t + 2 := by simp [ht]
      have hgx : gI (T ++ [x]) (t + 1) = x := gI_app_at (by rw [ht])
      have hkI : kI (T ++ [x]) t = k := by
        cases t with
        | zero => show gI (T ++ [x]) 1 = k; rw [hgx, ← hx]; rfl
        | succ t =>
          show gI (T ++ [x]) (t + 2) - gI (T ++ [x]) (t + 1) = k
          rw [hgx, gI_snoc_lt (by omega), ← hx, if_neg (by omega)]; omega
      have heI : eI (T ++ [x]) t = e := by rw [eI_snoc t (by omega)]; exact hee
      have heN : eI (T ++ [x]) (t + 1) = gcdI e r := by rw [← kI_gcd, hkI, heI]; exact hgg
      have hbt := hb t (by omega)
      have hbx : gI T t < x ∧ x ≤ 26000 * (((t + 1 : Nat) : Int) + 1) := by
        by_cases e0 : t = 0
        · subst e0
          rw [if_pos rfl] at hx
          have : eI T 0 = gI T 0 := rfl
          have hc : 1 ≤ c := by
            rcases hpre with ⟨_, h6⟩ | ⟨A2, h6⟩
            · apply Nat.pos_of_ne_zero
              intro e1
              rw [e1, List.replicate_zero, List.nil_append] at hLL
              rw [hLL, hee] at h6
              exact hh h6
            · exfalso
              have := congrArg List.length h6
              rw [show pre T 0 = [] from rfl, flat_nil, List.nil_append] at hM
              rw [hM] at this
              simp at this
              omega
          have := Int.mul_le_mul_of_nonneg_right (show (1 : Int) ≤ c by omega) (show 0 ≤ e by omega)
          constructor <;> omega
        · rw [if_neg e0] at hx
          constructor <;> omega
      refine ih (T ++ [x]) L'' ?_ (by omega) ?_ ?_ ?_ ?_ ?_ ?_ ?_
      · rw [hsn, show t + 2 - 1 = t + 1 by omega, heN]; omega
      · rw [hsn, show t + 2 - 1 = t + 1 by omega, heN, Int.pow_succ]
        have h8 := Int.mul_le_mul_of_nonneg_right hg2 (show (0 : Int) ≤ 2 ^ t from Int.le_of_lt (Int.pow_pos (by omega)))
        have h9 : gcdI e r * (2 ^ t * 2) = 2 * gcdI e r * 2 ^ t := by grind
        omega
      · rw [gI_snoc_lt hT]; exact hf
      · intro i hi
        rw [hsn] at hi
        by_cases e0 : i = t
        · subst e0; rw [hgx, gI_snoc_lt (by omega)]; exact hbx.1
        · rw [gI_snoc_lt (by omega), gI_snoc_lt (by omega)]; exact ha i (by omega)
      · intro i hi
        rw [hsn] at hi
        by_cases e0 : i = t
        · subst e0; rw [heN, heI]; omega
        · rw [eI_snoc _ (by omega), eI_snoc _ (by omega)]; exact hd i (by omega)
      · intro i hi
        rw [hsn] at hi
        by_cases e0 : i = t + 1
        · subst e0; rw [hgx]; exact ⟨by omega, hbx.2⟩
        · rw [gI_snoc_lt (by omega)]; exact hb i (by omega)
      · rw [hsn, show t + 2 - 1 = t + 1 by omega, pre_succ, pre_snoc t (by omega), hkI, heI, flat_app, List.append_assoc, hst]; exact hM
      · right
        rw [hsn, show t + 2 - 1 = t + 1 by omega, heN]
        exact ⟨A', h4⟩
/-- A curvette's multiplicities are the sequence of some terms and ones. -/
theorem curT_ex {K : List Int} (h : KCo K) (h64 : gI (cuM K) 0 ≤ 64) : ∃ T z, CurT (cuM K) T z := by
  have hl : (cuM K).length = K.length + 1 := cuAt_len K K.length
  have h1 := cuM_pos h (i := 0) (by omega)
  have hk := h.ok.1
  refine curT_step (cuM_good h) (by omega) ?_ (by omega) h64 _ [gI (cuM K) 0] (cuM K) (Nat.le_refl _) (by simp) ?_ rfl ?_ ?_ ?_ rfl ?_
  · rw [hl, Nat.add_sub_cancel]; exact cuM_last h
  · show gI (cuM K) 0 * 1 ≤ 64; omega
  · intro i hi; simp at hi
  · intro i hi; simp at hi
  · intro i hi
    simp at hi
    subst hi
    show 1 ≤ gI (cuM K) 0 ∧ gI (cuM K) 0 ≤ _
    omega
  · left
    refine ⟨rfl, ?_⟩
    show (cuM K).head? = some (gI (cuM K) 0)
    rw [← gI_some (xs := cuM K) (i := 0) (by omega), List.head?_eq_getElem?]
end Go.Proofs.Ytiinceflafigeaa
