/- Unloading, the plain law of the program's way: a number is added to a weight, and the excesses follow; the points behind a point; a step as the program makes it. No program in sight. -/
import Derived.Test.YtgjnllialhjhoaaUnlBd
namespace Go.Proofs.Ytgjnllialhjhoaa

theorem exF_inc (P S : List Int) (A : Nat → Int) {i p : Nat} (s : Int) (hi : i < P.length) :
    exF P S (fun j => A j + if j = i then s else 0) p = exF P S A p + (if p = i then s else 0) - nB P S i p * s := by
  unfold exF
  have h : sumTo (fun j => nB P S j p * (A j + if j = i then s else 0)) P.length = sumTo (fun j => nB P S j p * A j) P.length + nB P S i p * s := by
    have e : ∀ j, j < P.length → nB P S j p * (A j + if j = i then s else 0) = nB P S j p * A j + (if j = i then 1 else 0) * (nB P S j p * s) := by
      intro j _
      by_cases hj : j = i
      · rw [if_pos hj, if_pos hj, Int.mul_add, Int.one_mul]
      · rw [if_neg hj, if_neg hj, Int.mul_add, Int.mul_zero, Int.zero_mul]
    rw [sumTo_congr e, sumTo_add, sumTo_unit, if_pos hi]
  rw [h]
  show A p + (if p = i then s else 0) - _ = _
  omega

theorem gI_inc_nat {L : List Int} {i j : Nat} {s : Int} (hj : j < L.length) : gI (inc L (i : Int) s) j = gI L j + if j = i then s else 0 := by
  rw [gI_inc]
  have : ((i : Int)).toNat = i := by omega
  rw [this]
  by_cases e : j = i
  · subst e; rw [if_pos ⟨rfl, hj⟩, if_pos rfl]
  · rw [if_neg (fun h => e h.1.symm), if_neg e]; omega

theorem dec_row {P S : List Int} {i : Nat} (s : Int) (X : List Int) : decTo (proxOf P S i) s X (proxOf P S i).length = if i = 0 then X else if 0 ≤ gI S i then dec (dec X (gI P i) s) (gI S i) s else dec X (gI P i) s := by
  unfold proxOf
  by_cases h0 : i = 0
  · rw [if_pos h0, if_pos h0]; rfl
  · rw [if_neg h0, if_neg h0]
    by_cases hs : 0 ≤ gI S i
    · rw [secL_yes hs, if_pos hs]
      show dec (dec _ (gI S i) s) (gI P i) s = _
      exact dec_comm _ _ _ _
    · rw [secL_no hs, if_neg hs]
      rfl

theorem exL_shift {P S W L : List Int} (hc : CluOk P S W) (hl : L.length = P.length) {i : Nat} (hi : i < P.length) (s : Int) :
    decTo (proxOf P S i) s (inc (exL P S L) (i : Int) s) (proxOf P S i).length = exL P S (inc L (i : Int) s) := by
  have hlX : (inc (exL P S L) (i : Int) s).length = P.length := by rw [inc_len, exL_len, hl]
  apply gI_ext (by rw [decTo_len, hlX, exL_len, inc_len, hl])
  intro p hp
  have hp' : p < P.length := by rw [decTo_len, hlX] at hp; exact hp
  rw [exL_at hc (by rw [inc_len, hl]) hp']
  rw [exF_congr (B := fun j => gI L j + if j = i then s else 0) (fun j hj => gI_inc_nat (by omega)) hp', exF_inc P S (fun j => gI L j) s hi, ← exL_at hc hl hp', dec_row]
  have hX : gI (inc (exL P S L) (i : Int) s) p = gI (exL P S L) p + if p = i then s else 0 := gI_inc_nat (by rw [exL_len, hl]; exact hp')
  rw [nB_eq hc hi]
  by_cases h0 : i = 0
  · subst h0
    have hz := clu_zero hc
    rw [if_pos rfl, if_pos rfl, if_neg (show ¬ 0 ≤ gI S 0 by omega), hX]
    omega
  · obtain ⟨h1, h2, h3⟩ := clu_place hc hi (by omega)
    rw [if_neg h0, if_neg h0]
    by_cases hs : 0 ≤ gI S i
    · have hne := clu_ne hc hi hs
      rw [if_pos hs, if_pos hs, gI_dec, gI_dec, dec_len, hlX, hX]
      by_cases e1 : p = (gI P i).toNat
      · rw [if_neg (by omega), if_pos (by omega), if_pos e1, if_neg (show ¬ p = (gI S i).toNat by omega)]; simp
      · by_cases e2 : p = (gI S i).toNat
        · rw [if_pos (by omega), if_neg (by omega), if_neg e1, if_pos e2]; simp
        · rw [if_neg (by omega), if_neg (by omega), if_neg e1, if_neg e2]; simp
    · rw [if_neg hs, if_neg hs, gI_dec, hlX, hX]
      by_cases e1 : p = (gI P i).toNat
      · rw [if_pos (by omega), if_pos e1]; simp
      · rw [if_neg (by omega), if_neg e1]; simp

/-- The points before k that are proximate to i. -/
def bhL (P S : List Int) (k i : Nat) : List Int := ((List.range k).filter fun j => nearB P S j (i : Int)).map fun (j : Nat) => (j : Int)
theorem bhL_zero (P S : List Int) (i : Nat) : bhL P S 0 i = [] := rfl
theorem bhL_yes {P S : List Int} {k i : Nat} (h : nearB P S k (i : Int) = true) : bhL P S (k + 1) i = bhL P S k i ++ [(k : Int)] := by
  unfold bhL
  rw [List.range_succ, List.filter_append, List.map_append]
  simp [h]
theorem bhL_no {P S : List Int} {k i : Nat} (h : nearB P S k (i : Int) = false) : bhL P S (k + 1) i = bhL P S k i := by
  unfold bhL
  rw [List.range_succ, List.filter_append, List.map_append]
  simp [h]
theorem bhL_len (P S : List Int) (i : Nat) : ∀ k, ((bhL P S k i).length : Int) = sumTo (fun j => nB P S j i) k := by
  intro k
  induction k with
  | zero => rfl
  | succ k ih =>
    rw [sumTo_succ]
    cases h : nearB P S k (i : Int)
    · rw [bhL_no h, ih]; unfold nB; rw [if_neg (by simp [h])]; omega
    · rw [bhL_yes h, List.length_append, Int.natCast_add, ih]; unfold nB; rw [if_pos h]; rfl
theorem bhL_le (P S : List Int) (i : Nat) : ∀ k, (bhL P S k i).length ≤ k := by
  intro k
  induction k with
  | zero => exact Nat.le_refl _
  | succ k ih =>
    cases h : nearB P S k (i : Int)
    · rw [bhL_no h]; omega
    · rw [bhL_yes h, List.length_append]; simp; omega
theorem bhL_mem (P S : List Int) (i : Nat) : ∀ k t, t < (bhL P S k i).length → ∃ j : Nat, gI (bhL P S k i) t = j ∧ j < k := by
  intro k
  induction k with
  | zero => intro t ht; simp [bhL_zero] at ht
  | succ k ih =>
    intro t ht
    cases h : nearB P S k (i : Int)
    · rw [bhL_no h] at ht ⊢
      obtain ⟨j, h1, h2⟩ := ih t ht
      exact ⟨j, h1, by omega⟩
    · rw [bhL_yes h] at ht ⊢
      rw [List.length_append] at ht
      by_cases e : t < (bhL P S k i).length
      · obtain ⟨j, h1, h2⟩ := ih t e
        exact ⟨j, by rw [gI_app_lt e]; exact h1, by omega⟩
      · exact ⟨k, gI_app_at (by simp at ht; omega), by omega⟩

theorem incTo_congr {row row' : List Int} (x : Int) (L : List Int) {m : Nat} (h : ∀ t, t < m → gI row t = gI row' t) : incTo row x L m = incTo row' x L m := by
  induction m with
  | zero => rfl
  | succ m ih => rw [incTo_succ, incTo_succ, ih (fun t ht => h t (by omega)), h m (by omega)]
theorem incTo_app (xs : List Int) (y x : Int) (L : List Int) : incTo (xs ++ [y]) x L (xs ++ [y]).length = inc (incTo xs x L xs.length) y x := by
  have e : (xs ++ [y]).length = xs.length + 1 := by simp
  rw [e, incTo_succ, gI_app_at rfl, incTo_congr (row' := xs) x L (fun t ht => gI_app_lt ht)]

theorem inc_behind (P S L : List Int) (i : Nat) (x : Int) : ∀ k, k ≤ L.length → ∀ q, q < L.length → gI (incTo (bhL P S k i) x L (bhL P S k i).length) q = gI L q + if q < k then nB P S q i * x else 0 := by
  intro k
  induction k with
  | zero => intro _ q _; rw [if_neg (by omega)]; simp [bhL_zero, incTo]
  | succ k ih =>
    intro hk q hq
    have ih := ih (by omega) q hq
    cases h : nearB P S k (i : Int)
    · rw [bhL_no h, ih]
      by_cases e : q = k
      · subst e
        rw [if_neg (show ¬ q < q by omega), if_pos (show q < q + 1 by omega)]
        unfold nB; rw [if_neg (by simp [h])]; omega
      · by_cases e2 : q < k
        · rw [if_pos e2, if_pos (show q < k + 1 by omega)]
        · rw [if_neg e2, if_neg (show ¬ q < k + 1 by omega)]
    · rw [bhL_yes h, incTo_app, gI_inc_nat (by rw [incTo_len]; exact hq), ih]
      by_cases e : q = k
      · subst e
        rw [if_neg (show ¬ q < q by omega), if_pos (show q < q + 1 by omega), if_pos rfl]
        unfold nB; rw [if_pos h]; omega
      · rw [if_neg e]
        by_cases e2 : q < k
        · rw [if_pos e2, if_pos (show q < k + 1 by omega)]; omega
        · rw [if_neg e2, if_neg (show ¬ q < k + 1 by omega)]; omega

/-- A step, as the program makes it. -/
theorem step_behind {P S W L : List Int} (hc : CluOk P S W) (hl : L.length = P.length) {i : Nat} (hi : i < P.length) :
    incTo (bhL P S P.length i) (-(upS (gI (exL P S L) i) (hB P S i))) (inc L (i : Int) (upS (gI (exL P S L) i) (hB P S i))) (bhL P S P.length i).length = stL P S L i := by
  apply gI_ext (by rw [incTo_len, inc_len, stL_len, hl])
  intro q hq
  have hq' : q < P.length := by rw [incTo_len, inc_len, hl] at hq; exact hq
  rw [inc_behind P S _ i _ P.length (by rw [inc_len, hl]; exact Nat.le_refl _) q (by rw [inc_len, hl]; exact hq'), gI_inc_nat (by omega), gI_stL hc hl hi hq', ← exL_at hc hl hi, if_pos hq', Int.mul_neg]
  unfold stF
  show _ = gI L q + (if q = i then _ else 0) - _
  omega

/-- All numbers of a prefix of the step stay small. -/
theorem behind_small {P S L : List Int} {i : Nat} {x b : Int} (hx : -b ≤ x ∧ x ≤ b) (hL : ∀ q, -b ≤ gI L q ∧ gI L q ≤ b) (m : Nat) : ∀ q, -(b * (m + 1)) ≤ gI (incTo (bhL P S P.length i) x L m) q ∧ gI (incTo (bhL P S P.length i) x L m) q ≤ b * (m + 1) := by
  induction m with
  | zero => intro q; simpa [incTo] using hL q
  | succ m ih =>
    intro q
    have ih := ih q
    rw [incTo_succ, gI_inc]
    have e : b * ((m + 1 : Nat) + 1 : Int) = b * (m + 1) + b := by rw [Int.natCast_add, Int.mul_add b _ 1]; simp
    rw [e]
    have hb : 0 ≤ b := by omega
    split <;> omega

/-- The points behind i while the row of the point j is read: its first m numbers are done. -/
def bhI (P S : List Int) (j m i : Nat) : List Int := if (i : Int) ∈ (proxOf P S j).take m then bhL P S j i ++ [(j : Int)] else bhL P S j i
theorem bhI_zero (P S : List Int) (j i : Nat) : bhI P S j 0 i = bhL P S j i := by simp [bhI]
theorem prox_mem {P S W : List Int} (hc : CluOk P S W) {j : Nat} (hj : j < P.length) (i : Nat) : (i : Int) ∈ proxOf P S j ↔ nearB P S j (i : Int) = true := by
  rw [nearB_iff]
  unfold proxOf
  by_cases h0 : j = 0
  · subst h0
    have hz := clu_zero hc
    rw [if_pos rfl]
    constructor
    · intro h; simp at h
    · intro h; omega
  · rw [if_neg h0]
    obtain ⟨h1, h2, h3⟩ := clu_place hc hj (by omega)
    by_cases hs : 0 ≤ gI S j
    · rw [secL_yes hs]; simp; omega
    · rw [secL_no hs]; simp; omega
theorem bhI_all {P S W : List Int} (hc : CluOk P S W) {j : Nat} (hj : j < P.length) (i : Nat) : bhI P S j (proxOf P S j).length i = bhL P S (j + 1) i := by
  unfold bhI
  rw [List.take_length]
  cases h : nearB P S j (i : Int)
  · rw [bhL_no h, if_neg (fun hm => by rw [(prox_mem hc hj i).1 hm] at h; cases h)]
  · rw [bhL_yes h, if_pos ((prox_mem hc hj i).2 h)]
theorem take_one {xs : List Int} {m : Nat} (h : m < xs.length) : xs.take (m + 1) = xs.take m ++ [gI xs m] := by
  rw [List.take_add_one, gI_some h]; rfl
/-- The numbers of a row are distinct. -/
theorem prox_new {P S W : List Int} (hc : CluOk P S W) {j m : Nat} (hj : j < P.length) (hm : m < (proxOf P S j).length) : ¬ gI (proxOf P S j) m ∈ (proxOf P S j).take m := by
  unfold proxOf at hm ⊢
  by_cases h0 : j = 0
  · rw [if_pos h0] at hm; simp at hm
  · rw [if_neg h0] at hm ⊢
    by_cases hs : 0 ≤ gI S j
    · have hne := clu_ne hc hj hs
      rw [secL_yes hs] at hm ⊢
      by_cases e : m = 0
      · subst e; simp
      · have : m = 1 := by simp at hm; omega
        subst this
        simp [gI]
        exact hne.1
    · rw [secL_no hs] at hm ⊢
      have : m = 0 := by simp at hm; omega
      subst this
      simp
theorem bhI_step {P S : List Int} {j m x : Nat} (hm : m < (proxOf P S j).length) (hx : gI (proxOf P S j) m = (x : Int)) (i : Nat) :
    bhI P S j (m + 1) i = if i = x then bhL P S j x ++ [(j : Int)] else bhI P S j m i := by
  unfold bhI
  rw [take_one hm, hx]
  by_cases e : i = x
  · subst e; rw [if_pos (by simp), if_pos rfl]
  · rw [if_neg e]
    by_cases h : (i : Int) ∈ (proxOf P S j).take m
    · rw [if_pos h, if_pos (List.mem_append_left _ h)]
    · rw [if_neg h, if_neg (by
        intro h2
        rcases List.mem_append.1 h2 with h2 | h2
        · exact h h2
        · simp at h2; omega)]
theorem bhI_at {P S W : List Int} (hc : CluOk P S W) {j m x : Nat} (hj : j < P.length) (hm : m < (proxOf P S j).length) (hx : gI (proxOf P S j) m = (x : Int)) : bhI P S j m x = bhL P S j x := by
  have := prox_new hc hj hm
  unfold bhI
  rw [if_neg (by rw [← hx]; exact this)]
end Go.Proofs.Ytgjnllialhjhoaa
