/- Orders of points: the reference's sums and the program's are the same, and stay small. No program in sight. -/
import Derived.Test.YthpnmkghjnipoaaAddPure
import Derived.Test.YthpnmkghjnipoaaProxPure
namespace Go.Proofs.Ythpnmkghjnipoaa

/-- The first k orders for some own numbers. -/
def ordTo (own : Nat → Int) (P S : List Int) : Nat → List Int
  | 0 => []
  | k + 1 => ordTo own P S k ++ [own k + (if k = 0 then 0 else gI (ordTo own P S k) (gI P k).toNat) + (if 0 ≤ gI S k then gI (ordTo own P S k) (gI S k).toNat else 0)]
theorem ordTo_succ (own : Nat → Int) (P S : List Int) (k : Nat) : ordTo own P S (k + 1) = ordTo own P S k ++ [own k + (if k = 0 then 0 else gI (ordTo own P S k) (gI P k).toNat) + (if 0 ≤ gI S k then gI (ordTo own P S k) (gI S k).toNat else 0)] := rfl
theorem ordTo_len (own : Nat → Int) (P S : List Int) (k : Nat) : (ordTo own P S k).length = k := by
  induction k with
  | zero => rfl
  | succ k ih => rw [ordTo_succ, List.length_append, ih]; rfl

theorem clu_place {P S W : List Int} (h : CluOk P S W) {k : Nat} (hk : k < P.length) (h0 : 0 < k) : 0 ≤ gI P k ∧ gI P k < (k : Int) ∧ gI S k < (k : Int) := by
  have h1 := second_lt (fun x hx => (h.2.2 x hx).1) k hk
  rcases (h.2.2 k hk).1 with h2 | h2
  · omega
  · omega
theorem clu_zero {P S W : List Int} (h : CluOk P S W) : gI P 0 = -1 ∧ gI S 0 = -1 := by
  rcases (h.2.2 0 h.1.1).1 with h2 | h2
  · exact h2.2
  · omega

theorem add_ord {P S W : List Int} (h : CluOk P S W) (own : Nat → Int) (k : Nat) (hk : k ≤ P.length) : addTo own (proxL P S) k = ordTo own P S k := by
  induction k with
  | zero => rfl
  | succ k ih =>
    have ih' := ih (by omega)
    rw [addTo_succ, ordTo_succ, ih']
    have hg : gR (proxL P S) k = proxOf P S k := gR_map (by omega)
    rw [hg]
    by_cases e : k = 0
    · subst e
      have := (clu_zero h).2
      simp [proxOf, sumTo, this]
    · rw [if_neg e]
      unfold proxOf
      rw [if_neg e]
      by_cases hs : 0 ≤ gI S k
      · rw [secL_yes hs, if_pos hs]
        simp [sumTo, gI]
        omega
      · rw [secL_no hs, if_neg hs]
        simp [sumTo, gI]

theorem ord_eq {P S W : List Int} (h : CluOk P S W) {own : Nat → Int} : addTo own (proxL P S) P.length = ordTo own P S P.length := add_ord h own P.length (Nat.le_refl _)

theorem ordTo_old (own : Nat → Int) (P S : List Int) {i k : Nat} (h : i < k) : gI (ordTo own P S k) i = gI (ordTo own P S (i + 1)) i := by
  induction k with
  | zero => omega
  | succ k ih =>
    by_cases e : i = k
    · rw [e]
    · rw [ordTo_succ, gI_app_lt (by rw [ordTo_len]; omega)]; exact ih (by omega)
theorem ordTo_at (own : Nat → Int) (P S : List Int) {i k : Nat} (h : i < k) :
    gI (ordTo own P S k) i = own i + (if i = 0 then 0 else gI (ordTo own P S i) (gI P i).toNat) + (if 0 ≤ gI S i then gI (ordTo own P S i) (gI S i).toNat else 0) := by
  rw [ordTo_old own P S h, ordTo_succ, gI_app_at (by rw [ordTo_len])]

/-- The bound of the order i. -/
def capI (i : Nat) : Int := 100000 * (2 ^ (i + 1) - 1)
theorem capI_mono {i j : Nat} (h : i ≤ j) : capI i ≤ capI j := by
  unfold capI
  have h1 : (2 : Nat) ^ (i + 1) ≤ 2 ^ (j + 1) := Nat.pow_le_pow_right (by omega) (by omega)
  have h2 : ((2 ^ (i + 1) : Nat) : Int) ≤ ((2 ^ (j + 1) : Nat) : Int) := by omega
  push_cast at h2
  omega
theorem capI_succ (i : Nat) : capI (i + 1) = 100000 + 2 * capI i := by
  unfold capI
  rw [Int.pow_succ]
  omega
theorem capI_23 : capI 23 = 1677721500000 := by decide +kernel
theorem capI_nn (i : Nat) : 100000 ≤ capI i := by
  have := capI_mono (Nat.zero_le i)
  have h0 : capI 0 = 100000 := by decide
  omega

theorem ord_bd {P S W : List Int} (h : CluOk P S W) {own : Nat → Int} (ho : ∀ j, j < P.length → -100000 ≤ own j ∧ own j ≤ 100000) (k : Nat) : k < P.length → ∀ n, k < n → -(capI k) ≤ gI (ordTo own P S n) k ∧ gI (ordTo own P S n) k ≤ capI k := by
  induction k using Nat.strongRecOn with
  | _ k ih =>
    intro hk n hn
    rw [ordTo_at own P S hn]
    have h1 := ho k hk
    by_cases e : k = 0
    · subst e
      have := (clu_zero h).2
      have h0 : capI 0 = 100000 := by decide
      simp [this]
      omega
    · obtain ⟨h2, h3, h4⟩ := clu_place h hk (by omega)
      rw [if_neg e]
      have h5 := ih (gI P k).toNat (by omega) (by omega) k (by omega)
      have h6 := capI_mono (i := (gI P k).toNat) (j := k - 1) (by omega)
      have h7 := capI_succ (k - 1)
      rw [show k - 1 + 1 = k by omega] at h7
      have h8 := capI_nn (k - 1)
      by_cases hs : 0 ≤ gI S k
      · rw [if_pos hs]
        have h9 := ih (gI S k).toNat (by omega) (by omega) k (by omega)
        have h10 := capI_mono (i := (gI S k).toNat) (j := k - 1) (by omega)
        omega
      · rw [if_neg hs]
        omega

/-- Every order is small. -/
theorem ord_small {P S W : List Int} (h : CluOk P S W) {own : Nat → Int} (ho : ∀ j, j < P.length → -100000 ≤ own j ∧ own j ≤ 100000) {k n : Nat} (hk : k < P.length) (hn : k < n) : -1677721500000 ≤ gI (ordTo own P S n) k ∧ gI (ordTo own P S n) k ≤ 1677721500000 := by
  have h1 := ord_bd h ho k hk n hn
  have h2 := capI_mono (i := k) (j := 23) (by have := h.1.2.1; omega)
  rw [capI_23] at h2
  omega

theorem addOk_clu {P S W : List Int} (h : CluOk P S W) {own : Nat → Int} (ho : ∀ j, j < P.length → -100000 ≤ own j ∧ own j ≤ 100000) : AddOk own (proxL P S) := by
  have hl : (proxL P S).length = P.length := by simp [proxL]
  have h24 := h.1.2.1
  refine ⟨by omega, ?_, ?_, fun k hk => by have := ho k (by omega); omega, ?_⟩
  · intro k hk
    rw [show gR (proxL P S) k = proxOf P S k from gR_map (by omega)]
    have := secL_len S k
    unfold proxOf
    split
    · simp
    · simp; omega
  · intro k hk m hm
    rw [show gR (proxL P S) k = proxOf P S k from gR_map (by omega)] at hm ⊢
    unfold proxOf at hm ⊢
    by_cases e : k = 0
    · simp [e] at hm
    · rw [if_neg e] at hm ⊢
      obtain ⟨h2, h3, h4⟩ := clu_place h (by omega : k < P.length) (by omega)
      by_cases hs : 0 ≤ gI S k
      · rw [secL_yes hs] at hm ⊢
        match m, hm with
        | 0, _ => simp [gI] at hs h4 ⊢; omega
        | 1, _ => simp [gI] at h2 h3 ⊢; omega
        | m + 2, hm => simp at hm; omega
      · rw [secL_no hs] at hm ⊢
        match m, hm with
        | 0, _ => simp [gI] at h2 h3 ⊢; omega
        | m + 1, hm => simp at hm
  · intro k hk i hi
    rw [add_ord h own k (by omega)]
    have := ord_small h ho (by omega : i < P.length) hi
    omega
end Go.Proofs.Ythpnmkghjnipoaa
