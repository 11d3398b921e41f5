/- Which points of a sequence of multiplicities are proximate to which; their orders. No program in sight. -/
import Derived.Test.YthpnmkghjnipoaaEucPure
import Derived.Test.YthpnmkghjnipoaaOrdPure
namespace Go.Proofs.Ythpnmkghjnipoaa

/-- The point j is proximate to the point i. -/
def pB (M : List Int) (i j : Nat) : Bool := decide (i < j ∧ psum M i j ≤ gI M i)
theorem pB_iff {M : List Int} {i j : Nat} : pB M i j = true ↔ i < j ∧ psum M i j ≤ gI M i := by simp [pB]
theorem pB_no {M : List Int} {i j : Nat} (h : ¬ (i < j ∧ psum M i j ≤ gI M i)) : pB M i j = false := by
  cases c : pB M i j
  · rfl
  · exact absurd (pB_iff.1 c) h
theorem psum_self (M : List Int) (i : Nat) : psum M i i = 0 := by unfold psum; rw [Nat.sub_self]; rfl
theorem psum_succ (M : List Int) {i j : Nat} (h : i ≤ j) : psum M i (j + 1) = psum M i j + gI M (j + 1) := by
  unfold psum
  rw [show j + 1 - i = (j - i) + 1 by omega, sumTo_succ, show i + 1 + (j - i) = j + 1 by omega]
theorem psum_mono {M : List Int} (h : Eu M) {i j j' : Nat} (hj : j < M.length) (hi : i ≤ j') (hle : j' ≤ j) : psum M i j' ≤ psum M i j := by
  unfold psum
  exact sumTo_mono (by omega) (fun x hx => by have := (h.pos (i + 1 + x) (by omega)).1; omega)
theorem pB_down {M : List Int} (h : Eu M) {i j j' : Nat} (hj : j < M.length) (hi : i < j') (hle : j' ≤ j) (hp : pB M i j = true) : pB M i j' = true := by
  have h1 := pB_iff.1 hp
  have h2 := psum_mono h hj (by omega : i ≤ j') hle
  exact pB_iff.2 ⟨hi, by omega⟩
theorem pB_prev {M : List Int} (h : Eu M) {j : Nat} (hj : j + 1 < M.length) : pB M j (j + 1) = true := by
  refine pB_iff.2 ⟨by omega, ?_⟩
  rw [psum_succ M (Nat.le_refl j), psum_self]
  have := h.down j hj
  omega
theorem pB_one {M : List Int} (h : Eu M) {a b j : Nat} (hab : a < b) (hbj : b + 1 < j) (hj : j < M.length) (ha : pB M a j = true) (hb : pB M b j = true) : False := by
  have h1 := pB_iff.1 ha
  have h2 := pB_iff.1 hb
  have e1 := h.near a j h1.1 hj h1.2 b hab (by omega)
  have e2 := h.near a j h1.1 hj h1.2 (b + 1) (by omega) hbj
  have h3 := psum_mono h hj (by omega : b ≤ b + 2) (by omega : b + 2 ≤ j)
  rw [psum_succ M (by omega), psum_succ M (by omega), psum_self] at h3
  have := (h.pos (b + 1 + 1) (by omega)).1
  omega

/-- The last of the first n points to which j is proximate, or -1. -/
def secTo (M : List Int) (j : Nat) : Nat → Int
  | 0 => -1
  | n + 1 => if pB M n j = true then (n : Int) else secTo M j n
theorem secTo_yes {M : List Int} {j n : Nat} (h : pB M n j = true) : secTo M j (n + 1) = n := by simp [secTo, h]
theorem secTo_no {M : List Int} {j n : Nat} (h : pB M n j = false) : secTo M j (n + 1) = secTo M j n := by simp [secTo, h]
theorem secTo_cases (M : List Int) (j : Nat) : ∀ n, (secTo M j n = -1 ∧ ∀ i, i < n → pB M i j = false) ∨ ∃ i, i < n ∧ secTo M j n = (i : Int) ∧ pB M i j = true := by
  intro n
  induction n with
  | zero => exact .inl ⟨rfl, fun i hi => by omega⟩
  | succ n ih =>
    cases c : pB M n j
    · rw [secTo_no c]
      rcases ih with ⟨h1, h2⟩ | ⟨i, h1, h2, h3⟩
      · refine .inl ⟨h1, fun i hi => ?_⟩
        by_cases e : i = n
        · subst e; exact c
        · exact h2 i (by omega)
      · exact .inr ⟨i, by omega, h2, h3⟩
    · rw [secTo_yes c]; exact .inr ⟨n, by omega, rfl, c⟩
/-- The second point to which j is proximate, or -1. -/
def sI (M : List Int) (j : Nat) : Int := secTo M j (j - 1)
theorem sI_bd (M : List Int) (j : Nat) : -1 ≤ sI M j ∧ (0 ≤ sI M j → sI M j + 1 < (j : Int)) := by
  unfold sI
  rcases secTo_cases M j (j - 1) with ⟨h1, _⟩ | ⟨i, h1, h2, _⟩ <;> omega
/-- The first n points to which j is proximate. -/
def rowTo (M : List Int) (j : Nat) : Nat → List Int
  | 0 => []
  | n + 1 => rowTo M j n ++ (if pB M n j = true then [(n : Int)] else [])
theorem rowTo_yes {M : List Int} {j n : Nat} (h : pB M n j = true) : rowTo M j (n + 1) = rowTo M j n ++ [(n : Int)] := by simp [rowTo, h]
theorem rowTo_no {M : List Int} {j n : Nat} (h : pB M n j = false) : rowTo M j (n + 1) = rowTo M j n := by simp [rowTo, h]
theorem secTo_none {M : List Int} (h : Eu M) {j n : Nat} (hj : j < M.length) (hn : n + 1 < j) (hp : pB M n j = true) : secTo M j n = -1 := by
  rcases secTo_cases M j n with ⟨h1, _⟩ | ⟨i, h1, _, h3⟩
  · exact h1
  · exact (pB_one h h1 hn hj h3 hp).elim
theorem rowTo_eq {M : List Int} (h : Eu M) {j : Nat} (hj : j < M.length) : ∀ n, n + 1 ≤ j → rowTo M j n = if 0 ≤ secTo M j n then [secTo M j n] else [] := by
  intro n
  induction n with
  | zero => intro _; rfl
  | succ n ih =>
    intro hn
    have ih := ih (by omega)
    cases c : pB M n j
    · rw [rowTo_no c, secTo_no c, ih]
    · rw [rowTo_yes c, ih, secTo_none h hj (by omega) c, secTo_yes c]
      simp
theorem rowTo_ge {M : List Int} {j : Nat} : ∀ n, rowTo M j (j + n) = rowTo M j j := by
  intro n
  induction n with
  | zero => rfl
  | succ n ih =>
    rw [← Nat.add_assoc, rowTo_no (pB_no (by omega)), ih]
/-- The parents, and the seconds. -/
def parL (k : Nat) : List Int := (List.range k).map fun (j : Nat) => (j : Int) - 1
def secM (M : List Int) : List Int := (List.range M.length).map (sI M)
@[simp] theorem parL_len (k : Nat) : (parL k).length = k := by simp [parL]
@[simp] theorem secM_len (M : List Int) : (secM M).length = M.length := by simp [secM]
theorem gI_parL {k j : Nat} (h : j < k) : gI (parL k) j = (j : Int) - 1 := by rw [gI_lt (by simpa using h)]; simp [parL]
theorem gI_secM {M : List Int} {j : Nat} (h : j < M.length) : gI (secM M) j = sI M j := by rw [gI_lt (by simpa using h)]; simp [secM]
theorem rowTo_prox {M : List Int} (h : Eu M) {j n : Nat} (hj : j < M.length) (hn : M.length ≤ n) : rowTo M j n = proxOf (parL M.length) (secM M) j := by
  obtain ⟨d, rfl⟩ : ∃ d, n = j + d := ⟨n - j, by omega⟩
  rw [rowTo_ge]
  unfold proxOf secL
  rw [gI_parL hj, gI_secM hj]
  cases j with
  | zero => rfl
  | succ j =>
    rw [if_neg (by omega), rowTo_yes (pB_prev h hj), rowTo_eq h hj j (Nat.le_refl _)]
    have e : ((j + 1 : Nat) : Int) - 1 = (j : Int) := by omega
    rw [e]
    rfl

/-- The number of the code at j (of the point j + 1). -/
def cI (M : List Int) (j : Nat) : Int := if 0 ≤ sI M (j + 1) then ((j + 1 : Nat) : Int) - sI M (j + 1) else 0
def codeL (M : List Int) : List Int := (List.range (M.length - 1)).map (cI M)
@[simp] theorem codeL_len (M : List Int) : (codeL M).length = M.length - 1 := by simp [codeL]
theorem gI_codeL {M : List Int} {j : Nat} (h : j + 1 < M.length) : gI (codeL M) j = cI M j := by rw [gI_lt (by simp; omega)]; simp [codeL]
theorem cI_bd (M : List Int) (j : Nat) : cI M j = 0 ∨ (2 ≤ cI M j ∧ cI M j ≤ (j : Int) + 1) := by
  have := sI_bd M (j + 1)
  unfold cI
  split
  · right; omega
  · left; rfl

/-- A sum over the points to which j is proximate. -/
theorem sum_prox {M : List Int} (h : Eu M) (f : Nat → Int) {j : Nat} (hj : j < M.length) : sumTo (fun i => if pB M i j = true then f i else 0) j = (if j = 0 then 0 else f (j - 1)) + (if 0 ≤ sI M j then f (sI M j).toNat else 0) := by
  have key : ∀ n, n + 1 ≤ j → sumTo (fun i => if pB M i j = true then f i else 0) n = if 0 ≤ secTo M j n then f (secTo M j n).toNat else 0 := by
    intro n
    induction n with
    | zero => intro _; rfl
    | succ n ih =>
      intro hn
      have ih := ih (by omega)
      rw [sumTo_succ, ih]
      cases c : pB M n j
      · rw [secTo_no c]; simp
      · rw [secTo_none h hj (by omega) c, secTo_yes c]; simp
  cases j with
  | zero => rfl
  | succ j =>
    have e0 : (if j + 1 = 0 then (0 : Int) else f (j + 1 - 1)) = f j := by simp
    rw [sumTo_succ, if_pos (pB_prev h hj), key j (Nat.le_refl _), e0]
    unfold sI
    rw [Nat.add_sub_cancel, Int.add_comm]

/-- The numbers behind i that are proximate to it, of the first n, are not more than its own number. -/
theorem prox_le {M : List Int} (h : Eu M) {i : Nat} (hi : i < M.length) : ∀ n, n ≤ M.length → sumTo (fun t => if pB M i t = true then gI M t else 0) n ≤ gI M i := by
  have zero : ∀ m, m ≤ i + 1 → sumTo (fun t => if pB M i t = true then gI M t else 0) m = 0 := by
    intro m hm
    refine sumTo_const_zero fun t ht => ?_
    rw [pB_no (by omega)]; rfl
  intro n
  induction n with
  | zero => intro _; have := (h.pos i hi).1; show (0 : Int) ≤ _; omega
  | succ n ih =>
    intro hn
    cases c : pB M i n
    · rw [sumTo_succ, c]
      have := ih (by omega)
      simpa using this
    · have all : ∀ m, i + m ≤ n → sumTo (fun t => if pB M i t = true then gI M t else 0) (i + m + 1) = psum M i (i + m) := by
        intro m
        induction m with
        | zero => intro _; rw [zero _ (by omega), Nat.add_zero, psum_self]
        | succ m ihm =>
          intro hm
          rw [sumTo_succ, show i + (m + 1) = i + m + 1 by omega, ihm (by omega), psum_succ M (by omega), if_pos (pB_down h (by omega) (by omega) (by omega) c)]
      have h1 := pB_iff.1 c
      have h2 := all (n - i) (by omega)
      rw [show i + (n - i) = n by omega] at h2
      rw [h2]
      exact h1.2

/-- The order of the point i. -/
def oI (own : Nat → Int) (M : List Int) (i : Nat) : Int := gI (ordTo own (parL M.length) (secM M) (i + 1)) i
theorem oI_eq {M : List Int} (own : Nat → Int) {i : Nat} (hi : i < M.length) : oI own M i = own i + (if i = 0 then 0 else oI own M (i - 1)) + (if 0 ≤ sI M i then oI own M (sI M i).toNat else 0) := by
  unfold oI
  rw [ordTo_at own _ _ (Nat.lt_succ_self i), gI_parL hi, gI_secM hi]
  congr 1
  · congr 1
    by_cases e : i = 0
    · rw [if_pos e, if_pos e]
    · rw [if_neg e, if_neg e, show ((i : Int) - 1).toNat = i - 1 by omega, ordTo_old own _ _ (by omega)]
  · by_cases e : 0 ≤ sI M i
    · rw [if_pos e, if_pos e]
      have := (sI_bd M i).2 e
      rw [ordTo_old own _ _ (by omega)]
    · rw [if_neg e, if_neg e]
theorem oI_sum {M : List Int} (h : Eu M) (own : Nat → Int) {j : Nat} (hj : j < M.length) : oI own M j = own j + sumTo (fun i => if pB M i j = true then oI own M i else 0) j := by
  rw [oI_eq own hj, sum_prox h (oI own M) hj, Int.add_assoc]
theorem oI_nn {M : List Int} {own : Nat → Int} (ho : ∀ i, i < M.length → 0 ≤ own i) : ∀ i, i < M.length → 0 ≤ oI own M i := by
  intro i
  induction i using Nat.strongRecOn with
  | _ i ih =>
    intro hi
    rw [oI_eq own hi]
    have h1 := ho i hi
    have h2 : (0 : Int) ≤ if i = 0 then 0 else oI own M (i - 1) := by
      split
      · omega
      · exact ih _ (by omega) (by omega)
    have h3 : (0 : Int) ≤ if 0 ≤ sI M i then oI own M (sI M i).toNat else 0 := by
      split
      · rename_i e
        have := (sI_bd M i).2 e
        exact ih _ (by omega) (by omega)
      · omega
    omega
/-- What is left of the number i. -/
def lft (M : List Int) (n i : Nat) : Int := gI M i - sumTo (fun t => if pB M i t = true then gI M t else 0) n
theorem lft_self (M : List Int) (n : Nat) : lft M (n + 1) n = gI M n := by
  unfold lft
  rw [sumTo_const_zero (fun t ht => by rw [pB_no (by omega)]; rfl)]
  omega
theorem phi {M : List Int} (h : Eu M) (own : Nat → Int) : ∀ n, n ≤ M.length → sumTo (fun i => oI own M i * lft M n i) n = sumTo (fun i => gI M i * own i) n := by
  intro n
  induction n with
  | zero => intro _; rfl
  | succ n ih =>
    intro hn
    have ih := ih (by omega)
    rw [sumTo_succ, sumTo_succ, lft_self, ← ih]
    have e1 : sumTo (fun i => oI own M i * lft M (n + 1) i) n = sumTo (fun i => oI own M i * lft M n i + (-(gI M n)) * (if pB M i n = true then oI own M i else 0)) n := by
      refine sumTo_congr fun i _ => ?_
      show oI own M i * lft M (n + 1) i = oI own M i * lft M n i + -(gI M n) * _
      have : lft M (n + 1) i = lft M n i - (if pB M i n = true then gI M n else 0) := by unfold lft; rw [sumTo_succ]; omega
      rw [this, Int.mul_sub]
      cases pB M i n
      · simp
      · have e2 : -(gI M n) * oI own M i = -(oI own M i * gI M n) := by rw [Int.neg_mul, Int.mul_comm]
        simp only [if_true]
        omega
    rw [e1, sumTo_add, sumTo_mul, oI_sum h own (by omega : n < M.length), Int.add_mul, Int.neg_mul, Int.mul_comm (gI M n), Int.mul_comm (gI M n)]
    omega
theorem oI_small {M : List Int} (h : Eu M) (hl : M.length ≤ 400) {own : Nat → Int} (ho : ∀ i, i < M.length → 0 ≤ own i ∧ own i ≤ 64) {n : Nat} (hn : n < M.length) : 0 ≤ oI own M n ∧ oI own M n ≤ 1638400 := by
  have nn := oI_nn (own := own) (fun i hi => (ho i hi).1)
  refine ⟨nn n hn, ?_⟩
  have hp := phi h own (n + 1) hn
  rw [sumTo_succ, lft_self] at hp
  have h1 : 0 ≤ sumTo (fun i => oI own M i * lft M (n + 1) i) n := by
    have := sumTo_mono (f := fun i => oI own M i * lft M (n + 1) i) (n := 0) (m := n) (by omega) (fun i hi => by
      refine Int.mul_nonneg (nn i (by omega)) ?_
      have := prox_le h (by omega : i < M.length) (n + 1) hn
      unfold lft; omega)
    exact this
  have h2 := sumTo_bound (f := fun i => gI M i * own i) (n := n + 1) 0 4096 (fun i hi => by
    have a := h.pos i (by omega)
    have b := ho i (by omega)
    refine ⟨Int.mul_nonneg (by omega) b.1, ?_⟩
    have := Int.mul_le_mul a.2 b.2 b.1 (by omega : (0 : Int) ≤ 64)
    omega)
  have h3 := (h.pos n hn).1
  have h4 : oI own M n * 1 ≤ oI own M n * gI M n := Int.mul_le_mul_of_nonneg_left h3 (nn n hn)
  have h5 : ((n + 1 : Nat) : Int) * 4096 ≤ 400 * 4096 := by omega
  omega
theorem gI_ord {M : List Int} {own : Nat → Int} {i k : Nat} (h : i < k) : gI (ordTo own (parL M.length) (secM M) k) i = oI own M i := ordTo_old own _ _ h
end Go.Proofs.Ythpnmkghjnipoaa
