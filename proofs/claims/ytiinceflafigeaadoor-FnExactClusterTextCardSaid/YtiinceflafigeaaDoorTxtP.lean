/- Texts of numbers and of clusters: decimals, parts between bytes, words. No program in sight. -/
import Derived.Test.YtiinceflafigeaaDoorOrdPure
namespace Go.Proofs.YtiinceflafigeaaDoor

/-- The parts of a text between the bytes c. -/
def splitL (c : UInt8) : List UInt8 → List (List UInt8)
  | [] => [[]]
  | x :: r => if x = c then [] :: splitL c r else (x :: (splitL c r).headD []) :: (splitL c r).tail
theorem spl_cons (c x : UInt8) (r : List UInt8) : splitL c (x :: r) = if x = c then [] :: splitL c r else (x :: (splitL c r).headD []) :: (splitL c r).tail := rfl
theorem head_app {l m : List UInt8} (h : l ≠ []) : (l ++ m).head? = l.head? := by
  cases l with
  | nil => exact absurd rfl h
  | cons x l => rfl
theorem spl_ne (c : UInt8) (s : List UInt8) : splitL c s ≠ [] := by
  cases s with
  | nil => simp [splitL]
  | cons x r => unfold splitL; split <;> simp
theorem spl_no {c : UInt8} {s : List UInt8} (h : c ∉ s) : splitL c s = [s] := by
  induction s with
  | nil => rfl
  | cons x r ih =>
    simp only [List.mem_cons, not_or] at h
    rw [spl_cons, if_neg (fun e => h.1 e.symm), ih h.2]
    rfl
theorem spl_at {c : UInt8} {u r : List UInt8} (h : c ∉ u) : splitL c (u ++ c :: r) = u :: splitL c r := by
  induction u with
  | nil => simp [splitL]
  | cons x u ih =>
    simp only [List.mem_cons, not_or] at h
    show splitL c (x :: (u ++ c :: r)) = _
    rw [spl_cons, if_neg (fun e => h.1 e.symm), ih h.2]
    rfl
/-- Either the byte is not in the text, or the text is cut at the first one. -/
theorem cut_first (c : UInt8) (s : List UInt8) : c ∉ s ∨ ∃ u r, s = u ++ c :: r ∧ c ∉ u := by
  induction s with
  | nil => exact .inl (by simp)
  | cons x s ih =>
    by_cases e : x = c
    · exact .inr ⟨[], s, by rw [e]; rfl, by simp⟩
    · rcases ih with h | ⟨u, r, h1, h2⟩
      · exact .inl (by simp only [List.mem_cons, not_or]; exact ⟨fun h => e h.symm, h⟩)
      · exact .inr ⟨x :: u, r, by rw [h1]; rfl, by simp only [List.mem_cons, not_or]; exact ⟨fun h => e h.symm, h2⟩⟩
/-- Words with a byte between them. -/
def joinL (c : UInt8) : List (List UInt8) → List UInt8
  | [] => []
  | [x] => x
  | x :: y :: r => x ++ c :: joinL c (y :: r)
theorem join_cons {c : UInt8} {x : List UInt8} {r : List (List UInt8)} (h : r ≠ []) : joinL c (x :: r) = x ++ c :: joinL c r := by
  cases r with
  | nil => exact absurd rfl h
  | cons y r => rfl
theorem join_snoc {c : UInt8} {y : List UInt8} {xs : List (List UInt8)} (h : xs ≠ []) : joinL c (xs ++ [y]) = joinL c xs ++ c :: y := by
  induction xs with
  | nil => exact absurd rfl h
  | cons x xs ih =>
    by_cases e : xs = []
    · subst e; rfl
    · rw [List.cons_append, join_cons (by simp), ih e, join_cons e]; simp
theorem join_spl (c : UInt8) : ∀ (n : Nat) (s : List UInt8), s.length ≤ n → joinL c (splitL c s) = s := by
  intro n
  induction n with
  | zero => intro s hs; have : s = [] := List.eq_nil_of_length_eq_zero (by omega); subst this; rfl
  | succ n ih =>
    intro s hs
    rcases cut_first c s with h | ⟨u, r, rfl, hu⟩
    · rw [spl_no h]; rfl
    · rw [spl_at hu, join_cons (spl_ne c r), ih r (by simp at hs; omega)]
theorem spl_join {c : UInt8} {ws : List (List UInt8)} (h : ws ≠ []) (hn : ∀ x ∈ ws, c ∉ x) : splitL c (joinL c ws) = ws := by
  induction ws with
  | nil => exact absurd rfl h
  | cons x r ih =>
    by_cases e : r = []
    · subst e; exact spl_no (hn x (by simp))
    · rw [join_cons e, spl_at (hn x (by simp)), ih e (fun y hy => hn y (List.mem_cons_of_mem _ hy))]

/-- A digit. -/
def digB (x : UInt8) : Bool := decide (48 ≤ x.toNat ∧ x.toNat ≤ 57)
theorem digB_iff {x : UInt8} : digB x = true ↔ 48 ≤ x.toNat ∧ x.toNat ≤ 57 := by simp [digB]
/-- What digits say. -/
def valN (l : List UInt8) : Nat := l.foldl (fun n x => n * 10 + (x.toNat - 48)) 0
theorem valN_snoc (l : List UInt8) (x : UInt8) : valN (l ++ [x]) = valN l * 10 + (x.toNat - 48) := by simp [valN]
/-- Digits without leading zeros. -/
def canB (l : List UInt8) : Bool := decide (l ≠ [] ∧ (∀ x ∈ l, digB x = true) ∧ (1 < l.length → l.head? ≠ some 48))
theorem canB_iff {l : List UInt8} : canB l = true ↔ l ≠ [] ∧ (∀ x ∈ l, digB x = true) ∧ (1 < l.length → l.head? ≠ some 48) := by simp only [canB, decide_eq_true_eq]
/-- A number in decimal. -/
def decL (n : Nat) : List UInt8 := if n < 10 then [UInt8.ofNat (48 + n)] else decL (n / 10) ++ [UInt8.ofNat (48 + n % 10)]
termination_by n
theorem decL_lt {n : Nat} (h : n < 10) : decL n = [UInt8.ofNat (48 + n)] := by unfold decL; rw [if_pos h]
theorem decL_ge {n : Nat} (h : ¬ n < 10) : decL n = decL (n / 10) ++ [UInt8.ofNat (48 + n % 10)] := by
  conv => lhs; unfold decL
  rw [if_neg h]
theorem dig_nat {d : Nat} (h : d < 10) : (UInt8.ofNat (48 + d)).toNat = 48 + d := by simp; omega
theorem decL_ne (n : Nat) : decL n ≠ [] := by
  by_cases h : n < 10
  · rw [decL_lt h]; simp
  · rw [decL_ge h]; simp
theorem decL_dig : ∀ (n : Nat), ∀ x ∈ decL n, digB x = true := by
  intro n
  induction n using Nat.strongRecOn with
  | _ n ih =>
    intro x hx
    by_cases h : n < 10
    · rw [decL_lt h] at hx
      simp only [List.mem_singleton] at hx
      subst hx
      rw [digB_iff, dig_nat h]; omega
    · rw [decL_ge h, List.mem_append] at hx
      rcases hx with hx | hx
      · exact ih (n / 10) (by omega) x hx
      · simp only [List.mem_singleton] at hx
        subst hx
        rw [digB_iff, dig_nat (by omega)]; omega
theorem decL_head : ∀ (n : Nat), 0 < n → (decL n).head? ≠ some 48 := by
  intro n
  induction n using Nat.strongRecOn with
  | _ n ih =>
    intro h0
    by_cases h : n < 10
    · rw [decL_lt h]
      simp only [List.head?_cons, ne_eq, Option.some.injEq]
      intro e
      have := congrArg UInt8.toNat e
      rw [dig_nat h] at this
      have e2 : (48 : UInt8).toNat = 48 := rfl
      omega
    · rw [decL_ge h, head_app (decL_ne _)]
      exact ih (n / 10) (by omega) (by omega)
theorem decL_can (n : Nat) : canB (decL n) = true := by
  refine canB_iff.2 ⟨decL_ne n, decL_dig n, fun h => ?_⟩
  by_cases h0 : n = 0
  · subst h0; rw [decL_lt (by omega)] at h; simp at h
  · exact decL_head n (by omega)
theorem decL_val : ∀ (n : Nat), valN (decL n) = n := by
  intro n
  induction n using Nat.strongRecOn with
  | _ n ih =>
    by_cases h : n < 10
    · rw [decL_lt h]
      show 0 * 10 + ((UInt8.ofNat (48 + n)).toNat - 48) = n
      rw [dig_nat h]; omega
    · rw [decL_ge h, valN_snoc, ih (n / 10) (by omega), dig_nat (by omega)]; omega
theorem decL_len : ∀ (k n : Nat), n < 10 ^ (k + 1) → (decL n).length ≤ k + 1 := by
  intro k
  induction k with
  | zero => intro n h; rw [decL_lt (by omega)]; simp
  | succ k ih =>
    intro n h
    by_cases h1 : n < 10
    · rw [decL_lt h1]; simp
    · rw [decL_ge h1, List.length_append]
      have := ih (n / 10) (by rw [Nat.pow_succ] at h; omega)
      simp; omega
theorem valN_bd : ∀ (l : List UInt8), (∀ x ∈ l, digB x = true) → valN l < 10 ^ l.length := by
  intro l
  induction h : l.length generalizing l with
  | zero => intro _; have : l = [] := List.eq_nil_of_length_eq_zero h; subst this; simp [valN]
  | succ k ih =>
    intro hd
    have hne : l ≠ [] := by intro e; subst e; simp at h
    obtain ⟨m, x, rfl⟩ : ∃ m x, l = m ++ [x] := ⟨l.dropLast, l.getLast hne, (List.dropLast_concat_getLast hne).symm⟩
    have h1 := ih m (by simp at h; omega) (fun y hy => hd y (by simp [hy]))
    have h2 := digB_iff.1 (hd x (by simp))
    rw [valN_snoc, Nat.pow_succ]; omega
theorem valN_pos : ∀ (l : List UInt8), (∀ x ∈ l, digB x = true) → l ≠ [] → l.head? ≠ some 48 → 0 < valN l := by
  intro l
  induction h : l.length generalizing l with
  | zero => intro _ hne; exact absurd (List.eq_nil_of_length_eq_zero h) hne
  | succ k ih =>
    intro hd hne hh
    obtain ⟨m, x, rfl⟩ : ∃ m x, l = m ++ [x] := ⟨l.dropLast, l.getLast hne, (List.dropLast_concat_getLast hne).symm⟩
    rw [valN_snoc]
    by_cases e : m = []
    · subst e
      have h2 := digB_iff.1 (hd x (by simp))
      have : x.toNat ≠ 48 := by
        intro e2
        apply hh
        show some x = some 48
        rw [show x = 48 from UInt8.toNat_inj.1 (by rw [e2]; rfl)]
      show 0 < 0 * 10 + (x.toNat - 48)
      omega
    · have h1 := ih m (by simp at h; omega) (fun y hy => hd y (by simp [hy])) e (by rwa [head_app e] at hh)
      omega
/-- Digits without leading zeros are the decimal of what they say. -/
theorem can_dec : ∀ (l : List UInt8), canB l = true → decL (valN l) = l := by
  intro l
  induction h : l.length generalizing l with
  | zero => intro hc; exact absurd (List.eq_nil_of_length_eq_zero h) (canB_iff.1 hc).1
  | succ k ih =>
    intro hc
    obtain ⟨hne, hd, hh⟩ := canB_iff.1 hc
    obtain ⟨m, x, rfl⟩ : ∃ m x, l = m ++ [x] := ⟨l.dropLast, l.getLast hne, (List.dropLast_concat_getLast hne).symm⟩
    have hx := digB_iff.1 (hd x (by simp))
    have ex : ∀ d, d = x.toNat - 48 → UInt8.ofNat (48 + d) = x := fun d e => UInt8.toNat_inj.1 (by rw [dig_nat (by omega)]; omega)
    rw [valN_snoc]
    by_cases e : m = []
    · subst e
      have e0 : valN [] = 0 := rfl
      rw [e0, decL_lt (by omega), ex _ (by omega)]; rfl
    · have hml : 0 < m.length := List.length_pos_iff.2 e
      have hh' := hh (by simp; omega)
      rw [head_app e] at hh'
      have hmd : ∀ y ∈ m, digB y = true := fun y hy => hd y (by simp [hy])
      have hp := valN_pos m hmd e hh'
      have h1 := ih m (by simp at h; omega) (canB_iff.2 ⟨e, hmd, fun _ => hh'⟩)
      rw [decL_ge (by omega), show (valN m * 10 + (x.toNat - 48)) / 10 = valN m by omega, h1, ex _ (by omega)]

/-- Digits without leading zeros, at most nine. -/
def numB (l : List UInt8) : Bool := canB l && decide (l.length ≤ 9)
theorem numB_iff {l : List UInt8} : numB l = true ↔ canB l = true ∧ l.length ≤ 9 := by simp [numB]
theorem num_dec {n : Nat} (h : n < 1000000000) : numB (decL n) = true := numB_iff.2 ⟨decL_can n, decL_len 8 n h⟩
theorem num_val {l : List UInt8} (h : numB l = true) : valN l < 1000000000 := by
  obtain ⟨h1, h2⟩ := numB_iff.1 h
  have := valN_bd l (canB_iff.1 h1).2.1
  have h3 : 10 ^ l.length ≤ 10 ^ 9 := Nat.pow_le_pow_right (by omega) h2
  omega
/-- The number that is written, or -1. -/
def valI (l : List UInt8) : Int := if numB l then (valN l : Int) else -1
theorem valI_yes {l : List UInt8} (h : numB l = true) : valI l = valN l := by unfold valI; rw [if_pos h]
theorem valI_no {l : List UInt8} (h : numB l = false) : valI l = -1 := by unfold valI; rw [if_neg (by simp [h])]
theorem valI_bd (l : List UInt8) : -1 ≤ valI l ∧ valI l < 1000000000 := by
  cases h : numB l
  · rw [valI_no h]; omega
  · rw [valI_yes h]; have := num_val h; omega
theorem valI_dec {n : Nat} (h : n < 1000000000) : valI (decL n) = n := by rw [valI_yes (num_dec h), decL_val]
/-- A number in decimal, with a sign if it is negative. -/
def sgnL (n : Int) : List UInt8 := if n < 0 then 45 :: decL (-n).toNat else decL n.toNat
theorem sgnL_neg {n : Int} (h : n < 0) : sgnL n = 45 :: decL (-n).toNat := by unfold sgnL; rw [if_pos h]
theorem sgnL_nn {n : Int} (h : ¬ n < 0) : sgnL n = decL n.toNat := by unfold sgnL; rw [if_neg h]
theorem dig_ne {x c : UInt8} (h : digB x = true) (hc : c.toNat < 48 ∨ 57 < c.toNat) : x ≠ c := by
  rintro rfl
  have := digB_iff.1 h
  omega
theorem dec_no {c : UInt8} (n : Nat) (hc : c.toNat < 48 ∨ 57 < c.toNat) : c ∉ decL n := fun h => dig_ne (decL_dig n c h) hc rfl
theorem sgn_no {c : UInt8} (n : Int) (hc : c.toNat < 48 ∨ 57 < c.toNat) (h5 : c ≠ 45) : c ∉ sgnL n := by
  by_cases h : n < 0
  · rw [sgnL_neg h]; simp only [List.mem_cons, not_or]; exact ⟨h5, dec_no _ hc⟩
  · rw [sgnL_nn h]; exact dec_no _ hc
theorem dec_head45 (n : Nat) : (decL n).head? ≠ some 45 := by
  intro h
  have : (45 : UInt8) ∈ decL n := List.mem_of_head? h
  exact dec_no n (.inl (by decide)) this

/-- The word of a point. -/
def wordT (w p s : Int) : List UInt8 := sgnL w ++ if 0 ≤ p then 58 :: (decL p.toNat ++ if 0 ≤ s then 44 :: decL s.toNat else []) else []
theorem wordT_1 {w p s : Int} (hp : ¬ 0 ≤ p) : wordT w p s = sgnL w := by unfold wordT; rw [if_neg hp]; simp
theorem wordT_2 {w p s : Int} (hp : 0 ≤ p) (hs : ¬ 0 ≤ s) : wordT w p s = sgnL w ++ 58 :: decL p.toNat := by unfold wordT; rw [if_pos hp, if_neg hs]; simp
theorem wordT_3 {w p s : Int} (hp : 0 ≤ p) (hs : 0 ≤ s) : wordT w p s = sgnL w ++ 58 :: (decL p.toNat ++ 44 :: decL s.toNat) := by unfold wordT; rw [if_pos hp, if_pos hs]
theorem wordT_no (w p s : Int) : (32 : UInt8) ∉ wordT w p s := by
  have h1 : (32 : UInt8) ∉ sgnL w := sgn_no w (.inl (by decide)) (by decide)
  have h2 : ∀ n, (32 : UInt8) ∉ decL n := fun n => dec_no n (.inl (by decide))
  by_cases hp : 0 ≤ p
  · by_cases hs : 0 ≤ s
    · rw [wordT_3 hp hs]
      simp only [List.mem_append, List.mem_cons, not_or]
      exact ⟨h1, by decide, h2 _, by decide, h2 _⟩
    · rw [wordT_2 hp hs]
      simp only [List.mem_append, List.mem_cons, not_or]
      exact ⟨h1, by decide, h2 _⟩
  · rw [wordT_1 hp]; exact h1
/-- The words of a cluster. -/
def wordsT (P S W : List Int) : List (List UInt8) := (List.range W.length).map fun i => wordT (gI W i) (gI P i) (gI S i)
/-- The text of a cluster. -/
def ctL (P S W : List Int) : List UInt8 := joinL 32 (wordsT P S W)
@[simp] theorem wordsT_len (P S W : List Int) : (wordsT P S W).length = W.length := by simp [wordsT]
theorem spl_ct {P S W : List Int} (h : 0 < W.length) : splitL 32 (ctL P S W) = wordsT P S W := by
  refine spl_join (fun e => ?_) (fun x hx => ?_)
  · have := congrArg List.length e; simp at this; subst this; simp at h
  · simp only [wordsT, List.mem_map] at hx
    obtain ⟨i, _, rfl⟩ := hx
    exact wordT_no _ _ _
end Go.Proofs.YtiinceflafigeaaDoor
