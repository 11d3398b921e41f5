/- Texts of numbers and of clusters: decimals, parts between bytes, words. No program in sight. -/
import Derived.Test.YtglghdkjppcedaaGreatDoorPart2
namespace Go.Proofs.YtglghdkjppcedaaGreatDoor

/-- The parts of a text between the bytes c. -/
def splitL (c : UInt8) : List UInt8 → List (List UInt8)
  | [] => [[]]
  | x :: r => if x = c then [] :: splitL c r else (x :: (splitL c r).headD []) :: (splitL c r).tail
theorem spl_cons (c x : UInt8) (r : List UInt8) : splitL c (x :: r) = if x = c then [] :: splitL c r else (x :: (splitL c r).headD []) :: (splitL c r).tail := rfl
theorem head_app {l m : List UInt8} (h : l ≠ []) : (l ++ m).head? = l.head? := by
  cases l with
  | nil => exact absurd rfl h
  | cons x l => rfl
theorem spl_ne (c : UInt8) (s : List UInt8) : splitL c s ≠ [] := by
  cases s with
  | nil => simp [splitL]
  | cons x r => unfold splitL; split <;> simp
theorem spl_no {c : UInt8} {s : List UInt8} (h : c ∉ s) : splitL c s = [s] := by
  induction s with
  | nil => rfl
  | cons x r ih =>
    simp only [List.mem_cons, not_or] at h
    rw [spl_cons, if_neg (fun e => h.1 e.symm), ih h.2]
    rfl
theorem spl_at {c : UInt8} {u r : List UInt8} (h : c ∉ u) : splitL c (u ++ c :: r) = u :: splitL c r := by
  induction u with
  | nil => simp [splitL]
  | cons x u ih =>
    simp only [List.mem_cons, not_or] at h
    show splitL c (x :: (u ++ c :: r)) = _
    rw [spl_cons, if_neg (fun e => h.1 e.symm), ih h.2]
    rfl
/-- Either the byte is not in the text, or the text is cut at the first one. -/
theorem cut_first (c : UInt8) (s : List UInt8) : c ∉ s ∨ ∃ u r, s = u ++ c :: r ∧ c ∉ u := by
  induction s with
  | nil => exact .inl (by simp)
  | cons x s ih =>
    by_cases e : x = c
    · exact .inr ⟨[], s, by rw [e]; rfl, by simp⟩
    · rcases ih with h | ⟨u, r, h1, h2⟩
      · exact .inl (by simp only [List.mem_cons, not_or]; exact ⟨fun h => e h.symm, h⟩)
      · exact .inr ⟨x :: u, r, by rw [h1]; rfl, by simp only [List.mem_cons, not_or]; exact ⟨fun h => e h.symm, h2⟩⟩
/-- Words with a byte between them. -/
def joinL (c : UInt8) : List (List UInt8) → List UInt8
  | [] => []
  | [x] => x
  | x :: y :: r => x ++ c :: joinL c (y :: r)
theorem join_cons {c : UInt8} {x : List UInt8} {r : List (List UInt8)} (h : r ≠ []) : joinL c (x :: r) = x ++ c :: joinL c r := by
  cases r with
  | nil => exact absurd rfl h
  | cons y r => rfl
theorem join_snoc {c : UInt8} {y : List UInt8} {xs : List (List UInt8)} (h : xs ≠ []) : joinL c (xs ++ [y]) = joinL c xs ++ c :: y := by
  induction xs with
  | nil => exact absurd rfl h
  | cons x xs ih =>
    by_cases e : xs = []
    · subst e; rfl
    · rw [List.cons_append, join_cons (by simp), ih e, join_cons e]; simp
theorem join_spl (c : UInt8) : ∀ (n : Nat) (s : List UInt8), s.length ≤ n → joinL c (splitL c s) = s := by
  intro n
  induction n with
  | zero => intro s hs; have : s = [] := List.eq_nil_of_length_eq_zero (by omega); subst this; rfl
  | succ n ih =>
    intro s hs
    rcases cut_first c s with h | ⟨u, r, rfl, hu⟩
    · rw [spl_no h]; rfl
    · rw [spl_at hu, join_cons (spl_ne c r), ih r (by simp at hs; omega)]
theorem spl_join {c : UInt8} {ws : List (List UInt8)} (h : ws ≠ []) (hn : ∀ x ∈ ws, c ∉ x) : splitL c (joinL c ws) = ws := by
  induction ws with
  | nil => exact absurd rfl h
  | cons x r ih =>
    by_cases e : r = []
    · subst e; exact spl_no (hn x (by simp))
    · rw [join_cons e, spl_at (hn x (by simp)), ih e (fun y hy => hn y (List.mem_cons_of_mem _ hy))]

/-- A digit. -/
def digB (x : UInt8) : Bool := decide (48 ≤ x.toNat ∧ x.toNat ≤ 57)
theorem digB_iff {x : UInt8} : digB x = true ↔ 48 ≤ x.toNat ∧ x.toNat ≤ 57 := by simp [digB]
/-- What digits say. -/
def valN (l : List UInt8) : Nat := l.foldl (fun n x => n * 10 + (x.toNat - 48)) 0
theorem valN_snoc (l : List UInt8) (x : UInt8) : valN (l ++ [x]) = valN l * 10 + (x.toNat - 48) := by simp [valN]
/-- Digits without leading zeros. -/
def canB (l : List UInt8) : Bool := decide (l ≠ [] ∧ (∀ x ∈ l, digB x = true) ∧ (1 < l.length → l.head? ≠ some 48))
theorem canB_iff {l : List UInt8} : canB l = true ↔ l ≠ [] ∧ (∀ x ∈ l, digB x = true) ∧ (1 < l.length → l.head? ≠ some 48) := by simp only [canB, decide_eq_true_eq]
/-- A number in decimal. -/
def decL (n : Nat) : List UInt8 := if n < 10 then [UInt8.ofNat (48 + n)] else decL (n / 10) ++ [UInt8.ofNat (48 + n % 10)]
termination_by n
theorem decL_lt {n : Nat} (h : n < 10) : decL n = [UInt8.ofNat (48 + n)] := by unfold decL; rw [if_pos h]
theorem decL_ge {n : Nat} (h : ¬ n < 10) : decL n = decL (n / 10) ++ [UInt8.ofNat (48 + n % 10)] := by
  conv => lhs; unfold decL
  rw [if_neg h]
theorem dig_nat {d : Nat} (h : d < 10) : (UInt8.ofNat (48 + d)).toNat = 48 + d := by simp; omega
theorem decL_ne (n : Nat) : decL n ≠ [] := by
  by_cases h : n < 10
  · rw [decL_lt h]; simp
  · rw [decL_ge h]; simp
theorem decL_dig : ∀ (n : Nat), ∀ x ∈ decL n, digB x = true := by
  intro n
  induction n using Nat.strongRecOn with
  | _ n ih =>
    intro x hx
    by_cases h : n < 10
    · rw [decL_lt h] at hx
      simp only [List.mem_singleton] at hx
      subst hx
      rw [digB_iff, dig_nat h]; omega
    · rw [decL_ge h, List.mem_append] at hx
      rcases hx with hx | hx
      · exact ih (n / 10) (by omega) x hx
      · simp only [List.mem_singleton] at hx
        subst hx
        rw [digB_iff, dig_nat (by omega)]; omega
theorem decL_head : ∀ (n : Nat), 0 < n → (decL n).head? ≠ some 48 := by
  intro n
  induction n using Nat.strongRecOn with
  | _ n ih =>
    intro h0
    by_cases h : n < 10
    · rw [decL_lt h]
      simp only [List.head?_cons, ne_eq, Option.some.injEq]
      intro e
      have := congrArg UInt8.toNat e
      rw [dig_nat h] at this
      have e2 : (48 : UInt8).toNat = 48 := rfl
      omega
    · rw [decL_ge h, head_app (decL_ne _)]
      exact ih (n / 10) (by omega) (by omega)
theorem decL_can (n : Nat) : canB (decL n) = true := by
  refine canB_iff.2 ⟨decL_ne n, decL_dig n, fun h => ?_⟩
  by_cases h0 : n = 0
  · subst h0; rw [decL_lt (by omega)] at h; simp at h
  · exact decL_head n (by omega)
theorem decL_val : ∀ (n : Nat), valN (decL n) = n := by
  intro n
  induction n using Nat.strongRecOn with
  | _ n ih =>
    by_cases h : n < 10
    · rw [decL_lt h]
      show 0 * 10 + ((UInt8.ofNat (48 + n)).toNat - 48) = n
      rw [dig_nat h]; omega
    · rw [decL_ge h, valN_snoc, ih (n / 10) (by omega), dig_nat (by omega)]; omega
theorem decL_len : ∀ (k n : Nat), n < 10 ^ (k + 1) → (decL n).length ≤ k + 1 := by
  intro k
  induction k with
  | zero => intro n h; rw [decL_lt (by omega)]; simp
  | succ k ih =>
    intro n h
    by_cases h1 : n < 10
    · rw [decL_lt h1]; simp
    · rw [decL_ge h1, List.length_append]
      have := ih (n / 10) (by rw [Nat.pow_succ] at h; omega)
      simp; omega
theorem valN_bd : ∀ (l : List UInt8), (∀ x ∈ l, digB x = true) → valN l < 10 ^ l.length := by
  intro l
  induction h : l.length generalizing l with
  | zero => intro _; have : l = [] := List.eq_nil_of_length_eq_zero h; subst this; simp [valN]
  | succ k ih =>
    intro hd
    have hne : l ≠ [] := by intro e; subst e; simp at h
    obtain ⟨m, x, rfl⟩ : ∃ m x, l = m ++ [x] := ⟨l.dropLast, l.getLast hne, (List.dropLast_concat_getLast hne).symm⟩
    have h1 := ih m (by simp at h; omega) (fun y hy => hd y (by simp [hy]))
    have h2 := digB_iff.1 (hd x (by simp))
    rw [valN_snoc, Nat.pow_succ]; omega
theorem valN_pos : ∀ (l : List UInt8), (∀ x ∈ l, digB x = true) → l ≠ [] → l.head? ≠ some 48 → 0 < valN l := by
  intro l
  induction h : l.length generalizing l with
  | zero => intro _ hne; exact absurd (List.eq_nil_of_length_eq_zero h) hne
  | succ k ih =>
    intro hd hne hh
    obtain ⟨m, x, rfl⟩ : ∃ m x, l = m ++ [x] := ⟨l.dropLast, l.getLast hne, (List.dropLast_concat_getLast hne).symm⟩
    rw [valN_snoc]
    by_cases e : m = []
    · subst e
      have h2 := digB_iff.1 (hd x (by simp))
      have : x.toNat ≠ 48 := by
        intro e2
        apply hh
        show some x = some 48
        rw [show x = 48 from UInt8.toNat_inj.1 (by rw [e2]; rfl)]
      show 0 < 0 * 10 + (x.toNat - 48)
      omega
    · have h1 := ih m (by simp at h; omega) (fun y hy => hd y (by simp [hy])) e (by rwa [head_app e] at hh)
      omega
/-- Digits without leading zeros are the decimal of what they say. -/
theorem can_dec : ∀ (l : List UInt8), canB l = true → decL (valN l) = l := by
  intro l
  induction h : l.length generalizing l with
  | zero => intro hc; exact absurd (List.eq_nil_of_length_eq_zero h) (canB_iff.1 hc).1
  | succ k ih =>
    intro hc
    obtain ⟨hne, hd, hh⟩ := canB_iff.1 hc
    obtain ⟨m, x, rfl⟩ : ∃ m x, l = m ++ [x] := ⟨l.dropLast, l.getLast hne, (List.dropLast_concat_getLast hne).symm⟩
    have hx := digB_iff.1 (hd x (by simp))
    have ex : ∀ d, d = x.toNat - 48 → UInt8.ofNat (48 + d) = x := fun d e => UInt8.toNat_inj.1 (by rw [dig_nat (by omega)]; omega)
    rw [valN_snoc]
    by_cases e : m = []
    · subst e
      have e0 : valN [] = 0 := rfl
      rw [e0, decL_lt (by omega), ex _ (by omega)]; rfl
    · have hml : 0 < m.length := List.length_pos_iff.2 e
      have hh' := hh (by simp; omega)
      rw [head_app e] at hh'
      have hmd : ∀ y ∈ m, digB y = true := fun y hy => hd y (by simp [hy])
      have hp := valN_pos m hmd e hh'
      have h1 := ih m (by simp at h; omega) (canB_iff.2 ⟨e, hmd, fun _ => hh'⟩)
      rw [decL_ge (by omega), show (valN m * 10 + (x.toNat - 48)) / 10 = valN m by omega, h1, ex _ (by omega)]

/-- Digits without leading zeros, at most nine. -/
def numB (l : List UInt8) : Bool := canB l && decide (l.length ≤ 9)
theorem numB_iff {l : List UInt8} : numB l = true ↔ canB l = true ∧ l.length ≤ 9 := by simp [numB]
theorem num_dec {n : Nat} (h : n < 1000000000) : numB (decL n) = true := numB_iff.2 ⟨decL_can n, decL_len 8 n h⟩
theorem num_val {l : List UInt8} (h : numB l = true) : valN l < 1000000000 := by
  obtain ⟨h1, h2⟩ := numB_iff.1 h
  have := valN_bd l (canB_iff.1 h1).2.1
  have h3 : 10 ^ l.length ≤ 10 ^ 9 := Nat.pow_le_pow_right (by omega) h2
  omega
/-- The number that is written, or -1. -/
def valI (l : List UInt8) : Int := if numB l then (valN l : Int) else -1
theorem valI_yes {l : List UInt8} (h : numB l = true) : valI l = valN l := by unfold valI; rw [if_pos h]
theorem valI_no {l : List UInt8} (h : numB l = false) : valI l = -1 := by unfold valI; rw [if_neg (by simp [h])]
theorem valI_bd (l : List UInt8) : -1 ≤ valI l ∧ valI l < 1000000000 := by
  cases h : numB l
  · rw [valI_no h]; omega
  · rw [valI_yes h]; have := num_val h; omega
theorem valI_dec {n : Nat} (h : n < 1000000000) : valI (decL n) = n := by rw [valI_yes (num_dec h), decL_val]
/-- A number in decimal, with a sign if it is negative. -/
def sgnL (n : Int) : List UInt8 := if n < 0 then 45 :: decL (-n).toNat else decL n.toNat
theorem sgnL_neg {n : Int} (h : n < 0) : sgnL n = 45 :: decL (-n).toNat := by unfold sgnL; rw [if_pos h]
theorem sgnL_nn {n : Int} (h : ¬ n < 0) : sgnL n = decL n.toNat := by unfold sgnL; rw [if_neg h]
theorem dig_ne {x c : UInt8} (h : digB x = true) (hc : c.toNat < 48 ∨ 57 < c.toNat) : x ≠ c := by
  rintro rfl
  have := digB_iff.1 h
  omega
theorem dec_no {c : UInt8} (n : Nat) (hc : c.toNat < 48 ∨ 57 < c.toNat) : c ∉ decL n := fun h => dig_ne (decL_dig n c h) hc rfl
theorem sgn_no {c : UInt8} (n : Int) (hc : c.toNat < 48 ∨ 57 < c.toNat) (h5 : c ≠ 45) : c ∉ sgnL n := by
  by_cases h : n < 0
  · rw [sgnL_neg h]; simp only [List.mem_cons, not_or]; exact ⟨h5, dec_no _ hc⟩
  · rw [sgnL_nn h]; exact dec_no _ hc
theorem dec_head45 (n : Nat) : (decL n).head? ≠ some 45 := by
  intro h
  have : (45 : UInt8) ∈ decL n := List.mem_of_head? h
  exact dec_no n (.inl (by decide)) this

/-- The word of a point. -/
def wordT (w p s : Int) : List UInt8 := sgnL w ++ if 0 ≤ p then 58 :: (decL p.toNat ++ if 0 ≤ s then 44 :: decL s.toNat else []) else []
theorem wordT_1 {w p s : Int} (hp : ¬ 0 ≤ p) : wordT w p s = sgnL w := by unfold wordT; rw [if_neg hp]; simp
theorem wordT_2 {w p s : Int} (hp : 0 ≤ p) (hs : ¬ 0 ≤ s) : wordT w p s = sgnL w ++ 58 :: decL p.toNat := by unfold wordT; rw [if_pos hp, if_neg hs]; simp
theorem wordT_3 {w p s : Int} (hp : 0 ≤ p) (hs : 0 ≤ s) : wordT w p s = sgnL w ++ 58 :: (decL p.toNat ++ 44 :: decL s.toNat) := by unfold wordT; rw [if_pos hp, if_pos hs]
theorem wordT_no (w p s : Int) : (32 : UInt8) ∉ wordT w p s := by
  have h1 : (32 : UInt8) ∉ sgnL w := sgn_no w (.inl (by decide)) (by decide)
  have h2 : ∀ n, (32 : UInt8) ∉ decL n := fun n => dec_no n (.inl (by decide))
  by_cases hp : 0 ≤ p
  · by_cases hs : 0 ≤ s
    · rw [wordT_3 hp hs]
      simp only [List.mem_append, List.mem_cons, not_or]
      exact ⟨h1, by decide, h2 _, by decide, h2 _⟩
    · rw [wordT_2 hp hs]
      simp only [List.mem_append, List.mem_cons, not_or]
      exact ⟨h1, by decide, h2 _⟩
  · rw [wordT_1 hp]; exact h1
/-- The words of a cluster. -/
def wordsT (P S W : List Int) : List (List UInt8) := (List.range W.length).map fun i => wordT (gI W i) (gI P i) (gI S i)
/-- The text of a cluster. -/
def ctL (P S W : List Int) : List UInt8 := joinL 32 (wordsT P S W)
@[simp] theorem wordsT_len (P S W : List Int) : (wordsT P S W).length = W.length := by simp [wordsT]
theorem spl_ct {P S W : List Int} (h : 0 < W.length) : splitL 32 (ctL P S W) = wordsT P S W := by
  refine spl_join (fun e => ?_) (fun x hx => ?_)
  · have := congrArg List.length e; simp at this; subst this; simp at h
  · simp only [wordsT, List.mem_map] at hx
    obtain ⟨i, _, rfl⟩ := hx
    exact wordT_no _ _ _
end Go.Proofs.YtglghdkjppcedaaGreatDoor

/- How the words of a cluster's text are read: by the reference, by the program. No program in sight. -/
namespace Go.Proofs.YtglghdkjppcedaaGreatDoor

/-- What stands before the first byte c, what stands behind it; is there one? -/
def bef (c : UInt8) : List UInt8 → List UInt8
  | [] => []
  | x :: r => if x = c then [] else x :: bef c r
def aft (c : UInt8) : List UInt8 → List UInt8
  | [] => []
  | x :: r => if x = c then r else aft c r
def hasC (c : UInt8) : List UInt8 → Bool
  | [] => false
  | x :: r => if x = c then true else hasC c r
theorem hasC_no {c : UInt8} {s : List UInt8} (h : c ∉ s) : hasC c s = false ∧ bef c s = s ∧ aft c s = [] := by
  induction s with
  | nil => exact ⟨rfl, rfl, rfl⟩
  | cons x r ih =>
    simp only [List.mem_cons, not_or] at h
    obtain ⟨h1, h2, h3⟩ := ih h.2
    have e : ¬ x = c := fun e => h.1 e.symm
    simp only [hasC, bef, aft, if_neg e]
    exact ⟨h1, by rw [h2], h3⟩
theorem hasC_at {c : UInt8} {u r : List UInt8} (h : c ∉ u) : hasC c (u ++ c :: r) = true ∧ bef c (u ++ c :: r) = u ∧ aft c (u ++ c :: r) = r := by
  induction u with
  | nil => simp [hasC, bef, aft]
  | cons x u ih =>
    simp only [List.mem_cons, not_or] at h
    obtain ⟨h1, h2, h3⟩ := ih h.2
    have e : ¬ x = c := fun e => h.1 e.symm
    simp only [List.cons_append, hasC, bef, aft, if_neg e]
    exact ⟨h1, by rw [h2], h3⟩
theorem spl_has (c : UInt8) (s : List UInt8) : splitL c s = if hasC c s then bef c s :: splitL c (aft c s) else [s] := by
  rcases cut_first c s with h | ⟨u, r, rfl, hu⟩
  · rw [(hasC_no h).1, spl_no h]; rfl
  · obtain ⟨h1, h2, h3⟩ := hasC_at (r := r) hu
    rw [h1, h2, h3, spl_at hu]; rfl

/-- The integer that is written, or one that is too large. -/
def intI (s : List UInt8) : Int := if s.head? = some 45 then (if valI s.tail < 0 then 100001 else -(valI s.tail)) else (if valI s < 0 then 100001 else valI s)
theorem intI_neg (t : List UInt8) : intI (45 :: t) = if valI t < 0 then 100001 else -(valI t) := by unfold intI; rw [if_pos (show (45 :: t).head? = some 45 from rfl)]; rfl
theorem intI_nn {t : List UInt8} (h : t.head? ≠ some 45) : intI t = if valI t < 0 then 100001 else valI t := by unfold intI; rw [if_neg h]
theorem intI_sgn {w : Int} (h1 : -1000000000 < w) (h2 : w < 1000000000) : intI (sgnL w) = w := by
  by_cases h : w < 0
  · rw [sgnL_neg h, intI_neg, valI_dec (by omega), if_neg (by omega)]; omega
  · rw [sgnL_nn h, intI_nn (dec_head45 _), valI_dec (by omega), if_neg (by omega)]; omega
def gT (l : List (List UInt8)) (i : Nat) : List UInt8 := l.getD i []
/-- The reference's reading of a word. -/
def spW (x : List UInt8) : Int := intI (gT (splitL 58 x) 0)
def spP (x : List UInt8) : Int := if (splitL 58 x).length = 2 then valI (gT (splitL 44 (gT (splitL 58 x) 1)) 0) else -1
def spS (x : List UInt8) : Int := if (splitL 58 x).length = 2 then (if (splitL 44 (gT (splitL 58 x) 1)).length = 2 then valI (gT (splitL 44 (gT (splitL 58 x) 1)) 1) else -1) else -1
theorem sp_word {w p s : Int} (h1 : -1000000000 < w) (h2 : w < 1000000000) (hp1 : -1 ≤ p) (hp2 : p < 1000000000) (hs1 : -1 ≤ s) (hs2 : s < 1000000000) (hps : p = -1 → s = -1) :
    spW (wordT w p s) = w ∧ spP (wordT w p s) = p ∧ spS (wordT w p s) = s := by
  have n58 : ∀ n, (58 : UInt8) ∉ sgnL n := fun n => sgn_no n (.inr (by decide)) (by decide)
  have d44 : ∀ n, (44 : UInt8) ∉ decL n := fun n => dec_no n (.inl (by decide))
  have d58 : ∀ n, (58 : UInt8) ∉ decL n := fun n => dec_no n (.inr (by decide))
  unfold spW spP spS
  by_cases hp : 0 ≤ p
  · by_cases hs : 0 ≤ s
    · rw [wordT_3 hp hs, spl_at (n58 w), spl_no (c := 58) (s := decL p.toNat ++ 44 :: decL s.toNat) (by
        simp only [List.mem_append, List.mem_cons, not_or]; exact ⟨d58 _, by decide, d58 _⟩)]
      simp only [gT, List.getD_cons_zero, List.getD_cons_succ, List.length_cons, List.length_nil, if_true]
      rw [spl_at (d44 _), spl_no (d44 _)]
      simp only [List.getD_cons_zero, List.getD_cons_succ, List.length_cons, List.length_nil, if_true]
      rw [intI_sgn h1 h2, valI_dec (by omega), valI_dec (by omega)]
      omega
    · rw [wordT_2 hp hs, spl_at (n58 w), spl_no (d58 _)]
      simp only [gT, List.getD_cons_zero, List.getD_cons_succ, List.length_cons, List.length_nil, if_true]
      rw [spl_no (d44 _)]
      simp only [List.getD_cons_zero, List.length_cons, List.length_nil]
      rw [intI_sgn h1 h2, valI_dec (by omega)]
      simp
      omega
  · rw [wordT_1 hp, spl_no (n58 w)]
    simp only [gT, List.getD_cons_zero, List.length_cons, List.length_nil]
    rw [intI_sgn h1 h2]
    simp
    omega

/-- The program's reading of a signed number: may it be, and which. -/
def sgB (s : List UInt8) : Bool := if s.head? = some 45 then numB s.tail && decide (0 < valN s.tail) else numB s
def sgV (s : List UInt8) : Int := if s.head? = some 45 then -(valN s.tail : Int) else valN s
theorem sgB_neg (t : List UInt8) : sgB (45 :: t) = (numB t && decide (0 < valN t)) := by unfold sgB; rw [if_pos (show (45 :: t).head? = some 45 from rfl)]; rfl
theorem sgV_neg (t : List UInt8) : sgV (45 :: t) = -(valN t : Int) := by unfold sgV; rw [if_pos (show (45 :: t).head? = some 45 from rfl)]; rfl
theorem sgB_nn {t : List UInt8} (h : t.head? ≠ some 45) : sgB t = numB t := by unfold sgB; rw [if_neg h]
theorem sgV_nn {t : List UInt8} (h : t.head? ≠ some 45) : sgV t = valN t := by unfold sgV; rw [if_neg h]
theorem sg_sgn {w : Int} (h1 : -1000000000 < w) (h2 : w < 1000000000) : sgB (sgnL w) = true ∧ sgV (sgnL w) = w := by
  by_cases h : w < 0
  · rw [sgnL_neg h, sgB_neg, sgV_neg, num_dec (by omega), decL_val]
    simp; omega
  · rw [sgnL_nn h, sgB_nn (dec_head45 _), sgV_nn (dec_head45 _), num_dec (by omega), decL_val]
    exact ⟨rfl, by omega⟩
theorem sgn_sg {s : List UInt8} (h : sgB s = true) : sgnL (sgV s) = s ∧ -1000000000 < sgV s ∧ sgV s < 1000000000 := by
  unfold sgB at h
  unfold sgV
  by_cases e : s.head? = some 45
  · rw [if_pos e] at h ⊢
    simp only [Bool.and_eq_true, decide_eq_true_eq] at h
    have hv := num_val h.1
    have hs : s = 45 :: s.tail := by
      cases s with
      | nil => simp at e
      | cons x r => simp at e; rw [e]; rfl
    refine ⟨?_, by omega, by omega⟩
    rw [sgnL_neg (by omega), show (- -(valN s.tail : Int)).toNat = valN s.tail by omega, can_dec _ (numB_iff.1 h.1).1]
    exact hs.symm
  · rw [if_neg e] at h ⊢
    have hv := num_val h
    refine ⟨?_, by omega, by omega⟩
    rw [sgnL_nn (by omega), show ((valN s : Nat) : Int).toNat = valN s by omega, can_dec _ (numB_iff.1 h).1]
/-- The program's reading of a word. -/
def imB (x : List UInt8) : Bool := sgB (bef 58 x) && (!hasC 58 x || (numB (bef 44 (aft 58 x)) && (!hasC 44 (aft 58 x) || numB (aft 44 (aft 58 x)))))
def imW (x : List UInt8) : Int := sgV (bef 58 x)
def imP (x : List UInt8) : Int := if hasC 58 x then (valN (bef 44 (aft 58 x)) : Int) else -1
def imS (x : List UInt8) : Int := if hasC 58 x && hasC 44 (aft 58 x) then (valN (aft 44 (aft 58 x)) : Int) else -1
theorem im_word {w p s : Int} (h1 : -1000000000 < w) (h2 : w < 1000000000) (hp1 : -1 ≤ p) (hp2 : p < 1000000000) (hs1 : -1 ≤ s) (hs2 : s < 1000000000) (hps : p = -1 → s = -1) :
    imB (wordT w p s) = true ∧ imW (wordT w p s) = w ∧ imP (wordT w p s) = p ∧ imS (wordT w p s) = s := by
  have n58 : ∀ n, (58 : UInt8) ∉ sgnL n := fun n => sgn_no n (.inr (by decide)) (by decide)
  have d44 : ∀ n, (44 : UInt8) ∉ decL n := fun n => dec_no n (.inl (by decide))
  obtain ⟨g1, g2⟩ := sg_sgn h1 h2
  unfold imB imW imP imS
  by_cases hp : 0 ≤ p
  · by_cases hs : 0 ≤ s
    · rw [wordT_3 hp hs]
      obtain ⟨e1, e2, e3⟩ := hasC_at (r := decL p.toNat ++ 44 :: decL s.toNat) (n58 w)
      obtain ⟨f1, f2, f3⟩ := hasC_at (c := 44) (r := decL s.toNat) (d44 p.toNat)
      rw [e1, e2, e3, f1, f2, f3, g1, g2, num_dec (by omega), num_dec (by omega), decL_val, decL_val]
      simp; omega
    · rw [wordT_2 hp hs]
      obtain ⟨e1, e2, e3⟩ := hasC_at (r := decL p.toNat) (n58 w)
      obtain ⟨f1, f2, f3⟩ := hasC_no (d44 p.toNat)
      rw [e1, e2, e3, f1, f2, g1, g2, num_dec (by omega), decL_val]
      simp; omega
  · rw [wordT_1 hp]
    obtain ⟨e1, e2, e3⟩ := hasC_no (n58 w)
    rw [e1, e2, g1, g2]
    simp; omega
theorem has_cut {c : UInt8} {s : List UInt8} (h : hasC c s = true) : s = bef c s ++ c :: aft c s := by
  rcases cut_first c s with h' | ⟨u, r, rfl, hu⟩
  · rw [(hasC_no h').1] at h; cases h
  · obtain ⟨_, h2, h3⟩ := hasC_at (r := r) hu
    rw [h2, h3]
/-- A word that the program reads is the word of what it reads. -/
theorem word_im {x : List UInt8} (h : imB x = true) : wordT (imW x) (imP x) (imS x) = x ∧ (-1 ≤ imP x ∧ imP x < 1000000000) ∧ (-1 ≤ imS x ∧ imS x < 1000000000) ∧ -1000000000 < imW x ∧ imW x < 1000000000 := by
  unfold imB at h
  unfold imW imP imS
  simp only [Bool.and_eq_true, Bool.or_eq_true, Bool.not_eq_true'] at h
  obtain ⟨h1, h2⟩ := h
  obtain ⟨g1, g2, g3⟩ := sgn_sg h1
  rcases h2 with h2 | ⟨h3, h4⟩
  · rw [h2]
    simp only [Bool.false_and, if_false, Bool.false_eq_true]
    refine ⟨?_, by omega, by omega, g2, g3⟩
    rw [wordT_1 (by omega), g1]
    rcases cut_first 58 x with h' | ⟨u, r, rfl, hu⟩
    · exact (hasC_no h').2.1
    · rw [(hasC_at hu).1] at h2; cases h2
  · have hv3 := num_val h3
    cases h58 : hasC 58 x
    · simp only [Bool.false_and, if_false, Bool.false_eq_true]
      refine ⟨?_, by omega, by omega, g2, g3⟩
      rw [wordT_1 (by omega), g1]
      rcases cut_first 58 x with h' | ⟨u, r, rfl, hu⟩
      · exact (hasC_no h').2.1
      · rw [(hasC_at hu).1] at h58; cases h58
    · have hx := has_cut h58
      simp only [Bool.true_and, if_true]
      cases h44 : hasC 44 (aft 58 x)
      · simp only [if_false, Bool.false_eq_true]
        refine ⟨?_, by omega, by omega, g2, g3⟩
        rw [wordT_2 (by omega) (by omega), g1]
        rcases cut_first 44 (aft 58 x) with h' | ⟨u, r, he, hu⟩
        · rw [show ((valN (bef 44 (aft 58 x)) : Nat) : Int).toNat = valN (bef 44 (aft 58 x)) by omega, can_dec _ (numB_iff.1 h3).1, (hasC_no h').2.1]
          exact hx.symm
        · rw [he, (hasC_at hu).1] at h44; cases h44
      · rcases h4 with h4 | h4
        · rw [h44] at h4; cases h4
        · have hv4 := num_val h4
          simp only [if_true]
          refine ⟨?_, by omega, by omega, g2, g3⟩
          rw [wordT_3 (by omega) (by omega), g1, show ((valN (bef 44 (aft 58 x)) : Nat) : Int).toNat = valN (bef 44 (aft 58 x)) by omega, can_dec _ (numB_iff.1 h3).1,
            show ((valN (aft 44 (aft 58 x)) : Nat) : Int).toNat = valN (aft 44 (aft 58 x)) by omega, can_dec _ (numB_iff.1 h4).1, ← has_cut h44]
          exact hx.symm
end Go.Proofs.YtglghdkjppcedaaGreatDoor

/- What ParseCluster hands back, by the texts of clusters: what the reference reads, what the program reads. No program in sight. -/
namespace Go.Proofs.YtglghdkjppcedaaGreatDoor
open Go.RowKit

theorem gT_lt {l : List (List UInt8)} {i : Nat} (h : i < l.length) : gT l i = l[i] := by simp [gT, List.getD, h]
theorem gI_mapT {f : List UInt8 → Int} {l : List (List UInt8)} {i : Nat} (h : i < l.length) : gI (l.map f) i = f (gT l i) := by rw [gI_lt (by simpa using h), gT_lt h]; simp
theorem gT_words {P S W : List Int} {i : Nat} (h : i < W.length) : gT (wordsT P S W) i = wordT (gI W i) (gI P i) (gI S i) := by rw [gT_lt (by simpa using h)]; simp [wordsT]
/-- What ParseCluster hands back. -/
def PcR (t : List UInt8) (P S W : List Int) (c : Int) : Prop := (CluOk P S W ∧ ctL P S W = t ∧ c = 0) ∨ ((∀ P' S' W', CluOk P' S' W' → ctL P' S' W' ≠ t) ∧ P = [] ∧ S = [] ∧ W = [] ∧ c = 6)
theorem pcR_ex (t : List UInt8) : ∃ P S W c, PcR t P S W c ∧ P.length ≤ 24 ∧ S.length ≤ 24 ∧ W.length ≤ 24 := by
  by_cases h : ∃ P S W, CluOk P S W ∧ ctL P S W = t
  · obtain ⟨P, S, W, h1, h2⟩ := h
    have := h1.1
    exact ⟨P, S, W, 0, .inl ⟨h1, h2, rfl⟩, by omega, by omega, by omega⟩
  · exact ⟨[], [], [], 6, .inr ⟨fun P S W h1 h2 => h ⟨P, S, W, h1, h2⟩, rfl, rfl, rfl, rfl⟩, by simp, by simp, by simp⟩
/-- The numbers of a cluster are small. -/
theorem clu_small {P S W : List Int} (hc : CluOk P S W) {i : Nat} (hi : i < P.length) : (-1000000000 < gI W i ∧ gI W i < 1000000000) ∧ (-1 ≤ gI P i ∧ gI P i < 1000000000) ∧ (-1 ≤ gI S i ∧ gI S i < 1000000000) ∧ (gI P i = -1 → gI S i = -1) := by
  have hw := hc.2.1 i (by have := hc.1; omega)
  have h24 := hc.1
  by_cases h0 : i = 0
  · subst h0
    have := clu_zero hc
    omega
  · obtain ⟨h1, h2, h3⟩ := clu_place hc hi (by omega)
    have hs : -1 ≤ gI S i := by
      rcases (hc.2.2 i hi).1 with ⟨a, _⟩ | ⟨_, _, _, h | h⟩ <;> omega
    omega
/-- The reference's lists. -/
def spPs (t : List UInt8) : List Int := (splitL 32 t).map spP
def spSs (t : List UInt8) : List Int := (splitL 32 t).map spS
def spWs (t : List UInt8) : List Int := (splitL 32 t).map spW
theorem sp_ct {P S W : List Int} (hc : CluOk P S W) : spPs (ctL P S W) = P ∧ spSs (ctL P S W) = S ∧ spWs (ctL P S W) = W := by
  have hl := hc.1
  unfold spPs spSs spWs
  rw [spl_ct (by omega)]
  have key : ∀ i, i < W.length → spW (gT (wordsT P S W) i) = gI W i ∧ spP (gT (wordsT P S W) i) = gI P i ∧ spS (gT (wordsT P S W) i) = gI S i := by
    intro i hi
    obtain ⟨⟨a1, a2⟩, ⟨b1, b2⟩, ⟨c1, c2⟩, d⟩ := clu_small hc (i := i) (by omega)
    rw [gT_words hi]
    exact sp_word a1 a2 b1 b2 c1 c2 d
  refine ⟨gI_ext (by simp; omega) fun i hi => ?_, gI_ext (by simp; omega) fun i hi => ?_, gI_ext (by simp) fun i hi => ?_⟩
  all_goals
    have hi' : i < W.length := by simpa using hi
    rw [gI_mapT (by simpa using hi')]
  · exact (key i hi').2.1
  · exact (key i hi').2.2
  · exact (key i hi').1
theorem pc_uniq {t : List UInt8} {P S W : List Int} {c : Int} (h : PcR t P S W c) {P' S' W' : List Int} (hc : CluOk P' S' W') (ht : ctL P' S' W' = t) : P = P' ∧ S = S' ∧ W = W' ∧ c = 0 := by
  rcases h with ⟨h1, h2, h3⟩ | ⟨h1, _⟩
  · obtain ⟨a1, a2, a3⟩ := sp_ct h1
    obtain ⟨b1, b2, b3⟩ := sp_ct hc
    rw [h2] at a1 a2 a3
    rw [ht] at b1 b2 b3
    exact ⟨by rw [← a1, b1], by rw [← a2, b2], by rw [← a3, b3], h3⟩
  · exact absurd ht (h1 _ _ _ hc)
/-- The reference takes the text. -/
theorem pc_yes {t : List UInt8} {P S W : List Int} {c : Int} (h : PcR t P S W c) (hc : cluB (spPs t) (spSs t) (spWs t) = true) (ht : ctL (spPs t) (spSs t) (spWs t) = t) : P = spPs t ∧ S = spSs t ∧ W = spWs t ∧ c = 0 :=
  pc_uniq h (cluB_iff.1 hc) ht
/-- It does not. -/
theorem pc_no {t : List UInt8} {P S W : List Int} {c : Int} (h : PcR t P S W c) (hn : ¬ (cluB (spPs t) (spSs t) (spWs t) = true ∧ ctL (spPs t) (spSs t) (spWs t) = t)) : P = [] ∧ S = [] ∧ W = [] ∧ c = 6 := by
  rcases h with ⟨h1, h2, h3⟩ | ⟨_, h⟩
  · exfalso
    apply hn
    obtain ⟨a1, a2, a3⟩ := sp_ct h1
    rw [h2] at a1 a2 a3
    rw [a1, a2, a3]
    exact ⟨cluB_iff.2 h1, h2⟩
  · exact h
/-- The program's lists. -/
def imPs (t : List UInt8) : List Int := (splitL 32 t).map imP
def imSs (t : List UInt8) : List Int := (splitL 32 t).map imS
def imWs (t : List UInt8) : List Int := (splitL 32 t).map imW
/-- Are all words read? -/
def allIm (t : List UInt8) : Prop := ∀ i, i < (splitL 32 t).length → imB (gT (splitL 32 t) i) = true
theorem im_ct {P S W : List Int} (hc : CluOk P S W) : (splitL 32 (ctL P S W)).length ≤ 24 ∧ allIm (ctL P S W) ∧ imPs (ctL P S W) = P ∧ imSs (ctL P S W) = S ∧ imWs (ctL P S W) = W := by
  have hl := hc.1
  unfold imPs imSs imWs allIm
  rw [spl_ct (by omega)]
  have key : ∀ i, i < W.length → imB (gT (wordsT P S W) i) = true ∧ imW (gT (wordsT P S W) i) = gI W i ∧ imP (gT (wordsT P S W) i) = gI P i ∧ imS (gT (wordsT P S W) i) = gI S i := by
    intro i hi
    obtain ⟨⟨a1, a2⟩, ⟨b1, b2⟩, ⟨c1, c2⟩, d⟩ := clu_small hc (i := i) (by omega)
    rw [gT_words hi]
    exact im_word a1 a2 b1 b2 c1 c2 d
  refine ⟨by simp; omega, fun i hi => (key i (by simpa using hi)).1, gI_ext (by simp; omega) fun i hi => ?_, gI_ext (by simp; omega) fun i hi => ?_, gI_ext (by simp) fun i hi => ?_⟩
  all_goals
    have hi' : i < W.length := by simpa using hi
    rw [gI_mapT (by simpa using hi')]
  · exact (key i hi').2.2.1
  · exact (key i hi').2.2.2
  · exact (key i hi').2.1
theorem ct_im {t : List UInt8} (h : allIm t) : ctL (imPs t) (imSs t) (imWs t) = t := by
  have e : wordsT (imPs t) (imSs t) (imWs t) = splitL 32 t := by
    apply List.ext_getElem (by simp [imWs])
    intro i h1 h2
    rw [← gT_lt h1, ← gT_lt h2, gT_words (by simpa using h1)]
    unfold imPs imSs imWs
    rw [gI_mapT h2, gI_mapT h2, gI_mapT h2]
    exact (word_im (h i h2)).1
  unfold ctL
  rw [e]
  exact join_spl 32 _ t (Nat.le_refl _)
/-- The program takes the text. -/
theorem pim_yes {t : List UInt8} {P S W : List Int} {c : Int} (h : PcR t P S W c) (hb : allIm t) (hc : cluB (imPs t) (imSs t) (imWs t) = true) : P = imPs t ∧ S = imSs t ∧ W = imWs t ∧ c = 0 :=
  pc_uniq h (cluB_iff.1 hc) (ct_im hb)
theorem pim_no {t : List UInt8} {P S W : List Int} {c : Int} (h : PcR t P S W c) (hn : ¬ (allIm t ∧ (splitL 32 t).length ≤ 24 ∧ cluB (imPs t) (imSs t) (imWs t) = true)) : P = [] ∧ S = [] ∧ W = [] ∧ c = 6 := by
  rcases h with ⟨h1, h2, h3⟩ | ⟨_, h⟩
  · exfalso
    apply hn
    obtain ⟨a0, b0, a1, a2, a3⟩ := im_ct h1
    rw [h2] at a0 b0 a1 a2 a3
    rw [a1, a2, a3]
    exact ⟨b0, a0, cluB_iff.2 h1⟩
  · exact h
end Go.Proofs.YtglghdkjppcedaaGreatDoor
