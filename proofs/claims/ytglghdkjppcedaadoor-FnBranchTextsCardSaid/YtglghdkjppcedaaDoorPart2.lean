/- Texts of numbers and of clusters: decimals, parts between bytes, words. No program in sight. -/
import Derived.Test.YtglghdkjppcedaaDoorPart1
import Derived.Test.YtglghdkjppcedaaDoorPart0
namespace Go.Proofs.YtglghdkjppcedaaDoor

/-- The parts of a text between the bytes c. -/
def splitL (c : UInt8) : List UInt8 → List (List UInt8)
  | [] => [[]]
  | x :: r => if x = c then [] :: splitL c r else (x :: (splitL c r).headD []) :: (splitL c r).tail
theorem spl_cons (c x : UInt8) (r : List UInt8) : splitL c (x :: r) = if x = c then [] :: splitL c r else (x :: (splitL c r).headD []) :: (splitL c r).tail := rfl
theorem head_app {l m : List UInt8} (h : l ≠ []) : (l ++ m).head? = l.head? := by
  cases l with
  | nil => exact absurd rfl h
  | cons x l => rfl
theorem spl_ne (c : UInt8) (s : List UInt8) : splitL c s ≠ [] := by
  cases s with
  | nil => simp [splitL]
  | cons x r => unfold splitL; split <;> simp
theorem spl_no {c : UInt8} {s : List UInt8} (h : c ∉ s) : splitL c s = [s] := by
  induction s with
  | nil => rfl
  | cons x r ih =>
    simp only [List.mem_cons, not_or] at h
    rw [spl_cons, if_neg (fun e => h.1 e.symm), ih h.2]
    rfl
theorem spl_at {c : UInt8} {u r : List UInt8} (h : c ∉ u) : splitL c (u ++ c :: r) = u :: splitL c r := by
  induction u with
  | nil => simp [splitL]
  | cons x u ih =>
    simp only [List.mem_cons, not_or] at h
    show splitL c (x :: (u ++ c :: r)) = _
    rw [spl_cons, if_neg (fun e => h.1 e.symm), ih h.2]
    rfl
/-- Either the byte is not in the text, or the text is cut at the first one. -/
theorem cut_first (c : UInt8) (s : List UInt8) : c ∉ s ∨ ∃ u r, s = u ++ c :: r ∧ c ∉ u := by
  induction s with
  | nil => exact .inl (by simp)
  | cons x s ih =>
    by_cases e : x = c
    · exact .inr ⟨[], s, by rw [e]; rfl, by simp⟩
    · rcases ih with h | ⟨u, r, h1, h2⟩
      · exact .inl (by simp only [List.mem_cons, not_or]; exact ⟨fun h => e h.symm, h⟩)
      · exact .inr ⟨x :: u, r, by rw [h1]; rfl, by simp only [List.mem_cons, not_or]; exact ⟨fun h => e h.symm, h2⟩⟩
/-- Words with a byte between them. -/
def joinL (c : UInt8) : List (List UInt8) → List UInt8
  | [] => []
  | [x] => x
  | x :: y :: r => x ++ c :: joinL c (y :: r)
theorem join_cons {c : UInt8} {x : List UInt8} {r : List (List UInt8)} (h : r ≠ []) : joinL c (x :: r) = x ++ c :: joinL c r := by
  cases r with
  | nil => exact absurd rfl h
  | cons y r => rfl
theorem join_snoc {c : UInt8} {y : List UInt8} {xs : List (List UInt8)} (h : xs ≠ []) : joinL c (xs ++ [y]) = joinL c xs ++ c :: y := by
  induction xs with
  | nil => exact absurd rfl h
  | cons x xs ih =>
    by_cases e : xs = []
    · subst e; rfl
    · rw [List.cons_append, join_cons (by simp), ih e, join_cons e]; simp
theorem join_spl (c : UInt8) : ∀ (n : Nat) (s : List UInt8), s.length ≤ n → joinL c (splitL c s) = s := by
  intro n
  induction n with
  | zero => intro s hs; have : s = [] := List.eq_nil_of_length_eq_zero (by omega); subst this; rfl
  | succ n ih =>
    intro s hs
    rcases cut_first c s with h | ⟨u, r, rfl, hu⟩
    · rw [spl_no h]; rfl
    · rw [spl_at hu, join_cons (spl_ne c r), ih r (by simp at hs; omega)]
theorem spl_join {c : UInt8} {ws : List (List UInt8)} (h : ws ≠ []) (hn : ∀ x ∈ ws, c ∉ x) : splitL c (joinL c ws) = ws := by
  induction ws with
  | nil => exact absurd rfl h
  | cons x r ih =>
    by_cases e : r = []
    · subst e; exact spl_no (hn x (by simp))
    · rw [join_cons e, spl_at (hn x (by simp)), ih e (fun y hy => hn y (List.mem_cons_of_mem _ hy))]

/-- A digit. -/
def digB (x : UInt8) : Bool := decide (48 ≤ x.toNat ∧ x.toNat ≤ 57)
theorem digB_iff {x : UInt8} : digB x = true ↔ 48 ≤ x.toNat ∧ x.toNat ≤ 57 := by simp [digB]
/-- What digits say. -/
def valN (l : List UInt8) : Nat := l.foldl (fun n x => n * 10 + (x.toNat - 48)) 0
theorem valN_snoc (l : List UInt8) (x : UInt8) : valN (l ++ [x]) = valN l * 10 + (x.toNat - 48) := by simp [valN]
/-- Digits without leading zeros. -/
def canB (l : List UInt8) : Bool := decide (l ≠ [] ∧ (∀ x ∈ l, digB x = true) ∧ (1 < l.length → l.head? ≠ some 48))
theorem canB_iff {l : List UInt8} : canB l = true ↔ l ≠ [] ∧ (∀ x ∈ l, digB x = true) ∧ (1 < l.length → l.head? ≠ some 48) := by simp only [canB, decide_eq_true_eq]
/-- A number in decimal. -/
def decL (n : Nat) : List UInt8 := if n < 10 then [UInt8.ofNat (48 + n)] else decL (n / 10) ++ [UInt8.ofNat (48 + n % 10)]
termination_by n
theorem decL_lt {n : Nat} (h : n < 10) : decL n = [UInt8.ofNat (48 + n)] := by unfold decL; rw [if_pos h]
theorem decL_ge {n : Nat} (h : ¬ n < 10) : decL n = decL (n / 10) ++ [UInt8.ofNat (48 + n % 10)] := by
  conv => lhs; unfold decL
  rw [if_neg h]
theorem dig_nat {d : Nat} (h : d < 10) : (UInt8.ofNat (48 + d)).toNat = 48 + d := by simp; omega
theorem decL_ne (n : Nat) : decL n ≠ [] := by
  by_cases h : n < 10
  · rw [decL_lt h]; simp
  · rw [decL_ge h]; simp
theorem decL_dig : ∀ (n : Nat), ∀ x ∈ decL n, digB x = true := by
  intro n
  induction n using Nat.strongRecOn with
  | _ n ih =>
    intro x hx
    by_cases h : n < 10
    · rw [decL_lt h] at hx
      simp only [List.mem_singleton] at hx
      subst hx
      rw [digB_iff, dig_nat h]; omega
    · rw [decL_ge h, List.mem_append] at hx
      rcases hx with hx | hx
      · exact ih (n / 10) (by omega) x hx
      · simp only [List.mem_singleton] at hx
        subst hx
        rw [digB_iff, dig_nat (by omega)]; omega
theorem decL_head : ∀ (n : Nat), 0 < n → (decL n).head? ≠ some 48 := by
  intro n
  induction n using Nat.strongRecOn with
  | _ n ih =>
    intro h0
    by_cases h : n < 10
    · rw [decL_lt h]
      simp only [List.head?_cons, ne_eq, Option.some.injEq]
      intro e
      have := congrArg UInt8.toNat e
      rw [dig_nat h] at this
      have e2 : (48 : UInt8).toNat = 48 := rfl
      omega
    · rw [decL_ge h, head_app (decL_ne _)]
      exact ih (n / 10) (by omega) (by omega)
theorem decL_can (n : Nat) : canB (decL n) = true := by
  refine canB_iff.2 ⟨decL_ne n, decL_dig n, fun h => ?_⟩
  by_cases h0 : n = 0
  · subst h0; rw [decL_lt (by omega)] at h; simp at h
  · exact decL_head n (by omega)
theorem decL_val : ∀ (n : Nat), valN (decL n) = n := by
  intro n
  induction n using Nat.strongRecOn with
  | _ n ih =>
    by_cases h : n < 10
    · rw [decL_lt h]
      show 0 * 10 + ((UInt8.ofNat (48 + n)).toNat - 48) = n
      rw [dig_nat h]; omega
    · rw [decL_ge h, valN_snoc, ih (n / 10) (by omega), dig_nat (by omega)]; omega
theorem decL_len : ∀ (k n : Nat), n < 10 ^ (k + 1) → (decL n).length ≤ k + 1 := by
  intro k
  induction k with
  | zero => intro n h; rw [decL_lt (by omega)]; simp
  | succ k ih =>
    intro n h
    by_cases h1 : n < 10
    · rw [decL_lt h1]; simp
    · rw [decL_ge h1, List.length_append]
      have := ih (n / 10) (by rw [Nat.pow_succ] at h; omega)
      simp; omega
theorem valN_bd : ∀ (l : List UInt8), (∀ x ∈ l, digB x = true) → valN l < 10 ^ l.length := by
  intro l
  induction h : l.length generalizing l with
  | zero => intro _; have : l = [] := List.eq_nil_of_length_eq_zero h; subst this; simp [valN]
  | succ k ih =>
    intro hd
    have hne : l ≠ [] := by intro e; subst e; simp at h
    obtain ⟨m, x, rfl⟩ : ∃ m x, l = m ++ [x] := ⟨l.dropLast, l.getLast hne, (List.dropLast_concat_getLast hne).symm⟩
    have h1 := ih m (by simp at h; omega) (fun y hy => hd y (by simp [hy]))
    have h2 := digB_iff.1 (hd x (by simp))
    rw [valN_snoc, Nat.pow_succ]; omega
theorem valN_pos : ∀ (l : List UInt8), (∀ x ∈ l, digB x = true) → l ≠ [] → l.head? ≠ some 48 → 0 < valN l := by
  intro l
  induction h : l.length generalizing l with
  | zero => intro _ hne; exact absurd (List.eq_nil_of_length_eq_zero h) hne
  | succ k ih =>
    intro hd hne hh
    obtain ⟨m, x, rfl⟩ : ∃ m x, l = m ++ [x] := ⟨l.dropLast, l.getLast hne, (List.dropLast_concat_getLast hne).symm⟩
    rw [valN_snoc]
    by_cases e : m = []
    · subst e
      have h2 := digB_iff.1 (hd x (by simp))
      have : x.toNat ≠ 48 := by
        intro e2
        apply hh
        show some x = some 48
        rw [show x = 48 from UInt8.toNat_inj.1 (by rw [e2]; rfl)]
      show 0 < 0 * 10 + (x.toNat - 48)
      omega
    · have h1 := ih m (by simp at h; omega) (fun y hy => hd y (by simp [hy])) e (by rwa [head_app e] at hh)
      omega
/-- Digits without leading zeros are the decimal of what they say. -/
theorem can_dec : ∀ (l : List UInt8), canB l = true → decL (valN l) = l := by
  intro l
  induction h : l.length generalizing l with
  | zero => intro hc; exact absurd (List.eq_nil_of_length_eq_zero h) (canB_iff.1 hc).1
  | succ k ih =>
    intro hc
    obtain ⟨hne, hd, hh⟩ := canB_iff.1 hc
    obtain ⟨m, x, rfl⟩ : ∃ m x, l = m ++ [x] := ⟨l.dropLast, l.getLast hne, (List.dropLast_concat_getLast hne).symm⟩
    have hx := digB_iff.1 (hd x (by simp))
    have ex : ∀ d, d = x.toNat - 48 → UInt8.ofNat (48 + d) = x := fun d e => UInt8.toNat_inj.1 (by rw [dig_nat (by omega)]; omega)
    rw [valN_snoc]
    by_cases e : m = []
    · subst e
      have e0 : valN [] = 0 := rfl
      rw [e0, decL_lt (by omega), ex _ (by omega)]; rfl
    · have hml : 0 < m.length := List.length_pos_iff.2 e
      have hh' := hh (by simp; omega)
      rw [head_app e] at hh'
      have hmd : ∀ y ∈ m, digB y = true := fun y hy => hd y (by simp [hy])
      have hp := valN_pos m hmd e hh'
      have h1 := ih m (by simp at h; omega) (canB_iff.2 ⟨e, hmd, fun _ => hh'⟩)
      rw [decL_ge (by omega), show (valN m * 10 + (x.toNat - 48)) / 10 = valN m by omega, h1, ex _ (by omega)]

/-- Digits without leading zeros, at most nine. -/
def numB (l : List UInt8) : Bool := canB l && decide (l.length ≤ 9)
theorem numB_iff {l : List UInt8} : numB l = true ↔ canB l = true ∧ l.length ≤ 9 := by simp [numB]
theorem num_dec {n : Nat} (h : n < 1000000000) : numB (decL n) = true := numB_iff.2 ⟨decL_can n, decL_len 8 n h⟩
/-- The number that is written, or -1. -/
def valI (l : List UInt8) : Int := if numB l then (valN l : Int) else -1
theorem valI_yes {l : List UInt8} (h : numB l = true) : valI l = valN l := by unfold valI; rw [if_pos h]
theorem valI_no {l : List UInt8} (h : numB l = false) : valI l = -1 := by unfold valI; rw [if_neg (by simp [h])]
theorem valI_dec {n : Nat} (h : n < 1000000000) : valI (decL n) = n := by rw [valI_yes (num_dec h), decL_val]
/-- A number in decimal, with a sign if it is negative. -/
def sgnL (n : Int) : List UInt8 := if n < 0 then 45 :: decL (-n).toNat else decL n.toNat
theorem sgnL_neg {n : Int} (h : n < 0) : sgnL n = 45 :: decL (-n).toNat := by unfold sgnL; rw [if_pos h]
theorem sgnL_nn {n : Int} (h : ¬ n < 0) : sgnL n = decL n.toNat := by unfold sgnL; rw [if_neg h]
theorem dig_ne {x c : UInt8} (h : digB x = true) (hc : c.toNat < 48 ∨ 57 < c.toNat) : x ≠ c := by
  rintro rfl
  have := digB_iff.1 h
  omega
theorem dec_no {c : UInt8} (n : Nat) (hc : c.toNat < 48 ∨ 57 < c.toNat) : c ∉ decL n := fun h => dig_ne (decL_dig n c h) hc rfl
/-- The word of a point. -/
def wordT (w p s : Int) : List UInt8 := sgnL w ++ if 0 ≤ p then 58 :: (decL p.toNat ++ if 0 ≤ s then 44 :: decL s.toNat else []) else []
/-- The words of a cluster. -/
def wordsT (P S W : List Int) : List (List UInt8) := (List.range W.length).map fun i => wordT (gI W i) (gI P i) (gI S i)
/-- The text of a cluster. -/
def ctL (P S W : List Int) : List UInt8 := joinL 32 (wordsT P S W)
@[simp] theorem wordsT_len (P S W : List Int) : (wordsT P S W).length = W.length := by simp [wordsT]
end Go.Proofs.YtglghdkjppcedaaDoor

/- How the words of a cluster's text are read: by the reference, by the program. No program in sight. -/
namespace Go.Proofs.YtglghdkjppcedaaDoor

/-- What stands before the first byte c, what stands behind it; is there one? -/
def bef (c : UInt8) : List UInt8 → List UInt8
  | [] => []
  | x :: r => if x = c then [] else x :: bef c r
def aft (c : UInt8) : List UInt8 → List UInt8
  | [] => []
  | x :: r => if x = c then r else aft c r
def hasC (c : UInt8) : List UInt8 → Bool
  | [] => false
  | x :: r => if x = c then true else hasC c r
theorem hasC_no {c : UInt8} {s : List UInt8} (h : c ∉ s) : hasC c s = false ∧ bef c s = s ∧ aft c s = [] := by
  induction s with
  | nil => exact ⟨rfl, rfl, rfl⟩
  | cons x r ih =>
    simp only [List.mem_cons, not_or] at h
    obtain ⟨h1, h2, h3⟩ := ih h.2
    have e : ¬ x = c := fun e => h.1 e.symm
    simp only [hasC, bef, aft, if_neg e]
    exact ⟨h1, by rw [h2], h3⟩
theorem hasC_at {c : UInt8} {u r : List UInt8} (h : c ∉ u) : hasC c (u ++ c :: r) = true ∧ bef c (u ++ c :: r) = u ∧ aft c (u ++ c :: r) = r := by
  induction u with
  | nil => simp [hasC, bef, aft]
  | cons x u ih =>
    simp only [List.mem_cons, not_or] at h
    obtain ⟨h1, h2, h3⟩ := ih h.2
    have e : ¬ x = c := fun e => h.1 e.symm
    simp only [List.cons_append, hasC, bef, aft, if_neg e]
    exact ⟨h1, by rw [h2], h3⟩
theorem spl_has (c : UInt8) (s : List UInt8) : splitL c s = if hasC c s then bef c s :: splitL c (aft c s) else [s] := by
  rcases cut_first c s with h | ⟨u, r, rfl, hu⟩
  · rw [(hasC_no h).1, spl_no h]; rfl
  · obtain ⟨h1, h2, h3⟩ := hasC_at (r := r) hu
    rw [h1, h2, h3, spl_at hu]; rfl

/-- The integer that is written, or one that is too large. -/
def intI (s : List UInt8) : Int := if s.head? = some 45 then (if valI s.tail < 0 then 100001 else -(valI s.tail)) else (if valI s < 0 then 100001 else valI s)
def gT (l : List (List UInt8)) (i : Nat) : List UInt8 := l.getD i []
/-- The reference's reading of a word. -/
def spW (x : List UInt8) : Int := intI (gT (splitL 58 x) 0)
def spP (x : List UInt8) : Int := if (splitL 58 x).length = 2 then valI (gT (splitL 44 (gT (splitL 58 x) 1)) 0) else -1
def spS (x : List UInt8) : Int := if (splitL 58 x).length = 2 then (if (splitL 44 (gT (splitL 58 x) 1)).length = 2 then valI (gT (splitL 44 (gT (splitL 58 x) 1)) 1) else -1) else -1
/-- The program's reading of a signed number: may it be, and which. -/
def sgB (s : List UInt8) : Bool := if s.head? = some 45 then numB s.tail && decide (0 < valN s.tail) else numB s
def sgV (s : List UInt8) : Int := if s.head? = some 45 then -(valN s.tail : Int) else valN s
/-- The program's reading of a word. -/
def imB (x : List UInt8) : Bool := sgB (bef 58 x) && (!hasC 58 x || (numB (bef 44 (aft 58 x)) && (!hasC 44 (aft 58 x) || numB (aft 44 (aft 58 x)))))
def imW (x : List UInt8) : Int := sgV (bef 58 x)
def imP (x : List UInt8) : Int := if hasC 58 x then (valN (bef 44 (aft 58 x)) : Int) else -1
def imS (x : List UInt8) : Int := if hasC 58 x && hasC 44 (aft 58 x) then (valN (aft 44 (aft 58 x)) : Int) else -1
theorem has_cut {c : UInt8} {s : List UInt8} (h : hasC c s = true) : s = bef c s ++ c :: aft c s := by
  rcases cut_first c s with h' | ⟨u, r, rfl, hu⟩
  · rw [(hasC_no h').1] at h; cases h
  · obtain ⟨_, h2, h3⟩ := hasC_at (r := r) hu
    rw [h2, h3]
end Go.Proofs.YtglghdkjppcedaaDoor

/- What ParseCluster hands back, by the texts of clusters: what the reference reads, what the program reads. No program in sight. -/
namespace Go.Proofs.YtglghdkjppcedaaDoor
open Go.RowKit

theorem gT_lt {l : List (List UInt8)} {i : Nat} (h : i < l.length) : gT l i = l[i] := by simp [gT, List.getD, h]
/-- What ParseCluster hands back. -/
def PcR (t : List UInt8) (P S W : List Int) (c : Int) : Prop := (CluOk P S W ∧ ctL P S W = t ∧ c = 0) ∨ ((∀ P' S' W', CluOk P' S' W' → ctL P' S' W' ≠ t) ∧ P = [] ∧ S = [] ∧ W = [] ∧ c = 6)
/-- The reference's lists. -/
def spPs (t : List UInt8) : List Int := (splitL 32 t).map spP
def spSs (t : List UInt8) : List Int := (splitL 32 t).map spS
def spWs (t : List UInt8) : List Int := (splitL 32 t).map spW
/-- The program's lists. -/
def imPs (t : List UInt8) : List Int := (splitL 32 t).map imP
def imSs (t : List UInt8) : List Int := (splitL 32 t).map imS
def imWs (t : List UInt8) : List Int := (splitL 32 t).map imW
/-- Are all words read? -/
def allIm (t : List UInt8) : Prop := ∀ i, i < (splitL 32 t).length → imB (gT (splitL 32 t) i) = true
end Go.Proofs.YtglghdkjppcedaaDoor

/- Contracts: impl.isPlace, impl.within, spec.l07Near. -/
namespace Go.Proofs.YtglghdkjppcedaaDoor
open Go.RowKit

/-- Do all numbers of xs lie from a to b? -/
def allIn (xs : List Int) (a b : Int) : Bool := decide (∀ i, i < xs.length → a ≤ gI xs i ∧ gI xs i ≤ b)
theorem allIn_iff {xs : List Int} {a b : Int} : allIn xs a b = true ↔ ∀ i, i < xs.length → a ≤ gI xs i ∧ gI xs i ≤ b := by simp only [allIn, decide_eq_true_eq]
theorem allIn_no {xs : List Int} {a b : Int} {k : Nat} (hk : k < xs.length) (h : inB (gI xs k) a b = false) : allIn xs a b = false := by
  simp only [allIn, decide_eq_false_iff_not]; intro h'; exact inB_not.1 h (h' k hk)

set_option maxHeartbeats 400000 in
theorem within_c (v : Value) (xs : List Int) (a b : Int) (w : World) (h : Rd w v xs) :
    Calls Tryd.prog 38 #[v, .int .i64 a, .int .i64 b] w fun e w' => e = .returned (.bool (allIn xs a b)) ∧ w = w' := by
  obtain ⟨ad, cap, rfl, hcap1, hcap2, hrd⟩ := h
  go_enter Tryd.func38, Tryd.ntmps38
  go_wp2
  go_loop [8, 11] (fun _ i => ∃ k : Nat, k ≤ xs.length ∧ i = .int .i64 k ∧ ∀ j, j < k → a ≤ gI xs j ∧ gI xs j ≤ b) (fun _ i => xs.length - (intOf i).toNat)
  case atStart => exact ⟨0, Nat.zero_le _, rfl, fun j hj => absurd hj (by omega)⟩
  case round =>
    obtain ⟨k, hk, rfl, hg⟩ := hrel
    by_cases hlt : k < xs.length
    · obtain ⟨ba, off, rfl, hbl, hcs⟩ := hrd (ne_of_lt_len hlt)
      have hc := hcs k hlt
      have HB := Lib.hid (@allIn_no xs a b k hlt)
      have HG : Hid (inB (gI xs k) a b = true → ∀ j, j < k + 1 → a ≤ gI xs j ∧ gI xs j ≤ b) := Lib.hid (by
        intro hb j hj
        by_cases e : j = k
        · rw [e]; exact inB_iff.1 hb
        · exact hg j (by omega))
      clear hg hcs hrd
      generalize gI xs k = c at hc HG HB
      by_cases hin : inB c a b = true
      · have HG' := Lib.hid (HG.out hin)
        clear HG HB
        go_wp2_with (go_at_call 36; refine (inRange_c _ _ _ _).mono ?_; rintro e w' ⟨rfl, rfl⟩)
        go_round
        case rel => exact ⟨k + 1, by omega, by go_num, HG'.out⟩
        case measure => simp [intOf]; omega
      · have hin' : inB c a b = false := by simpa using hin
        have HB' := Lib.hid (HB.out hin')
        clear HG HB hin
        go_wp2_with (go_at_call 36; refine (inRange_c _ _ _ _).mono ?_; rintro e w' ⟨rfl, rfl⟩)
        go_ret
        exact ⟨ret_bool HB'.out.symm, rfl⟩
    · go_wp2
      have hk' : k = xs.length := by omega
      subst hk'
      go_ret
      exact ⟨ret_bool (allIn_iff.2 hg).symm, rfl⟩
end Go.Proofs.YtglghdkjppcedaaDoor

/- Branches: divisors, and when a list of terms is a branch. No program in sight. -/
namespace Go.Proofs.YtglghdkjppcedaaDoor

theorem gcdI_nn (a b : Int) : 0 ≤ gcdI a b := by unfold gcdI; omega
theorem gcdI_le {a b B : Int} (h1 : -B ≤ a) (h2 : a ≤ B) (h3 : -B ≤ b) (h4 : b ≤ B) : gcdI a b ≤ B := by
  unfold gcdI
  by_cases e : a.natAbs = 0
  · rw [e, Nat.gcd_zero_left]; omega
  · have := Nat.gcd_le_left b.natAbs (Nat.pos_of_ne_zero e); omega
theorem gcdI_pos {a b : Int} (h : 0 < a) : 0 < gcdI a b := by
  unfold gcdI
  have := Nat.gcd_pos_of_pos_left b.natAbs (by omega : 0 < a.natAbs)
  omega
theorem gcdI_le_left {a b : Int} (h : 0 < a) : gcdI a b ≤ a := by
  unfold gcdI
  have := Nat.gcd_le_left b.natAbs (by omega : 0 < a.natAbs)
  omega
theorem gcdI_dvd_left (a b : Int) : gcdI a b ∣ a := by
  unfold gcdI
  exact Int.dvd_natAbs.1 (Int.natCast_dvd_natCast.2 (Nat.gcd_dvd_left _ _))
theorem gcdI_dvd_right (a b : Int) : gcdI a b ∣ b := by
  unfold gcdI
  exact Int.dvd_natAbs.1 (Int.natCast_dvd_natCast.2 (Nat.gcd_dvd_right _ _))
theorem gcdI_zero_left {b : Int} (h : 0 ≤ b) : gcdI 0 b = b := by
  unfold gcdI
  simp
  omega

/-- The divisor after the term k. -/
def eI (T : List Int) : Nat → Int
  | 0 => gI T 0
  | k + 1 => gcdI (eI T k) (gI T (k + 1))
theorem eI_succ (T : List Int) (k : Nat) : eI T (k + 1) = gcdI (eI T k) (gI T (k + 1)) := rfl
/-- The divisors after the first k terms. -/
def eTo (T : List Int) (k : Nat) : List Int := (List.range k).map (eI T)
@[simp] theorem eTo_len (T : List Int) (k : Nat) : (eTo T k).length = k := by simp [eTo]
theorem eTo_succ (T : List Int) (k : Nat) : eTo T (k + 1) = eTo T k ++ [eI T k] := by simp [eTo, List.range_succ]
theorem gI_eTo {T : List Int} {k i : Nat} (h : i < k) : gI (eTo T k) i = eI T i := by rw [gI_lt (by simpa using h)]; simp [eTo]

theorem eI_pos {T : List Int} (h : 0 < gI T 0) (k : Nat) : 0 < eI T k := by
  induction k with
  | zero => exact h
  | succ k ih => rw [eI_succ]; exact gcdI_pos ih
theorem eI_step_le {T : List Int} (h : 0 < gI T 0) (k : Nat) : eI T (k + 1) ≤ eI T k := by rw [eI_succ]; exact gcdI_le_left (eI_pos h k)
theorem eI_le {T : List Int} (h : 0 < gI T 0) {i k : Nat} (hk : i ≤ k) : eI T k ≤ eI T i := by
  induction k with
  | zero => have : i = 0 := by omega
            subst this; exact Int.le_refl _
  | succ k ih =>
    by_cases e : i = k + 1
    · subst e; exact Int.le_refl _
    · exact Int.le_trans (eI_step_le h k) (ih (by omega))
theorem eI_le0 {T : List Int} (h : 0 < gI T 0) (k : Nat) : eI T k ≤ gI T 0 := eI_le h (Nat.zero_le k)
theorem eI_dvd_step (T : List Int) (k : Nat) : eI T (k + 1) ∣ eI T k := gcdI_dvd_left _ _
theorem eI_dvd (T : List Int) {i k : Nat} (hk : i ≤ k) : eI T k ∣ eI T i := by
  induction k with
  | zero => have : i = 0 := by omega
            subst this; exact Int.dvd_refl _
  | succ k ih =>
    by_cases e : i = k + 1
    · subst e; exact Int.dvd_refl _
    · exact Int.dvd_trans (eI_dvd_step T k) (ih (by omega))
theorem eI_dvd_term (T : List Int) (k : Nat) : eI T k ∣ gI T k := by
  cases k with
  | zero => exact Int.dvd_refl _
  | succ k => exact gcdI_dvd_right _ _

/-- The terms rise. -/
def ascB (T : List Int) : Bool := decide (∀ i, i < T.length - 1 → gI T i < gI T (i + 1))
/-- The divisors fall to 1. -/
def fallB (T : List Int) : Bool := decide ((∀ i, i < T.length - 1 → eI T (i + 1) < eI T i) ∧ eI T (T.length - 1) = 1)
/-- T are the terms of a branch. -/
def braB (T : List Int) : Bool := decide (0 < T.length) && (inB (gI T 0) 1 64 && (ascB T && (allIn T 1 2000 && fallB T)))
structure BraOk (T : List Int) : Prop where
  len : 0 < T.length
  first : 1 ≤ gI T 0 ∧ gI T 0 ≤ 64
  asc : ∀ i, i + 1 < T.length → gI T i < gI T (i + 1)
  num : ∀ i, i < T.length → 1 ≤ gI T i ∧ gI T i ≤ 2000
  fall : ∀ i, i + 1 < T.length → eI T (i + 1) < eI T i
  last : eI T (T.length - 1) = 1
theorem ascB_iff {T : List Int} : ascB T = true ↔ ∀ i, i + 1 < T.length → gI T i < gI T (i + 1) := by
  simp only [ascB, decide_eq_true_eq]
  exact ⟨fun h i hi => h i (by omega), fun h i hi => h i (by omega)⟩
theorem ascB_no {T : List Int} {k : Nat} (hk : k + 1 < T.length) (h : gI T (k + 1) ≤ gI T k) : ascB T = false := by
  cases c : ascB T
  · rfl
  · have := ascB_iff.1 c k hk; omega
theorem fallB_iff {T : List Int} : fallB T = true ↔ (∀ i, i + 1 < T.length → eI T (i + 1) < eI T i) ∧ eI T (T.length - 1) = 1 := by
  simp only [fallB, decide_eq_true_eq]
  exact ⟨fun h => ⟨fun i hi => h.1 i (by omega), h.2⟩, fun h => ⟨fun i hi => h.1 i (by omega), h.2⟩⟩
theorem fallB_no {T : List Int} {k : Nat} (hk : k + 1 < T.length) (h : eI T k ≤ eI T (k + 1)) : fallB T = false := by
  cases c : fallB T
  · rfl
  · have := (fallB_iff.1 c).1 k hk; omega
theorem fallB_end {T : List Int} (h : ∀ i, i + 1 < T.length → eI T (i + 1) < eI T i) : fallB T = decide (eI T (T.length - 1) = 1) := by
  by_cases e : eI T (T.length - 1) = 1
  · rw [fallB_iff.2 ⟨h, e⟩]; simp [e]
  · cases c : fallB T
    · simp [e]
    · exact absurd (fallB_iff.1 c).2 e
theorem braB_iff {T : List Int} : braB T = true ↔ BraOk T := by
  unfold braB
  simp only [Bool.and_eq_true, decide_eq_true_eq, inB_iff, ascB_iff, allIn_iff, fallB_iff]
  exact ⟨fun ⟨h1, h2, h3, h4, h5, h6⟩ => ⟨h1, h2, h3, h4, h5, h6⟩, fun h => ⟨h.len, h.first, h.asc, h.num, h.fall, h.last⟩⟩

theorem eI_half {T : List Int} (h : BraOk T) {k : Nat} (hk : k + 1 < T.length) : 2 * eI T (k + 1) ≤ eI T k := by
  have h0 : 0 < gI T 0 := by have := h.first; omega
  obtain ⟨c, hc⟩ := eI_dvd_step T k
  have h1 := h.fall k hk
  have h2 := eI_pos h0 (k + 1)
  have h3 := eI_pos h0 k
  have : 1 < c := by
    apply Int.lt_of_not_ge
    intro hle
    have := Int.mul_le_mul_of_nonneg_left hle (Int.le_of_lt h2)
    omega
  have := Int.mul_le_mul_of_nonneg_left (show 2 ≤ c by omega) (Int.le_of_lt h2)
  omega
theorem eI_pow {T : List Int} (h : BraOk T) (k : Nat) (hk : k < T.length) : 2 ^ k * eI T k ≤ 64 := by
  induction k with
  | zero => have := h.first; simp [eI]; omega
  | succ k ih =>
    have h1 := eI_half h hk
    have h2 := ih (by omega)
    have h3 : (2 : Int) ^ k * (2 * eI T (k + 1)) ≤ 2 ^ k * eI T k := Int.mul_le_mul_of_nonneg_left h1 (Int.le_of_lt (Int.pow_pos (by omega)))
    rw [Int.pow_succ, Int.mul_assoc]
    omega
/-- A branch has at most 7 terms. -/
theorem bra_len {T : List Int} (h : BraOk T) : T.length ≤ 7 := by
  apply Nat.le_of_not_lt
  intro hlt
  have h1 := eI_pow h 7 hlt
  have h2 := eI_pos (by have := h.first; omega : 0 < gI T 0) 7
  have : (2 : Int) ^ 7 = 128 := by decide
  rw [this] at h1
  omega
/-- The divisors but the last are at least 2, and all at most 64. -/
theorem eI_bd {T : List Int} (h : BraOk T) (k : Nat) : 1 ≤ eI T k ∧ eI T k ≤ 64 := by
  have h0 : 0 < gI T 0 := by have := h.first; omega
  have h1 := eI_pos h0 k
  have h2 := eI_le0 h0 k
  have := h.first
  omega
end Go.Proofs.YtglghdkjppcedaaDoor
