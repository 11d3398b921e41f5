/- Contracts: impl.isPlace, impl.within, spec.l07Near. -/
import Derived.Test.YtiinceflafigeaaDoorLib
import Derived.Test.YtiinceflafigeaaDoorRowL
namespace Go.Proofs.YtiinceflafigeaaDoor
open Go.RowKit

set_option maxHeartbeats 400000 in
theorem isPlace_c (p s q : Value) (P S : List Int) (i : Nat) (w : World) (hp : Rd w p P) (hs : Rd w s S) (hl : S.length = P.length) (hi : i < P.length) (h24 : P.length ≤ 24) :
    Calls Tryd.prog 71 #[.agg #[p, s, q], .int .i64 i] w fun e w' => e = .returned (.bool (placeB P S i)) ∧ Below w.heap.size w w' := by
  obtain ⟨bp, op, kp, rfl, hpc1, hpc2, hpb, hpc⟩ := hp.cells (by omega)
  obtain ⟨bs, os, ks, rfl, hsc1, hsc2, hsb, hsc⟩ := hs.cells (by omega)
  have hP := hpc i hi
  have hS := hsc i (by omega)
  have hPP : 0 ≤ gI P i → gI P i < (i : Int) → w.cell? ⟨bp, op + (gI P i).toNat, none⟩ = some (.int .i64 (gI P (gI P i).toNat)) := fun _ _ => hpc _ (by omega)
  have hSP : 0 ≤ gI P i → gI P i < (i : Int) → w.cell? ⟨bs, os + (gI P i).toNat, none⟩ = some (.int .i64 (gI S (gI P i).toNat)) := fun _ _ => hsc _ (by omega)
  have HY := Lib.hid (@placeB_yes P S i)
  have HN := Lib.hid (@placeB_no P S i)
  have hl1 : (i : Int) < S.length := by omega
  have hl2 : (i : Int) < P.length := by omega
  clear hpc hsc hl
  unfold placeOk at HY HN
  generalize gI P (gI P i).toNat = pp at hPP HY HN
  generalize gI S (gI P i).toNat = sp at hSP HY HN
  generalize gI P i = p at hP hPP hSP HY HN
  generalize gI S i = s at hS HY HN
  by_cases h0 : ((i : Int) == 0) = true
  · go_enter Tryd.func71, Tryd.ntmps71
    go_wp2
    go_quiet (fail)
    go_wp2
    all_goals (go_ret; refine ⟨ret_bool ?_, below_drewN ((Below.refl _ _).alloc (Nat.le_refl _) _) _⟩)
    · by_cases hs1 : s = -1
      · rw [HY.out (.inl ⟨by simpa using h0, by assumption, hs1⟩)]; simp [hs1]
      · rw [HN.out (by simp at h0; omega)]; simp [hs1]
    · rw [HN.out (by simp at h0; omega)]
  · have h0' : ((i : Int) == 0) = false := by simpa using h0
    have h0'' : 0 < i := by simp at h0'; omega
    clear h0
    by_cases hin : inB p 0 ((i : Int) - 1) = true
    · have hin' := inB_iff.1 hin
      have hPP' := hPP hin'.1 (by omega)
      have hSP' := hSP hin'.1 (by omega)
      have hp0 : 0 ≤ p := hin'.1
      have hp1 : p < P.length := by omega
      have hp2 : p < S.length := by omega
      have hp3 : p < (i : Int) := by omega
      clear hPP hSP hin'
      go_enter Tryd.func71, Tryd.ntmps71
      go_wp2
      go_quiet (fail)
      go_wp2_with (go_at_call 42; refine (inRange_c _ _ _ _).mono ?_; rintro e w' ⟨rfl, rfl⟩)
      all_goals (go_ret; refine ⟨ret_bool ?_, below_drewN ((Below.refl _ _).alloc (Nat.le_refl _) _) _⟩)
      · rw [HY.out (by omega)]
      · rw [HY.out (by omega)]
      · by_cases hsp : s = sp
        · rw [HY.out (by omega)]; simp [hsp]
        · rw [HN.out (by omega)]; simp [hsp]; omega
      · rw [HN.out (by omega)]; simp; omega
    · have hin' : inB p 0 ((i : Int) - 1) = false := by simpa using hin
      clear hin hPP hSP
      go_enter Tryd.func71, Tryd.ntmps71
      go_wp2
      go_quiet (fail)
      go_wp2_with (go_at_call 42; refine (inRange_c _ _ _ _).mono ?_; rintro e w' ⟨rfl, rfl⟩)
      go_ret
      refine ⟨ret_bool ?_, below_drewN ((Below.refl _ _).alloc (Nat.le_refl _) _) _⟩
      have := inB_not.1 hin'
      rw [HN.out (by omega)]
/-- Do all numbers of xs lie from a to b? -/
def allIn (xs : List Int) (a b : Int) : Bool := decide (∀ i, i < xs.length → a ≤ gI xs i ∧ gI xs i ≤ b)
theorem allIn_iff {xs : List Int} {a b : Int} : allIn xs a b = true ↔ ∀ i, i < xs.length → a ≤ gI xs i ∧ gI xs i ≤ b := by simp only [allIn, decide_eq_true_eq]
theorem allIn_no {xs : List Int} {a b : Int} {k : Nat} (hk : k < xs.length) (h : inB (gI xs k) a b = false) : allIn xs a b = false := by
  simp only [allIn, decide_eq_false_iff_not]; intro h'; exact inB_not.1 h (h' k hk)

set_option maxHeartbeats 400000 in
theorem within_c (v : Value) (xs : List Int) (a b : Int) (w : World) (h : Rd w v xs) :
    Calls Tryd.prog 44 #[v, .int .i64 a, .int .i64 b] w fun e w' => e = .returned (.bool (allIn xs a b)) ∧ w = w' := by
  obtain ⟨ad, cap, rfl, hcap1, hcap2, hrd⟩ := h
  go_enter Tryd.func44, Tryd.ntmps44
  go_wp2
  go_loop [8, 11] (fun _ i => ∃ k : Nat, k ≤ xs.length ∧ i = .int .i64 k ∧ ∀ j, j < k → a ≤ gI xs j ∧ gI xs j ≤ b) (fun _ i => xs.length - (intOf i).toNat)
  case atStart => exact ⟨0, Nat.zero_le _, rfl, fun j hj => absurd hj (by omega)⟩
  case round =>
    obtain ⟨k, hk, rfl, hg⟩ := hrel
    by_cases hlt : k < xs.length
    · obtain ⟨ba, off, rfl, hbl, hcs⟩ := hrd (ne_of_lt_len hlt)
      have hc := hcs k hlt
      have HB := Lib.hid (@allIn_no xs a b k hlt)
      have HG : Hid (inB (gI xs k) a b = true → ∀ j, j < k + 1 → a ≤ gI xs j ∧ gI xs j ≤ b) := Lib.hid (by
        intro hb j hj
        by_cases e : j = k
        · rw [e]; exact inB_iff.1 hb
        · exact hg j (by omega))
      clear hg hcs hrd
      generalize gI xs k = c at hc HG HB
      by_cases hin : inB c a b = true
      · have HG' := Lib.hid (HG.out hin)
        clear HG HB
        go_wp2_with (go_at_call 42; refine (inRange_c _ _ _ _).mono ?_; rintro e w' ⟨rfl, rfl⟩)
        go_round
        case rel => exact ⟨k + 1, by omega, by go_num, HG'.out⟩
        case measure => simp [intOf]; omega
      · have hin' : inB c a b = false := by simpa using hin
        have HB' := Lib.hid (HB.out hin')
        clear HG HB hin
        go_wp2_with (go_at_call 42; refine (inRange_c _ _ _ _).mono ?_; rintro e w' ⟨rfl, rfl⟩)
        go_ret
        exact ⟨ret_bool HB'.out.symm, rfl⟩
    · go_wp2
      have hk' : k = xs.length := by omega
      subst hk'
      go_ret
      exact ⟨ret_bool (allIn_iff.2 hg).symm, rfl⟩
end Go.Proofs.YtiinceflafigeaaDoor

/- Branches: divisors, and when a list of terms is a branch. No program in sight. -/
namespace Go.Proofs.YtiinceflafigeaaDoor

theorem gcdI_nn (a b : Int) : 0 ≤ gcdI a b := by unfold gcdI; omega
theorem gcdI_le {a b B : Int} (h1 : -B ≤ a) (h2 : a ≤ B) (h3 : -B ≤ b) (h4 : b ≤ B) : gcdI a b ≤ B := by
  unfold gcdI
  by_cases e : a.natAbs = 0
  · rw [e, Nat.gcd_zero_left]; omega
  · have := Nat.gcd_le_left b.natAbs (Nat.pos_of_ne_zero e); omega
theorem gcdI_pos {a b : Int} (h : 0 < a) : 0 < gcdI a b := by
  unfold gcdI
  have := Nat.gcd_pos_of_pos_left b.natAbs (by omega : 0 < a.natAbs)
  omega
theorem gcdI_le_left {a b : Int} (h : 0 < a) : gcdI a b ≤ a := by
  unfold gcdI
  have := Nat.gcd_le_left b.natAbs (by omega : 0 < a.natAbs)
  omega
theorem gcdI_dvd_left (a b : Int) : gcdI a b ∣ a := by
  unfold gcdI
  exact Int.dvd_natAbs.1 (Int.natCast_dvd_natCast.2 (Nat.gcd_dvd_left _ _))
theorem gcdI_dvd_right (a b : Int) : gcdI a b ∣ b := by
  unfold gcdI
  exact Int.dvd_natAbs.1 (Int.natCast_dvd_natCast.2 (Nat.gcd_dvd_right _ _))
theorem gcdI_zero_left {b : Int} (h : 0 ≤ b) : gcdI 0 b = b := by
  unfold gcdI
  simp
  omega

/-- The divisor after the term k. -/
def eI (T : List Int) : Nat → Int
  | 0 => gI T 0
  | k + 1 => gcdI (eI T k) (gI T (k + 1))
theorem eI_succ (T : List Int) (k : Nat) : eI T (k + 1) = gcdI (eI T k) (gI T (k + 1)) := rfl
/-- The divisors after the first k terms. -/
def eTo (T : List Int) (k : Nat) : List Int := (List.range k).map (eI T)
@[simp] theorem eTo_len (T : List Int) (k : Nat) : (eTo T k).length = k := by simp [eTo]
theorem eTo_succ (T : List Int) (k : Nat) : eTo T (k + 1) = eTo T k ++ [eI T k] := by simp [eTo, List.range_succ]
theorem gI_eTo {T : List Int} {k i : Nat} (h : i < k) : gI (eTo T k) i = eI T i := by rw [gI_lt (by simpa using h)]; simp [eTo]

theorem eI_pos {T : List Int} (h : 0 < gI T 0) (k : Nat) : 0 < eI T k := by
  induction k with
  | zero => exact h
  | succ k ih => rw [eI_succ]; exact gcdI_pos ih
theorem eI_step_le {T : List Int} (h : 0 < gI T 0) (k : Nat) : eI T (k + 1) ≤ eI T k := by rw [eI_succ]; exact gcdI_le_left (eI_pos h k)
theorem eI_le {T : List Int} (h : 0 < gI T 0) {i k : Nat} (hk : i ≤ k) : eI T k ≤ eI T i := by
  induction k with
  | zero => have : i = 0 := by omega
            subst this; exact Int.le_refl _
  | succ k ih =>
    by_cases e : i = k + 1
    · subst e; exact Int.le_refl _
    · exact Int.le_trans (eI_step_le h k) (ih (by omega))
theorem eI_le0 {T : List Int} (h : 0 < gI T 0) (k : Nat) : eI T k ≤ gI T 0 := eI_le h (Nat.zero_le k)
theorem eI_dvd_step (T : List Int) (k : Nat) : eI T (k + 1) ∣ eI T k := gcdI_dvd_left _ _
theorem eI_dvd (T : List Int) {i k : Nat} (hk : i ≤ k) : eI T k ∣ eI T i := by
  induction k with
  | zero => have : i = 0 := by omega
            subst this; exact Int.dvd_refl _
  | succ k ih =>
    by_cases e : i = k + 1
    · subst e; exact Int.dvd_refl _
    · exact Int.dvd_trans (eI_dvd_step T k) (ih (by omega))
theorem eI_dvd_term (T : List Int) (k : Nat) : eI T k ∣ gI T k := by
  cases k with
  | zero => exact Int.dvd_refl _
  | succ k => exact gcdI_dvd_right _ _

/-- The terms rise. -/
def ascB (T : List Int) : Bool := decide (∀ i, i < T.length - 1 → gI T i < gI T (i + 1))
/-- The divisors fall to 1. -/
def fallB (T : List Int) : Bool := decide ((∀ i, i < T.length - 1 → eI T (i + 1) < eI T i) ∧ eI T (T.length - 1) = 1)
/-- T are the terms of a branch. -/
def braB (T : List Int) : Bool := decide (0 < T.length) && (inB (gI T 0) 1 64 && (ascB T && (allIn T 1 2000 && fallB T)))
structure BraOk (T : List Int) : Prop where
  len : 0 < T.length
  first : 1 ≤ gI T 0 ∧ gI T 0 ≤ 64
  asc : ∀ i, i + 1 < T.length → gI T i < gI T (i + 1)
  num : ∀ i, i < T.length → 1 ≤ gI T i ∧ gI T i ≤ 2000
  fall : ∀ i, i + 1 < T.length → eI T (i + 1) < eI T i
  last : eI T (T.length - 1) = 1
theorem ascB_iff {T : List Int} : ascB T = true ↔ ∀ i, i + 1 < T.length → gI T i < gI T (i + 1) := by
  simp only [ascB, decide_eq_true_eq]
  exact ⟨fun h i hi => h i (by omega), fun h i hi => h i (by omega)⟩
theorem ascB_no {T : List Int} {k : Nat} (hk : k + 1 < T.length) (h : gI T (k + 1) ≤ gI T k) : ascB T = false := by
  cases c : ascB T
  · rfl
  · have := ascB_iff.1 c k hk; omega
theorem fallB_iff {T : List Int} : fallB T = true ↔ (∀ i, i + 1 < T.length → eI T (i + 1) < eI T i) ∧ eI T (T.length - 1) = 1 := by
  simp only [fallB, decide_eq_true_eq]
  exact ⟨fun h => ⟨fun i hi => h.1 i (by omega), h.2⟩, fun h => ⟨fun i hi => h.1 i (by omega), h.2⟩⟩
theorem fallB_no {T : List Int} {k : Nat} (hk : k + 1 < T.length) (h : eI T k ≤ eI T (k + 1)) : fallB T = false := by
  cases c : fallB T
  · rfl
  · have := (fallB_iff.1 c).1 k hk; omega
theorem fallB_end {T : List Int} (h : ∀ i, i + 1 < T.length → eI T (i + 1) < eI T i) : fallB T = decide (eI T (T.length - 1) = 1) := by
  by_cases e : eI T (T.length - 1) = 1
  · rw [fallB_iff.2 ⟨h, e⟩]; simp [e]
  · cases c : fallB T
    · simp [e]
    · exact absurd (fallB_iff.1 c).2 e
theorem braB_iff {T : List Int} : braB T = true ↔ BraOk T := by
  unfold braB
  simp only [Bool.and_eq_true, decide_eq_true_eq, inB_iff, ascB_iff, allIn_iff, fallB_iff]
  exact ⟨fun ⟨h1, h2, h3, h4, h5, h6⟩ => ⟨h1, h2, h3, h4, h5, h6⟩, fun h => ⟨h.len, h.first, h.asc, h.num, h.fall, h.last⟩⟩

theorem eI_half {T : List Int} (h : BraOk T) {k : Nat} (hk : k + 1 < T.length) : 2 * eI T (k + 1) ≤ eI T k := by
  have h0 : 0 < gI T 0 := by have := h.first; omega
  obtain ⟨c, hc⟩ := eI_dvd_step T k
  have h1 := h.fall k hk
  have h2 := eI_pos h0 (k + 1)
  have h3 := eI_pos h0 k
  have : 1 < c := by
    apply Int.lt_of_not_ge
    intro hle
    have := Int.mul_le_mul_of_nonneg_left hle (Int.le_of_lt h2)
    omega
  have := Int.mul_le_mul_of_nonneg_left (show 2 ≤ c by omega) (Int.le_of_lt h2)
  omega
theorem eI_pow {T : List Int} (h : BraOk T) (k : Nat) (hk : k < T.length) : 2 ^ k * eI T k ≤ 64 := by
  induction k with
  | zero => have := h.first; simp [eI]; omega
  | succ k ih =>
    have h1 := eI_half h hk
    have h2 := ih (by omega)
    have h3 : (2 : Int) ^ k * (2 * eI T (k + 1)) ≤ 2 ^ k * eI T k := Int.mul_le_mul_of_nonneg_left h1 (Int.le_of_lt (Int.pow_pos (by omega)))
    rw [Int.pow_succ, Int.mul_assoc]
    omega
/-- A branch has at most 7 terms. -/
theorem bra_len {T : List Int} (h : BraOk T) : T.length ≤ 7 := by
  apply Nat.le_of_not_lt
  intro hlt
  have h1 := eI_pow h 7 hlt
  have h2 := eI_pos (by have := h.first; omega : 0 < gI T 0) 7
  have : (2 : Int) ^ 7 = 128 := by decide
  rw [this] at h1
  omega
/-- The divisors but the last are at least 2, and all at most 64. -/
theorem eI_bd {T : List Int} (h : BraOk T) (k : Nat) : 1 ≤ eI T k ∧ eI T k ≤ 64 := by
  have h0 : 0 < gI T 0 := by have := h.first; omega
  have h1 := eI_pos h0 k
  have h2 := eI_le0 h0 k
  have := h.first
  omega
end Go.Proofs.YtiinceflafigeaaDoor
