/- Contracts: fractions of any numbers, slices.Max; when the multiplier cluster is asked rightly. -/
import Derived.Test.YthpnmkghjnipoaaLtS
import Derived.Test.YthpnmkghjnipoaaMuPure
namespace Go.Proofs.Ythpnmkghjnipoaa
open Go.RowKit

/-- Is it a fraction? -/
def fracB (t b : Int) : Bool := inB t (-1000000000) 1000000000 && (inB b 1 1000000000 && gcdI t b == 1)
theorem isFraction_c (x y : Int) (w : World) : Calls Try.prog 115 #[.agg #[.int .i64 x, .int .i64 y]] w fun e w' => e = .returned (.bool (fracB x y)) ∧ Below w.heap.size w w' := by
  have hx := Boxed.start w 62 #[.int .i64 x, .int .i64 y]
  have c0 := hx.cell 0
  have c1 := hx.cell 1
  cases i1 : inB x (-1000000000) 1000000000
  · have hf : fracB x y = false := by simp [fracB, i1]
    rw [hf]
    go_enter Try.func115, Try.ntmps115
    go_wp2_with fail
    refine (isInteger_c _ _).mono ?_
    rintro e w1 ⟨rfl, rfl⟩
    rw [i1]
    go_wp2
    go_ret
    exact ⟨rfl, hx.below⟩
  · cases i2 : inB y 1 1000000000
    · have hf : fracB x y = false := by simp [fracB, i1, i2]
      rw [hf]
      go_enter Try.func115, Try.ntmps115
      go_wp2_with fail
      refine (isInteger_c _ _).mono ?_
      rintro e w1 ⟨rfl, rfl⟩
      rw [i1]
      go_wp2_with fail
      refine (isNatural_c _ _).mono ?_
      rintro e w1 ⟨rfl, rfl⟩
      rw [i2]
      go_wp2
      go_ret
      exact ⟨rfl, hx.below⟩
    · have hf : fracB x y = (gcdI x y == 1) := by simp [fracB, i1, i2]
      rw [hf]
      have r1 := inB_iff.1 i1
      have r2 := inB_iff.1 i2
      go_enter Try.func115, Try.ntmps115
      go_wp2_with fail
      refine (isInteger_c _ _).mono ?_
      rintro e w1 ⟨rfl, rfl⟩
      rw [i1]
      go_wp2_with fail
      refine (isNatural_c _ _).mono ?_
      rintro e w1 ⟨rfl, rfl⟩
      rw [i2]
      go_wp2_with fail
      refine (divisor_c x y _ (by omega) (by omega) (by omega) (by omega)).mono ?_
      rintro e w1 ⟨rfl, hd⟩
      have hx1 := hx.trans (hd.below _)
      go_wp2
      go_ret
      exact ⟨rfl, hx1.below⟩
theorem l01FractionA_c (x y : Int) (w : World) : Calls Try.prog 109 #[.agg #[.int .i64 x, .int .i64 y]] w fun e w' => e = .returned (.bool (fracB x y)) ∧ Below w.heap.size w w' := by
  have hx := Boxed.start w 62 #[.int .i64 x, .int .i64 y]
  have c0 := hx.cell 0
  have c1 := hx.cell 1
  cases i1 : inB x (-1000000000) 1000000000
  · have hf : fracB x y = false := by simp [fracB, i1]
    rw [hf]
    go_enter Try.func109, Try.ntmps109
    go_wp2_with fail
    refine (l01Integer_c _ _).mono ?_
    rintro e w1 ⟨rfl, rfl⟩
    rw [i1]
    go_wp2
    go_ret
    exact ⟨rfl, hx.below⟩
  · cases i2 : inB y 1 1000000000
    · have hf : fracB x y = false := by simp [fracB, i1, i2]
      rw [hf]
      go_enter Try.func109, Try.ntmps109
      go_wp2_with fail
      refine (l01Integer_c _ _).mono ?_
      rintro e w1 ⟨rfl, rfl⟩
      rw [i1]
      go_wp2_with fail
      refine (l01Natural_c _ _).mono ?_
      rintro e w1 ⟨rfl, rfl⟩
      rw [i2]
      go_wp2
      go_ret
      exact ⟨rfl, hx.below⟩
    · have hf : fracB x y = (gcdI x y == 1) := by simp [fracB, i1, i2]
      rw [hf]
      have r1 := inB_iff.1 i1
      have r2 := inB_iff.1 i2
      go_enter Try.func109, Try.ntmps109
      go_wp2_with fail
      refine (l01Integer_c _ _).mono ?_
      rintro e w1 ⟨rfl, rfl⟩
      rw [i1]
      go_wp2_with fail
      refine (l01Natural_c _ _).mono ?_
      rintro e w1 ⟨rfl, rfl⟩
      rw [i2]
      go_wp2_with fail
      refine (l01Gcd_c x y _ (by omega) (by omega) (by omega) (by omega)).mono ?_
      rintro e w1 ⟨rfl, rfl⟩
      go_wp2
      go_ret
      exact ⟨rfl, hx.below⟩

/-- The greatest of the first k numbers. -/
def maxTo (L : List Int) : Nat → Int
  | 0 => gI L 0
  | k + 1 => if maxTo L k < gI L k then gI L k else maxTo L k
theorem maxTo_succ (L : List Int) (k : Nat) : maxTo L (k + 1) = if maxTo L k < gI L k then gI L k else maxTo L k := rfl
theorem maxTo_one (L : List Int) : maxTo L 1 = gI L 0 := by rw [maxTo_succ]; simp [maxTo]
theorem maxTo_le {L : List Int} {b : Int} (h0 : gI L 0 ≤ b) : ∀ k, maxTo L k ≤ b ↔ ∀ i, i < k → gI L i ≤ b := by
  intro k
  induction k with
  | zero => exact ⟨fun _ i hi => absurd hi (by omega), fun _ => h0⟩
  | succ k ih =>
    rw [maxTo_succ]
    constructor
    · intro h i hi
      by_cases e : i = k
      · subst e; split at h <;> omega
      · refine ih.1 ?_ i (by omega)
        split at h <;> omega
    · intro h
      have h1 := ih.2 (fun i hi => h i (by omega))
      have h2 := h k (by omega)
      split <;> omega
set_option maxHeartbeats 1000000 in
theorem max_c (v : Value) (xs : List Int) (w : World) (h : Rd w v xs) (hp : 0 < xs.length) (hn : xs.length ≤ 1000000) :
    Calls Try.prog 116 #[v] w fun e w' => e = .returned (.int .i64 (maxTo xs xs.length)) ∧ w = w' := by
  obtain ⟨b, off, cap, rfl, h1, h2, hb, hc⟩ := h.cells hp
  have hz : w.cell? ⟨b, off, none⟩ = some (.int .i64 (gI xs 0)) := hc 0 hp
  go_enter Try.func116, Try.ntmps116
  go_wp2
  go_loop [3, 4] (fun m i => ∃ k : Nat, 1 ≤ k ∧ k ≤ xs.length ∧ i = .int .i64 k ∧ m = .int .i64 (maxTo xs k)) (fun _ i => xs.length - (intOf i).toNat)
  case atStart => exact ⟨1, Nat.le_refl _, hp, rfl, by rw [maxTo_one]⟩
  case round =>
    obtain ⟨k, hk1, hk, rfl, rfl⟩ := hrel
    clear hz
    by_cases hlt : k < xs.length
    · have hck := hc k hlt
      have HS := Lib.hid (maxTo_succ xs k)
      clear hc
      generalize maxTo xs k = m at HS
      generalize gI xs k = x at hck HS
      by_cases hlx : m < x
      · rw [if_pos hlx] at HS
        go_wp2
        go_round
        case rel => exact ⟨k + 1, by omega, by omega, by go_num, by rw [HS.out]⟩
        case measure => simp [intOf]; omega
      · rw [if_neg hlx] at HS
        go_wp2
        go_round
        case rel => exact ⟨k + 1, by omega, by omega, by go_num, by rw [HS.out]⟩
        case measure => simp [intOf]; omega
    · have hk' : k = xs.length := by omega
      subst hk'
      go_wp2
      go_ret
      exact ⟨rfl, rfl⟩

/-- Is the range kept? -/
def muR (W : List Int) (t b : Int) : Bool := decide (∀ i, i < W.length → gI W i ≤ 1000) && (decide (b ≤ 1000) && (decide (0 ≤ t) && decide (t ≤ 10 * b)))
/-- What the multiplier cluster is asked for, and its weights. -/
def muL (P S W : List Int) (t b : Int) : List Int := unlL P S (woTo (proxL P S) (muTo (ordTo (fun j => gI W j) P S P.length) (discTo P S P.length) t b P.length) P.length)
def muF (P S W : List Int) (t b : Int) : Bool := allIn (muL P S W t b) (-100000) 100000
def muG (P S W : List Int) (t b : Int) : Bool := (cluB P S W && fracB t b) && (muR W t b && nonNeg (exTo (proxL P S) W P.length))
def muB (P S W : List Int) (t b : Int) : Bool := muG P S W t b && muF P S W t b
def muC (P S W : List Int) (t b : Int) : Int := if (cluB P S W && fracB t b) = true then (if muR W t b = true then (if nonNeg (exTo (proxL P S) W P.length) = true then okC (muF P S W t b) 3 else 5) else 2) else 1
theorem mu_1 {P S W : List Int} {t b : Int} (h : (cluB P S W && fracB t b) = false) : muB P S W t b = false ∧ muC P S W t b = 1 := by unfold muB muC muG; rw [h]; simp
theorem mu_2 {P S W : List Int} {t b : Int} (h : (cluB P S W && fracB t b) = true) (h2 : muR W t b = false) : muB P S W t b = false ∧ muC P S W t b = 2 := by unfold muB muC muG; rw [h, h2]; simp
theorem mu_3 {P S W : List Int} {t b : Int} (h : (cluB P S W && fracB t b) = true) (h2 : muR W t b = true) (h3 : nonNeg (exTo (proxL P S) W P.length) = false) : muB P S W t b = false ∧ muC P S W t b = 5 := by unfold muB muC muG; rw [h, h2, h3]; simp
theorem mu_4 {P S W : List Int} {t b : Int} (h : (cluB P S W && fracB t b) = true) (h2 : muR W t b = true) (h3 : nonNeg (exTo (proxL P S) W P.length) = true) : muB P S W t b = muF P S W t b ∧ muC P S W t b = okC (muF P S W t b) 3 := by unfold muB muC muG; rw [h, h2, h3]; simp
end Go.Proofs.Ythpnmkghjnipoaa
