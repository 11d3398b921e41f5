/- A loop that draws until a number is no multiple of 3 comes to its end. No program in sight. -/
import Derived.Test.YtglghdkjppcedaaDoorPart17
import Derived.Test.YtglghdkjppcedaaDoorPart18
import Derived.Test.YtglghdkjppcedaaDoorPart22
import Derived.Test.YtglghdkjppcedaaDoorPart9
import Derived.Deep.LoopGhost
namespace Go.Proofs.YtglghdkjppcedaaDoor
open Go.RowKit

/-- The hash and the place after n draws; the number drawn then. -/
def hsh (h : Int) : Nat → Int
  | 0 => h
  | n + 1 => nxtH (hsh h n)
def plc (C : List Int) (a : Nat) : Nat → Nat
  | 0 => a
  | n + 1 => nxtA C (plc C a n)
def drX (C : List Int) (a : Nat) (h : Int) (n : Nat) : Int := drwX C (plc C a n) (hsh h n)
theorem nxtH_mod (h : Int) : nxtH h = (6364136223846793005 * h + 1442695040888963407) % 18446744073709551616 := by
  unfold nxtH
  have e : ∀ n, IntKind.u64.wrap n = n % 18446744073709551616 := fun n => by simp [IntKind.wrap, IntKind.bits, IntKind.signed]
  rw [e, e]
  omega
/-- 2^k draws at once. -/
def pwA : Nat → Int
  | 0 => 6364136223846793005
  | k + 1 => pwA k * pwA k % 18446744073709551616
def pwC : Nat → Int
  | 0 => 1442695040888963407
  | k + 1 => (pwA k * pwC k + pwC k) % 18446744073709551616
theorem aff_mod (A C x M : Int) : (A * ((A * x + C) % M) + C) % M = (A * A % M * x + (A * C + C) % M) % M := by
  have e1 := Int.emod_def (A * x + C) M
  have e2 := Int.emod_def (A * A) M
  have e3 := Int.emod_def (A * C + C) M
  rw [e1, e2, e3]
  generalize (A * x + C) / M = q1
  generalize A * A / M = q2
  generalize (A * C + C) / M = q3
  have e : A * (A * x + C - M * q1) + C = (A * A - M * q2) * x + (A * C + C - M * q3) + M * (q2 * x + q3 - A * q1) := by grind
  rw [e, Int.add_mul_emod_self_left]
theorem hsh_pow : ∀ (k : Nat) (h : Int) (n : Nat), hsh h (n + 2 ^ k) = (pwA k * hsh h n + pwC k) % 18446744073709551616 := by
  intro k
  induction k with
  | zero => intro h n; exact nxtH_mod _
  | succ k ih =>
    intro h n
    have e : n + 2 ^ (k + 1) = (n + 2 ^ k) + 2 ^ k := by rw [Nat.pow_succ]; omega
    rw [e, ih, ih]
    exact aff_mod _ _ _ _
theorem pw_ok : ∀ k, k < 22 → pwA k % (2 ^ (k + 1) : Nat) = 1 ∧ pwC k % (2 ^ (k + 1) : Nat) = (2 ^ k : Nat) ∧ (18446744073709551616 : Int) % (2 ^ (k + 1) : Nat) = 0 := by decide +kernel
theorem cyc_step {P M A C x l : Int} (hA : A % (P * 2) = 1) (hC : C % (P * 2) = P) (hM : M % (P * 2) = 0) (hx : x % P = l % P) : x % (P * 2) = l % (P * 2) ∨ (A * x + C) % M % (P * 2) = l % (P * 2) := by
  have hd : P ∣ x - l := Int.dvd_of_emod_eq_zero (Int.emod_eq_emod_iff_emod_sub_eq_zero.1 hx)
  obtain ⟨e, he⟩ := hd
  have eA := Int.emod_add_mul_ediv A (P * 2)
  have eC := Int.emod_add_mul_ediv C (P * 2)
  rw [hA] at eA
  rw [hC] at eC
  by_cases h2 : e % 2 = 0
  · left
    have e2 : x = l + P * 2 * (e / 2) := by
      have : e = 2 * (e / 2) := by omega
      grind
    rw [e2, Int.add_mul_emod_self_left]
  · right
    rw [Int.emod_emod_of_dvd _ (Int.dvd_of_emod_eq_zero hM)]
    generalize A / (P * 2) = qa at *
    generalize C / (P * 2) = qc at *
    have e2 : A * x + C = l + P * 2 * (qa * x + qc + (e / 2 + 1)) := by
      have : e = 2 * (e / 2) + 1 := by omega
      grind
    rw [e2, Int.add_mul_emod_self_left]
/-- Each remainder by 2^22 comes. -/
theorem reach (h : Int) (n0 : Nat) (l : Int) (hl : hsh h n0 % 2 = l % 2) : ∀ k, k < 22 → ∃ t, t < 2 ^ (k + 1) ∧ t % 2 = 0 ∧ hsh h (n0 + t) % ((2 ^ (k + 1) : Nat) : Int) = l % ((2 ^ (k + 1) : Nat) : Int) := by
  intro k
  induction k with
  | zero => intro _; exact ⟨0, by decide, rfl, hl⟩
  | succ k ih =>
    intro hk
    obtain ⟨t, h1, h2, h3⟩ := ih (by omega)
    obtain ⟨p1, p2, p3⟩ := pw_ok (k + 1) hk
    have ep : (2 : Nat) ^ (k + 1 + 1) = 2 ^ (k + 1) * 2 := Nat.pow_succ _ _
    have hpos : 0 < (2 : Nat) ^ (k + 1) := Nat.pow_pos (by decide)
    have hev : (2 : Nat) ^ (k + 1) % 2 = 0 := by rw [Nat.pow_succ]; omega
    have e2 : (((2 : Nat) ^ (k + 1 + 1) : Nat) : Int) = (((2 : Nat) ^ (k + 1) : Nat) : Int) * 2 := by rw [ep]; simp
    rw [e2] at p1 p2 p3 ⊢
    rcases cyc_step p1 p2 p3 h3 with h4 | h4
    · exact ⟨t, by omega, h2, h4⟩
    · refine ⟨t + 2 ^ (k + 1), by omega, by omega, ?_⟩
      rw [← Nat.add_assoc, hsh_pow]
      exact h4
theorem plc_min (C : List Int) (a : Nat) : ∀ n, C.length ≤ plc C a n ∨ n ≤ plc C a n := by
  intro n
  induction n with
  | zero => exact .inr (Nat.zero_le _)
  | succ n ih =>
    show C.length ≤ nxtA C (plc C a n) ∨ n + 1 ≤ nxtA C (plc C a n)
    unfold nxtA
    by_cases h : plc C a n < C.length
    · rw [if_pos h]; omega
    · rw [if_neg h]; omega
theorem drX_late {C : List Int} (hC : C.length ≤ 4096) (a : Nat) (h : Int) {n : Nat} (hn : 4096 ≤ n) : drX C a h n = hsh h (n + 1) / 8589934592 % 16777216 := by
  unfold drX drwX
  have := plc_min C a n
  rw [if_neg (by omega), xiH_eq]
  show nxtH (hsh h n) / 8589934592 % 16777216 + 0 = _
  rw [Int.add_zero]; rfl
theorem pw33 : pwA 33 = 5255321193111617537 ∧ pwC 33 = 11001931093778628608 ∧ pwA 1 = 7520897724310334953 ∧ pwC 1 = 1876011003808476466 := by decide +kernel
theorem far_help (x r u : Int) : (x + 8589934592 * (16777216 * r + u)) % 18446744073709551616 / 8589934592 % 16777216 = (x / 8589934592 % 16777216 + u) % 16777216 ∧ (x + 8589934592 * (16777216 * r + u)) % 18446744073709551616 % 4194304 = x % 4194304 := by
  have hk : (x + 8589934592 * (16777216 * r + u)) % 18446744073709551616 = x + 8589934592 * (16777216 * r + u - 2147483648 * ((x + 8589934592 * (16777216 * r + u)) / 18446744073709551616)) := by omega
  rw [hk]
  generalize (x + 8589934592 * (16777216 * r + u)) / 18446744073709551616 = k
  refine ⟨?_, by omega⟩
  rw [Int.add_mul_ediv_left _ _ (by decide)]
  generalize x / 8589934592 = y
  omega
theorem far_x0 {h : Int} {n : Nat} (hx : hsh h (n + 1) % 4194304 = 2794560) : hsh h (n + 8589934592 + 1) % 4194304 = 2794560 ∧ hsh h (n + 8589934592 + 1) / 8589934592 % 16777216 = (hsh h (n + 1) / 8589934592 % 16777216 + 17413) % 16777216 := by
  have e : n + 8589934592 + 1 = n + 1 + 2 ^ 33 := by omega
  rw [e, hsh_pow, pw33.1, pw33.2.1]
  generalize hsh h (n + 1) = x at *
  have e1 : 5255321193111617537 * x + 11001931093778628608 = x + 8589934592 * (611799908 * x + 1280793349) := by omega
  obtain ⟨q, hq⟩ : ∃ q, x = 4194304 * q + 2794560 := ⟨x / 4194304, by omega⟩
  have e2 : 611799908 * x + 1280793349 = 16777216 * (152949977 * q + 101906826) + 17413 := by omega
  rw [e1, e2, (far_help _ _ _).1, (far_help _ _ _).2]
  exact ⟨hx, rfl⟩
theorem far_y0 {h : Int} {n : Nat} (hx : hsh h (n + 1) % 4194304 = 600946) : hsh h (n + 8589934592 + 1) % 4194304 = 600946 ∧ hsh h (n + 8589934592 + 1) / 8589934592 % 16777216 = (hsh h (n + 1) / 8589934592 % 16777216 + 18829) % 16777216 := by
  have e : n + 8589934592 + 1 = n + 1 + 2 ^ 33 := by omega
  rw [e, hsh_pow, pw33.1, pw33.2.1]
  generalize hsh h (n + 1) = x at *
  have e1 : 5255321193111617537 * x + 11001931093778628608 = x + 8589934592 * (611799908 * x + 1280793349) := by omega
  obtain ⟨q, hq⟩ : ∃ q, x = 4194304 * q + 600946 := ⟨x / 4194304, by omega⟩
  have e2 : 611799908 * x + 1280793349 = 16777216 * (152949977 * q + 21914243) + 18829 := by omega
  rw [e1, e2, (far_help _ _ _).1, (far_help _ _ _).2]
  exact ⟨hx, rfl⟩
theorem two_0 {h : Int} {n : Nat} (hx : hsh h (n + 1) % 4194304 = 2794560) : hsh h (n + 2 + 1) % 4194304 = 600946 := by
  have e : n + 2 + 1 = n + 1 + 2 ^ 1 := by omega
  rw [e, hsh_pow, pw33.2.2.1, pw33.2.2.2]
  generalize hsh h (n + 1) = x at *
  omega
theorem blk_0 {x y : Int} (hx : 0 ≤ x) (hy : 0 ≤ y) (h1 : x + 34826 < 16777216) (h2 : y + 37658 < 16777216) (g0 : x % 3 = 0 ∨ y % 3 = 0) (g1 : (x + 17413) % 16777216 % 3 = 0 ∨ (y + 18829) % 16777216 % 3 = 0) (g2 : ((x + 17413) % 16777216 + 17413) % 16777216 % 3 = 0 ∨ ((y + 18829) % 16777216 + 18829) % 16777216 % 3 = 0) : False := by
  rw [Int.emod_eq_of_lt (by omega) (by omega : x + 17413 < 16777216), Int.emod_eq_of_lt (by omega) (by omega : y + 18829 < 16777216)] at g1 g2
  rw [Int.emod_eq_of_lt (by omega) (by omega : x + 17413 + 17413 < 16777216), Int.emod_eq_of_lt (by omega) (by omega : y + 18829 + 18829 < 16777216)] at g2
  omega
theorem far_x1 {h : Int} {n : Nat} (hx : hsh h (n + 1) % 4194304 = 3570373) : hsh h (n + 8589934592 + 1) % 4194304 = 3570373 ∧ hsh h (n + 8589934592 + 1) / 8589934592 % 16777216 = (hsh h (n + 1) / 8589934592 % 16777216 + 12025) % 16777216 := by
  have e : n + 8589934592 + 1 = n + 1 + 2 ^ 33 := by omega
  rw [e, hsh_pow, pw33.1, pw33.2.1]
  generalize hsh h (n + 1) = x at *
  have e1 : 5255321193111617537 * x + 11001931093778628608 = x + 8589934592 * (611799908 * x + 1280793349) := by omega
  obtain ⟨q, hq⟩ : ∃ q, x = 4194304 * q + 3570373 := ⟨x / 4194304, by omega⟩
  have e2 : 611799908 * x + 1280793349 = 16777216 * (152949977 * q + 130197713) + 12025 := by omega
  rw [e1, e2, (far_help _ _ _).1, (far_help _ _ _).2]
  exact ⟨hx, rfl⟩
theorem far_y1 {h : Int} {n : Nat} (hx : hsh h (n + 1) % 4194304 = 1198975) : hsh h (n + 8589934592 + 1) % 4194304 = 1198975 ∧ hsh h (n + 8589934592 + 1) / 8589934592 % 16777216 = (hsh h (n + 1) / 8589934592 % 16777216 + 1441) % 16777216 := by
  have e : n + 8589934592 + 1 = n + 1 + 2 ^ 33 := by omega
  rw [e, hsh_pow, pw33.1, pw33.2.1]
  generalize hsh h (n + 1) = x at *
  have e1 : 5255321193111617537 * x + 11001931093778628608 = x + 8589934592 * (611799908 * x + 1280793349) := by omega
  obtain ⟨q, hq⟩ : ∃ q, x = 4194304 * q + 1198975 := ⟨x / 4194304, by omega⟩
  have e2 : 611799908 * x + 1280793349 = 16777216 * (152949977 * q + 43722038) + 1441 := by omega
  rw [e1, e2, (far_help _ _ _).1, (far_help _ _ _).2]
  exact ⟨hx, rfl⟩
theorem two_1 {h : Int} {n : Nat} (hx : hsh h (n + 1) % 4194304 = 3570373) : hsh h (n + 2 + 1) % 4194304 = 1198975 := by
  have e : n + 2 + 1 = n + 1 + 2 ^ 1 := by omega
  rw [e, hsh_pow, pw33.2.2.1, pw33.2.2.2]
  generalize hsh h (n + 1) = x at *
  omega
theorem blk_1 {x y : Int} (hx : 0 ≤ x) (hy : 0 ≤ y) (h1 : x + 24050 < 16777216) (h2 : y + 2882 < 16777216) (g0 : x % 3 = 0 ∨ y % 3 = 0) (g1 : (x + 12025) % 16777216 % 3 = 0 ∨ (y + 1441) % 16777216 % 3 = 0) (g2 : ((x + 12025) % 16777216 + 12025) % 16777216 % 3 = 0 ∨ ((y + 1441) % 16777216 + 1441) % 16777216 % 3 = 0) : False := by
  rw [Int.emod_eq_of_lt (by omega) (by omega : x + 12025 < 16777216), Int.emod_eq_of_lt (by omega) (by omega : y + 1441 < 16777216)] at g1 g2
  rw [Int.emod_eq_of_lt (by omega) (by omega : x + 12025 + 12025 < 16777216), Int.emod_eq_of_lt (by omega) (by omega : y + 1441 + 1441 < 16777216)] at g2
  omega
/-- The draws at the heads of the rounds have been multiples of 3. -/
def Hist (C : List Int) (a : Nat) (h : Int) (n : Nat) : Prop := ∀ e, e % 2 = 0 → e + 2 < n → drX C a h e % 3 = 0 ∨ drX C a h (e + 2) % 3 = 0
theorem hist_step {C : List Int} {a : Nat} {h : Int} {n m : Nat} (H : Hist C a h n) (hn : n % 2 = 0) (hz : drX C a h n % 3 = 0) (hm : m ≤ n + 4) : Hist C a h m := by
  intro e he hem
  by_cases h1 : e + 2 < n
  · exact H e he h1
  · have : e = n ∨ e + 2 = n := by omega
    rcases this with rfl | h2
    · exact .inl hz
    · rw [h2]; exact .inr hz
theorem hist_le {C : List Int} {a : Nat} {h : Int} {n m : Nat} (H : Hist C a h n) (hm : m ≤ n) : Hist C a h m := fun e he hem => H e he (by omega)
theorem hist_no_0 {C : List Int} (hC : C.length ≤ 4096) {a : Nat} {h : Int} {e : Nat} (he : 4096 ≤ e) (hev : e % 2 = 0) (hel : e ≤ 5000000) (hx : hsh h (e + 1) % 4194304 = 2794560) (H : Hist C a h 137438953472) : False := by
  have Z : ∀ j, j ≤ 8 → (hsh h (e + 8589934592 * j + 1) / 8589934592 % 16777216) % 3 = 0 ∨ (hsh h (e + 8589934592 * j + 2 + 1) / 8589934592 % 16777216) % 3 = 0 := fun j hj => by
    have := H (e + 8589934592 * j) (by omega) (by omega)
    rwa [drX_late hC a h (by omega), drX_late hC a h (by omega)] at this
  have X : ∀ j, hsh h (e + 8589934592 * j + 1) % 4194304 = 2794560 ∧ hsh h (e + 8589934592 * (j + 1) + 1) / 8589934592 % 16777216 = (hsh h (e + 8589934592 * j + 1) / 8589934592 % 16777216 + 17413) % 16777216 := by
    intro j
    have key : hsh h (e + 8589934592 * j + 1) % 4194304 = 2794560 := by
      induction j with
      | zero => exact hx
      | succ j ih => have := (far_x0 ih).1; rwa [show e + 8589934592 * j + 8589934592 + 1 = e + 8589934592 * (j + 1) + 1 by omega] at this
    have := (far_x0 key).2
    rw [show e + 8589934592 * j + 8589934592 + 1 = e + 8589934592 * (j + 1) + 1 by omega] at this
    exact ⟨key, this⟩
  have Y : ∀ j, hsh h (e + 8589934592 * (j + 1) + 2 + 1) / 8589934592 % 16777216 = (hsh h (e + 8589934592 * j + 2 + 1) / 8589934592 % 16777216 + 18829) % 16777216 := by
    intro j
    have := (far_y0 (two_0 (X j).1)).2
    rwa [show e + 8589934592 * j + 2 + 8589934592 + 1 = e + 8589934592 * (j + 1) + 2 + 1 by omega] at this
  have bx : ∀ j, 0 ≤ hsh h (e + 8589934592 * j + 1) / 8589934592 % 16777216 ∧ hsh h (e + 8589934592 * j + 1) / 8589934592 % 16777216 < 16777216 := fun j => by omega
  have by' : ∀ j, 0 ≤ hsh h (e + 8589934592 * j + 2 + 1) / 8589934592 % 16777216 ∧ hsh h (e + 8589934592 * j + 2 + 1) / 8589934592 % 16777216 < 16777216 := fun j => by omega
  have X' := fun j => (X j).2
  clear X
  generalize hfx : (fun j => hsh h (e + 8589934592 * j + 1) / 8589934592 % 16777216) = fx at *
  generalize hfy : (fun j => hsh h (e + 8589934592 * j + 2 + 1) / 8589934592 % 16777216) = fy at *
  have ex : ∀ j, hsh h (e + 8589934592 * j + 1) / 8589934592 % 16777216 = fx j := fun j => by rw [← hfx]
  have ey : ∀ j, hsh h (e + 8589934592 * j + 2 + 1) / 8589934592 % 16777216 = fy j := fun j => by rw [← hfy]
  simp only [ex, ey] at Z X' Y bx by'
  have blk : ∀ j, j ≤ 6 → fx j + 34826 < 16777216 → fy j + 37658 < 16777216 → False := fun j hj h1 h2 => by
    have g1 := Z (j + 1) (by omega)
    have g2 := Z (j + 1 + 1) (by omega)
    rw [X' (j + 1), Y (j + 1)] at g2
    rw [X' j, Y j] at g1 g2
    exact blk_0 (bx j).1 (by' j).1 h1 h2 (Z j (by omega)) g1 g2
  have wx : (fx 0 + 34826 < 16777216 ∨ (fx 3 + 34826 < 16777216 ∧ fx 6 + 34826 < 16777216)) ∧ (fx 3 + 34826 < 16777216 ∨ fx 6 + 34826 < 16777216) := by
    have a0 := bx 0
    have a1 := X' 0
    have a2 := X' 1
    have a3 := X' 2
    have a4 := X' 3
    have a5 := X' 4
    have a6 := X' 5
    simp only [Nat.zero_add, Nat.reduceAdd] at a1 a2 a3 a4 a5 a6
    omega
  have wy : (fy 0 + 37658 < 16777216 ∨ (fy 3 + 37658 < 16777216 ∧ fy 6 + 37658 < 16777216)) ∧ (fy 3 + 37658 < 16777216 ∨ fy 6 + 37658 < 16777216) := by
    have a0 := by' 0
    have a1 := Y 0
    have a2 := Y 1
    have a3 := Y 2
    have a4 := Y 3
    have a5 := Y 4
    have a6 := Y 5
    simp only [Nat.zero_add, Nat.reduceAdd] at a1 a2 a3 a4 a5 a6
    omega
  have b0 := blk 0 (by omega)
  have b3 := blk 3 (by omega)
  have b6 := blk 6 (by omega)
  by_cases x0 : fx 0 + 34826 < 16777216 <;> by_cases x3 : fx 3 + 34826 < 16777216 <;> by_cases x6 : fx 6 + 34826 < 16777216 <;> by_cases y0 : fy 0 + 37658 < 16777216 <;> by_cases y3 : fy 3 + 37658 < 16777216 <;> by_cases y6 : fy 6 + 37658 < 16777216 <;> first | exact b0 x0 y0 | exact b3 x3 y3 | exact b6 x6 y6 | (simp only [x0, x3, x6, y0, y3, y6] at wx wy; simp at wx wy)
theorem hist_no_1 {C : List Int} (hC : C.length ≤ 4096) {a : Nat} {h : Int} {e : Nat} (he : 4096 ≤ e) (hev : e % 2 = 0) (hel : e ≤ 5000000) (hx : hsh h (e + 1) % 4194304 = 3570373) (H : Hist C a h 137438953472) : False := by
  have Z : ∀ j, j ≤ 8 → (hsh h (e + 8589934592 * j + 1) / 8589934592 % 16777216) % 3 = 0 ∨ (hsh h (e + 8589934592 * j + 2 + 1) / 8589934592 % 16777216) % 3 = 0 := fun j hj => by
    have := H (e + 8589934592 * j) (by omega) (by omega)
    rwa [drX_late hC a h (by omega), drX_late hC a h (by omega)] at this
  have X : ∀ j, hsh h (e + 8589934592 * j + 1) % 4194304 = 3570373 ∧ hsh h (e + 8589934592 * (j + 1) + 1) / 8589934592 % 16777216 = (hsh h (e + 8589934592 * j + 1) / 8589934592 % 16777216 + 12025) % 16777216 := by
    intro j
    have key : hsh h (e + 8589934592 * j + 1) % 4194304 = 3570373 := by
      induction j with
      | zero => exact hx
      | succ j ih => have := (far_x1 ih).1; rwa [show e + 8589934592 * j + 8589934592 + 1 = e + 8589934592 * (j + 1) + 1 by omega] at this
    have := (far_x1 key).2
    rw [show e + 8589934592 * j + 8589934592 + 1 = e + 8589934592 * (j + 1) + 1 by omega] at this
    exact ⟨key, this⟩
  have Y : ∀ j, hsh h (e + 8589934592 * (j + 1) + 2 + 1) / 8589934592 % 16777216 = (hsh h (e + 8589934592 * j + 2 + 1) / 8589934592 % 16777216 + 1441) % 16777216 := by
    intro j
    have := (far_y1 (two_1 (X j).1)).2
    rwa [show e + 8589934592 * j + 2 + 8589934592 + 1 = e + 8589934592 * (j + 1) + 2 + 1 by omega] at this
  have bx : ∀ j, 0 ≤ hsh h (e + 8589934592 * j + 1) / 8589934592 % 16777216 ∧ hsh h (e + 8589934592 * j + 1) / 8589934592 % 16777216 < 16777216 := fun j => by omega
  have by' : ∀ j, 0 ≤ hsh h (e + 8589934592 * j + 2 + 1) / 8589934592 % 16777216 ∧ hsh h (e + 8589934592 * j + 2 + 1) / 8589934592 % 16777216 < 16777216 := fun j => by omega
  have X' := fun j => (X j).2
  clear X
  generalize hfx : (fun j => hsh h (e + 8589934592 * j + 1) / 8589934592 % 16777216) = fx at *
  generalize hfy : (fun j => hsh h (e + 8589934592 * j + 2 + 1) / 8589934592 % 16777216) = fy at *
  have ex : ∀ j, hsh h (e + 8589934592 * j + 1) / 8589934592 % 16777216 = fx j := fun j => by rw [← hfx]
  have ey : ∀ j, hsh h (e + 8589934592 * j + 2 + 1) / 8589934592 % 16777216 = fy j := fun j => by rw [← hfy]
  simp only [ex, ey] at Z X' Y bx by'
  have blk : ∀ j, j ≤ 6 → fx j + 24050 < 16777216 → fy j + 2882 < 16777216 → False := fun j hj h1 h2 => by
    have g1 := Z (j + 1) (by omega)
    have g2 := Z (j + 1 + 1) (by omega)
    rw [X' (j + 1), Y (j + 1)] at g2
    rw [X' j, Y j] at g1 g2
    exact blk_1 (bx j).1 (by' j).1 h1 h2 (Z j (by omega)) g1 g2
  have wx : (fx 0 + 24050 < 16777216 ∨ (fx 3 + 24050 < 16777216 ∧ fx 6 + 24050 < 16777216)) ∧ (fx 3 + 24050 < 16777216 ∨ fx 6 + 24050 < 16777216) := by
    have a0 := bx 0
    have a1 := X' 0
    have a2 := X' 1
    have a3 := X' 2
    have a4 := X' 3
    have a5 := X' 4
    have a6 := X' 5
    simp only [Nat.zero_add, Nat.reduceAdd] at a1 a2 a3 a4 a5 a6
    omega
  have wy : (fy 0 + 2882 < 16777216 ∨ (fy 3 + 2882 < 16777216 ∧ fy 6 + 2882 < 16777216)) ∧ (fy 3 + 2882 < 16777216 ∨ fy 6 + 2882 < 16777216) := by
    have a0 := by' 0
    have a1 := Y 0
    have a2 := Y 1
    have a3 := Y 2
    have a4 := Y 3
    have a5 := Y 4
    have a6 := Y 5
    simp only [Nat.zero_add, Nat.reduceAdd] at a1 a2 a3 a4 a5 a6
    omega
  have b0 := blk 0 (by omega)
  have b3 := blk 3 (by omega)
  have b6 := blk 6 (by omega)
  by_cases x0 : fx 0 + 24050 < 16777216 <;> by_cases x3 : fx 3 + 24050 < 16777216 <;> by_cases x6 : fx 6 + 24050 < 16777216 <;> by_cases y0 : fy 0 + 2882 < 16777216 <;> by_cases y3 : fy 3 + 2882 < 16777216 <;> by_cases y6 : fy 6 + 2882 < 16777216 <;> first | exact b0 x0 y0 | exact b3 x3 y3 | exact b6 x6 y6 | (simp only [x0, x3, x6, y0, y3, y6] at wx wy; simp at wx wy)
theorem hist_no {C : List Int} (hC : C.length ≤ 4096) {a : Nat} {h : Int} (H : Hist C a h 137438953472) : False := by
  have h2 : hsh h 4097 % 2 = 0 ∨ hsh h 4097 % 2 = 1 := by omega
  rcases h2 with h2 | h2
  · obtain ⟨t, t1, t2, t3⟩ := reach h 4097 2794560 (by omega) 21 (by decide)
    refine hist_no_0 hC (e := 4096 + t) (by omega) (by omega) (by omega) ?_ H
    rw [show 4096 + t + 1 = 4097 + t by omega]
    exact t3
  · obtain ⟨t, t1, t2, t3⟩ := reach h 4097 3570373 (by omega) 21 (by decide)
    refine hist_no_1 hC (e := 4096 + t) (by omega) (by omega) (by omega) ?_ H
    rw [show 4096 + t + 1 = 4097 + t by omega]
    exact t3
end Go.Proofs.YtglghdkjppcedaaDoor

/- Contract: spec.l01Damage, with the draws that it takes. -/
namespace Go.Proofs.YtglghdkjppcedaaDoor
open Go.RowKit

def dmB : List UInt8 := [48, 49, 50, 51, 53, 57, 45, 43, 47, 40, 41, 91, 93, 44, 59, 58, 32, 97, 102, 115, 120, 10]
def dmA : Array Value := (dmB.map fun b => Value.string { data := #[b] }).toArray
theorem dmA_at {j : Nat} (hj : j < 22) : ∃ c : ByteArray, dmA[j]? = some (.string c) ∧ c.size = 1 := by
  have hl : dmB.length = 22 := rfl
  have hj' : j < dmB.length := by omega
  exact ⟨{ data := #[dmB[j]] }, by simp [dmA, List.getElem?_eq_getElem hj'], rfl⟩
/-- A text is handed back, at most one byte longer; one draw or three. -/
def RetDm (w : World) (g : Nat) (C : List Int) (a : Nat) (h : Int) (m : Nat) (e : Ending) (w' : World) : Prop :=
  ∃ (t : ByteArray) (d : Nat), e = .returned (.string t) ∧ (d = 1 ∨ d = 3) ∧ t.size ≤ m + 1 ∧ SrcC w' g C (plc C a d) (hsh h d) ∧ Keeps (fun q => q = g) w w'
set_option maxRecDepth 100000 in
set_option maxHeartbeats 4000000 in
theorem damage_c (g : Nat) (t : ByteArray) (C : List Int) (a : Nat) (h : Int) (w : World) (s : SrcC w g C a h) (hs : t.size ≤ 137438953472) :
    Calls Tryd.prog 32 #[.pointer (some ⟨g, 0, none⟩), .string t] w (RetDm w g C a h t.size) := by
  have hgl := s.lt
  have hal : Below w.heap.size w (w.alloc (.cells dmA 9)) := (Below.refl _ _).alloc (Nat.le_refl _) _
  have BS := Blk.new w 9 dmA
  have s1 := s.below hal
  have hk1 : Keeps (fun q => q = g) w (w.alloc (.cells dmA 9)) := Keeps.of_below hal
  go_enter Tryd.func32, Tryd.ntmps32
  go_upto_region 2 with fail
  rw [show (#[.string { data := #[48] }, .string { data := #[49] }, .string { data := #[50] }, .string { data := #[51] }, .string { data := #[53] }, .string { data := #[57] }, .string { data := #[45] }, .string { data := #[43] }, .string { data := #[47] }, .string { data := #[40] }, .string { data := #[41] }, .string { data := #[91] }, .string { data := #[93] }, .string { data := #[44] }, .string { data := #[59] }, .string { data := #[58] }, .string { data := #[32] }, .string { data := #[97] }, .string { data := #[102] }, .string { data := #[115] }, .string { data := #[120] }, .string { data := #[10] }] : Array Value) = dmA from rfl]
  generalize w.alloc (.cells dmA 9) = w1 at *
  clear hal s
  go_wp2_with fail
  refine (l01Next_c g 22 C a h _ s1 (by decide) (by decide)).mono ?_
  rintro e w2 ⟨rfl, s2, hk2⟩
  have hx0 : 0 ≤ drwX C a h % 22 := Int.emod_nonneg _ (by decide)
  have hx1 : drwX C a h % 22 < 22 := Int.emod_lt_of_pos _ (by decide)
  generalize drwX C a h % 22 = x at *
  obtain ⟨j, rfl⟩ := Int.eq_ofNat_of_zero_le hx0
  obtain ⟨c, hc1, hc2⟩ := dmA_at (j := j) (by omega)
  have hj22 : (j : Int) < 22 := hx1
  have BS2 := BS.keeps hk2 (by omega)
  have dc := BS2.cell j
  rw [hc1] at dc
  have hK2 := hk1.trans hk2
  have HC2 := Lib.hid hc2
  clear s1 BS hk1 hk2 hc1 hx1 BS2 hc2
  by_cases ht0 : t.size = 0
  · have hz : ((t.size : Int) == 0) = true := by rw [ht0]; rfl
    have HF : Hid (RetDm w g C a h t.size (.returned (.string c)) w2) := Lib.hid ⟨c, 1, rfl, .inl rfl, by rw [HC2.out]; omega, s2, hK2⟩
    clear s2 hK2 ht0
    go_wp2
    go_ret
    exact HF.out
  · have hz : ((t.size : Int) == 0) = false := beq_eq_false_iff_ne.2 (by omega)
    go_wp2_with fail
    refine (l01Next_c g (t.size : Int) C _ _ _ s2 (by omega) (by omega)).mono ?_
    rintro e w3 ⟨rfl, s3, hk3⟩
    have hy0 : 0 ≤ drwX C (nxtA C a) (nxtH h) % (t.size : Int) := Int.emod_nonneg _ (by omega)
    have hy1 : drwX C (nxtA C a) (nxtH h) % (t.size : Int) < (t.size : Int) := Int.emod_lt_of_pos _ (by omega)
    generalize drwX C (nxtA C a) (nxtH h) % (t.size : Int) = y at *
    obtain ⟨k, rfl⟩ := Int.eq_ofNat_of_zero_le hy0
    have hK3 := hK2.trans hk3
    clear dc s2 hK2 hk3
    go_wp2_with fail
    refine (l01Next_c g 3 C _ _ _ s3 (by decide) (by decide)).mono ?_
    rintro e w4 ⟨rfl, s4, hk4⟩
    have hv0 : 0 ≤ drwX C (nxtA C (nxtA C a)) (nxtH (nxtH h)) % 3 := Int.emod_nonneg _ (by decide)
    have hv1 : drwX C (nxtA C (nxtA C a)) (nxtH (nxtH h)) % 3 < 3 := Int.emod_lt_of_pos _ (by decide)
    generalize drwX C (nxtA C (nxtA C a)) (nxtH (nxtH h)) % 3 = v at *
    have hK4 := hK3.trans hk4
    have HR : Hid (∀ (t' : ByteArray) (m : Nat), t'.size ≤ t.size + 1 → RetDm w g C a h t.size (.returned (.string t')) (w4.drewN m)) := Lib.hid (fun t' m ht' => ⟨t', 3, rfl, .inr rfl, ht', s4.below (below_drewN (Below.refl _ _) m), hK4.trans (Keeps.of_below (below_drewN (Below.refl _ _) m))⟩)
    have HK := Lib.hid (show k < t.size by omega)
    have i1 : (k : Int) ≤ (t.size : Int) := by omega
    have i2 : (k : Int) + 1 ≤ (t.size : Int) := by omega
    have i3 : (0 : Int) ≤ (k : Int) + 1 := by omega
    have e1 : (t.extract 0 k).size = k := by simp; omega
    have e2 : (t.extract (k + 1) t.size).size = t.size - (k + 1) := by simp
    have e3 : (t.extract k t.size).size = t.size - k := by simp
    have HE := Lib.hid (show (t.extract 0 k).size = k ∧ (t.extract (k + 1) t.size).size = t.size - (k + 1) ∧ (t.extract k t.size).size = t.size - k from ⟨e1, e2, e3⟩)
    clear s3 hK3 s4 hK4 hk4 e1 e2 e3
    have hv : v = 0 ∨ v = 1 ∨ v = 2 := by omega
    rcases hv with rfl | rfl | rfl
    · have hc2 := HC2.out
      have hmin : min k t.size = k := by omega
      have h1 : ¬ 9223372036854775807 < k + 1 := by omega
      have h3 : ¬ 9223372036854775807 < k + 1 + (t.size - (k + 1)) := by omega
      have h4 : ¬ 9223372036854775807 < k + 1 + (t.size - k) := by omega
      go_wp2_with fail
      go_quiet (fail)
      go_wp2
      go_ret
      exact HR.out _ _ (by rw [ByteArray.size_append, ByteArray.size_append, HE.out.1, HC2.out, HE.out.2.1]; omega)
    · have h1 : ¬ 9223372036854775807 < (t.extract 0 k).size + (t.extract (k + 1) t.size).size := by rw [HE.out.1, HE.out.2.1]; omega
      go_wp2_with fail
      go_quiet (fail)
      go_wp2
      go_ret
      exact HR.out _ _ (by rw [ByteArray.size_append, HE.out.1, HE.out.2.1]; omega)
    · have hc2 := HC2.out
      have hmin : min k t.size = k := by omega
      have h1 : ¬ 9223372036854775807 < k + 1 := by omega
      have h3 : ¬ 9223372036854775807 < k + 1 + (t.size - (k + 1)) := by omega
      have h4 : ¬ 9223372036854775807 < k + 1 + (t.size - k) := by omega
      go_wp2_with fail
      go_quiet (fail)
      go_wp2
      go_ret
      exact HR.out _ _ (by rw [ByteArray.size_append, ByteArray.size_append, HE.out.1, HC2.out, HE.out.2.2]; omega)
end Go.Proofs.YtglghdkjppcedaaDoor

/- Contracts: DrawBranchText, DrawParseBranch. -/
namespace Go.Proofs.YtglghdkjppcedaaDoor
open Go.RowKit

theorem hsh_addB (h : Int) (n : Nat) : ∀ d, hsh (nxtH (hsh h n)) d = hsh h (n + 1 + d) := by
  intro d
  induction d with
  | zero => rfl
  | succ d ih => show nxtH _ = nxtH _; rw [ih]; rfl
theorem plc_addB (C : List Int) (a n : Nat) : ∀ d, plc C (nxtA C (plc C a n)) d = plc C a (n + 1 + d) := by
  intro d
  induction d with
  | zero => rfl
  | succ d ih => show nxtA C _ = nxtA C _; rw [ih]; rfl
theorem btL_bd {T : List Int} (h : BraOk T) : (btL T).length ≤ 1000 := by
  have h7 := bra_len h
  have hd : ∀ x ∈ T, (dL x).length ≤ 9 := fun x hx => decL_len 8 x.toNat (by have := bra_num h hx; omega)
  have h0 : (dL (gI T 0)).length ≤ 9 := hd _ (gI_mem h.len)
  have h1 := joinL_bd 44 9 ((T.drop 1).map dL) (fun x hx => by
    obtain ⟨y, hy, rfl⟩ := List.mem_map.1 hx
    exact hd y (drop_mem hy))
  rw [List.length_map, List.length_drop] at h1
  unfold btL inL
  by_cases h2 : 1 < T.length
  · rw [if_pos h2]
    have e : (numsL (T.drop 1)).length = (joinL 44 ((T.drop 1).map dL)).length := rfl
    simp only [List.length_cons, List.length_append, e, List.length_nil]
    have h3 : T.length - 1 ≤ 6 := by omega
    have h4 : (9 + 1) * (T.length - 1) ≤ 60 := by omega
    omega
  · rw [if_neg h2]
    simp
    omega
set_option maxRecDepth 100000 in
set_option maxHeartbeats 4000000 in
theorem drawBranchText_w (v : Value) (C : List Int) (w : World) (h : Rd8 w v C) :
    Calls Tryd.prog 5 #[v] w (RetBr w) := by
  have D := Blk.new w 26 #[.slice none 0 0]
  have hal : Below w.heap.size w (w.alloc (.cells #[.slice none 0 0] 26)) := (Below.refl _ _).alloc (Nat.le_refl _) _
  have h1 := h.below hal (Nat.le_refl _)
  go_enter Tryd.func5, Tryd.ntmps5
  go_wp2_with fail
  generalize w.alloc (.cells #[.slice none 0 0] 26) = w0 at *
  refine (from_w v C _ h1).mono ?_
  rintro e w1 ⟨g, rfl, hg, s1, hb1⟩
  have hs0 : w.heap.size < w0.heap.size := D.lt
  have D1 := D.stays hb1
  have hB1 := hal.trans (hb1.mono hal.size)
  clear h h1 hal hb1 D
  go_wp2_with fail
  refine (spoil_w g _ s1).mono ?_
  rintro e w2 ⟨u, xs, rfl, hr2, hl2, hx8, s2, hk2⟩
  have D2 := D1.keeps hk2 (by omega)
  have hB2 := keeps_draw hB1 (by omega) hk2
  have hg1 : g < w1.heap.size := s1.lt
  clear s1 D1 hB1 hk2
  have hset : Keeps (fun q => q = w.heap.size) w2 (w2.setCell ⟨w.heap.size, 0, none⟩ u) := (Keeps.refl (fun q => q = w.heap.size) w2).setCell (p := ⟨w.heap.size, 0, none⟩) rfl _
  have hr4 := hr2.keeps hset (fun b hb => by have := (hl2 b hb).1; omega)
  have e0 := D2.cell 0
  have f0 := D2.free 0
  have q0 := (D2.set 0 u).cell 0
  have HF : Hid (RetBr w (.returned (.agg #[u])) (w2.setCell ⟨w.heap.size, 0, none⟩ u)) := Lib.hid ⟨u, xs, rfl, hr4, fun b hb => by (have := (hl2 b hb).1; omega), hx8, hB2.trans (hset.below hB2.size (fun k e => by omega))⟩
  obtain ⟨ua, uk, rfl⟩ := hr2.len0
  clear s2 D2 hB2 hr4 hset hr2 hl2
  go_wp2
  exact bodyPost_ret (v := .agg #[.slice ua xs.length uk]) (by simp [results, Tryd.results5, go_sem, q0]) rfl HF.out

/-- Some text is handed back. -/
def RetTxB (w : World) (e : Ending) (w' : World) : Prop := ∃ t : ByteArray, e = .returned (.string t) ∧ t.size ≤ 137438953472 ∧ Below w.heap.size w w'
set_option maxRecDepth 100000 in
set_option maxHeartbeats 4000000 in
theorem drawParseBranch_w (v : Value) (C : List Int) (w : World) (h : Rd8 w v C) :
    Calls Tryd.prog 10 #[v] w (RetTxB w) := by
  obtain ⟨av, cv, rfl⟩ : ∃ a c, v = .slice a C.length c := by obtain ⟨⟨a, c, e, _⟩, _⟩ := h; exact ⟨a, c, e⟩
  go_enter Tryd.func10, Tryd.ntmps10
  go_wp2_with fail
  refine (from_w _ C _ h).mono ?_
  rintro e w1 ⟨g, rfl, hg, s1, hb1⟩
  go_wp2_with fail
  refine (draw_w g _ s1).mono ?_
  rintro e w2 ⟨xs, a, k, rfl, ho, hok, s2, hk2⟩
  have hB2 : Below w.heap.size w w2 := hb1.trans (hk2.below hb1.size (fun k e => by omega))
  go_wp2_with fail
  refine (l03Text_c _ xs _ ho.rd ⟨hok.len, by have := bra_len hok; omega⟩ (fun i hi => by have := hok.num i hi; omega)).mono ?_
  rintro e w3 ⟨u, rfl, hu, hb3⟩
  have hus : u.size ≤ 1000 := by rw [← lB_len, hu]; exact btL_bd hok
  obtain ⟨C', a', h', s3⟩ := s2.below hb3
  have hB3 := below_step hB2 hb3
  have hH : Hid (Hist C' a' h' 0) := Lib.hid (fun e _ he => by omega)
  have hlen := s3.len
  clear s1 hb1 hk2 hB2 ho hok hu hb3 s2
  go_wp2_with fail
  go_loopg [4] 137438953480 (fun gk tv wr => ∃ (n : Nat) (t : ByteArray), tv = .string t ∧ gk + n = 137438953480 ∧ n % 2 = 0 ∧ 2 * t.size ≤ 2000 + n ∧ Hid (Hist C' a' h' n) ∧ SrcC wr g C' (plc C' a' n) (hsh h' n) ∧ Below w.heap.size w wr)
  case atStart => exact ⟨0, u, rfl, rfl, rfl, by omega, hH, s3, hB3⟩
  case round =>
    obtain ⟨n, t, rfl, hgn, hn2, hts, HH, s4, hB4⟩ := hrel
    clear s3 hB3 hH hus
    obtain ⟨wo, rfl⟩ : ∃ wo : World, wo = wr := ⟨_, rfl⟩
    have hnM : n < 137438953472 := by
      apply Classical.byContradiction
      intro hge
      exact hist_no hlen (hist_le HH.out (by omega))
    go_wp2_with fail
    refine (l01Next_c g 3 C' _ _ _ s4 (by decide) (by decide)).mono ?_
    rintro e w4 ⟨rfl, s5, hk5⟩
    have hB5 := hB4.trans (hk5.below hB4.size (fun q e => by omega))
    by_cases hz : drwX C' (plc C' a' n) (hsh h' n) % 3 = 0
    · have hzb : (drwX C' (plc C' a' n) (hsh h' n) % 3 == 0) = true := by rw [hz]; rfl
      have HZ : Hid (drX C' a' h' n % 3 = 0) := Lib.hid hz
      clear hz s4 hB4 hk5
      generalize drwX C' (plc C' a' n) (hsh h' n) % 3 = x at *
      go_wp2_with fail
      refine (damage_c g t C' _ _ _ s5 (by omega)).mono ?_
      rintro e w5 ⟨t2, d2, rfl, hd2, ht2, s6, hk6⟩
      rw [hsh_addB, plc_addB] at s6
      have hB6 := hB5.trans (hk6.below hB5.size (fun q e => by omega))
      have HH2 : Hid (Hist C' a' h' (n + 1 + d2)) := Lib.hid (hist_step HH.out hn2 HZ.out (by omega))
      clear s5 hB5 hk6
      go_wp2
      go_roundg (137438953480 - (n + 1 + d2))
      case measure => omega
      case rel => exact ⟨n + 1 + d2, t2, rfl, by omega, by omega, by omega, HH2, s6, hB6⟩
    · have hzb : (drwX C' (plc C' a' n) (hsh h' n) % 3 == 0) = false := beq_eq_false_iff_ne.2 hz
      have HF : Hid (RetTxB w (.returned (.string t)) w4) := Lib.hid ⟨t, rfl, by omega, hB5⟩
      clear hz s4 hB4 hk5 s5 hB5
      generalize drwX C' (plc C' a' n) (hsh h' n) % 3 = x at *
      go_wp2
      go_ret
      exact HF.out
end Go.Proofs.YtglghdkjppcedaaDoor
