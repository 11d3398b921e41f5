/- Contract: impl.ratios. -/
import Derived.Test.YtglghdkjppcedaaDoorPart14
import Derived.Deep.RegionHeld3
import Derived.Test.YtglghdkjppcedaaDoorPart2
import Derived.Test.YtglghdkjppcedaaDoorPart1
import Derived.Test.YtglghdkjppcedaaDoorPart3
namespace Go.Proofs.YtglghdkjppcedaaDoor
open Go.RowKit

/-- The ratio at i. -/
def rI (T : List Int) : Nat → Int
  | 0 => 0
  | i + 1 => eI T i / eI T (i + 1)
theorem rI_succ (T : List Int) (i : Nat) : rI T (i + 1) = eI T i / eI T (i + 1) := rfl
def rTo (T : List Int) (k : Nat) : List Int := (List.range k).map (rI T)
@[simp] theorem rTo_len (T : List Int) (k : Nat) : (rTo T k).length = k := by simp [rTo]
end Go.Proofs.YtglghdkjppcedaaDoor

/- Generators of the semigroup of a branch. No program in sight. -/
namespace Go.Proofs.YtglghdkjppcedaaDoor

/-- The generator at i. -/
def vI (T : List Int) : Nat → Int
  | 0 => gI T 0
  | 1 => gI T 1
  | i + 2 => rI T (i + 1) * vI T (i + 1) + gI T (i + 2) - gI T (i + 1)
theorem vI_zero (T : List Int) : vI T 0 = gI T 0 := rfl
theorem vI_one (T : List Int) : vI T 1 = gI T 1 := rfl
theorem vI_two (T : List Int) (i : Nat) : vI T (i + 2) = rI T (i + 1) * vI T (i + 1) + gI T (i + 2) - gI T (i + 1) := rfl
def vTo (T : List Int) (k : Nat) : List Int := (List.range k).map (vI T)
@[simp] theorem vTo_len (T : List Int) (k : Nat) : (vTo T k).length = k := by simp [vTo]
theorem rI_bd {T : List Int} (h : BraOk T) (i : Nat) : 0 ≤ rI T i ∧ rI T i ≤ 64 := by
  cases i with
  | zero => simp [rI]
  | succ i =>
    rw [rI_succ]
    have h1 := eI_bd h i
    have h2 := eI_bd h (i + 1)
    have h3 : 0 ≤ eI T i / eI T (i + 1) := Int.ediv_nonneg (by omega) (by omega)
    have h4 : eI T i / eI T (i + 1) ≤ eI T i := Int.ediv_le_self _ (by omega)
    omega
theorem rI_mul (T : List Int) (i : Nat) : rI T (i + 1) * eI T (i + 1) = eI T i := by
  rw [rI_succ]
  exact Int.ediv_mul_cancel (eI_dvd_step T i)
theorem rI_two {T : List Int} (h : BraOk T) {i : Nat} (hi : i + 1 < T.length) : 2 ≤ rI T (i + 1) := by
  have h1 := rI_mul T i
  have h2 := eI_half h hi
  have h3 := eI_bd h (i + 1)
  apply Int.not_lt.1
  intro hlt
  have h4 := Int.mul_le_mul_of_nonneg_right (show rI T (i + 1) ≤ 1 by omega) (show 0 ≤ eI T (i + 1) by omega)
  omega

theorem mul_bd {a b A B : Int} (h1 : 0 ≤ a) (h2 : a ≤ A) (h3 : 0 ≤ b) (h4 : b ≤ B) : 0 ≤ a * b ∧ a * b ≤ A * B := by
  refine ⟨Int.mul_nonneg h1 h3, ?_⟩
  exact Int.mul_le_mul h2 h4 h3 (by omega)

theorem vI_bd1 {T : List Int} (h : BraOk T) (i : Nat) (hi : i < T.length) : 1 ≤ vI T i ∧ vI T i ≤ 3000 * 64 ^ i - 2000 := by
  induction i using Nat.strongRecOn with
  | _ i ih =>
    match i, hi with
    | 0, hi => have := h.num 0 hi; have := h.first; simp only [vI]; omega
    | 1, hi => have := h.num 1 hi; simp only [vI]; omega
    | i + 2, hi =>
      have h1 := ih (i + 1) (by omega) (by omega)
      have h2 := rI_bd h (i + 1)
      have h3 := rI_two h (i := i) (by omega)
      have h4 := mul_bd (a := rI T (i + 1)) (A := 64) (b := vI T (i + 1)) (B := 3000 * 64 ^ (i + 1) - 2000) (by omega) (by omega) (by omega) (by omega)
      have h5 : gI T (i + 1) < gI T (i + 2) := h.asc (i + 1) (by omega)
      have h6 := h.num (i + 2) hi
      have h7 := h.num (i + 1) (by omega)
      have h8 : (64 : Int) ^ (i + 2) = 64 ^ (i + 1) * 64 := Int.pow_succ _ _
      rw [vI_two, h8]
      omega
theorem pow64 : ∀ i, i < 7 → (64 : Int) ^ i ≤ 68719476736 := by decide +kernel
theorem vI_bd {T : List Int} (h : BraOk T) {i : Nat} (hi : i < T.length) : 1 ≤ vI T i ∧ vI T i ≤ 1000000000000000 := by
  have h1 := vI_bd1 h i hi
  have h2 := bra_len h
  have h3 := pow64 i (by omega)
  omega
end Go.Proofs.YtglghdkjppcedaaDoor

/- Contract: impl.generators. -/
namespace Go.Proofs.YtglghdkjppcedaaDoor
open Go.RowKit

end Go.Proofs.YtglghdkjppcedaaDoor

/- The branch of some generators: its terms, and why its divisors are those of the generators. No program in sight. -/
namespace Go.Proofs.YtglghdkjppcedaaDoor

theorem gcdI_add {a b d : Int} (h : a ∣ d) : gcdI a (b + d) = gcdI a b := by
  have mk : ∀ x y c : Int, c ∣ x → c ∣ y → c ∣ gcdI x y := by
    intro x y c hx hy
    unfold gcdI
    have h1 : c.natAbs ∣ Nat.gcd x.natAbs y.natAbs := Nat.dvd_gcd (Int.natAbs_dvd_natAbs.2 hx) (Int.natAbs_dvd_natAbs.2 hy)
    exact Int.natAbs_dvd.1 (Int.natCast_dvd_natCast.2 h1)
  have e1 : gcdI a (b + d) ∣ gcdI a b := by
    refine mk _ _ _ (gcdI_dvd_left _ _) ?_
    have h1 := gcdI_dvd_right a (b + d)
    have h2 : gcdI a (b + d) ∣ d := Int.dvd_trans (gcdI_dvd_left _ _) h
    have := Int.dvd_sub h1 h2
    rwa [Int.add_sub_cancel] at this
  have e2 : gcdI a b ∣ gcdI a (b + d) := mk _ _ _ (gcdI_dvd_left _ _) (Int.dvd_add (gcdI_dvd_right a b) (Int.dvd_trans (gcdI_dvd_left _ _) h))
  exact Int.dvd_antisymm (gcdI_nn _ _) (gcdI_nn _ _) e1 e2

/-- The term i of the branch with the generators G. -/
def tI (G : List Int) : Nat → Int
  | 0 => gI G 0
  | 1 => gI G 1
  | i + 2 => tI G (i + 1) + gI G (i + 2) - eI G i / eI G (i + 1) * gI G (i + 1)
def tTo (G : List Int) (k : Nat) : List Int := (List.range k).map (tI G)
@[simp] theorem tTo_len (G : List Int) (k : Nat) : (tTo G k).length = k := by simp [tTo]
/-- The list may be the generators of a branch, by its size and numbers. -/
def rgB (G : List Int) : Bool := decide (1 ≤ G.length) && (decide (G.length ≤ 8) && allIn G 1 1000000)
def bogB (G : List Int) : Bool := rgB G && braB (tTo G G.length)
def bogC (G : List Int) : Int := if rgB G then okC (braB (tTo G G.length)) 5 else 2
end Go.Proofs.YtglghdkjppcedaaDoor

/- Contract: spec.l05Generators. -/
namespace Go.Proofs.YtglghdkjppcedaaDoor
open Go.RowKit

/-- The divisors e (block ge) and the first k generators lie apart. -/
def GenR (w0 : Nat) (T : List Int) (wr : World) (ge : Nat) (v : Value) (k : Nat) : Prop :=
  (∃ g c, v = .slice (some ⟨g, 0, none⟩) k c ∧ ge ≠ g) ∧ OwnI wr w0 v (vTo T k) ∧ ge < wr.heap.size ∧ w0 ≤ ge ∧ ∀ i, i < T.length → wr.cell? ⟨ge, i, none⟩ = some (.int .i64 (eI T i))

end Go.Proofs.YtglghdkjppcedaaDoor

/- Contracts: GeneratorsOf. -/
namespace Go.Proofs.YtglghdkjppcedaaDoor
open Go.RowKit

end Go.Proofs.YtglghdkjppcedaaDoor

/- Contracts: ConductorOf. -/
namespace Go.Proofs.YtglghdkjppcedaaDoor
open Go.RowKit

/-- The conductor after k generators. -/
def conTo (T : List Int) : Nat → Int
  | 0 => 1 - gI T 0
  | k + 1 => conTo T k + (rI T (k + 1) - 1) * vI T (k + 1)
theorem conTo_zero (T : List Int) : conTo T 0 = 1 - gI T 0 := rfl
theorem conTo_succ (T : List Int) (k : Nat) : conTo T (k + 1) = conTo T k + (rI T (k + 1) - 1) * vI T (k + 1) := rfl
theorem conTo_bd {T : List Int} (h : BraOk T) (k : Nat) (hk : k < T.length) : -64 ≤ conTo T k ∧ conTo T k ≤ 63000000000000000 * (k : Int) := by
  induction k with
  | zero => have := h.first; rw [conTo_zero]; omega
  | succ k ih =>
    have h1 := ih (by omega)
    have h2 := rI_bd h (k + 1)
    have h3 := rI_two h hk
    have h4 := vI_bd h hk
    have h5 := mul_bd (a := rI T (k + 1) - 1) (A := 63) (b := vI T (k + 1)) (B := 1000000000000000) (by omega) (by omega) (by omega) (by omega)
    rw [conTo_succ]
    omega

end Go.Proofs.YtglghdkjppcedaaDoor
