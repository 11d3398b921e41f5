/- Contract: slices.Reverse of an owned slice of integers. -/
import Derived.Test.YtgjnllialhjhoaaExPure
import Derived.Test.YtgjnllialhjhoaaClone
namespace Go.Proofs.Ytgjnllialhjhoaa
open Go.RowKit

theorem gI_mapr {n i : Nat} {f : Nat → Int} (h : i < n) : gI ((List.range n).map f) i = f i := by rw [gI_lt (by simpa using h)]; simp
theorem gI_rev {xs : List Int} {i : Nat} (h : i < xs.length) : gI xs.reverse i = gI xs (xs.length - 1 - i) := by
  rw [gI_lt (by simpa using h), gI_lt (by omega), List.getElem_reverse]

/-- The list after k exchanges. -/
def revTo (xs : List Int) (k : Nat) : List Int := (List.range xs.length).map fun i => if i < k ∨ xs.length ≤ i + k then gI xs (xs.length - 1 - i) else gI xs i
@[simp] theorem revTo_len (xs : List Int) (k : Nat) : (revTo xs k).length = xs.length := by simp [revTo]
theorem gI_revTo {xs : List Int} {k i : Nat} (h : i < xs.length) : gI (revTo xs k) i = if i < k ∨ xs.length ≤ i + k then gI xs (xs.length - 1 - i) else gI xs i := gI_mapr h
theorem revTo_zero (xs : List Int) : revTo xs 0 = xs := by
  apply gI_ext (by simp)
  intro i hi
  rw [revTo_len] at hi
  rw [gI_revTo hi, if_neg (by omega)]
theorem revTo_end {xs : List Int} {k : Nat} (h : xs.length ≤ 2 * k + 1) : revTo xs k = xs.reverse := by
  apply gI_ext (by simp)
  intro i hi
  rw [revTo_len] at hi
  rw [gI_revTo hi, gI_rev hi]
  by_cases c : i < k ∨ xs.length ≤ i + k
  · rw [if_pos c]
  · rw [if_neg c]; congr 1; omega
theorem revTo_step {xs : List Int} {k j : Nat} (h : k < j) (hj : j + k + 1 = xs.length) : ((revTo xs k).set k (gI (revTo xs k) j)).set j (gI (revTo xs k) k) = revTo xs (k + 1) := by
  apply gI_ext (by simp)
  intro i hi
  have hi : i < xs.length := by simpa using hi
  rw [gI_revTo hi]
  by_cases e : j = i
  · subst e
    rw [gI_set_at (by simp; omega), gI_revTo (by omega), if_neg (by omega), if_pos (by omega)]
    congr 1; omega
  · rw [gI_set_ne e]
    by_cases e2 : k = i
    · subst e2
      rw [gI_set_at (by simp; omega), gI_revTo (by omega), if_neg (by omega), if_pos (by omega)]
      congr 1; omega
    · rw [gI_set_ne e2, gI_revTo hi]
      by_cases c : i < k ∨ xs.length ≤ i + k
      · rw [if_pos c, if_pos (by omega)]
      · rw [if_neg c, if_neg (by omega)]

end Go.Proofs.Ytgjnllialhjhoaa
