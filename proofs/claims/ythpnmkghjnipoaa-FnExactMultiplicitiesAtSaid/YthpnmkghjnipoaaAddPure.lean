/- The plain part of impl.added: each point's own number plus the numbers of all points to which it is proximate. -/
import Derived.Test.YthpnmkghjnipoaaRowL
import Derived.Test.YthpnmkghjnipoaaRet
namespace Go.Proofs.Ythpnmkghjnipoaa
open Go.RowKit

/-- The first k results. -/
def addTo (own : Nat → Int) (R : List (List Int)) : Nat → List Int
  | 0 => []
  | k + 1 => addTo own R k ++ [own k + sumTo (fun x => gI (addTo own R k) (gI (gR R k) x).toNat) (gR R k).length]
theorem addTo_succ (own : Nat → Int) (R : List (List Int)) (k : Nat) : addTo own R (k + 1) = addTo own R k ++ [own k + sumTo (fun x => gI (addTo own R k) (gI (gR R k) x).toNat) (gR R k).length] := rfl
theorem addTo_len (own : Nat → Int) (R : List (List Int)) (k : Nat) : (addTo own R k).length = k := by
  induction k with
  | zero => rfl
  | succ k ih => rw [addTo_succ, List.length_append, ih]; rfl
theorem addTo_old (own : Nat → Int) (R : List (List Int)) {i k : Nat} (h : i < k) : gI (addTo own R k) i = gI (addTo own R (i + 1)) i := by
  induction k with
  | zero => omega
  | succ k ih =>
    by_cases e : i = k
    · rw [e]
    · rw [addTo_succ, gI_app_lt (by rw [addTo_len]; omega)]; exact ih (by omega)
theorem addTo_at (own : Nat → Int) (R : List (List Int)) {i k : Nat} (h : i < k) : gI (addTo own R k) i = own i + sumTo (fun x => gI (addTo own R i) (gI (gR R i) x).toNat) (gR R i).length := by
  rw [addTo_old own R h, addTo_succ, gI_app_at (by rw [addTo_len])]

/-- All rows point back, and no number is too large. -/
structure AddOk (own : Nat → Int) (R : List (List Int)) : Prop where
  len : R.length ≤ 400
  rowlen : ∀ k, k < R.length → (gR R k).length ≤ 400
  row : ∀ k, k < R.length → ∀ m, m < (gR R k).length → 0 ≤ gI (gR R k) m ∧ gI (gR R k) m < (k : Int)
  ownb : ∀ k, k < R.length → -1000000000000000 ≤ own k ∧ own k ≤ 1000000000000000
  out : ∀ k, k < R.length → ∀ i, i < k → -1000000000000000 ≤ gI (addTo own R k) i ∧ gI (addTo own R k) i ≤ 1000000000000000

/-- An owned slice that is not empty lies in a block. -/
theorem Own.pos {e : TypeId} {w : World} {base : Nat} {v : Value} {xs : List Int} (h : Own e w base v xs) (hp : 0 < xs.length) : ∃ g cap, v = .slice (some ⟨g, 0, none⟩) xs.length cap ∧ base ≤ g ∧ g < w.heap.size ∧ xs.length ≤ cap ∧ cap ≤ 9223372036854775807 := by
  rcases h.shape with ⟨_, rfl⟩ | h
  · simp at hp
  · exact h
end Go.Proofs.Ythpnmkghjnipoaa
