/- The points to which a point of a cluster is proximate. No program in sight. -/
import Derived.Test.YthpnmkghjnipoaaClu
namespace Go.Proofs.Ythpnmkghjnipoaa

/-- The points to which the point i of a cluster is proximate. -/
def secL (S : List Int) (i : Nat) : List Int := if 0 ≤ gI S i then [gI S i] else []
theorem secL_yes {S : List Int} {i : Nat} (h : 0 ≤ gI S i) : secL S i = [gI S i] := by simp [secL, h]
theorem secL_no {S : List Int} {i : Nat} (h : ¬ 0 ≤ gI S i) : secL S i = [] := by simp [secL, h]
theorem secL_len (S : List Int) (i : Nat) : (secL S i).length ≤ 1 := by unfold secL; split <;> simp
def proxOf (P S : List Int) (i : Nat) : List Int := if i = 0 then [] else secL S i ++ [gI P i]
def proxL (P S : List Int) : List (List Int) := (List.range P.length).map (proxOf P S)
/-- Where all points before n stand in their places, each second lies before its point. -/
theorem second_lt {P S : List Int} {n : Nat} (h : ∀ x, x < n → placeOk P S x) : ∀ x, x < n → gI S x < (x : Int) ∧ gI P x < (x : Int) := by
  intro x
  induction x using Nat.strongRecOn with
  | _ x ih =>
    intro hx
    rcases h x hx with ⟨h0, h1, h2⟩ | ⟨h0, h1, h2, h3⟩
    · omega
    · have hp : (gI P x).toNat < x := by omega
      have := ih _ hp (by omega)
      rcases h3 with h3 | ⟨h3, h4 | h4⟩ <;> omega

end Go.Proofs.Ythpnmkghjnipoaa
