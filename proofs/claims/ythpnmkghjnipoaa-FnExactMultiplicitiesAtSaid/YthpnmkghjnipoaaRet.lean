/- How a slice and a code, a branch and a code, a cluster and a code are handed back. -/
import Derived.Test.YthpnmkghjnipoaaSlc
import Derived.Test.YthpnmkghjnipoaaPush
namespace Go.Proofs.Ythpnmkghjnipoaa
open Go.RowKit

def RetIC (w : World) (xs : List Int) (c : Int) (e : Ending) (w' : World) : Prop :=
  ∃ a k, e = .returned (.tuple #[.slice a xs.length k, .int .i64 c]) ∧ OwnI w' w.heap.size (.slice a xs.length k) xs ∧ Below w.heap.size w w'
def RetBC (w : World) (xs : List Int) (c : Int) (e : Ending) (w' : World) : Prop :=
  ∃ a k, e = .returned (.tuple #[.agg #[.slice a xs.length k], .int .i64 c]) ∧ OwnI w' w.heap.size (.slice a xs.length k) xs ∧ Below w.heap.size w w'
def RetCC (w : World) (xs ys zs : List Int) (c : Int) (e : Ending) (w' : World) : Prop :=
  ∃ a i b j d k, e = .returned (.tuple #[.agg #[.slice a xs.length i, .slice b ys.length j, .slice d zs.length k], .int .i64 c]) ∧
    Own3 2 w' w.heap.size (.slice a xs.length i) (.slice b ys.length j) (.slice d zs.length k) xs ys zs ∧ Below w.heap.size w w'

/-- The shape of an owned slice. -/
theorem Own.form {e : TypeId} {w : World} {base : Nat} {v : Value} {xs : List Int} (h : Own e w base v xs) : ∃ a k, v = .slice a xs.length k := by
  rcases h.shape with ⟨rfl, rfl⟩ | ⟨g, cap, rfl, _⟩
  · exact ⟨none, 0, rfl⟩
  · exact ⟨_, _, rfl⟩
theorem retIC_mk {w w' : World} {v : Value} {xs : List Int} {c : Int} (h : OwnI w' w.heap.size v xs) (hb : Below w.heap.size w w') : RetIC w xs c (.returned (.tuple #[v, .int .i64 c])) w' := by
  obtain ⟨a, k, rfl⟩ := h.form
  exact ⟨a, k, rfl, h, hb⟩
theorem retI_mk {w w' : World} {v : Value} {xs : List Int} (h : OwnI w' w.heap.size v xs) (hb : Below w.heap.size w w') : RetI w xs (.returned v) w' := by
  obtain ⟨a, k, rfl⟩ := h.form
  exact ⟨a, k, rfl, h, hb⟩
theorem retIC_nil {w w' : World} {c : Int} (hb : Below w.heap.size w w') : RetIC w [] c (.returned (.tuple #[.slice none 0 0, .int .i64 c])) w' :=
  ⟨none, 0, rfl, own_nil _ _ _, hb⟩
/-- An empty literal slice of the call's own. -/
theorem own_empty (w : World) (base : Nat) (hb : base ≤ w.heap.size) : OwnI (w.alloc (.cells #[] 2)) base (.slice (some ⟨w.heap.size, 0, none⟩) 0 0) [] :=
  World.ownsRow_lit w #[] 0 hb (by unfold maxLen; omega) rfl
theorem own_empty_at (w : World) (base g : Nat) (hg : g = w.heap.size) (hb : base ≤ g) : OwnI (w.alloc (.cells #[] 2)) base (.slice (some ⟨g, 0, none⟩) 0 0) [] := by
  subst hg; exact own_empty w base hb

end Go.Proofs.Ythpnmkghjnipoaa
