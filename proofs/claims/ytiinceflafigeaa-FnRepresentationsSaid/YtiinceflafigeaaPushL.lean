/- One number put behind an owned slice, and where the result lies. No program in sight. -/
import Derived.Test.YtiinceflafigeaaRowL
import Derived.Test.YtiinceflafigeaaPath
namespace Go.Proofs.Ytiinceflafigeaa
open Go.RowKit

theorem wpList_pushL {P : Program} {w : World} {ops : Array Oper} {rest : List Oper} {o : Oper} {a : Act} {Q : Exit → Act → World → Prop} (hgd : o.guard = none) (s x : Operand) (t : TypeId)
    (ho : o.op = .call { callee := .builtin .append, args := #[s, x], argTypes := #[t, t] })
    (base : Nat) (e : TypeId) (i : TypeInfo) (ht : P.underlying t = some (.slice e)) (hi : P.info? e = some i) (hz : i.zero = some (.int .i64 0)) (hsize : i.size = 1) (hby : i.bytes = 8)
    (v : Value) (xs : List Int) (y : Int) (hs : a.eval s = v) (hown : Own e w base v xs) (hx : a.eval x = .slice (some ⟨w.heap.size, 0, none⟩) 1 1)
    (hlen : xs.length ≤ 1000000000000) (hbase : base ≤ w.heap.size)
    (h : ∀ g cap w', Own e w' base (.slice (some ⟨g, 0, none⟩) (xs.length + 1) cap) (xs ++ [y]) → Keeps (fun k => v.ownBlock = some k) w w' → (v.ownBlock = some g ∨ w.heap.size ≤ g) → wpList P ops Q rest (a.put o.dst (.slice (some ⟨g, 0, none⟩) (xs.length + 1) cap)) w') :
    wpList P ops Q (o :: rest) a (w.alloc (.cells #[.int .i64 y] e)) := by
  refine wpList_append_lies _ hgd s x t ho base e i (.int .i64 0) 1 8 ht hi hz hsize hby rfl (by decide) v xs.length (xs.map (Value.int .i64)) hs (World.ownsRow.alloc hown _) ⟨w.heap.size, 0, none⟩ 1 1 [.int .i64 y] hx rfl (cell_one_new _ _ _) ?_ (by omega) ?_ ?_ ?_ _ rfl ?_
  · intro u hu; simp at hu; subst hu; rfl
  · unfold maxLen; omega
  · omega
  · simp; omega
  · intro g cap w' ho' hg hl _
    refine h g cap w' (own_append ho') ?_ (hl.imp id (fun h => by rw [h]; simp))
    have h1 : Keeps (fun k => v.ownBlock = some k) w (w.alloc (.cells #[.int .i64 y] e)) := Keeps.of_below ((Below.refl _ _).alloc (Nat.le_refl _) _)
    exact h1.trans (Keeps.of_grown hg)
end Go.Proofs.Ytiinceflafigeaa
