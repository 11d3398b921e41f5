/- Contracts: slices.Clone, spec.l01Own: a copy of a slice of integers that is not empty. -/
import Derived.Test.YthpnmkghjnipoaaRet
import Derived.Lib.SliceRun
namespace Go.Proofs.Ythpnmkghjnipoaa
open Go.RowKit

/-- 'append(s, t...)' on a slice that the call owns, t not empty. -/
theorem wpList_extend {P : Program} {w : World} {ops : Array Oper} {rest : List Oper} {o : Oper} {a : Act} {Q : Exit → Act → World → Prop} (hgd : o.guard = none) (s x : Operand) (t : TypeId)
    (ho : o.op = .call { callee := .builtin .append, args := #[s, x], argTypes := #[t, t] })
    (base : Nat) (e : TypeId) (i : TypeInfo) (ht : P.underlying t = some (.slice e)) (hi : P.info? e = some i) (hz : i.zero = some (.int .i64 0)) (hsize : i.size = 1) (hby : i.bytes = 8)
    (v u : Value) (xs ys : List Int) (hs : a.eval s = v) (hown : Own e w base v xs) (hx : a.eval x = u) (hu : Rd w u ys) (hp : 0 < ys.length)
    (hlen : xs.length + ys.length ≤ 1000000000000) (hbase : base ≤ w.heap.size)
    (h : ∀ v' w', Own e w' base v' (xs ++ ys) → Keeps (fun k => v.ownBlock = some k) w w' → wpList P ops Q rest (a.put o.dst v') w') :
    wpList P ops Q (o :: rest) a w := by
  obtain ⟨b, off, c, rfl, h1, h2, hb, hc⟩ := hu.cells hp
  refine wpList_append_own _ hgd s x t ho base e i (.int .i64 0) 1 8 ht hi hz hsize hby rfl (by decide) v xs.length (xs.map (Value.int .i64)) hs hown ⟨b, off, none⟩ ys.length c (ys.map (Value.int .i64)) hx (by simp) ?_ ?_ ?_ ?_ hbase ?_
  · intro j y hj
    have hjl : j < ys.length := by
      have := (List.getElem?_eq_some_iff.1 hj).1
      simpa using this
    have hy : y = .int .i64 (gI ys j) := by
      rw [List.getElem?_map, gI_some hjl] at hj
      simpa using hj.symm
    rw [Addr.add_lit, hc j hjl, hy]
  · intro y hy; simp at hy; obtain ⟨n, _, rfl⟩ := hy; rfl
  · unfold maxLen; omega
  · omega
  · intro v' w' ho' hg _
    refine h v' w' ?_ (Keeps.of_grown hg)
    unfold Own
    rw [List.length_append, List.map_append]
    exact ho'

theorem own_of_nil_app {e : TypeId} {w : World} {base : Nat} {v : Value} {xs : List Int} (h : Own e w base v ([] ++ xs)) : Own e w base v xs := h

theorem l01Own_c (v : Value) (xs : List Int) (w : World) (h : Rd w v xs) (hp : 0 < xs.length) (hn : xs.length ≤ 1000000) :
    Calls Try.prog 145 #[v] w (RetI w xs) := by
  obtain ⟨i0, hi, hz0, hz1, hz2⟩ := info_parts Try.infoI
  have hal : Below w.heap.size w (w.alloc (.cells #[] 2)) := (Below.refl _ _).alloc (Nat.le_refl _) _
  have hr := h.below hal (Nat.le_refl _)
  obtain ⟨ad, cap, rfl⟩ := h.len0
  go_enter Try.func145, Try.ntmps145
  go_wp2_with (at_builtin; refine wpList_extend rfl (.tmp 3) (.tmp 4) 22 rfl w.heap.size 2 i0 Try.underlying22 hi hz0 hz1 hz2 (.slice (some ⟨w.heap.size, 0, none⟩) 0 0) (.slice ad xs.length cap) [] xs rfl (own_empty w _ (Nat.le_refl _)) rfl hr hp (by simp; omega) (by simp) ?_; intro v' w2 hown' hkp)
  have hb := hal.trans (hkp.below (B := w.heap.size) (by simp) (fun g hg => by simp [Value.ownBlock] at hg; omega))
  go_ret
  exact retI_mk (own_of_nil_app hown') hb

theorem clone_c (v : Value) (xs : List Int) (w : World) (h : Rd w v xs) (hp : 0 < xs.length) (hn : xs.length ≤ 1000000) :
    Calls Try.prog 158 #[v] w (RetI w xs) := by
  obtain ⟨i0, hi, hz0, hz1, hz2⟩ := info_parts Try.infoI
  have hal : Below w.heap.size w (w.alloc (.cells #[] 2)) := (Below.refl _ _).alloc (Nat.le_refl _) _
  have hr := h.below hal (Nat.le_refl _)
  obtain ⟨b, off, cap, rfl, _⟩ := h.cells hp
  have q22 : ∀ (w : World) (a : Option Addr) (n c n' c' : Nat), (binOp .eql 22 (.slice a n c) (.slice none n' c')).run Try.prog w = .ok (.bool a.isNone) w := fun w a n c n' c' => Lib.run_eql_slice_nil w _ _ a n c n' c' Try.underlying22
  go_enter Try.func158, Try.ntmps158
  go_wp2_with (at_builtin; refine wpList_extend rfl (.tmp 5) (.tmp 6) 22 rfl w.heap.size 2 i0 Try.underlying22 hi hz0 hz1 hz2 (.slice (some ⟨w.heap.size, 0, none⟩) 0 0) (.slice (some ⟨b, off, none⟩) xs.length cap) [] xs rfl (own_empty w _ (Nat.le_refl _)) rfl hr hp (by simp; omega) (by simp) ?_; intro v' w2 hown' hkp)
  have hb := hal.trans (hkp.below (B := w.heap.size) (by simp) (fun g hg => by simp [Value.ownBlock] at hg; omega))
  go_ret
  exact retI_mk (own_of_nil_app hown') hb
end Go.Proofs.Ythpnmkghjnipoaa
