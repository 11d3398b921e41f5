/- One number put behind an owned slice, and where the result lies. No program in sight. -/
import Derived.Test.YtiinceflafigeaaDoorRowL
import Derived.Test.YtiinceflafigeaaDoorPath
import Derived.ArgAppend
namespace Go.Proofs.YtiinceflafigeaaDoor
open Go.RowKit

theorem wpList_pushL {P : Program} {w : World} {ops : Array Oper} {rest : List Oper} {o : Oper} {a : Act} {Q : Exit → Act → World → Prop} (hgd : o.guard = none) (s x : Operand) (t : TypeId)
    (ho : o.op = .call { callee := .builtin .append, args := #[s, x], argTypes := #[t, t] })
    (base : Nat) (e : TypeId) (i : TypeInfo) (ht : P.underlying t = some (.slice e)) (hi : P.info? e = some i) (hz : i.zero = some (.int .i64 0)) (hsize : i.size = 1) (hby : i.bytes = 8)
    (v : Value) (xs : List Int) (y : Int) (hs : a.eval s = v) (hown : Own e w base v xs) (hx : a.eval x = .slice (some ⟨w.heap.size, 0, none⟩) 1 1)
    (hlen : xs.length ≤ 1000000000000) (hbase : base ≤ w.heap.size)
    (h : ∀ g cap w', Own e w' base (.slice (some ⟨g, 0, none⟩) (xs.length + 1) cap) (xs ++ [y]) → Keeps (fun k => v.ownBlock = some k) w w' → (v.ownBlock = some g ∨ w.heap.size ≤ g) → wpList P ops Q rest (a.put o.dst (.slice (some ⟨g, 0, none⟩) (xs.length + 1) cap)) w') :
    wpList P ops Q (o :: rest) a (w.alloc (.cells #[.int .i64 y] e)) := by
  refine wpList_append_lies _ hgd s x t ho base e i (.int .i64 0) 1 8 ht hi hz hsize hby rfl (by decide) v xs.length (xs.map (Value.int .i64)) hs (World.ownsRow.alloc hown _) ⟨w.heap.size, 0, none⟩ 1 1 [.int .i64 y] hx rfl (cell_one_new _ _ _) ?_ (by omega) ?_ ?_ ?_ _ rfl ?_
  · intro u hu; simp at hu; subst hu; rfl
  · unfold maxLen; omega
  · omega
  · simp; omega
  · intro g cap w' ho' hg hl _
    refine h g cap w' (own_append ho') ?_ (hl.imp id (fun h => by rw [h]; simp))
    have h1 : Keeps (fun k => v.ownBlock = some k) w (w.alloc (.cells #[.int .i64 y] e)) := Keeps.of_below ((Below.refl _ _).alloc (Nat.le_refl _) _)
    exact h1.trans (Keeps.of_grown hg)
end Go.Proofs.YtiinceflafigeaaDoor

/- One number put behind an owned slice, at a step of a region; what was read of the slice stays to be read. No program in sight. -/
namespace Go.Proofs.YtiinceflafigeaaDoor
open Go.RowKit

theorem step_pushS {P : Program} {w : World} {ops : Array Oper} {o : Oper} {a : Act} {K : Act → World → Prop} {Q : Exit → Act → World → Prop} {E : Prop} (hgd : o.guard = none) (s x : Operand) (t : TypeId)
    (ho : o.op = .call { callee := .builtin .append, args := #[s, x], argTypes := #[t, t] })
    (base : Nat) (e : TypeId) (i : TypeInfo) (ht : P.underlying t = some (.slice e)) (hi : P.info? e = some i) (hz : i.zero = some (.int .i64 0)) (hsize : i.size = 1) (hby : i.bytes = 8)
    (g n cap : Nat) (xs : List Int) (y : Int) (h : Nat) (hn : xs.length = n) (hs : a.eval s = .slice (some ⟨g, 0, none⟩) n cap) (hown : Own e w base (.slice (some ⟨g, 0, none⟩) n cap) xs) (hx : a.eval x = .slice (some ⟨h, 0, none⟩) 1 1) (hblk : Blk w h e #[.int .i64 y])
    (hlen : n ≤ 1000000000000) (hbase : base ≤ w.heap.size)
    (hK : ∀ g2 cap2 w', Own e w' base (.slice (some ⟨g2, 0, none⟩) (n + 1) cap2) (xs ++ [y]) → Keeps (fun k => k = g) w w' → (g = g2 ∨ g2 = w.heap.size) → g2 < w'.heap.size → (∀ i, i < n → w'.cell? ⟨g, i, none⟩ = some (.int .i64 (gI xs i))) → K (a.put o.dst (.slice (some ⟨g2, 0, none⟩) (n + 1) cap2)) w') :
    if Region.wanted o (yielded ops a.tmps) = true then Oper.wp P o a w K Q else E := by
  subst hn
  have hw : Region.wanted o (yielded ops a.tmps) = true := by simp [Region.wanted, hgd]
  rw [if_pos hw]
  have hnews : ∀ j u, ([Value.int .i64 y])[j]? = some u → w.cell? ((⟨h, 0, none⟩ : Addr).add j) = some u := World.news_of_block (cs := #[.int .i64 y]) (t := e) (fr := (0, 0)) hblk
  have h1c : ∀ u ∈ [Value.int .i64 y], u.oneCell' = true := by intro u hu; simp at hu; subst hu; rfl
  have h63 : xs.length + 1 ≤ maxLen := by unfold maxLen; omega
  obtain ⟨g2, cap2, w', hr, h2, h3, h4, h5⟩ := run_append_lies (P := P) w t o.type base e i (.int .i64 0) 1 8 ht hi hz hsize hby rfl (by decide) (.slice (some ⟨g, 0, none⟩) xs.length cap) xs.length (xs.map (Value.int .i64)) hown ⟨h, 0, none⟩ 1 1 [.int .i64 y] rfl hnews h1c (by omega) h63 (by omega) hbase w.heap.size rfl
  have hO := own_append h2
  have hkeep : Keeps (fun k => k = g) w w' := (Keeps.of_grown h3).mono (fun k hk => by simp [Value.ownBlock] at hk; omega)
  have hlies : g = g2 ∨ g2 = w.heap.size := h4.imp (fun h => by simpa [Value.ownBlock] using h) id
  have hgl : g < w.heap.size := (hown.block g rfl).2
  have hcells : ∀ i, i < xs.length → w'.cell? ⟨g, i, none⟩ = some (.int .i64 (gI xs i)) := by
    intro k hk
    have hwc := hown.cell k hk
    by_cases hroom : xs.length + 1 ≤ cap
    · rcases hlies with rfl | hnew
      · have := Own.cell (xs := xs ++ [y]) (w := w') (by rw [List.length_append]; exact hO) k (by simp; omega)
        rw [this, gI_app_lt hk]
      · exfalso
        rcases hown.2 with ⟨hv, _⟩ | ⟨g', cap', cur, hv, _, hcur, hle, _, hsz, _⟩
        · cases hv
        · injection hv with hv1 _ hv3
          injection hv1 with hv1
          injection hv1 with hv1
          subst hv1
          subst hv3
          have hrr := run_append_room (P := P) (w := w) t o.type e i ht hi g xs.length cap cur hcur ⟨h, 0, none⟩ 1 1 [.int .i64 y] (by rw [hsize]; rfl) hnews h1c hroom (by rw [hsize]; simp; omega)
          rw [hrr] at hr
          injection hr with hr1 _
          injection hr1 with hr1 _ _
          injection hr1 with hr1
          injection hr1 with hr1
          omega
    · obtain ⟨v'', w'', hr2, _, hgr⟩ := run_append_arg_grows (P := P) (w := w) t o.type e i (.int .i64 0) 1 8 ht hi hz hsize hby rfl (by decide) ⟨g, 0, none⟩ xs.length cap (xs.map (Value.int .i64)) (by simp) (fun j u hj => by
        have hjl : j < xs.length := by
          have := (List.getElem?_eq_some_iff.1 hj).1
          simpa using this
        rw [Addr.add_lit, Nat.zero_add, hown.cell j hjl]
        rw [List.getElem?_map, gI_some hjl] at hj
        simpa using hj) ⟨h, 0, none⟩ 1 1 [.int .i64 y] rfl hnews (by omega) h63 (by omega)
      rw [hr2] at hr
      injection hr with _ hr1
      subst hr1
      have := (Keeps.of_grown hgr).cell (p := ⟨g, k, none⟩) hgl (by simp)
      rw [this, hwc]
  unfold Oper.wp
  simp [execOp, ho, resolve, invoke, builtin, hs, hx, hr, Result.andThen]
  exact hK g2 cap2 w' hO hkeep hlies h5 hcells
end Go.Proofs.YtiinceflafigeaaDoor
