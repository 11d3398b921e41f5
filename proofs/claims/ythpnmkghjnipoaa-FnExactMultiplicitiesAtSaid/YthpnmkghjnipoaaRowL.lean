/- Slices of slices of integers: read; owned by the call, row by row. No program in sight. -/
import Derived.Test.YthpnmkghjnipoaaPush
import Derived.Deep.AppendLies
namespace Go.Proofs.Ythpnmkghjnipoaa
open Go.RowKit

/-- One number put behind an owned slice, at a step of a region that draws its order. -/
theorem step_push {P : Program} {w : World} {ops : Array Oper} {o : Oper} {a : Act} {K : Act → World → Prop} {Q : Exit → Act → World → Prop} {E : Prop} (hgd : o.guard = none) (s x : Operand) (t : TypeId)
    (ho : o.op = .call { callee := .builtin .append, args := #[s, x], argTypes := #[t, t] })
    (base : Nat) (e : TypeId) (i : TypeInfo) (ht : P.underlying t = some (.slice e)) (hi : P.info? e = some i) (hz : i.zero = some (.int .i64 0)) (hsize : i.size = 1) (hby : i.bytes = 8)
    (v : Value) (xs : List Int) (y : Int) (h : Nat) (hs : a.eval s = v) (hown : Own e w base v xs) (hx : a.eval x = .slice (some ⟨h, 0, none⟩) 1 1) (hblk : Blk w h e #[.int .i64 y])
    (hlen : xs.length ≤ 1000000000000) (hbase : base ≤ w.heap.size)
    (hK : ∀ g cap w', Own e w' base (.slice (some ⟨g, 0, none⟩) (xs.length + 1) cap) (xs ++ [y]) → Keeps (fun k => v.ownBlock = some k) w w' → (v.ownBlock = some g ∨ g = w.heap.size) → g < w'.heap.size → K (a.put o.dst (.slice (some ⟨g, 0, none⟩) (xs.length + 1) cap)) w') :
    if Region.wanted o (yielded ops a.tmps) = true then Oper.wp P o a w K Q else E := by
  refine step_append_lies w hgd s x t ho base e i (.int .i64 0) 1 8 ht hi hz hsize hby rfl (by decide) v xs.length (xs.map (Value.int .i64)) hs hown ⟨h, 0, none⟩ 1 1 [.int .i64 y] hx rfl (World.news_of_block (cs := #[.int .i64 y]) (t := e) (fr := (0, 0)) hblk) ?_ (by omega) ?_ ?_ hbase w.heap.size rfl ?_
  · intro u hu; simp at hu; subst hu; rfl
  · unfold maxLen; omega
  · omega
  · intro g cap w' h1 h2 h3 h4
    exact hK g cap w' (own_append h1) (Keeps.of_grown h2) h3 h4

/-- The row i of a list of lists. -/
def gR (R : List (List Int)) (i : Nat) : List Int := R.getD i []
theorem gR_lt {R : List (List Int)} {i : Nat} (h : i < R.length) : gR R i = R[i] := by simp [gR, List.getD, h]
theorem gR_map {f : Nat → List Int} {n i : Nat} (h : i < n) : gR ((List.range n).map f) i = f i := by rw [gR_lt (by simpa using h)]; simp
theorem gR_ext {R R' : List (List Int)} (hl : R.length = R'.length) (h : ∀ i, i < R.length → gR R i = gR R' i) : R = R' := by
  apply List.ext_getElem hl
  intro i h1 h2
  rw [← gR_lt h1, ← gR_lt h2]; exact h i h1

/-- The value v reads, in w, as the lists R. -/
def RdR (w : World) (v : Value) (R : List (List Int)) : Prop :=
  ∃ a cap, v = .slice a R.length cap ∧ R.length ≤ cap ∧ cap ≤ 9223372036854775807 ∧ (R ≠ [] → ∃ b off, a = some ⟨b, off, none⟩ ∧ b < w.heap.size ∧ ∀ i, i < R.length → ∃ u, w.cell? ⟨b, off + i, none⟩ = some u ∧ Rd w u (gR R i))
theorem RdR.below {w w' : World} {v : Value} {R : List (List Int)} {B : Nat} (h : RdR w v R) (hb : Below B w w') (hB : w.heap.size ≤ B) : RdR w' v R := by
  obtain ⟨a, cap, h1, h2, h3, h4⟩ := h
  refine ⟨a, cap, h1, h2, h3, fun hx => ?_⟩
  obtain ⟨b, off, e1, e2, e3⟩ := h4 hx
  refine ⟨b, off, e1, Nat.lt_of_lt_of_le e2 hb.size, fun i hi => ?_⟩
  obtain ⟨u, hu, hr⟩ := e3 i hi
  exact ⟨u, by rw [hb.cell (p := ⟨b, off + i, none⟩) (by simp; omega)]; exact hu, hr.below hb hB⟩
theorem RdR.len0 {w : World} {v : Value} {R : List (List Int)} (h : RdR w v R) : ∃ a cap, v = .slice a R.length cap := by
  obtain ⟨a, cap, rfl, _⟩ := h; exact ⟨a, cap, rfl⟩
theorem RdR.cells {w : World} {v : Value} {R : List (List Int)} (h : RdR w v R) (hp : 0 < R.length) :
    ∃ b off cap, v = .slice (some ⟨b, off, none⟩) R.length cap ∧ R.length ≤ cap ∧ cap ≤ 9223372036854775807 ∧ b < w.heap.size ∧ ∀ i, i < R.length → ∃ u, w.cell? ⟨b, off + i, none⟩ = some u ∧ Rd w u (gR R i) := by
  obtain ⟨a, cap, rfl, h1, h2, h4⟩ := h
  obtain ⟨b, off, rfl, hb, hc⟩ := h4 (by intro e; simp [e] at hp)
  exact ⟨b, off, cap, rfl, h1, h2, hb, hc⟩

/-- The block g has n rows, owned by the call and apart from each other. e: the number of int64. -/
structure Rows (e : TypeId) (w : World) (base g n : Nat) (V : Nat → Value) (R : Nat → List Int) : Prop where
  lo : base ≤ g
  lt : g < w.heap.size
  cell : ∀ i, i < n → w.cell? ⟨g, i, none⟩ = some (V i)
  free : ∀ i, w.frozen? ⟨g, i, none⟩ = false
  row : ∀ i, i < n → Own e w base (V i) (R i)
  apart : ∀ i j, i < n → j < n → i ≠ j → Apart (V i) (V j)
  self : ∀ i, i < n → (V i).ownBlock ≠ some g

/-- f with x at i. -/
def upd {α : Type} (f : Nat → α) (i : Nat) (x : α) : Nat → α := fun j => if j = i then x else f j
theorem upd_at {α : Type} (f : Nat → α) (i : Nat) (x : α) : upd f i x i = x := by simp [upd]
theorem upd_ne {α : Type} (f : Nat → α) {i j : Nat} (x : α) (h : j ≠ i) : upd f i x j = f j := by simp [upd, h]

theorem Rows.congr {e : TypeId} {w : World} {base g n : Nat} {V : Nat → Value} {R R' : Nat → List Int} (h : Rows e w base g n V R) (hr : ∀ i, i < n → R i = R' i) : Rows e w base g n V R' :=
  ⟨h.lo, h.lt, h.cell, h.free, fun i hi => hr i hi ▸ h.row i hi, h.apart, h.self⟩
theorem Rows.base_le {e : TypeId} {w : World} {base base' g n : Nat} {V : Nat → Value} {R : Nat → List Int} (h : Rows e w base g n V R) (hB : base' ≤ base) : Rows e w base' g n V R :=
  ⟨Nat.le_trans hB h.lo, h.lt, h.cell, h.free, fun i hi => (h.row i hi).base_le hB, h.apart, h.self⟩
theorem Rows.below {e : TypeId} {w w' : World} {base g n : Nat} {V : Nat → Value} {R : Nat → List Int} (h : Rows e w base g n V R) (hb : Below w.heap.size w w') : Rows e w' base g n V R :=
  ⟨h.lo, Nat.lt_of_lt_of_le h.lt hb.size, fun i hi => by rw [hb.cell (p := ⟨g, i, none⟩) h.lt]; exact h.cell i hi, fun i => by rw [hb.frozen (p := ⟨g, i, none⟩) h.lt]; exact h.free i,
    fun i hi => (h.row i hi).below hb (Nat.le_refl _), h.apart, h.self⟩
theorem Rows.drewN {e : TypeId} {w : World} {base g n : Nat} {V : Nat → Value} {R : Nat → List Int} (h : Rows e w base g n V R) (m : Nat) : Rows e (w.drewN m) base g n V R := h.below (below_drewN (Below.refl _ _) m)

/-- The row i has been written (a new value v' in w1), and then its cell of the outer block. -/
theorem Rows.put {e : TypeId} {w w1 : World} {base g n i g' : Nat} {V : Nat → Value} {R : Nat → List Int} {cap len : Nat} {ys : List Int} (h : Rows e w base g n V R) (hi : i < n)
    (ho : Own e w1 base (.slice (some ⟨g', 0, none⟩) len cap) ys) (hk : Keeps (fun k => (V i).ownBlock = some k) w w1) (hg : (V i).ownBlock = some g' ∨ w.heap.size ≤ g') :
    Rows e (w1.setCell ⟨g, i, none⟩ (.slice (some ⟨g', 0, none⟩) len cap)) base g n (upd V i (.slice (some ⟨g', 0, none⟩) len cap)) (upd R i ys) := by
  have hlt := h.lt
  have hsz := hk.size
  have hgg : g' ≠ g := by
    rcases hg with hg | hg
    · intro e; exact h.self i hi (by rw [hg, e])
    · omega
  have kc : ∀ j, w1.cell? ⟨g, j, none⟩ = w.cell? ⟨g, j, none⟩ := fun j => hk.cell (p := ⟨g, j, none⟩) hlt (h.self i hi)
  have kf : ∀ j, w1.frozen? ⟨g, j, none⟩ = w.frozen? ⟨g, j, none⟩ := fun j => hk.frozen (p := ⟨g, j, none⟩) hlt (h.self i hi)
  have kr : ∀ j, j < n → j ≠ i → Own e w1 base (V j) (R j) := fun j hj hne => (h.row j hj).keeps hk (fun k h1 h2 => h.apart i j hi hj (Ne.symm hne) k h2 h1)
  have ap : ∀ j, j < n → j ≠ i → Apart (V j) (.slice (some ⟨g', 0, none⟩) len cap) := by
    intro j hj hne k hk1 hk2
    simp [Value.ownBlock] at hk2
    rcases hg with hg | hg
    · exact h.apart i j hi hj (Ne.symm hne) g' hg (by rw [hk1, hk2])
    · have := (h.row j hj).block k hk1; omega
  refine ⟨h.lo, by simp; omega, ?_, ?_, ?_, ?_, ?_⟩
  · intro j hj
    by_cases e : j = i
    · subst e
      rw [upd_at]
      have := kc j
      rw [h.cell j hj] at this
      exact World.cell?_setCell_same _ _ _ this
    · rw [upd_ne _ _ e, World.cell?_setCell_other _ _ _ _ (by intro h; injection h with _ h2; exact e h2.symm), kc]; exact h.cell j hj
  · intro j; rw [World.frozen?_setCell, kf]; exact h.free j
  · intro j hj
    by_cases e : j = i
    · subst e
      rw [upd_at, upd_at]
      exact ho.other (fun k hk => by simp [Value.ownBlock] at hk; omega) j _
    · rw [upd_ne _ _ e, upd_ne _ _ e]
      exact (kr j hj e).other (fun k hk e2 => h.self j hj (by rw [hk, e2])) i _
  · intro a b ha hb hne
    by_cases e1 : a = i
    · subst e1
      rw [upd_at, upd_ne _ _ (Ne.symm hne)]
      exact (ap b hb (Ne.symm hne)).symm
    · by_cases e2 : b = i
      · subst e2
        rw [upd_at, upd_ne _ _ e1]; exact ap a ha e1
      · rw [upd_ne _ _ e1, upd_ne _ _ e2]; exact h.apart a b ha hb hne
  · intro j hj
    by_cases e : j = i
    · subst e; rw [upd_at]; simp [Value.ownBlock]; omega
    · rw [upd_ne _ _ e]; exact h.self j hj

theorem Rows.rd {e : TypeId} {w : World} {base g n cap : Nat} {V : Nat → Value} {R : Nat → List Int} (h : Rows e w base g n V R) (hc : n ≤ cap) (hc' : cap ≤ 9223372036854775807) : RdR w (.slice (some ⟨g, 0, none⟩) n cap) ((List.range n).map R) := by
  refine ⟨some ⟨g, 0, none⟩, cap, by simp, by simpa using hc, hc', fun _ => ⟨g, 0, rfl, h.lt, fun i hi => ?_⟩⟩
  have hi' : i < n := by simpa using hi
  refine ⟨V i, by rw [Nat.zero_add]; exact h.cell i hi', ?_⟩
  rw [gR_map hi']
  exact (h.row i hi').rd

/-- n new rows, all empty. -/
theorem Rows.made {e t : TypeId} {w' : World} {base n g : Nat} (h : w'.ownsRow base t 1 (.slice (some ⟨g, 0, none⟩) n n) n (List.replicate n (.slice none 0 0))) (hb : base ≤ g) (hs : g < w'.heap.size) :
    Rows e w' base g n (fun _ => .slice none 0 0) (fun _ => []) :=
  ⟨hb, hs, fun i hi => by rw [World.ownsRow.cellAt h i (by omega)]; simp [hi], fun i => World.ownsRow.frozenAt h i, fun _ _ => own_nil _ _ _, fun _ _ _ _ _ k hk => by simp [Value.ownBlock] at hk, fun _ _ => by simp [Value.ownBlock]⟩

end Go.Proofs.Ythpnmkghjnipoaa
