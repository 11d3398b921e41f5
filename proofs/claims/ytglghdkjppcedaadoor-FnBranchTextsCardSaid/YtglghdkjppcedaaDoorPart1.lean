/- What a cluster is, in plain words; the box in which a struct that comes in by value lies. No program in sight. -/
import Derived.Test.YtglghdkjppcedaaDoorPart0
import Derived.Deep.AppendLies
namespace Go.Proofs.YtglghdkjppcedaaDoor
open Go.RowKit

/-- The point i stands in its place: parent and second are as they have to be. -/
def placeOk (P S : List Int) (i : Nat) : Prop :=
  (i = 0 ∧ gI P i = -1 ∧ gI S i = -1) ∨
  (0 < i ∧ 0 ≤ gI P i ∧ gI P i < (i : Int) ∧ (gI S i = -1 ∨ (0 ≤ gI S i ∧ (gI S i = gI P (gI P i).toNat ∨ gI S i = gI S (gI P i).toNat))))
instance (P S : List Int) (i : Nat) : Decidable (placeOk P S i) := by unfold placeOk; infer_instance

/-- No point before i has the parent and the second of the satellite i. -/
def freshOk (P S : List Int) (i : Nat) : Prop := ∀ j, j < i → ¬ (0 ≤ gI S i ∧ gI S i = gI S j ∧ gI P i = gI P j)
instance (P S : List Int) (i : Nat) : Decidable (freshOk P S i) := by unfold freshOk; infer_instance

/-- P, S, W are the parents, seconds and weights of a cluster. -/
def CluOk (P S W : List Int) : Prop :=
  (0 < P.length ∧ P.length ≤ 24 ∧ S.length = P.length ∧ W.length = P.length) ∧ (∀ i, i < W.length → -100000 ≤ gI W i ∧ gI W i ≤ 100000) ∧ (∀ i, i < P.length → placeOk P S i ∧ freshOk P S i)
instance (P S W : List Int) : Decidable (CluOk P S W) := by unfold CluOk; infer_instance

def cluB (P S W : List Int) : Bool := decide (CluOk P S W)
def placeB (P S : List Int) (i : Nat) : Bool := decide (placeOk P S i)
/-- The three fields of a struct that came in by value lie in the block w.heap.size; behind it nothing of what was there has changed. -/
def Boxed (w wr : World) (t : TypeId) (cs : Array Value) : Prop := Below (w.heap.size + 1) (w.alloc (.cells cs t)) wr

theorem Boxed.start (w : World) (t : TypeId) (cs : Array Value) : Boxed w (w.alloc (.cells cs t)) t cs := Below.refl _ _
theorem Boxed.below {w wr : World} {t : TypeId} {cs : Array Value} (h : Boxed w wr t cs) : Below w.heap.size w wr :=
  ((Below.refl w.heap.size w).alloc (Nat.le_refl _) (.cells cs t)).trans (h.mono (Nat.le_succ _))
theorem Boxed.size {w wr : World} {t : TypeId} {cs : Array Value} (h : Boxed w wr t cs) : w.heap.size < wr.heap.size := by
  have := Below.size (show Below (w.heap.size + 1) (w.alloc (.cells cs t)) wr from h)
  simp at this; omega
theorem Boxed.cell {w wr : World} {t : TypeId} {cs : Array Value} (h : Boxed w wr t cs) (i : Nat) : wr.cell? ⟨w.heap.size, i, none⟩ = cs[i]? := by
  rw [Below.cell (show Below (w.heap.size + 1) (w.alloc (.cells cs t)) wr from h) (p := ⟨w.heap.size, i, none⟩) (Nat.lt_succ_self _)]
  exact World.cell?_alloc_at cs t w.heap.size i rfl
theorem Boxed.free {w wr : World} {t : TypeId} {cs : Array Value} (h : Boxed w wr t cs) (i : Nat) : wr.frozen? ⟨w.heap.size, i, none⟩ = false := by
  rw [Below.frozen (show Below (w.heap.size + 1) (w.alloc (.cells cs t)) wr from h) (p := ⟨w.heap.size, i, none⟩) (Nat.lt_succ_self _)]
  exact World.frozen?_alloc_at cs t w.heap.size i rfl
theorem Boxed.trans {w wr w' : World} {t : TypeId} {cs : Array Value} (h : Boxed w wr t cs) (h' : Below wr.heap.size wr w') : Boxed w w' t cs :=
  Below.trans (show Below (w.heap.size + 1) (w.alloc (.cells cs t)) wr from h) (h'.mono h.size)
theorem Boxed.drewN {w wr : World} {t : TypeId} {cs : Array Value} (h : Boxed w wr t cs) (n : Nat) : Boxed w (wr.drewN n) t cs := h.trans (below_drewN (Below.refl _ _) n)
theorem Boxed.rd {w wr : World} {t : TypeId} {cs : Array Value} {v : Value} {xs : List Int} (h : Boxed w wr t cs) (hr : Rd w v xs) : Rd wr v xs := hr.below h.below (Nat.le_refl _)

/-- A read-only function's frame out of 'Below'. -/
theorem below_step {w w1 w2 : World} (h : Below w.heap.size w w1) (h' : Below w1.heap.size w1 w2) : Below w.heap.size w w2 := h.trans (h'.mono h.size)

theorem Rd.cellAt {w : World} {v : Value} {xs : List Int} (h : Rd w v xs) {i : Nat} (hi : i < xs.length) :
    ∃ b off cap, v = .slice (some ⟨b, off, none⟩) xs.length cap ∧ b < w.heap.size ∧ w.cell? ⟨b, off + i, none⟩ = some (.int .i64 (gI xs i)) := by
  obtain ⟨a, cap, rfl, _, _, h4⟩ := h
  obtain ⟨b, off, rfl, hb, hc⟩ := h4 (by intro e; simp [e] at hi)
  exact ⟨b, off, cap, rfl, hb, hc i hi⟩

/-- The cells of a slice that is not empty, all at once. -/
theorem Rd.cells {w : World} {v : Value} {xs : List Int} (h : Rd w v xs) (hp : 0 < xs.length) :
    ∃ b off cap, v = .slice (some ⟨b, off, none⟩) xs.length cap ∧ xs.length ≤ cap ∧ cap ≤ 9223372036854775807 ∧ b < w.heap.size ∧ ∀ i, i < xs.length → w.cell? ⟨b, off + i, none⟩ = some (.int .i64 (gI xs i)) := by
  obtain ⟨a, cap, rfl, h1, h2, h4⟩ := h
  obtain ⟨b, off, rfl, hb, hc⟩ := h4 (by intro e; simp [e] at hp)
  exact ⟨b, off, cap, rfl, h1, h2, hb, hc⟩

end Go.Proofs.YtglghdkjppcedaaDoor

/- What a call may have written: 'Keeps M w w'': of what was there only blocks of M have changed. No program in sight. -/
namespace Go.Proofs.YtglghdkjppcedaaDoor
open Go.RowKit

structure Keeps (M : Nat → Prop) (w w' : World) : Prop where
  os : w'.os = w.os
  tape : w'.tape = w.tape
  output : w'.output = w.output
  size : w.heap.size ≤ w'.heap.size
  block : ∀ k, k < w.heap.size → ¬ M k → w'.heap[k]? = w.heap[k]?

theorem Keeps.refl (M : Nat → Prop) (w : World) : Keeps M w w := ⟨rfl, rfl, rfl, Nat.le_refl _, fun _ _ _ => rfl⟩
theorem Keeps.of_below {M : Nat → Prop} {w w' : World} (h : Below w.heap.size w w') : Keeps M w w' := ⟨h.os, h.tape, h.output, h.size, fun k hk _ => h.block k hk⟩
theorem Keeps.of_grown {w w' : World} {row : Option Nat} (h : w.grownBy w' row) : Keeps (fun k => row = some k) w w' :=
  ⟨h.os, h.tape, h.output, h.size, fun k hk hn => h.block k hk (fun e => hn e.symm)⟩
theorem Keeps.mono {M M' : Nat → Prop} {w w' : World} (h : Keeps M w w') (hm : ∀ k, M k → M' k) : Keeps M' w w' := ⟨h.os, h.tape, h.output, h.size, fun k hk hn => h.block k hk (fun e => hn (hm k e))⟩
theorem Keeps.trans {M : Nat → Prop} {a b c : World} (h : Keeps M a b) (h' : Keeps M b c) : Keeps M a c :=
  ⟨h'.os.trans h.os, h'.tape.trans h.tape, h'.output.trans h.output, Nat.le_trans h.size h'.size, fun k hk hn => (h'.block k (Nat.lt_of_lt_of_le hk h.size) hn).trans (h.block k hk hn)⟩
theorem Keeps.drewN {M : Nat → Prop} {a w : World} (h : Keeps M a w) (n : Nat) : Keeps M a (w.drewN n) := ⟨h.os, h.tape, h.output, h.size, h.block⟩
theorem Keeps.alloc {M : Nat → Prop} {a w : World} (h : Keeps M a w) (o : Obj) : Keeps M a (w.alloc o) :=
  h.trans (Keeps.of_below ((Below.refl _ _).alloc (Nat.le_refl _) o))
theorem Keeps.setCell {M : Nat → Prop} {a w : World} (h : Keeps M a w) {p : Addr} (hp : M p.block) (u : Value) : Keeps M a (w.setCell p u) :=
  h.trans ⟨rfl, rfl, rfl, by simp [World.setCell], fun k _ hn => Below.heap_setCell _ _ _ _ (fun e => hn (e ▸ hp))⟩
/-- Where only blocks from B on may have been written, nothing below B has changed. -/
theorem Keeps.below {M : Nat → Prop} {w w' : World} {B : Nat} (h : Keeps M w w') (hB : B ≤ w.heap.size) (hm : ∀ k, M k → B ≤ k) : Below B w w' :=
  ⟨h.os, h.tape, h.output, h.size, fun k hk => h.block k (by omega) (fun e => by have := hm k e; omega)⟩

theorem Keeps.cell {M : Nat → Prop} {w w' : World} (h : Keeps M w w') {p : Addr} (hp : p.block < w.heap.size) (hn : ¬ M p.block) : w'.cell? p = w.cell? p := World.cell?_of_block (w := w) (h.block p.block hp hn)
theorem Keeps.frozen {M : Nat → Prop} {w w' : World} (h : Keeps M w w') {p : Addr} (hp : p.block < w.heap.size) (hn : ¬ M p.block) : w'.frozen? p = w.frozen? p := World.frozen?_of_block (w := w) (h.block p.block hp hn)

theorem Own.keeps {e : TypeId} {w w' : World} {base : Nat} {v : Value} {xs : List Int} {M : Nat → Prop} (h : Own e w base v xs) (hk : Keeps M w w') (hn : ∀ g, v.ownBlock = some g → ¬ M g) : Own e w' base v xs := by
  refine ⟨h.1, ?_⟩
  rcases h.2 with hn' | ⟨g, cap, cur, rfl, hbg, hg, rest⟩
  · exact .inl hn'
  · refine .inr ⟨g, cap, cur, rfl, hbg, ?_, rest⟩
    have hlt := (Array.getElem?_eq_some_iff.1 hg).1
    rw [hk.block g hlt (hn g rfl)]; exact hg

/-- The block of an owned slice lies from base on and is there. -/
theorem Own.block {e : TypeId} {w : World} {base : Nat} {v : Value} {xs : List Int} (h : Own e w base v xs) : ∀ g, v.ownBlock = some g → base ≤ g ∧ g < w.heap.size := by
  intro g hg
  rcases h.shape with ⟨rfl, _⟩ | ⟨g', cap, rfl, h1, h2, _⟩
  · simp [Value.ownBlock] at hg
  · simp [Value.ownBlock] at hg; omega

/-- The block g holds the cells cs, none frozen. -/
def Blk (w : World) (g : Nat) (t : TypeId) (cs : Array Value) : Prop := w.heap[g]? = some (.cells cs t (0, 0))
theorem Blk.lt {w : World} {g : Nat} {t : TypeId} {cs : Array Value} (h : Blk w g t cs) : g < w.heap.size := (Array.getElem?_eq_some_iff.1 h).1
theorem Blk.cell {w : World} {g : Nat} {t : TypeId} {cs : Array Value} (h : Blk w g t cs) (i : Nat) : w.cell? ⟨g, i, none⟩ = cs[i]? := by
  unfold Blk at h; simp [World.cell?, h]
theorem Blk.free {w : World} {g : Nat} {t : TypeId} {cs : Array Value} (h : Blk w g t cs) (i : Nat) : w.frozen? ⟨g, i, none⟩ = false := by
  unfold Blk at h; simp [World.frozen?, h]
theorem Blk.new (w : World) (t : TypeId) (cs : Array Value) : Blk (w.alloc (.cells cs t)) w.heap.size t cs := heap_alloc_new w _
theorem Blk.new' {w : World} {t : TypeId} {cs : Array Value} {g : Nat} (hg : g = w.heap.size) : Blk (w.alloc (.cells cs t)) g t cs := by subst hg; exact heap_alloc_new w _
theorem Blk.alloc {w : World} {g : Nat} {t : TypeId} {cs : Array Value} (h : Blk w g t cs) (o : Obj) : Blk (w.alloc o) g t cs := by
  have hl := h.lt
  unfold Blk at *; rw [Below.heap_alloc w o g hl]; exact h
theorem Blk.below {w w' : World} {g B : Nat} {t : TypeId} {cs : Array Value} (h : Blk w g t cs) (hb : Below B w w') (hg : g < B) : Blk w' g t cs := by
  unfold Blk at *; rw [hb.block g hg]; exact h
theorem Blk.stays {w w' : World} {g : Nat} {t : TypeId} {cs : Array Value} (h : Blk w g t cs) (hb : Below w.heap.size w w') : Blk w' g t cs := h.below hb h.lt
theorem Blk.keeps {w w' : World} {g : Nat} {t : TypeId} {cs : Array Value} {M : Nat → Prop} (h : Blk w g t cs) (hk : Keeps M w w') (hg : ¬ M g) : Blk w' g t cs := by
  have hl := h.lt
  unfold Blk at *; rw [hk.block g hl hg]; exact h
theorem Blk.drewN {w : World} {g : Nat} {t : TypeId} {cs : Array Value} (h : Blk w g t cs) (n : Nat) : Blk (w.drewN n) g t cs := h
theorem Blk.set {w : World} {g : Nat} {t : TypeId} {cs : Array Value} (h : Blk w g t cs) (i : Nat) (v : Value) : Blk (w.setCell ⟨g, i, none⟩ v) g t (cs.setIfInBounds i v) := by
  unfold Blk at *; exact heap_setCell_same w g i cs t v h
theorem Blk.other {w : World} {g g' : Nat} {t : TypeId} {cs : Array Value} (h : Blk w g t cs) (hn : g ≠ g') (i : Nat) (v : Value) : Blk (w.setCell ⟨g', i, none⟩ v) g t cs := by
  unfold Blk at *; rw [Below.heap_setCell _ _ _ _ (by simpa using hn)]; exact h

/-- What was owned stays owned while a cell of another block is written. -/
theorem Own.other {e : TypeId} {w : World} {base g : Nat} {v : Value} {xs : List Int} (h : Own e w base v xs) (hn : ∀ k, v.ownBlock = some k → k ≠ g) (i : Nat) (u : Value) : Own e (w.setCell ⟨g, i, none⟩ u) base v xs :=
  h.keeps (M := fun k => k = g) ((Keeps.refl (fun k => k = g) w).setCell (p := ⟨g, i, none⟩) rfl u) (fun k hk e => hn k hk e)
theorem Rd.other {w : World} {v : Value} {xs : List Int} {g B : Nat} (h : Rd w v xs) {w' : World} (hb : Below B w w') (hB : w.heap.size ≤ B) (hg : w.heap.size ≤ g) (i : Nat) (u : Value) : Rd (w'.setCell ⟨g, i, none⟩ u) v xs :=
  h.below (B := w.heap.size) ((hb.mono hB).setCell (p := ⟨g, i, none⟩) hg u) (Nat.le_refl _)

/-- The numbers k, k + 1, .. -/
def iotaI (k : Int) (n : Nat) : List Int := (List.range n).map fun (i : Nat) => k + (i : Int)
@[simp] theorem iotaI_length (k : Int) (n : Nat) : (iotaI k n).length = n := by simp [iotaI]
/-- Two slices lie in different blocks (or one of them in none). -/
def Apart (a b : Value) : Prop := ∀ g, a.ownBlock = some g → b.ownBlock ≠ some g
theorem Apart.symm {a b : Value} (h : Apart a b) : Apart b a := fun g hb ha => h g ha hb
/-- Three slices in blocks of their own. -/
structure Own3 (e : TypeId) (w : World) (base : Nat) (u1 u2 u3 : Value) (xs ys zs : List Int) : Prop where
  a : Own e w base u1 xs
  b : Own e w base u2 ys
  c : Own e w base u3 zs
  ab : Apart u1 u2
  ac : Apart u1 u3
  bc : Apart u2 u3

/-- The blocks of three slices. -/
def Own3.mine (a b c : Value) (k : Nat) : Prop := a.ownBlock = some k ∨ b.ownBlock = some k ∨ c.ownBlock = some k

theorem Own3.keeps {e : TypeId} {w w' : World} {base : Nat} {a b c : Value} {xs ys zs : List Int} {M : Nat → Prop} (h : Own3 e w base a b c xs ys zs) (hk : Keeps M w w') (hn : ∀ g, Own3.mine a b c g → ¬ M g) : Own3 e w' base a b c xs ys zs :=
  ⟨h.a.keeps hk (fun g hg => hn g (.inl hg)), h.b.keeps hk (fun g hg => hn g (.inr (.inl hg))), h.c.keeps hk (fun g hg => hn g (.inr (.inr hg))), h.ab, h.ac, h.bc⟩
theorem Own3.below {e : TypeId} {w w' : World} {base : Nat} {a b c : Value} {xs ys zs : List Int} (h : Own3 e w base a b c xs ys zs) (hb : Below w.heap.size w w') : Own3 e w' base a b c xs ys zs :=
  ⟨h.a.below hb (Nat.le_refl _), h.b.below hb (Nat.le_refl _), h.c.below hb (Nat.le_refl _), h.ab, h.ac, h.bc⟩
theorem Own3.block {e : TypeId} {w : World} {base : Nat} {a b c : Value} {xs ys zs : List Int} (h : Own3 e w base a b c xs ys zs) : ∀ g, Own3.mine a b c g → base ≤ g ∧ g < w.heap.size := by
  intro g hg
  rcases hg with hg | hg | hg
  · exact h.a.block g hg
  · exact h.b.block g hg
  · exact h.c.block g hg
theorem Own3.base_le {e : TypeId} {w : World} {base base' : Nat} {a b c : Value} {xs ys zs : List Int} (h : Own3 e w base a b c xs ys zs) (hB : base' ≤ base) : Own3 e w base' a b c xs ys zs :=
  ⟨h.a.base_le hB, h.b.base_le hB, h.c.base_le hB, h.ab, h.ac, h.bc⟩

end Go.Proofs.YtglghdkjppcedaaDoor

/- One number put behind an owned slice, as one law of the walk; sums and results behind names. No program in sight. -/
namespace Go.Proofs.YtglghdkjppcedaaDoor
open Go.RowKit

theorem own_append {e : TypeId} {w : World} {base : Nat} {v : Value} {xs : List Int} {y : Int} (h : w.ownsRow base e 1 v (xs.length + 1) (xs.map (Value.int .i64) ++ [.int .i64 y])) : Own e w base v (xs ++ [y]) := by
  unfold Own
  rw [List.length_append, List.map_append]
  exact h

/-- 'out = append(out, y)' on a slice that the call owns. -/
theorem wpList_push {P : Program} {w : World} {ops : Array Oper} {rest : List Oper} {o : Oper} {a : Act} {Q : Exit → Act → World → Prop} (hgd : o.guard = none) (s x : Operand) (t : TypeId)
    (ho : o.op = .call { callee := .builtin .append, args := #[s, x], argTypes := #[t, t] })
    (base : Nat) (e : TypeId) (i : TypeInfo) (ht : P.underlying t = some (.slice e)) (hi : P.info? e = some i) (hz : i.zero = some (.int .i64 0)) (hsize : i.size = 1) (hby : i.bytes = 8)
    (v : Value) (xs : List Int) (y : Int) (hs : a.eval s = v) (hown : Own e w base v xs) (hx : a.eval x = .slice (some ⟨w.heap.size, 0, none⟩) 1 1)
    (hlen : xs.length ≤ 1000000000000) (hbase : base ≤ w.heap.size)
    (h : ∀ v' w', Own e w' base v' (xs ++ [y]) → Keeps (fun k => v.ownBlock = some k) w w' → wpList P ops Q rest (a.put o.dst v') w') :
    wpList P ops Q (o :: rest) a (w.alloc (.cells #[.int .i64 y] e)) := by
  refine wpList_append_own _ hgd s x t ho base e i (.int .i64 0) 1 8 ht hi hz hsize hby rfl (by decide) v xs.length (xs.map (Value.int .i64)) hs (World.ownsRow.alloc hown _) ⟨w.heap.size, 0, none⟩ 1 1 [.int .i64 y] hx rfl (cell_one_new _ _ _) ?_ ?_ ?_ ?_ ?_
  · intro u hu; simp at hu; subst hu; rfl
  · unfold maxLen; omega
  · omega
  · simp; omega
  · intro v' w' ho' hg _
    refine h v' w' (own_append ho') ?_
    have h1 : Keeps (fun k => v.ownBlock = some k) w (w.alloc (.cells #[.int .i64 y] e)) := Keeps.of_below ((Below.refl _ _).alloc (Nat.le_refl _) _)
    exact h1.trans (Keeps.of_grown hg)

/-- The box of a struct stays while an owned slice behind it is written. -/
theorem Boxed.push {w wr w2 : World} {t e : TypeId} {cs : Array Value} {v : Value} {xs : List Int} (h : Boxed w wr t cs) (ho : Own e wr (w.heap.size + 1) v xs) (hk : Keeps (fun k => v.ownBlock = some k) wr w2) : Boxed w w2 t cs :=
  Below.trans (show Below (w.heap.size + 1) (w.alloc (.cells cs t)) wr from h) (hk.below (by have := h.size; omega) (fun g hg => (ho.block g hg).1))
theorem Boxed.wrote {w wr w2 : World} {t : TypeId} {cs : Array Value} (h : Boxed w wr t cs) (hk : Keeps (fun k => w.heap.size + 1 ≤ k) wr w2) : Boxed w w2 t cs :=
  Below.trans (show Below (w.heap.size + 1) (w.alloc (.cells cs t)) wr from h) (hk.below (by have := h.size; omega) (fun _ hg => hg))
theorem Boxed.alloc {w wr : World} {t : TypeId} {cs : Array Value} (h : Boxed w wr t cs) (o : Obj) : Boxed w (wr.alloc o) t cs := h.trans ((Below.refl _ _).alloc (Nat.le_refl _) o)

/-- The sum of f 0, .., f (n - 1). -/
def sumTo (f : Nat → Int) : Nat → Int
  | 0 => 0
  | n + 1 => sumTo f n + f n
theorem sumTo_succ (f : Nat → Int) (n : Nat) : sumTo f (n + 1) = sumTo f n + f n := rfl
theorem sumTo_congr {f g : Nat → Int} {n : Nat} (h : ∀ i, i < n → f i = g i) : sumTo f n = sumTo g n := by
  induction n with
  | zero => rfl
  | succ n ih => rw [sumTo_succ, sumTo_succ, ih (fun i hi => h i (by omega)), h n (by omega)]
theorem sumTo_bound {f : Nat → Int} {n : Nat} (a b : Int) (h : ∀ i, i < n → a ≤ f i ∧ f i ≤ b) : n * a ≤ sumTo f n ∧ sumTo f n ≤ n * b := by
  induction n with
  | zero => simp [sumTo]
  | succ n ih =>
    have h1 := ih (fun i hi => h i (by omega))
    have h2 := h n (by omega)
    rw [sumTo_succ]
    have e1 : ((n + 1 : Nat) : Int) * a = n * a + a := by rw [Int.natCast_add, Int.add_mul]; simp
    have e2 : ((n + 1 : Nat) : Int) * b = n * b + b := by rw [Int.natCast_add, Int.add_mul]; simp
    omega
theorem mul_abs_le {x y B C : Int} (hx : -B ≤ x ∧ x ≤ B) (hy : -C ≤ y ∧ y ≤ C) : -(B * C) ≤ x * y ∧ x * y ≤ B * C := by
  have hB : x.natAbs ≤ B.toNat := by omega
  have hC : y.natAbs ≤ C.toNat := by omega
  have h := Nat.mul_le_mul hB hC
  rw [← Int.natAbs_mul] at h
  have e : ((B.toNat * C.toNat : Nat) : Int) = B * C := by rw [Int.natCast_mul, Int.toNat_of_nonneg (by omega), Int.toNat_of_nonneg (by omega)]
  omega

/-- A number, a list, or the code of an error: behind a test. -/
def okN (b : Bool) (n : Int) : Int := if b then n else 0
def okL (b : Bool) (xs : List Int) : List Int := if b then xs else []
def okC (b : Bool) (c : Int) : Int := if b then 0 else c
theorem okL_true {b : Bool} {n : List Int} (h : b = true) : okL b n = n := by simp [okL, h]
theorem okL_false {b : Bool} {n : List Int} (h : b = false) : okL b n = [] := by simp [okL, h]
theorem okC_true {b : Bool} {c : Int} (h : b = true) : okC b c = 0 := by simp [okC, h]
theorem okC_false {b : Bool} {c : Int} (h : b = false) : okC b c = c := by simp [okC, h]
end Go.Proofs.YtglghdkjppcedaaDoor

/- Slices of slices of integers: read; owned by the call, row by row. No program in sight. -/
namespace Go.Proofs.YtglghdkjppcedaaDoor
open Go.RowKit

/-- One number put behind an owned slice, at a step of a region that draws its order. -/
theorem step_push {P : Program} {w : World} {ops : Array Oper} {o : Oper} {a : Act} {K : Act → World → Prop} {Q : Exit → Act → World → Prop} {E : Prop} (hgd : o.guard = none) (s x : Operand) (t : TypeId)
    (ho : o.op = .call { callee := .builtin .append, args := #[s, x], argTypes := #[t, t] })
    (base : Nat) (e : TypeId) (i : TypeInfo) (ht : P.underlying t = some (.slice e)) (hi : P.info? e = some i) (hz : i.zero = some (.int .i64 0)) (hsize : i.size = 1) (hby : i.bytes = 8)
    (v : Value) (xs : List Int) (y : Int) (h : Nat) (hs : a.eval s = v) (hown : Own e w base v xs) (hx : a.eval x = .slice (some ⟨h, 0, none⟩) 1 1) (hblk : Blk w h e #[.int .i64 y])
    (hlen : xs.length ≤ 1000000000000) (hbase : base ≤ w.heap.size)
    (hK : ∀ g cap w', Own e w' base (.slice (some ⟨g, 0, none⟩) (xs.length + 1) cap) (xs ++ [y]) → Keeps (fun k => v.ownBlock = some k) w w' → (v.ownBlock = some g ∨ g = w.heap.size) → g < w'.heap.size → K (a.put o.dst (.slice (some ⟨g, 0, none⟩) (xs.length + 1) cap)) w') :
    if Region.wanted o (yielded ops a.tmps) = true then Oper.wp P o a w K Q else E := by
  refine step_append_lies w hgd s x t ho base e i (.int .i64 0) 1 8 ht hi hz hsize hby rfl (by decide) v xs.length (xs.map (Value.int .i64)) hs hown ⟨h, 0, none⟩ 1 1 [.int .i64 y] hx rfl (World.news_of_block (cs := #[.int .i64 y]) (t := e) (fr := (0, 0)) hblk) ?_ (by omega) ?_ ?_ hbase w.heap.size rfl ?_
  · intro u hu; simp at hu; subst hu; rfl
  · unfold maxLen; omega
  · omega
  · intro g cap w' h1 h2 h3 h4
    exact hK g cap w' (own_append h1) (Keeps.of_grown h2) h3 h4

/-- The row i of a list of lists. -/
def gR (R : List (List Int)) (i : Nat) : List Int := R.getD i []
theorem gR_lt {R : List (List Int)} {i : Nat} (h : i < R.length) : gR R i = R[i] := by simp [gR, List.getD, h]
theorem gR_map {f : Nat → List Int} {n i : Nat} (h : i < n) : gR ((List.range n).map f) i = f i := by rw [gR_lt (by simpa using h)]; simp
/-- The value v reads, in w, as the lists R. -/
def RdR (w : World) (v : Value) (R : List (List Int)) : Prop :=
  ∃ a cap, v = .slice a R.length cap ∧ R.length ≤ cap ∧ cap ≤ 9223372036854775807 ∧ (R ≠ [] → ∃ b off, a = some ⟨b, off, none⟩ ∧ b < w.heap.size ∧ ∀ i, i < R.length → ∃ u, w.cell? ⟨b, off + i, none⟩ = some u ∧ Rd w u (gR R i))
theorem RdR.below {w w' : World} {v : Value} {R : List (List Int)} {B : Nat} (h : RdR w v R) (hb : Below B w w') (hB : w.heap.size ≤ B) : RdR w' v R := by
  obtain ⟨a, cap, h1, h2, h3, h4⟩ := h
  refine ⟨a, cap, h1, h2, h3, fun hx => ?_⟩
  obtain ⟨b, off, e1, e2, e3⟩ := h4 hx
  refine ⟨b, off, e1, Nat.lt_of_lt_of_le e2 hb.size, fun i hi => ?_⟩
  obtain ⟨u, hu, hr⟩ := e3 i hi
  exact ⟨u, by rw [hb.cell (p := ⟨b, off + i, none⟩) (by simp; omega)]; exact hu, hr.below hb hB⟩
theorem RdR.len0 {w : World} {v : Value} {R : List (List Int)} (h : RdR w v R) : ∃ a cap, v = .slice a R.length cap := by
  obtain ⟨a, cap, rfl, _⟩ := h; exact ⟨a, cap, rfl⟩
theorem RdR.cells {w : World} {v : Value} {R : List (List Int)} (h : RdR w v R) (hp : 0 < R.length) :
    ∃ b off cap, v = .slice (some ⟨b, off, none⟩) R.length cap ∧ R.length ≤ cap ∧ cap ≤ 9223372036854775807 ∧ b < w.heap.size ∧ ∀ i, i < R.length → ∃ u, w.cell? ⟨b, off + i, none⟩ = some u ∧ Rd w u (gR R i) := by
  obtain ⟨a, cap, rfl, h1, h2, h4⟩ := h
  obtain ⟨b, off, rfl, hb, hc⟩ := h4 (by intro e; simp [e] at hp)
  exact ⟨b, off, cap, rfl, h1, h2, hb, hc⟩

/-- The block g has n rows, owned by the call and apart from each other. e: the number of int64. -/
structure Rows (e : TypeId) (w : World) (base g n : Nat) (V : Nat → Value) (R : Nat → List Int) : Prop where
  lo : base ≤ g
  lt : g < w.heap.size
  cell : ∀ i, i < n → w.cell? ⟨g, i, none⟩ = some (V i)
  free : ∀ i, w.frozen? ⟨g, i, none⟩ = false
  row : ∀ i, i < n → Own e w base (V i) (R i)
  apart : ∀ i j, i < n → j < n → i ≠ j → Apart (V i) (V j)
  self : ∀ i, i < n → (V i).ownBlock ≠ some g

/-- f with x at i. -/
def upd {α : Type} (f : Nat → α) (i : Nat) (x : α) : Nat → α := fun j => if j = i then x else f j
theorem upd_at {α : Type} (f : Nat → α) (i : Nat) (x : α) : upd f i x i = x := by simp [upd]
theorem upd_ne {α : Type} (f : Nat → α) {i j : Nat} (x : α) (h : j ≠ i) : upd f i x j = f j := by simp [upd, h]

theorem Rows.congr {e : TypeId} {w : World} {base g n : Nat} {V : Nat → Value} {R R' : Nat → List Int} (h : Rows e w base g n V R) (hr : ∀ i, i < n → R i = R' i) : Rows e w base g n V R' :=
  ⟨h.lo, h.lt, h.cell, h.free, fun i hi => hr i hi ▸ h.row i hi, h.apart, h.self⟩
theorem Rows.base_le {e : TypeId} {w : World} {base base' g n : Nat} {V : Nat → Value} {R : Nat → List Int} (h : Rows e w base g n V R) (hB : base' ≤ base) : Rows e w base' g n V R :=
  ⟨Nat.le_trans hB h.lo, h.lt, h.cell, h.free, fun i hi => (h.row i hi).base_le hB, h.apart, h.self⟩
theorem Rows.below {e : TypeId} {w w' : World} {base g n : Nat} {V : Nat → Value} {R : Nat → List Int} (h : Rows e w base g n V R) (hb : Below w.heap.size w w') : Rows e w' base g n V R :=
  ⟨h.lo, Nat.lt_of_lt_of_le h.lt hb.size, fun i hi => by rw [hb.cell (p := ⟨g, i, none⟩) h.lt]; exact h.cell i hi, fun i => by rw [hb.frozen (p := ⟨g, i, none⟩) h.lt]; exact h.free i,
    fun i hi => (h.row i hi).below hb (Nat.le_refl _), h.apart, h.self⟩
theorem Rows.drewN {e : TypeId} {w : World} {base g n : Nat} {V : Nat → Value} {R : Nat → List Int} (h : Rows e w base g n V R) (m : Nat) : Rows e (w.drewN m) base g n V R := h.below (below_drewN (Below.refl _ _) m)

/-- The row i has been written (a new value v' in w1), and then its cell of the outer block. -/
theorem Rows.put {e : TypeId} {w w1 : World} {base g n i g' : Nat} {V : Nat → Value} {R : Nat → List Int} {cap len : Nat} {ys : List Int} (h : Rows e w base g n V R) (hi : i < n)
    (ho : Own e w1 base (.slice (some ⟨g', 0, none⟩) len cap) ys) (hk : Keeps (fun k => (V i).ownBlock = some k) w w1) (hg : (V i).ownBlock = some g' ∨ w.heap.size ≤ g') :
    Rows e (w1.setCell ⟨g, i, none⟩ (.slice (some ⟨g', 0, none⟩) len cap)) base g n (upd V i (.slice (some ⟨g', 0, none⟩) len cap)) (upd R i ys) := by
  have hlt := h.lt
  have hsz := hk.size
  have hgg : g' ≠ g := by
    rcases hg with hg | hg
    · intro e; exact h.self i hi (by rw [hg, e])
    · omega
  have kc : ∀ j, w1.cell? ⟨g, j, none⟩ = w.cell? ⟨g, j, none⟩ := fun j => hk.cell (p := ⟨g, j, none⟩) hlt (h.self i hi)
  have kf : ∀ j, w1.frozen? ⟨g, j, none⟩ = w.frozen? ⟨g, j, none⟩ := fun j => hk.frozen (p := ⟨g, j, none⟩) hlt (h.self i hi)
  have kr : ∀ j, j < n → j ≠ i → Own e w1 base (V j) (R j) := fun j hj hne => (h.row j hj).keeps hk (fun k h1 h2 => h.apart i j hi hj (Ne.symm hne) k h2 h1)
  have ap : ∀ j, j < n → j ≠ i → Apart (V j) (.slice (some ⟨g', 0, none⟩) len cap) := by
    intro j hj hne k hk1 hk2
    simp [Value.ownBlock] at hk2
    rcases hg with hg | hg
    · exact h.apart i j hi hj (Ne.symm hne) g' hg (by rw [hk1, hk2])
    · have := (h.row j hj).block k hk1; omega
  refine ⟨h.lo, by simp; omega, ?_, ?_, ?_, ?_, ?_⟩
  · intro j hj
    by_cases e : j = i
    · subst e
      rw [upd_at]
      have := kc j
      rw [h.cell j hj] at this
      exact World.cell?_setCell_same _ _ _ this
    · rw [upd_ne _ _ e, World.cell?_setCell_other _ _ _ _ (by intro h; injection h with _ h2; exact e h2.symm), kc]; exact h.cell j hj
  · intro j; rw [World.frozen?_setCell, kf]; exact h.free j
  · intro j hj
    by_cases e : j = i
    · subst e
      rw [upd_at, upd_at]
      exact ho.other (fun k hk => by simp [Value.ownBlock] at hk; omega) j _
    · rw [upd_ne _ _ e, upd_ne _ _ e]
      exact (kr j hj e).other (fun k hk e2 => h.self j hj (by rw [hk, e2])) i _
  · intro a b ha hb hne
    by_cases e1 : a = i
    · subst e1
      rw [upd_at, upd_ne _ _ (Ne.symm hne)]
      exact (ap b hb (Ne.symm hne)).symm
    · by_cases e2 : b = i
      · subst e2
        rw [upd_at, upd_ne _ _ e1]; exact ap a ha e1
      · rw [upd_ne _ _ e1, upd_ne _ _ e2]; exact h.apart a b ha hb hne
  · intro j hj
    by_cases e : j = i
    · subst e; rw [upd_at]; simp [Value.ownBlock]; omega
    · rw [upd_ne _ _ e]; exact h.self j hj

theorem Rows.rd {e : TypeId} {w : World} {base g n cap : Nat} {V : Nat → Value} {R : Nat → List Int} (h : Rows e w base g n V R) (hc : n ≤ cap) (hc' : cap ≤ 9223372036854775807) : RdR w (.slice (some ⟨g, 0, none⟩) n cap) ((List.range n).map R) := by
  refine ⟨some ⟨g, 0, none⟩, cap, by simp, by simpa using hc, hc', fun _ => ⟨g, 0, rfl, h.lt, fun i hi => ?_⟩⟩
  have hi' : i < n := by simpa using hi
  refine ⟨V i, by rw [Nat.zero_add]; exact h.cell i hi', ?_⟩
  rw [gR_map hi']
  exact (h.row i hi').rd

/-- n new rows, all empty. -/
theorem Rows.made {e t : TypeId} {w' : World} {base n g : Nat} (h : w'.ownsRow base t 1 (.slice (some ⟨g, 0, none⟩) n n) n (List.replicate n (.slice none 0 0))) (hb : base ≤ g) (hs : g < w'.heap.size) :
    Rows e w' base g n (fun _ => .slice none 0 0) (fun _ => []) :=
  ⟨hb, hs, fun i hi => by rw [World.ownsRow.cellAt h i (by omega)]; simp [hi], fun i => World.ownsRow.frozenAt h i, fun _ _ => own_nil _ _ _, fun _ _ _ _ _ k hk => by simp [Value.ownBlock] at hk, fun _ _ => by simp [Value.ownBlock]⟩

end Go.Proofs.YtglghdkjppcedaaDoor

/- How a slice and a code, a branch and a code, a cluster and a code are handed back. -/
namespace Go.Proofs.YtglghdkjppcedaaDoor
open Go.RowKit

def RetIC (w : World) (xs : List Int) (c : Int) (e : Ending) (w' : World) : Prop :=
  ∃ a k, e = .returned (.tuple #[.slice a xs.length k, .int .i64 c]) ∧ OwnI w' w.heap.size (.slice a xs.length k) xs ∧ Below w.heap.size w w'
def RetBC (w : World) (xs : List Int) (c : Int) (e : Ending) (w' : World) : Prop :=
  ∃ a k, e = .returned (.tuple #[.agg #[.slice a xs.length k], .int .i64 c]) ∧ OwnI w' w.heap.size (.slice a xs.length k) xs ∧ Below w.heap.size w w'
def RetCC (w : World) (xs ys zs : List Int) (c : Int) (e : Ending) (w' : World) : Prop :=
  ∃ a i b j d k, e = .returned (.tuple #[.agg #[.slice a xs.length i, .slice b ys.length j, .slice d zs.length k], .int .i64 c]) ∧
    Own3 2 w' w.heap.size (.slice a xs.length i) (.slice b ys.length j) (.slice d zs.length k) xs ys zs ∧ Below w.heap.size w w'

/-- The shape of an owned slice. -/
theorem Own.form {e : TypeId} {w : World} {base : Nat} {v : Value} {xs : List Int} (h : Own e w base v xs) : ∃ a k, v = .slice a xs.length k := by
  rcases h.shape with ⟨rfl, rfl⟩ | ⟨g, cap, rfl, _⟩
  · exact ⟨none, 0, rfl⟩
  · exact ⟨_, _, rfl⟩
theorem retI_mk {w w' : World} {v : Value} {xs : List Int} (h : OwnI w' w.heap.size v xs) (hb : Below w.heap.size w w') : RetI w xs (.returned v) w' := by
  obtain ⟨a, k, rfl⟩ := h.form
  exact ⟨a, k, rfl, h, hb⟩
/-- An empty literal slice of the call's own. -/
theorem own_empty (w : World) (base : Nat) (hb : base ≤ w.heap.size) : OwnI (w.alloc (.cells #[] 2)) base (.slice (some ⟨w.heap.size, 0, none⟩) 0 0) [] :=
  World.ownsRow_lit w #[] 0 hb (by unfold maxLen; omega) rfl
end Go.Proofs.YtglghdkjppcedaaDoor

/- The plain part of impl.added: each point's own number plus the numbers of all points to which it is proximate. -/
namespace Go.Proofs.YtglghdkjppcedaaDoor
open Go.RowKit

/-- The first k results. -/
def addTo (own : Nat → Int) (R : List (List Int)) : Nat → List Int
  | 0 => []
  | k + 1 => addTo own R k ++ [own k + sumTo (fun x => gI (addTo own R k) (gI (gR R k) x).toNat) (gR R k).length]
/-- All rows point back, and no number is too large. -/
structure AddOk (own : Nat → Int) (R : List (List Int)) : Prop where
  len : R.length ≤ 400
  rowlen : ∀ k, k < R.length → (gR R k).length ≤ 400
  row : ∀ k, k < R.length → ∀ m, m < (gR R k).length → 0 ≤ gI (gR R k) m ∧ gI (gR R k) m < (k : Int)
  ownb : ∀ k, k < R.length → -1000000000000000 ≤ own k ∧ own k ≤ 1000000000000000
  out : ∀ k, k < R.length → ∀ i, i < k → -1000000000000000 ≤ gI (addTo own R k) i ∧ gI (addTo own R k) i ≤ 1000000000000000

/-- An owned slice that is not empty lies in a block. -/
theorem Own.pos {e : TypeId} {w : World} {base : Nat} {v : Value} {xs : List Int} (h : Own e w base v xs) (hp : 0 < xs.length) : ∃ g cap, v = .slice (some ⟨g, 0, none⟩) xs.length cap ∧ base ≤ g ∧ g < w.heap.size ∧ xs.length ≤ cap ∧ cap ≤ 9223372036854775807 := by
  rcases h.shape with ⟨_, rfl⟩ | h
  · simp at hp
  · exact h
end Go.Proofs.YtglghdkjppcedaaDoor

/- The points to which a point of a cluster is proximate. No program in sight. -/
namespace Go.Proofs.YtglghdkjppcedaaDoor

/-- The points to which the point i of a cluster is proximate. -/
def secL (S : List Int) (i : Nat) : List Int := if 0 ≤ gI S i then [gI S i] else []
def proxOf (P S : List Int) (i : Nat) : List Int := if i = 0 then [] else secL S i ++ [gI P i]
def proxL (P S : List Int) : List (List Int) := (List.range P.length).map (proxOf P S)
end Go.Proofs.YtglghdkjppcedaaDoor

/- Orders of points: the reference's sums and the program's are the same, and stay small. No program in sight. -/
namespace Go.Proofs.YtglghdkjppcedaaDoor

/-- The first k orders for some own numbers. -/
def ordTo (own : Nat → Int) (P S : List Int) : Nat → List Int
  | 0 => []
  | k + 1 => ordTo own P S k ++ [own k + (if k = 0 then 0 else gI (ordTo own P S k) (gI P k).toNat) + (if 0 ≤ gI S k then gI (ordTo own P S k) (gI S k).toNat else 0)]
/-- The bound of the order i. -/
def capI (i : Nat) : Int := 100000 * (2 ^ (i + 1) - 1)
end Go.Proofs.YtglghdkjppcedaaDoor
