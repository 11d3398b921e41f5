/- What a call may have written: 'Keeps M w w'': of what was there only blocks of M have changed. No program in sight. -/
import Derived.Test.YthpnmkghjnipoaaClu
namespace Go.Proofs.Ythpnmkghjnipoaa
open Go.RowKit

structure Keeps (M : Nat → Prop) (w w' : World) : Prop where
  os : w'.os = w.os
  tape : w'.tape = w.tape
  output : w'.output = w.output
  size : w.heap.size ≤ w'.heap.size
  block : ∀ k, k < w.heap.size → ¬ M k → w'.heap[k]? = w.heap[k]?

theorem Keeps.refl (M : Nat → Prop) (w : World) : Keeps M w w := ⟨rfl, rfl, rfl, Nat.le_refl _, fun _ _ _ => rfl⟩
theorem Keeps.of_below {M : Nat → Prop} {w w' : World} (h : Below w.heap.size w w') : Keeps M w w' := ⟨h.os, h.tape, h.output, h.size, fun k hk _ => h.block k hk⟩
theorem Keeps.of_grown {w w' : World} {row : Option Nat} (h : w.grownBy w' row) : Keeps (fun k => row = some k) w w' :=
  ⟨h.os, h.tape, h.output, h.size, fun k hk hn => h.block k hk (fun e => hn e.symm)⟩
theorem Keeps.mono {M M' : Nat → Prop} {w w' : World} (h : Keeps M w w') (hm : ∀ k, M k → M' k) : Keeps M' w w' := ⟨h.os, h.tape, h.output, h.size, fun k hk hn => h.block k hk (fun e => hn (hm k e))⟩
theorem Keeps.trans {M : Nat → Prop} {a b c : World} (h : Keeps M a b) (h' : Keeps M b c) : Keeps M a c :=
  ⟨h'.os.trans h.os, h'.tape.trans h.tape, h'.output.trans h.output, Nat.le_trans h.size h'.size, fun k hk hn => (h'.block k (Nat.lt_of_lt_of_le hk h.size) hn).trans (h.block k hk hn)⟩
theorem Keeps.drewN {M : Nat → Prop} {a w : World} (h : Keeps M a w) (n : Nat) : Keeps M a (w.drewN n) := ⟨h.os, h.tape, h.output, h.size, h.block⟩
theorem Keeps.alloc {M : Nat → Prop} {a w : World} (h : Keeps M a w) (o : Obj) : Keeps M a (w.alloc o) :=
  h.trans (Keeps.of_below ((Below.refl _ _).alloc (Nat.le_refl _) o))
theorem Keeps.setCell {M : Nat → Prop} {a w : World} (h : Keeps M a w) {p : Addr} (hp : M p.block) (u : Value) : Keeps M a (w.setCell p u) :=
  h.trans ⟨rfl, rfl, rfl, by simp [World.setCell], fun k _ hn => Below.heap_setCell _ _ _ _ (fun e => hn (e ▸ hp))⟩
/-- Where only blocks from B on may have been written, nothing below B has changed. -/
theorem Keeps.below {M : Nat → Prop} {w w' : World} {B : Nat} (h : Keeps M w w') (hB : B ≤ w.heap.size) (hm : ∀ k, M k → B ≤ k) : Below B w w' :=
  ⟨h.os, h.tape, h.output, h.size, fun k hk => h.block k (by omega) (fun e => by have := hm k e; omega)⟩

theorem Keeps.cell {M : Nat → Prop} {w w' : World} (h : Keeps M w w') {p : Addr} (hp : p.block < w.heap.size) (hn : ¬ M p.block) : w'.cell? p = w.cell? p := World.cell?_of_block (w := w) (h.block p.block hp hn)
theorem Keeps.frozen {M : Nat → Prop} {w w' : World} (h : Keeps M w w') {p : Addr} (hp : p.block < w.heap.size) (hn : ¬ M p.block) : w'.frozen? p = w.frozen? p := World.frozen?_of_block (w := w) (h.block p.block hp hn)

theorem Own.keeps {e : TypeId} {w w' : World} {base : Nat} {v : Value} {xs : List Int} {M : Nat → Prop} (h : Own e w base v xs) (hk : Keeps M w w') (hn : ∀ g, v.ownBlock = some g → ¬ M g) : Own e w' base v xs := by
  refine ⟨h.1, ?_⟩
  rcases h.2 with hn' | ⟨g, cap, cur, rfl, hbg, hg, rest⟩
  · exact .inl hn'
  · refine .inr ⟨g, cap, cur, rfl, hbg, ?_, rest⟩
    have hlt := (Array.getElem?_eq_some_iff.1 hg).1
    rw [hk.block g hlt (hn g rfl)]; exact hg

/-- The block of an owned slice lies from base on and is there. -/
theorem Own.block {e : TypeId} {w : World} {base : Nat} {v : Value} {xs : List Int} (h : Own e w base v xs) : ∀ g, v.ownBlock = some g → base ≤ g ∧ g < w.heap.size := by
  intro g hg
  rcases h.shape with ⟨rfl, _⟩ | ⟨g', cap, rfl, h1, h2, _⟩
  · simp [Value.ownBlock] at hg
  · simp [Value.ownBlock] at hg; omega

/-- The block g holds the cells cs, none frozen. -/
def Blk (w : World) (g : Nat) (t : TypeId) (cs : Array Value) : Prop := w.heap[g]? = some (.cells cs t (0, 0))
theorem Blk.lt {w : World} {g : Nat} {t : TypeId} {cs : Array Value} (h : Blk w g t cs) : g < w.heap.size := (Array.getElem?_eq_some_iff.1 h).1
theorem Blk.cell {w : World} {g : Nat} {t : TypeId} {cs : Array Value} (h : Blk w g t cs) (i : Nat) : w.cell? ⟨g, i, none⟩ = cs[i]? := by
  unfold Blk at h; simp [World.cell?, h]
theorem Blk.free {w : World} {g : Nat} {t : TypeId} {cs : Array Value} (h : Blk w g t cs) (i : Nat) : w.frozen? ⟨g, i, none⟩ = false := by
  unfold Blk at h; simp [World.frozen?, h]
theorem Blk.new (w : World) (t : TypeId) (cs : Array Value) : Blk (w.alloc (.cells cs t)) w.heap.size t cs := heap_alloc_new w _
theorem Blk.new' {w : World} {t : TypeId} {cs : Array Value} {g : Nat} (hg : g = w.heap.size) : Blk (w.alloc (.cells cs t)) g t cs := by subst hg; exact heap_alloc_new w _
theorem Blk.alloc {w : World} {g : Nat} {t : TypeId} {cs : Array Value} (h : Blk w g t cs) (o : Obj) : Blk (w.alloc o) g t cs := by
  have hl := h.lt
  unfold Blk at *; rw [Below.heap_alloc w o g hl]; exact h
theorem Blk.below {w w' : World} {g B : Nat} {t : TypeId} {cs : Array Value} (h : Blk w g t cs) (hb : Below B w w') (hg : g < B) : Blk w' g t cs := by
  unfold Blk at *; rw [hb.block g hg]; exact h
theorem Blk.stays {w w' : World} {g : Nat} {t : TypeId} {cs : Array Value} (h : Blk w g t cs) (hb : Below w.heap.size w w') : Blk w' g t cs := h.below hb h.lt
theorem Blk.keeps {w w' : World} {g : Nat} {t : TypeId} {cs : Array Value} {M : Nat → Prop} (h : Blk w g t cs) (hk : Keeps M w w') (hg : ¬ M g) : Blk w' g t cs := by
  have hl := h.lt
  unfold Blk at *; rw [hk.block g hl hg]; exact h
theorem Blk.drewN {w : World} {g : Nat} {t : TypeId} {cs : Array Value} (h : Blk w g t cs) (n : Nat) : Blk (w.drewN n) g t cs := h
theorem Blk.set {w : World} {g : Nat} {t : TypeId} {cs : Array Value} (h : Blk w g t cs) (i : Nat) (v : Value) : Blk (w.setCell ⟨g, i, none⟩ v) g t (cs.setIfInBounds i v) := by
  unfold Blk at *; exact heap_setCell_same w g i cs t v h
theorem Blk.other {w : World} {g g' : Nat} {t : TypeId} {cs : Array Value} (h : Blk w g t cs) (hn : g ≠ g') (i : Nat) (v : Value) : Blk (w.setCell ⟨g', i, none⟩ v) g t cs := by
  unfold Blk at *; rw [Below.heap_setCell _ _ _ _ (by simpa using hn)]; exact h

/-- What was owned stays owned while a cell of another block is written. -/
theorem Own.other {e : TypeId} {w : World} {base g : Nat} {v : Value} {xs : List Int} (h : Own e w base v xs) (hn : ∀ k, v.ownBlock = some k → k ≠ g) (i : Nat) (u : Value) : Own e (w.setCell ⟨g, i, none⟩ u) base v xs :=
  h.keeps (M := fun k => k = g) ((Keeps.refl (fun k => k = g) w).setCell (p := ⟨g, i, none⟩) rfl u) (fun k hk e => hn k hk e)
theorem Rd.other {w : World} {v : Value} {xs : List Int} {g B : Nat} (h : Rd w v xs) {w' : World} (hb : Below B w w') (hB : w.heap.size ≤ B) (hg : w.heap.size ≤ g) (i : Nat) (u : Value) : Rd (w'.setCell ⟨g, i, none⟩ u) v xs :=
  h.below (B := w.heap.size) ((hb.mono hB).setCell (p := ⟨g, i, none⟩) hg u) (Nat.le_refl _)

/-- The numbers k, k + 1, .. -/
def iotaI (k : Int) (n : Nat) : List Int := (List.range n).map fun (i : Nat) => k + (i : Int)
@[simp] theorem iotaI_length (k : Int) (n : Nat) : (iotaI k n).length = n := by simp [iotaI]
theorem gI_iota {k : Int} {n i : Nat} (h : i < n) : gI (iotaI k n) i = k + i := by rw [gI_lt (by simpa using h)]; simp [iotaI]

/-- Two slices lie in different blocks (or one of them in none). -/
def Apart (a b : Value) : Prop := ∀ g, a.ownBlock = some g → b.ownBlock ≠ some g
theorem Apart.symm {a b : Value} (h : Apart a b) : Apart b a := fun g hb ha => h g ha hb
/-- An elder slice and one that was made later. -/
theorem apart_of {e : TypeId} {w w' : World} {base base' : Nat} {a b : Value} {xs ys : List Int} (h : Own e w base a xs) (h' : Own e w' base' b ys) (hle : w.heap.size ≤ base') : Apart a b := by
  intro g ha hb
  have := h.block g ha
  have := h'.block g hb
  omega

/-- Three slices in blocks of their own. -/
structure Own3 (e : TypeId) (w : World) (base : Nat) (u1 u2 u3 : Value) (xs ys zs : List Int) : Prop where
  a : Own e w base u1 xs
  b : Own e w base u2 ys
  c : Own e w base u3 zs
  ab : Apart u1 u2
  ac : Apart u1 u3
  bc : Apart u2 u3

/-- The blocks of three slices. -/
def Own3.mine (a b c : Value) (k : Nat) : Prop := a.ownBlock = some k ∨ b.ownBlock = some k ∨ c.ownBlock = some k

theorem Own3.keeps {e : TypeId} {w w' : World} {base : Nat} {a b c : Value} {xs ys zs : List Int} {M : Nat → Prop} (h : Own3 e w base a b c xs ys zs) (hk : Keeps M w w') (hn : ∀ g, Own3.mine a b c g → ¬ M g) : Own3 e w' base a b c xs ys zs :=
  ⟨h.a.keeps hk (fun g hg => hn g (.inl hg)), h.b.keeps hk (fun g hg => hn g (.inr (.inl hg))), h.c.keeps hk (fun g hg => hn g (.inr (.inr hg))), h.ab, h.ac, h.bc⟩
theorem Own3.below {e : TypeId} {w w' : World} {base : Nat} {a b c : Value} {xs ys zs : List Int} (h : Own3 e w base a b c xs ys zs) (hb : Below w.heap.size w w') : Own3 e w' base a b c xs ys zs :=
  ⟨h.a.below hb (Nat.le_refl _), h.b.below hb (Nat.le_refl _), h.c.below hb (Nat.le_refl _), h.ab, h.ac, h.bc⟩
theorem Own3.block {e : TypeId} {w : World} {base : Nat} {a b c : Value} {xs ys zs : List Int} (h : Own3 e w base a b c xs ys zs) : ∀ g, Own3.mine a b c g → base ≤ g ∧ g < w.heap.size := by
  intro g hg
  rcases hg with hg | hg | hg
  · exact h.a.block g hg
  · exact h.b.block g hg
  · exact h.c.block g hg
theorem Own3.base_le {e : TypeId} {w : World} {base base' : Nat} {a b c : Value} {xs ys zs : List Int} (h : Own3 e w base a b c xs ys zs) (hB : base' ≤ base) : Own3 e w base' a b c xs ys zs :=
  ⟨h.a.base_le hB, h.b.base_le hB, h.c.base_le hB, h.ab, h.ac, h.bc⟩

end Go.Proofs.Ythpnmkghjnipoaa
