/- A struct of three slices in a block of its own. -/
import Derived.Test.YtglghdkjppcedaaGreatDoorPart2
import Derived.Test.YtglghdkjppcedaaGreatDoorPart14
namespace Go.Proofs.YtglghdkjppcedaaGreatDoor
open Go.RowKit

theorem Keeps.joinK {M N : Nat → Prop} {a b c : World} (h : Keeps M a b) (h' : Keeps N b c) (hMN : ∀ k, k < a.heap.size → N k → M k) : Keeps M a c :=
  ⟨h'.os.trans h.os, h'.tape.trans h.tape, h'.output.trans h.output, Nat.le_trans h.size h'.size, fun k hk hn => (h'.block k (Nat.lt_of_lt_of_le hk h.size) (fun e => hn (hMN k hk e))).trans (h.block k hk hn)⟩
theorem rd_newsK {w : World} {g : Nat} (hg : g = w.heap.size) (t : TypeId) (xs : List Int) (hl : xs.length ≤ 1000) : Rd (w.alloc (.cells (xs.map (Value.int .i64)).toArray t)) (.slice (some ⟨g, 0, none⟩) xs.length xs.length) xs := by
  subst hg
  refine ⟨_, xs.length, rfl, Nat.le_refl _, by omega, fun _ => ⟨w.heap.size, 0, rfl, by simp, fun i hi => ?_⟩⟩
  rw [(Blk.new w t _).cell, Nat.zero_add]
  simp [gI_lt hi, hi]
theorem pickK {P : Int → Prop} {xs : List Int} {j : Nat} (hj : j < xs.length) (h : ∀ x, x ∈ xs → P x) : P (gI xs j) := h _ (gI_mem hj)
/-- A struct of three slices lies in the block gb; the slices lie in blocks of their own. -/
structure ClB (w : World) (gb base : Nat) (p s q : Value) (P S W : List Int) : Prop where
  blk : Blk w gb 26 #[p, s, q]
  own : Own3 2 w base p s q P S W
  ne : ∀ g, Own3.mine p s q g → g ≠ gb
theorem ClB.keeps {w w' : World} {gb base : Nat} {p s q : Value} {P S W : List Int} {M : Nat → Prop} (h : ClB w gb base p s q P S W) (hk : Keeps M w w') (hb : ¬ M gb) (hM : ∀ g, base ≤ g → ¬ M g) : ClB w' gb base p s q P S W :=
  ⟨h.blk.keeps hk hb, h.own.keeps hk (fun g hg => hM g (h.own.block g hg).1), h.ne⟩
theorem ClB.below {w w' : World} {gb base : Nat} {p s q : Value} {P S W : List Int} (h : ClB w gb base p s q P S W) (hb : Below w.heap.size w w') : ClB w' gb base p s q P S W :=
  ⟨h.blk.stays hb, h.own.below hb, h.ne⟩
/-- One number is put behind the first slice. -/
theorem ClB.push0 {w w' : World} {gb base g c n : Nat} {p s q : Value} {P S W : List Int} {y : Int} (h : ClB w gb base p s q P S W) (ho : OwnI w' base (.slice (some ⟨g, 0, none⟩) n c) (P ++ [y])) (hk : Keeps (fun k => p.ownBlock = some k) w w') (hl : p.ownBlock = some g ∨ w.heap.size ≤ g) :
    ClB (w'.setCell ⟨gb, 0, none⟩ (.slice (some ⟨g, 0, none⟩) n c)) gb base (.slice (some ⟨g, 0, none⟩) n c) s q (P ++ [y]) S W := by
  have hgb := h.blk.lt
  have h1 : ∀ k, s.ownBlock = some k → k ≠ g ∧ k ≠ gb := fun k e => ⟨fun e2 => by
    subst e2
    rcases hl with hl | hl
    · exact h.own.ab k hl e
    · have := (h.own.b.block k e).2; omega, h.ne k (.inr (.inl e))⟩
  have h2 : ∀ k, q.ownBlock = some k → k ≠ g ∧ k ≠ gb := fun k e => ⟨fun e2 => by
    subst e2
    rcases hl with hl | hl
    · exact h.own.ac k hl e
    · have := (h.own.c.block k e).2; omega, h.ne k (.inr (.inr e))⟩
  have h0 : g ≠ gb := by
    rcases hl with hl | hl
    · exact h.ne g (.inl hl)
    · omega
  refine ⟨?_, ⟨?_, ?_, ?_, ?_, ?_, h.own.bc⟩, ?_⟩
  · exact (h.blk.keeps hk (fun e => h.ne gb (.inl e) rfl)).set 0 _
  · exact ho.other (g := gb) (fun k e => by simp [Value.ownBlock] at e; omega) 0 _
  · exact (h.own.b.keeps hk (fun k e e' => h.own.ab k e' e)).other (g := gb) (fun k e => (h1 k e).2) 0 _
  · exact (h.own.c.keeps hk (fun k e e' => h.own.ac k e' e)).other (g := gb) (fun k e => (h2 k e).2) 0 _
  · intro k e e'; simp [Value.ownBlock] at e; exact (h1 k e').1 e.symm
  · intro k e e'; simp [Value.ownBlock] at e; exact (h2 k e').1 e.symm
  · rintro k (e | e | e)
    · simp [Value.ownBlock] at e; omega
    · exact (h1 k e).2
    · exact (h2 k e).2
/-- .. behind the second. -/
theorem ClB.push1 {w w' : World} {gb base g c n : Nat} {p s q : Value} {P S W : List Int} {y : Int} (h : ClB w gb base p s q P S W) (ho : OwnI w' base (.slice (some ⟨g, 0, none⟩) n c) (S ++ [y])) (hk : Keeps (fun k => s.ownBlock = some k) w w') (hl : s.ownBlock = some g ∨ w.heap.size ≤ g) :
    ClB (w'.setCell ⟨gb, 1, none⟩ (.slice (some ⟨g, 0, none⟩) n c)) gb base p (.slice (some ⟨g, 0, none⟩) n c) q P (S ++ [y]) W := by
  have hgb := h.blk.lt
  have h1 : ∀ k, p.ownBlock = some k → k ≠ g ∧ k ≠ gb := fun k e => ⟨fun e2 => by
    subst e2
    rcases hl with hl | hl
    · exact h.own.ab k e hl
    · have := (h.own.a.block k e).2; omega, h.ne k (.inl e)⟩
  have h2 : ∀ k, q.ownBlock = some k → k ≠ g ∧ k ≠ gb := fun k e => ⟨fun e2 => by
    subst e2
    rcases hl with hl | hl
    · exact h.own.bc k hl e
    · have := (h.own.c.block k e).2; omega, h.ne k (.inr (.inr e))⟩
  have h0 : g ≠ gb := by
    rcases hl with hl | hl
    · exact h.ne g (.inr (.inl hl))
    · omega
  refine ⟨?_, ⟨?_, ?_, ?_, ?_, h.own.ac, ?_⟩, ?_⟩
  · exact (h.blk.keeps hk (fun e => h.ne gb (.inr (.inl e)) rfl)).set 1 _
  · exact (h.own.a.keeps hk (fun k e e' => h.own.ab k e e')).other (g := gb) (fun k e => (h1 k e).2) 1 _
  · exact ho.other (g := gb) (fun k e => by simp [Value.ownBlock] at e; omega) 1 _
  · exact (h.own.c.keeps hk (fun k e e' => h.own.bc k e' e)).other (g := gb) (fun k e => (h2 k e).2) 1 _
  · intro k e e'; simp [Value.ownBlock] at e'; exact (h1 k e).1 e'.symm
  · intro k e e'; simp [Value.ownBlock] at e; exact (h2 k e').1 e.symm
  · rintro k (e | e | e)
    · exact (h1 k e).2
    · simp [Value.ownBlock] at e; omega
    · exact (h2 k e).2
/-- .. behind the third. -/
theorem ClB.push2 {w w' : World} {gb base g c n : Nat} {p s q : Value} {P S W : List Int} {y : Int} (h : ClB w gb base p s q P S W) (ho : OwnI w' base (.slice (some ⟨g, 0, none⟩) n c) (W ++ [y])) (hk : Keeps (fun k => q.ownBlock = some k) w w') (hl : q.ownBlock = some g ∨ w.heap.size ≤ g) :
    ClB (w'.setCell ⟨gb, 2, none⟩ (.slice (some ⟨g, 0, none⟩) n c)) gb base p s (.slice (some ⟨g, 0, none⟩) n c) P S (W ++ [y]) := by
  have hgb := h.blk.lt
  have h1 : ∀ k, p.ownBlock = some k → k ≠ g ∧ k ≠ gb := fun k e => ⟨fun e2 => by
    subst e2
    rcases hl with hl | hl
    · exact h.own.ac k e hl
    · have := (h.own.a.block k e).2; omega, h.ne k (.inl e)⟩
  have h2 : ∀ k, s.ownBlock = some k → k ≠ g ∧ k ≠ gb := fun k e => ⟨fun e2 => by
    subst e2
    rcases hl with hl | hl
    · exact h.own.bc k e hl
    · have := (h.own.b.block k e).2; omega, h.ne k (.inr (.inl e))⟩
  have h0 : g ≠ gb := by
    rcases hl with hl | hl
    · exact h.ne g (.inr (.inr hl))
    · omega
  refine ⟨?_, ⟨?_, ?_, ?_, h.own.ab, ?_, ?_⟩, ?_⟩
  · exact (h.blk.keeps hk (fun e => h.ne gb (.inr (.inr e)) rfl)).set 2 _
  · exact (h.own.a.keeps hk (fun k e e' => h.own.ac k e e')).other (g := gb) (fun k e => (h1 k e).2) 2 _
  · exact (h.own.b.keeps hk (fun k e e' => h.own.bc k e e')).other (g := gb) (fun k e => (h2 k e).2) 2 _
  · exact ho.other (g := gb) (fun k e => by simp [Value.ownBlock] at e; omega) 2 _
  · intro k e e'; simp [Value.ownBlock] at e'; exact (h1 k e).1 e'.symm
  · intro k e e'; simp [Value.ownBlock] at e'; exact (h2 k e).1 e'.symm
  · rintro k (e | e | e)
    · exact (h1 k e).2
    · exact (h2 k e).2
    · simp [Value.ownBlock] at e; omega
/-- What such a push leaves alone. -/
theorem keeps_push {w w' : World} {gb base j : Nat} {v u : Value} (hk : Keeps (fun k => v.ownBlock = some k) w w') (hv : ∀ k, v.ownBlock = some k → base ≤ k) : Keeps (fun k => k = gb ∨ base ≤ k) w (w'.setCell ⟨gb, j, none⟩ u) :=
  (hk.mono (fun k e => .inr (hv k e))).setCell (p := ⟨gb, j, none⟩) (.inl rfl) u

end Go.Proofs.YtglghdkjppcedaaGreatDoor
