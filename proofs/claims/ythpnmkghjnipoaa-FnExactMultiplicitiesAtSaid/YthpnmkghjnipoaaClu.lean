/- What a cluster is, in plain words; the box in which a struct that comes in by value lies. No program in sight. -/
import Derived.Test.YthpnmkghjnipoaaLib
namespace Go.Proofs.Ythpnmkghjnipoaa
open Go.RowKit

/-- The point i stands in its place: parent and second are as they have to be. -/
def placeOk (P S : List Int) (i : Nat) : Prop :=
  (i = 0 ∧ gI P i = -1 ∧ gI S i = -1) ∨
  (0 < i ∧ 0 ≤ gI P i ∧ gI P i < (i : Int) ∧ (gI S i = -1 ∨ (0 ≤ gI S i ∧ (gI S i = gI P (gI P i).toNat ∨ gI S i = gI S (gI P i).toNat))))
instance (P S : List Int) (i : Nat) : Decidable (placeOk P S i) := by unfold placeOk; infer_instance

/-- No point before i has the parent and the second of the satellite i. -/
def freshOk (P S : List Int) (i : Nat) : Prop := ∀ j, j < i → ¬ (0 ≤ gI S i ∧ gI S i = gI S j ∧ gI P i = gI P j)
instance (P S : List Int) (i : Nat) : Decidable (freshOk P S i) := by unfold freshOk; infer_instance

/-- P, S, W are the parents, seconds and weights of a cluster. -/
def CluOk (P S W : List Int) : Prop :=
  (0 < P.length ∧ P.length ≤ 24 ∧ S.length = P.length ∧ W.length = P.length) ∧ (∀ i, i < W.length → -100000 ≤ gI W i ∧ gI W i ≤ 100000) ∧ (∀ i, i < P.length → placeOk P S i ∧ freshOk P S i)
instance (P S W : List Int) : Decidable (CluOk P S W) := by unfold CluOk; infer_instance

def cluB (P S W : List Int) : Bool := decide (CluOk P S W)
theorem cluB_iff {P S W : List Int} : cluB P S W = true ↔ CluOk P S W := by simp [cluB]
theorem cluB_no {P S W : List Int} (h : ¬ CluOk P S W) : cluB P S W = false := by simp only [cluB, decide_eq_false_iff_not]; exact h

def placeB (P S : List Int) (i : Nat) : Bool := decide (placeOk P S i)
theorem placeB_yes {P S : List Int} {i : Nat} (h : placeOk P S i) : placeB P S i = true := by simp [placeB, h]
theorem placeB_no {P S : List Int} {i : Nat} (h : ¬ placeOk P S i) : placeB P S i = false := by simp [placeB, h]

/-- The three fields of a struct that came in by value lie in the block w.heap.size; behind it nothing of what was there has changed. -/
def Boxed (w wr : World) (t : TypeId) (cs : Array Value) : Prop := Below (w.heap.size + 1) (w.alloc (.cells cs t)) wr

theorem Boxed.start (w : World) (t : TypeId) (cs : Array Value) : Boxed w (w.alloc (.cells cs t)) t cs := Below.refl _ _
theorem Boxed.below {w wr : World} {t : TypeId} {cs : Array Value} (h : Boxed w wr t cs) : Below w.heap.size w wr :=
  ((Below.refl w.heap.size w).alloc (Nat.le_refl _) (.cells cs t)).trans (h.mono (Nat.le_succ _))
theorem Boxed.size {w wr : World} {t : TypeId} {cs : Array Value} (h : Boxed w wr t cs) : w.heap.size < wr.heap.size := by
  have := Below.size (show Below (w.heap.size + 1) (w.alloc (.cells cs t)) wr from h)
  simp at this; omega
theorem Boxed.cell {w wr : World} {t : TypeId} {cs : Array Value} (h : Boxed w wr t cs) (i : Nat) : wr.cell? ⟨w.heap.size, i, none⟩ = cs[i]? := by
  rw [Below.cell (show Below (w.heap.size + 1) (w.alloc (.cells cs t)) wr from h) (p := ⟨w.heap.size, i, none⟩) (Nat.lt_succ_self _)]
  exact World.cell?_alloc_at cs t w.heap.size i rfl
theorem Boxed.free {w wr : World} {t : TypeId} {cs : Array Value} (h : Boxed w wr t cs) (i : Nat) : wr.frozen? ⟨w.heap.size, i, none⟩ = false := by
  rw [Below.frozen (show Below (w.heap.size + 1) (w.alloc (.cells cs t)) wr from h) (p := ⟨w.heap.size, i, none⟩) (Nat.lt_succ_self _)]
  exact World.frozen?_alloc_at cs t w.heap.size i rfl
theorem Boxed.trans {w wr w' : World} {t : TypeId} {cs : Array Value} (h : Boxed w wr t cs) (h' : Below wr.heap.size wr w') : Boxed w w' t cs :=
  Below.trans (show Below (w.heap.size + 1) (w.alloc (.cells cs t)) wr from h) (h'.mono h.size)
theorem Boxed.drewN {w wr : World} {t : TypeId} {cs : Array Value} (h : Boxed w wr t cs) (n : Nat) : Boxed w (wr.drewN n) t cs := h.trans (below_drewN (Below.refl _ _) n)
theorem Boxed.rd {w wr : World} {t : TypeId} {cs : Array Value} {v : Value} {xs : List Int} (h : Boxed w wr t cs) (hr : Rd w v xs) : Rd wr v xs := hr.below h.below (Nat.le_refl _)

/-- A read-only function's frame out of 'Below'. -/
theorem below_step {w w1 w2 : World} (h : Below w.heap.size w w1) (h' : Below w1.heap.size w1 w2) : Below w.heap.size w w2 := h.trans (h'.mono h.size)

theorem Rd.cellAt {w : World} {v : Value} {xs : List Int} (h : Rd w v xs) {i : Nat} (hi : i < xs.length) :
    ∃ b off cap, v = .slice (some ⟨b, off, none⟩) xs.length cap ∧ b < w.heap.size ∧ w.cell? ⟨b, off + i, none⟩ = some (.int .i64 (gI xs i)) := by
  obtain ⟨a, cap, rfl, _, _, h4⟩ := h
  obtain ⟨b, off, rfl, hb, hc⟩ := h4 (by intro e; simp [e] at hi)
  exact ⟨b, off, cap, rfl, hb, hc i hi⟩

/-- The cells of a slice that is not empty, all at once. -/
theorem Rd.cells {w : World} {v : Value} {xs : List Int} (h : Rd w v xs) (hp : 0 < xs.length) :
    ∃ b off cap, v = .slice (some ⟨b, off, none⟩) xs.length cap ∧ xs.length ≤ cap ∧ cap ≤ 9223372036854775807 ∧ b < w.heap.size ∧ ∀ i, i < xs.length → w.cell? ⟨b, off + i, none⟩ = some (.int .i64 (gI xs i)) := by
  obtain ⟨a, cap, rfl, h1, h2, h4⟩ := h
  obtain ⟨b, off, rfl, hb, hc⟩ := h4 (by intro e; simp [e] at hp)
  exact ⟨b, off, cap, rfl, h1, h2, hb, hc⟩

end Go.Proofs.Ythpnmkghjnipoaa
