/- Contracts of the two programs' functions on one cluster: IsCluster. -/
import Derived.Test.YtiinceflafigeaaDoorNear
import Derived.Test.YtiinceflafigeaaDoorHelpB
import Derived.Test.YtiinceflafigeaaDoorRev
import Derived.Laws.AppendOwnNone
namespace Go.Proofs.YtiinceflafigeaaDoor
open Go.RowKit

end Go.Proofs.YtiinceflafigeaaDoor

/- Contracts: PathOf. -/
namespace Go.Proofs.YtiinceflafigeaaDoor
open Go.RowKit

/-- 'append(s, t...)', both slices the call's own. -/
theorem wpList_extendO {P : Program} {w : World} {ops : Array Oper} {rest : List Oper} {o : Oper} {a : Act} {Q : Exit → Act → World → Prop} (hgd : o.guard = none) (s x : Operand) (t : TypeId)
    (ho : o.op = .call { callee := .builtin .append, args := #[s, x], argTypes := #[t, t] })
    (base base' : Nat) (e : TypeId) (i : TypeInfo) (ht : P.underlying t = some (.slice e)) (hi : P.info? e = some i) (hz : i.zero = some (.int .i64 0)) (hsize : i.size = 1) (hby : i.bytes = 8)
    (v u : Value) (xs ys : List Int) (hs : a.eval s = v) (hown : Own e w base v xs) (hx : a.eval x = u) (hu : Own e w base' u ys)
    (hlen : xs.length + ys.length ≤ 1000000000000) (hbase : base ≤ w.heap.size)
    (h : ∀ v' w', Own e w' base v' (xs ++ ys) → Keeps (fun k => v.ownBlock = some k) w w' → wpList P ops Q rest (a.put o.dst v') w') :
    wpList P ops Q (o :: rest) a w := by
  rcases hu.shape with ⟨rfl, rfl⟩ | ⟨g, c, rfl, h1, h2, h3, h4⟩
  · refine wpList_append_own_none hgd s x t ho base e i 1 ht hi v xs.length (xs.map (Value.int .i64)) hs hown hx ?_
    exact h v w (by rw [List.append_nil]; exact hown) (Keeps.refl _ _)
  · refine wpList_append_own _ hgd s x t ho base e i (.int .i64 0) 1 8 ht hi hz hsize hby rfl (by decide) v xs.length (xs.map (Value.int .i64)) hs hown ⟨g, 0, none⟩ ys.length c (ys.map (Value.int .i64)) hx (by simp) ?_ ?_ ?_ ?_ hbase ?_
    · intro j y hj
      have hjl : j < ys.length := by
        have := (List.getElem?_eq_some_iff.1 hj).1
        simpa using this
      have hy : y = .int .i64 (gI ys j) := by
        rw [List.getElem?_map, gI_some hjl] at hj
        simpa using hj.symm
      rw [Addr.add_lit, Nat.zero_add, hu.cell j hjl, hy]
    · intro y hy; simp at hy; obtain ⟨n, _, rfl⟩ := hy; rfl
    · unfold maxLen; omega
    · omega
    · intro v' w' ho' hg _
      refine h v' w' ?_ (Keeps.of_grown hg)
      unfold Own
      rw [List.length_append, List.map_append]
      exact ho'

/-- A literal of one number, the call's own. -/
theorem own_one {e : TypeId} (w : World) (base : Nat) (hb : base ≤ w.heap.size) (x : Int) : Own e (w.alloc (.cells #[.int .i64 x] e)) base (.slice (some ⟨w.heap.size, 0, none⟩) 1 1) [x] :=
  World.ownsRow_lit w #[.int .i64 x] 1 hb (by unfold maxLen; omega) rfl

/-- The points from the root to the point i; f bounds their number. -/
def pathUp (P : List Int) : Nat → Int → List Int
  | 0, _ => []
  | f + 1, i => if i < 0 then [] else pathUp P f (gI P i.toNat) ++ [i]
theorem pathUp_neg (P : List Int) {f : Nat} {i : Int} (h : i < 0) : pathUp P f i = [] := by
  cases f <;> simp [pathUp, h]
theorem pathUp_succ (P : List Int) {f : Nat} {i : Int} (h : 0 ≤ i) : pathUp P (f + 1) i = pathUp P f (gI P i.toNat) ++ [i] := by
  rw [pathUp, if_neg (by omega)]
theorem pathUp_len (P : List Int) (f : Nat) (i : Int) : (pathUp P f i).length ≤ f := by
  induction f generalizing i with
  | zero => simp [pathUp]
  | succ f ih =>
    rw [pathUp]
    split
    · simp
    · rw [List.length_append]; have := ih (gI P i.toNat); simp; omega
def pathTo (P : List Int) (i : Int) : List Int := pathUp P (P.length + 1) i

/-- A round: the rest of the path is one shorter. -/
theorem path_step {P S W : List Int} (h : CluOk P S W) {k : Nat} {i : Int} (h0 : 0 ≤ i) (hi : i + k < (P.length : Int)) :
    pathUp P (P.length + 1 - k) i = pathUp P (P.length + 1 - (k + 1)) (gI P i.toNat) ++ [i] ∧ gI P i.toNat + ((k + 1 : Nat) : Int) < P.length ∧ -1 ≤ gI P i.toNat ∧ gI P i.toNat < i := by
  have hk : P.length + 1 - k = (P.length + 1 - (k + 1)) + 1 := by omega
  refine ⟨by rw [hk, pathUp_succ P h0], ?_⟩
  by_cases e : i = 0
  · subst e
    have := (clu_zero h).1
    rw [show ((0 : Int).toNat) = 0 from rfl, this]
    omega
  · obtain ⟨h1, h2, h3⟩ := clu_place h (k := i.toNat) (by omega) (by omega)
    omega

/-- The point is one of the cluster. -/
def ptB (P S W : List Int) (n : Int) : Bool := cluB P S W && inB n 0 ((P.length : Int) - 1)
/-- The code of a cluster and a point. -/
def ptC (P S W : List Int) (n : Int) : Int := if cluB P S W then (if inB n 0 ((P.length : Int) - 1) then 0 else 2) else 1
theorem ptC_bad {P S W : List Int} {n : Int} (h : cluB P S W = false) : ptC P S W n = 1 := by simp [ptC, h]
theorem ptC_out {P S W : List Int} {n : Int} (h : cluB P S W = true) (h2 : inB n 0 ((P.length : Int) - 1) = false) : ptC P S W n = 2 := by simp [ptC, h, h2]
theorem ptC_ok {P S W : List Int} {n : Int} (h : cluB P S W = true) (h2 : inB n 0 ((P.length : Int) - 1) = true) : ptC P S W n = 0 := by simp [ptC, h, h2]
theorem ptB_bad {P S W : List Int} {n : Int} (h : cluB P S W = false) : ptB P S W n = false := by simp [ptB, h]
theorem ptB_out {P S W : List Int} {n : Int} (h2 : inB n 0 ((P.length : Int) - 1) = false) : ptB P S W n = false := by simp [ptB, h2]
theorem ptB_ok {P S W : List Int} {n : Int} (h : cluB P S W = true) (h2 : inB n 0 ((P.length : Int) - 1) = true) : ptB P S W n = true := by simp [ptB, h, h2]

end Go.Proofs.YtiinceflafigeaaDoor
