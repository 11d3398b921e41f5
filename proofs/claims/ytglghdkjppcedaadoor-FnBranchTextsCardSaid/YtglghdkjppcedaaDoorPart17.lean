/- Lists of lists that a call owns: what is handed back, and how a row is put behind. No program in sight. -/
import Derived.Test.YtglghdkjppcedaaDoorPart1
import Derived.Deep.AppendLies
import Derived.Test.YtglghdkjppcedaaDoorPart15
import Derived.Test.YtglghdkjppcedaaDoorPart6
import Derived.Test.YtglghdkjppcedaaDoorPart3
import Derived.Deep.DeepCutAuto
import Derived.Deep.RegionHeld3
import Derived.Deep.RegionLaw
import Derived.Test.YtglghdkjppcedaaDoorPart16
import Derived.Deep.OwnRows
import Derived.Test.YtglghdkjppcedaaDoorPart14
import Derived.BigQuiet
import Derived.Laws.BitsAllLaws
namespace Go.Proofs.YtglghdkjppcedaaDoor
open Go.RowKit

/-- The rows R lie, each apart from the others, in the slices V; the slice v has these. e: the number of int64. -/
structure OwnM (e : TypeId) (w : World) (base : Nat) (v : Value) (V : Nat → Value) (R : List (List Int)) : Prop where
  shape : (v = .slice none 0 0 ∧ R = []) ∨ ∃ g cap, v = .slice (some ⟨g, 0, none⟩) R.length cap ∧ base ≤ g ∧ g < w.heap.size ∧ R.length ≤ cap ∧ cap ≤ 9223372036854775807 ∧ ∀ i, i < R.length → w.cell? ⟨g, i, none⟩ = some (V i)
  row : ∀ i, i < R.length → Own e w base (V i) (gR R i)
  apart : ∀ i j, i < R.length → j < R.length → i ≠ j → Apart (V i) (V j)
  self : ∀ i, i < R.length → Apart (V i) v

/-- The blocks of a list of lists. -/
def OwnM.mine (v : Value) (V : Nat → Value) (R : List (List Int)) (k : Nat) : Prop := v.ownBlock = some k ∨ ∃ i, i < R.length ∧ (V i).ownBlock = some k

theorem OwnM.nil (e : TypeId) (w : World) (base : Nat) : OwnM e w base (.slice none 0 0) (fun _ => .slice none 0 0) [] :=
  ⟨.inl ⟨rfl, rfl⟩, fun i hi => by simp at hi, fun i _ hi => by simp at hi, fun i hi => by simp at hi⟩
theorem OwnM.form {e : TypeId} {w : World} {base : Nat} {v : Value} {V : Nat → Value} {R : List (List Int)} (h : OwnM e w base v V R) : ∃ a k, v = .slice a R.length k := by
  rcases h.shape with ⟨rfl, rfl⟩ | ⟨g, cap, rfl, _⟩
  · exact ⟨none, 0, rfl⟩
  · exact ⟨_, _, rfl⟩
theorem OwnM.block {e : TypeId} {w : World} {base : Nat} {v : Value} {V : Nat → Value} {R : List (List Int)} (h : OwnM e w base v V R) : ∀ g, OwnM.mine v V R g → base ≤ g ∧ g < w.heap.size := by
  intro g hg
  rcases hg with hg | ⟨i, hi, hg⟩
  · rcases h.shape with ⟨rfl, _⟩ | ⟨g', cap, rfl, h1, h2, _⟩
    · simp [Value.ownBlock] at hg
    · simp [Value.ownBlock] at hg; omega
  · exact (h.row i hi).block g hg
theorem OwnM.keeps {e : TypeId} {w w' : World} {base : Nat} {v : Value} {V : Nat → Value} {R : List (List Int)} {M : Nat → Prop} (h : OwnM e w base v V R) (hk : Keeps M w w') (hn : ∀ g, OwnM.mine v V R g → ¬ M g) : OwnM e w' base v V R := by
  refine ⟨?_, fun i hi => (h.row i hi).keeps hk (fun g hg => hn g (.inr ⟨i, hi, hg⟩)), h.apart, h.self⟩
  rcases h.shape with hs | ⟨g, cap, rfl, h1, h2, h3, h4, h5⟩
  · exact .inl hs
  · refine .inr ⟨g, cap, rfl, h1, Nat.lt_of_lt_of_le h2 hk.size, h3, h4, fun i hi => ?_⟩
    rw [hk.cell (p := ⟨g, i, none⟩) h2 (hn g (.inl rfl))]; exact h5 i hi
theorem OwnM.below {e : TypeId} {w w' : World} {base : Nat} {v : Value} {V : Nat → Value} {R : List (List Int)} (h : OwnM e w base v V R) (hb : Below w.heap.size w w') : OwnM e w' base v V R :=
  h.keeps (M := fun _ => False) (Keeps.of_below hb) (fun _ _ => id)
theorem OwnM.base_le {e : TypeId} {w : World} {base base' : Nat} {v : Value} {V : Nat → Value} {R : List (List Int)} (h : OwnM e w base v V R) (hB : base' ≤ base) : OwnM e w base' v V R := by
  refine ⟨?_, fun i hi => (h.row i hi).base_le hB, h.apart, h.self⟩
  rcases h.shape with hs | ⟨g, cap, rfl, h1, h2⟩
  · exact .inl hs
  · exact .inr ⟨g, cap, rfl, Nat.le_trans hB h1, h2⟩
theorem OwnM.rd {e : TypeId} {w : World} {base : Nat} {v : Value} {V : Nat → Value} {R : List (List Int)} (h : OwnM e w base v V R) : RdR w v R := by
  rcases h.shape with ⟨rfl, rfl⟩ | ⟨g, cap, rfl, h1, h2, h3, h4, h5⟩
  · exact ⟨none, 0, rfl, by simp, by simp, fun h => absurd rfl h⟩
  · exact ⟨_, cap, rfl, h3, h4, fun _ => ⟨g, 0, rfl, h2, fun i hi => ⟨V i, by rw [Nat.zero_add]; exact h5 i hi, (h.row i hi).rd⟩⟩⟩
/-- A list of lists that grows: the outer block is known whole. te: the number of []int64. -/
structure GrowM (e te : TypeId) (w : World) (base : Nat) (v : Value) (vs : List Value) (R : List (List Int)) : Prop where
  len : vs.length = R.length
  out : w.ownsRow base te 1 v vs.length vs
  row : ∀ i, i < R.length → Own e w base (vs.getD i (.slice none 0 0)) (gR R i)
  apart : ∀ i j, i < R.length → j < R.length → i ≠ j → Apart (vs.getD i (.slice none 0 0)) (vs.getD j (.slice none 0 0))
  self : ∀ i, i < R.length → Apart (vs.getD i (.slice none 0 0)) v

theorem GrowM.own {e te : TypeId} {w : World} {base : Nat} {v : Value} {vs : List Value} {R : List (List Int)} (h : GrowM e te w base v vs R) : OwnM e w base v (fun i => vs.getD i (.slice none 0 0)) R := by
  refine ⟨?_, h.row, h.apart, h.self⟩
  have hl := h.len
  rcases h.out.2 with ⟨h1, h2⟩ | ⟨g, cap, cur, h1, h2, h3, h4, h5, _⟩
  · exact .inl ⟨h1, List.eq_nil_of_length_eq_zero (by omega)⟩
  · refine .inr ⟨g, cap, by rw [h1, hl], h2, (Array.getElem?_eq_some_iff.1 h3).1, by omega, by unfold maxLen at h5; omega, fun i hi => ?_⟩
    have ho := h.out
    rw [h1] at ho
    rw [World.ownsRow.cellAt ho i (by omega)]
    simp [List.getD, List.getElem?_eq_getElem (show i < vs.length by omega)]
theorem GrowM.below {e te : TypeId} {w w' : World} {base : Nat} {v : Value} {vs : List Value} {R : List (List Int)} (h : GrowM e te w base v vs R) (hb : Below w.heap.size w w') : GrowM e te w' base v vs R := by
  refine ⟨h.len, ⟨h.out.1, ?_⟩, fun i hi => (h.row i hi).below hb (Nat.le_refl _), h.apart, h.self⟩
  rcases h.out.2 with hn | ⟨g, cap, cur, hv, hbg, hg, rest⟩
  · exact .inl hn
  · refine .inr ⟨g, cap, cur, hv, hbg, ?_, rest⟩
    have hlt := (Array.getElem?_eq_some_iff.1 hg).1
    rw [hb.block g (by omega)]; exact hg
theorem GrowM.keeps {e te : TypeId} {w w' : World} {base : Nat} {v : Value} {vs : List Value} {R : List (List Int)} {M : Nat → Prop} (h : GrowM e te w base v vs R) (hk : Keeps M w w') (hn : ∀ g, OwnM.mine v (fun i => vs.getD i (.slice none 0 0)) R g → ¬ M g) : GrowM e te w' base v vs R := by
  refine ⟨h.len, ⟨h.out.1, ?_⟩, fun i hi => (h.row i hi).keeps hk (fun g hg => hn g (.inr ⟨i, hi, hg⟩)), h.apart, h.self⟩
  rcases h.out.2 with hn' | ⟨g, cap, cur, hv, hbg, hg, rest⟩
  · exact .inl hn'
  · refine .inr ⟨g, cap, cur, hv, hbg, ?_, rest⟩
    have hlt := (Array.getElem?_eq_some_iff.1 hg).1
    rw [hk.block g hlt (hn g (.inl (by rw [hv]; rfl)))]; exact hg
theorem GrowM.nil (e te : TypeId) (w : World) (base : Nat) : GrowM e te w base (.slice none 0 0) [] [] :=
  ⟨rfl, World.ownsRow_nil w base te 1, fun i hi => by simp at hi, fun i _ hi => by simp at hi, fun i hi => by simp at hi⟩
theorem GrowM.empty (e te : TypeId) (w : World) (base g : Nat) (hg : g = w.heap.size) (hb : base ≤ g) : GrowM e te (w.alloc (.cells #[] te)) base (.slice (some ⟨g, 0, none⟩) 0 0) [] [] := by
  subst hg
  exact ⟨rfl, World.ownsRow_lit w #[] 0 hb (by unfold maxLen; omega) rfl, fun i hi => by simp at hi, fun i _ hi => by simp at hi, fun i hi => by simp at hi⟩
theorem GrowM.block {e te : TypeId} {w : World} {base : Nat} {v : Value} {vs : List Value} {R : List (List Int)} (h : GrowM e te w base v vs R) (g : Nat) (hg : v.ownBlock = some g) : base ≤ g ∧ g < w.heap.size := h.own.block g (.inl hg)

theorem gR_app_lt {R : List (List Int)} {ys : List (List Int)} {i : Nat} (h : i < R.length) : gR (R ++ ys) i = gR R i := by simp [gR, List.getD, List.getElem?_append_left h]
theorem gR_app_at {R : List (List Int)} {y : List Int} {i : Nat} (h : i = R.length) : gR (R ++ [y]) i = y := by subst h; simp [gR, List.getD]

/-- A row of its own is put behind. -/
theorem GrowM.push {e te : TypeId} {w w' : World} {base : Nat} {v u : Value} {vs : List Value} {R : List (List Int)} {ys : List Int} {g cap : Nat} (h : GrowM e te w base v vs R)
    (hu : Own e w base u ys) (hua : Apart u v) (hur : ∀ i, i < R.length → Apart (vs.getD i (.slice none 0 0)) u)
    (ho : w'.ownsRow base te 1 (.slice (some ⟨g, 0, none⟩) (vs.length + 1) cap) (vs.length + 1) (vs ++ [u])) (hk : Keeps (fun k => v.ownBlock = some k) w w') (hg : v.ownBlock = some g ∨ g = w.heap.size) :
    GrowM e te w' base (.slice (some ⟨g, 0, none⟩) (vs.length + 1) cap) (vs ++ [u]) (R ++ [ys]) := by
  have hl := h.len
  have old : ∀ i, i < R.length → (vs ++ [u]).getD i (.slice none 0 0) = vs.getD i (.slice none 0 0) := fun i hi => by simp [List.getD, List.getElem?_append_left (show i < vs.length by omega)]
  have new : (vs ++ [u]).getD R.length (.slice none 0 0) = u := by rw [← hl]; simp [List.getD]
  have hun : ∀ k, u.ownBlock = some k → ¬ v.ownBlock = some k := fun k h1 h2 => hua k h1 h2
  refine ⟨by simp [hl], by simpa using ho, ?_, ?_, ?_⟩
  · intro i hi
    simp at hi
    by_cases e' : i = R.length
    · subst e'
      rw [new, gR_app_at rfl]
      exact hu.keeps hk hun
    · rw [old i (by omega), gR_app_lt (by omega)]
      exact (h.row i (by omega)).keeps hk (fun k h1 h2 => h.self i (by omega) k h1 h2)
  · intro i j hi hj hne
    simp at hi hj
    by_cases e1 : i = R.length
    · subst e1
      rw [new, old j (by omega)]
      exact (hur j (by omega)).symm
    · by_cases e2 : j = R.length
      · subst e2
        rw [new, old i (by omega)]
        exact hur i (by omega)
      · rw [old i (by omega), old j (by omega)]
        exact h.apart i j (by omega) (by omega) hne
  · intro i hi k h1 h2
    simp at hi
    simp [Value.ownBlock] at h2
    by_cases e1 : i = R.length
    · subst e1
      rw [new] at h1
      rcases hg with hg | hg
      · exact hua k h1 (by rw [hg, h2])
      · have := (hu.block k h1).2; omega
    · rw [old i (by omega)] at h1
      rcases hg with hg | hg
      · exact h.self i (by omega) k h1 (by rw [hg, h2])
      · have := ((h.row i (by omega)).block k h1).2; omega

/-- 'out = append(out, row)'. -/
theorem wpList_pushR {P : Program} {w : World} {ops : Array Oper} {rest : List Oper} {o : Oper} {a : Act} {Q : Exit → Act → World → Prop} (hgd : o.guard = none) (s x : Operand) (t : TypeId)
    (ho : o.op = .call { callee := .builtin .append, args := #[s, x], argTypes := #[t, t] })
    (base : Nat) (e te : TypeId) (i : TypeInfo) (ht : P.underlying t = some (.slice te)) (hi : P.info? te = some i) (hz : i.zero = some (.slice none 0 0)) (hsize : i.size = 1) (hby : i.bytes = 24)
    (v : Value) (vs : List Value) (R : List (List Int)) (u : Value) (ys : List Int) (hs : a.eval s = v) (hown : GrowM e te w base v vs R) (gx : Nat) (hgx : gx = w.heap.size) (hx : a.eval x = .slice (some ⟨gx, 0, none⟩) 1 1)
    (hu : Own e w base u ys) (hua : Apart u v) (hur : ∀ i, i < R.length → Apart (vs.getD i (.slice none 0 0)) u)
    (hlen : R.length ≤ 1000000000) (hbase : base ≤ w.heap.size)
    (h : ∀ g cap w', GrowM e te w' base (.slice (some ⟨g, 0, none⟩) (R.length + 1) cap) (vs ++ [u]) (R ++ [ys]) → Keeps (fun k => v.ownBlock = some k) w w' → g < w'.heap.size → wpList P ops Q rest (a.put o.dst (.slice (some ⟨g, 0, none⟩) (R.length + 1) cap)) w') :
    wpList P ops Q (o :: rest) a (w.alloc (.cells #[u] te)) := by
  subst hgx
  have hl := hown.len
  have hal : Below w.heap.size w (w.alloc (.cells #[u] te)) := (Below.refl _ _).alloc (Nat.le_refl _) _
  obtain ⟨ua, uk, hue⟩ := hu.form
  refine wpList_append_lies _ hgd s x t ho base te i (.slice none 0 0) 1 24 ht hi hz hsize hby rfl (by decide) v vs.length vs hs (hown.below hal).out ⟨w.heap.size, 0, none⟩ 1 1 [u] hx rfl (cell_one_new _ _ _) ?_ (by omega) ?_ ?_ ?_ _ rfl ?_
  · intro y hy; simp at hy; subst hy; subst hue; rfl
  · unfold maxLen; omega
  · omega
  · simp; omega
  · intro g cap w' h2 h3 h4 h5
    have hk : Keeps (fun k => v.ownBlock = some k) (w.alloc (.cells #[u] te)) w' := Keeps.of_grown h3
    have hp := (hown.below hal).push (hu.below hal (Nat.le_refl _)) hua hur h2 hk h4
    rw [hl] at hp ⊢
    exact h g cap w' hp ((Keeps.of_below hal).trans hk) h5

/-- A list of lists and a code are handed back. -/
def RetMC (e0 : TypeId) (w : World) (R : List (List Int)) (c : Int) (e : Ending) (w' : World) : Prop :=
  ∃ a k V, e = .returned (.tuple #[.slice a R.length k, .int .i64 c]) ∧ OwnM e0 w' w.heap.size (.slice a R.length k) V R ∧ Below w.heap.size w w'
/-- A list of lists is handed back. -/
def RetM (e0 : TypeId) (w : World) (R : List (List Int)) (e : Ending) (w' : World) : Prop :=
  ∃ a k V, e = .returned (.slice a R.length k) ∧ OwnM e0 w' w.heap.size (.slice a R.length k) V R ∧ Below w.heap.size w w'
theorem retM_mk {e0 : TypeId} {w w' : World} {v : Value} {V : Nat → Value} {R : List (List Int)} (h : OwnM e0 w' w.heap.size v V R) (hb : Below w.heap.size w w') : RetM e0 w R (.returned v) w' := by
  obtain ⟨a, k, rfl⟩ := h.form
  exact ⟨a, k, V, rfl, h, hb⟩
/-- The number of all numbers of rows. -/
def totR (R : List (List Int)) (i : Nat) : Nat := ((List.range i).map fun j => (gR R j).length).sum
/-- The rows as they are marked. -/
def iotaR (k : Int) (R : List (List Int)) : List (List Int) := (List.range R.length).map fun i => iotaI (k + totR R i) (gR R i).length
@[simp] theorem iotaR_len (k : Int) (R : List (List Int)) : (iotaR k R).length = R.length := by simp [iotaR]
/-- The result behind a test. -/
def okR (b : Bool) (R : List (List Int)) : List (List Int) := if b then R else []
end Go.Proofs.YtglghdkjppcedaaDoor

/- Two rows of two numbers put behind a list of lists that the call owns. No program in sight. -/
namespace Go.Proofs.YtglghdkjppcedaaDoor
open Go.RowKit

theorem own_blk2 {e : TypeId} {w : World} {g base : Nat} {x y : Int} (h : Blk w g e #[.int .i64 x, .int .i64 y]) (hb : base ≤ g) : Own e w base (.slice (some ⟨g, 0, none⟩) 2 2) [x, y] :=
  ⟨rfl, .inr ⟨g, 2, #[.int .i64 x, .int .i64 y], rfl, hb, h, Nat.le_refl _, by unfold maxLen; omega, rfl, rfl⟩⟩

end Go.Proofs.YtglghdkjppcedaaDoor

/- Contracts: BranchOfGenerators, the program. -/
namespace Go.Proofs.YtglghdkjppcedaaDoor
open Go.RowKit

end Go.Proofs.YtglghdkjppcedaaDoor

/- Contracts: BranchOfGenerators, the reference. -/
namespace Go.Proofs.YtglghdkjppcedaaDoor
open Go.RowKit

def rgC (a fb : Bool) : Int := if a = true then okC fb 5 else 2

end Go.Proofs.YtglghdkjppcedaaDoor

/- Contracts: SemigroupBinomials, the program. -/
namespace Go.Proofs.YtglghdkjppcedaaDoor
open Go.RowKit

/-- The rows of the first k generators behind the first. -/
def sbTo (T : List Int) : Nat → List (List Int)
  | 0 => []
  | k + 1 => sbTo T k ++ [[rI T (k + 1) * vI T (k + 1), 1], [vI T (k + 1), -1]]
/-- The binomials. -/
def sbL (T : List Int) : List (List Int) := if T.length = 1 then [] else sbTo T (T.length - 1) ++ [[vI T 0, -1], [1, 1]]
end Go.Proofs.YtglghdkjppcedaaDoor

/- Contract: the closure that fills the semigroup of a branch. -/
namespace Go.Proofs.YtglghdkjppcedaaDoor
open Go.RowKit

/-- Where the variables of the closure lie. -/
structure SFr where
  pv : Nat
  ps : Nat
  pn : Nat
  pf : Nat
  gv : Nat
  gn : Nat
  gl : Nat
  gp : Nat
  B0 : Nat
  cv : Nat
  cn : Nat
/-- All lie below B0, and what is written lies apart. -/
structure SFr.Ok (F : SFr) : Prop where
  b : F.pv < F.B0 ∧ F.ps < F.B0 ∧ F.pn < F.B0 ∧ F.pf < F.B0 ∧ F.gv < F.B0 ∧ F.gn < F.B0 ∧ F.gl < F.B0 ∧ F.gp < F.B0
  l : F.pv ≠ F.gl ∧ F.ps ≠ F.gl ∧ F.pn ≠ F.gl ∧ F.pf ≠ F.gl ∧ F.gv ≠ F.gl ∧ F.gn ≠ F.gl ∧ F.gp ≠ F.gl
  p : F.pv ≠ F.gp ∧ F.ps ≠ F.gp ∧ F.pn ≠ F.gp ∧ F.pf ≠ F.gp ∧ F.gv ≠ F.gp ∧ F.gn ≠ F.gp


/-- What the closure captures. -/
def SFr.caps (F : SFr) : Array Value := #[.pointer (some ⟨F.pv, 0, none⟩), .pointer (some ⟨F.ps, 0, none⟩), .pointer (some ⟨F.pn, 0, none⟩), .pointer (some ⟨F.pf, 0, none⟩)]
/-- The two lists that are written. -/
def Lay (F : SFr) (T : List Int) (w : World) : Prop := ∃ cs ds, Blk w F.gl 2 cs ∧ cs.size = nT T ∧ Blk w F.gp 24 ds ∧ ds.size = nT T
theorem Lay.keeps {F : SFr} {T : List Int} {w w' : World} {M : Nat → Prop} (h : Lay F T w) (hk : Keeps M w w') (h1 : ¬ M F.gl) (h2 : ¬ M F.gp) : Lay F T w' := by
  obtain ⟨cs, ds, a, b, c, d⟩ := h
  exact ⟨cs, ds, a.keeps hk h1, b, c.keeps hk h2, d⟩
theorem Lay.at {F : SFr} {T : List Int} {w : World} (h : Lay F T w) {i : Nat} (hi : i < nT T) : (∃ u, w.cell? ⟨F.gl, i, none⟩ = some u) ∧ w.frozen? ⟨F.gl, i, none⟩ = false ∧ (∃ u, w.cell? ⟨F.gp, i, none⟩ = some u) ∧ w.frozen? ⟨F.gp, i, none⟩ = false := by
  obtain ⟨cs, ds, a, b, c, d⟩ := h
  exact ⟨⟨cs[i], by rw [a.cell, Array.getElem?_eq_getElem]⟩, a.free i, ⟨ds[i], by rw [c.cell, Array.getElem?_eq_getElem]⟩, c.free i⟩

/-- The remainder r has its least value and its numbers. -/
def RSet (F : SFr) (T : List Int) (w : World) (base r : Nat) : Prop :=
  w.cell? ⟨F.gl, r, none⟩ = some (.int .i64 (lst T r)) ∧ ∃ u, w.cell? ⟨F.gp, r, none⟩ = some u ∧ Own 2 w base u (digA T r)
/-- The remainders p have theirs, the others are as they were. -/
def Done (F : SFr) (T : List Int) (w w' : World) (p : Nat → Prop) : Prop :=
  ∀ r, r < nT T → (p r → RSet F T w' w.heap.size r) ∧ (¬ p r → w'.cell? ⟨F.gl, r, none⟩ = w.cell? ⟨F.gl, r, none⟩ ∧ w'.cell? ⟨F.gp, r, none⟩ = w.cell? ⟨F.gp, r, none⟩)
theorem Done.refl (F : SFr) (T : List Int) (w w' : World) {p : Nat → Prop} (h : ∀ r, r < nT T → ¬ p r) (hc : ∀ r, w'.cell? ⟨F.gl, r, none⟩ = w.cell? ⟨F.gl, r, none⟩ ∧ w'.cell? ⟨F.gp, r, none⟩ = w.cell? ⟨F.gp, r, none⟩) : Done F T w w' p :=
  fun r hr => ⟨fun hp => absurd hp (h r hr), fun _ => hc r⟩
/-- A later call fills more. -/
theorem Done.step {F : SFr} {T : List Int} {w w1 w2 w3 : World} {p q pq : Nat → Prop} {M : Nat → Prop} (h : Done F T w w1 p) (h' : Done F T w2 w3 q)
    (hc : ∀ r, w2.cell? ⟨F.gl, r, none⟩ = w1.cell? ⟨F.gl, r, none⟩ ∧ w2.cell? ⟨F.gp, r, none⟩ = w1.cell? ⟨F.gp, r, none⟩) (hs : w.heap.size ≤ w2.heap.size)
    (hk : Keeps M w1 w3) (hM : ∀ k, M k → k < w.heap.size ∨ w1.heap.size ≤ k) (hpq : ∀ r, pq r ↔ p r ∨ q r) : Done F T w w3 pq := by
  intro r hr
  have a := h r hr
  have b := h' r hr
  constructor
  · intro hp
    by_cases hq : q r
    · obtain ⟨h1, u, h2, h3⟩ := b.1 hq
      exact ⟨h1, u, h2, h3.base_le hs⟩
    · have hpr : p r := by
        rcases (hpq r).1 hp with h | h
        · exact h
        · exact absurd h hq
      obtain ⟨h1, u, h2, h3⟩ := a.1 hpr
      obtain ⟨b1, b2⟩ := b.2 hq
      refine ⟨by rw [b1, (hc r).1]; exact h1, u, by rw [b2, (hc r).2]; exact h2, h3.keeps hk (fun g hg hm => ?_)⟩
      have := h3.block g hg
      have := hM g hm
      omega
  · intro hn
    have n1 : ¬ p r := fun h => hn ((hpq r).2 (.inl h))
    have n2 : ¬ q r := fun h => hn ((hpq r).2 (.inr h))
    obtain ⟨b1, b2⟩ := b.2 n2
    obtain ⟨a1, a2⟩ := a.2 n1
    exact ⟨by rw [b1, (hc r).1, a1], by rw [b2, (hc r).2, a2]⟩

/-- The digits of r begin with D. -/
def Beg (T D : List Int) (r : Nat) : Prop := (digA T r).take D.length = D
/-- The digits of r begin with D and a number below k. -/
def BegK (T D : List Int) (k : Int) (r : Nat) : Prop := Beg T D r ∧ gI (digA T r) D.length < k
theorem begK_all {T D : List Int} (h : BraOk T) {r : Nat} (hl : D.length < T.length - 1) : BegK T D (rI T (D.length + 1)) r ↔ Beg T D r := by
  have := ((digA_ok h (r : Int)).2 D.length hl).2
  exact ⟨fun h => h.1, fun h => ⟨h, this⟩⟩
theorem Done.iff {F : SFr} {T : List Int} {w w' : World} {p q : Nat → Prop} (h : Done F T w w' p) (hpq : ∀ r, r < nT T → (p r ↔ q r)) : Done F T w w' q :=
  fun r hr => ⟨fun hq => (h r hr).1 ((hpq r hr).2 hq), fun hq => (h r hr).2 (fun hp => hq ((hpq r hr).1 hp))⟩
end Go.Proofs.YtglghdkjppcedaaDoor

/- Contract: the closure that fills the semigroup of a branch: its walks. -/
namespace Go.Proofs.YtglghdkjppcedaaDoor
open Go.RowKit

/-- What it leaves. -/
def FPost (F : SFr) (T : List Int) (w : World) (c : Value) (D : List Int) (w' : World) : Prop :=
  Keeps (fun k => k = F.gl ∨ k = F.gp ∨ c.ownBlock = some k) w w' ∧ Own 2 w' F.B0 c D ∧ Lay F T w' ∧ Done F T w w' (Beg T D)

/-- What holds after k rounds. -/
def FInv (F : SFr) (T : List Int) (w : World) (c : Value) (D : List Int) (k : Nat) (wr : World) : Prop :=
  Keeps (fun b => b = F.gl ∨ b = F.gp ∨ c.ownBlock = some b) w wr ∧ Own 2 wr F.B0 c D ∧ Lay F T wr ∧ Done F T w wr (BegK T D k)
theorem FInv.done {F : SFr} {T D : List Int} {c : Value} {w wr : World} {k : Nat} (hok : BraOk T) (hl : D.length + 1 < T.length) (h : FInv F T w c D k wr) (hk : (k : Int) = rI T (D.length + 1)) : FPost F T w c D wr :=
  ⟨h.1, h.2.1, h.2.2.1, h.2.2.2.iff (fun r _ => by rw [hk]; exact begK_all hok (by omega))⟩

end Go.Proofs.YtglghdkjppcedaaDoor

/- Contract: impl.semigroupOf. -/
namespace Go.Proofs.YtglghdkjppcedaaDoor
open Go.RowKit

/-- The semigroup that is handed back. -/
def SemR (w : World) (T : List Int) (e : Ending) (w' : World) : Prop :=
  ∃ gl gp, e = .returned (.agg #[.slice (some ⟨gl, 0, none⟩) (nT T) (nT T), .slice (some ⟨gp, 0, none⟩) (nT T) (nT T)]) ∧ OwnI w' w.heap.size (.slice (some ⟨gl, 0, none⟩) (nT T) (nT T)) (lstL T) ∧ (gp < w'.heap.size ∧ ∀ r, r < nT T → ∃ u, w'.cell? ⟨gp, r, none⟩ = some u ∧ OwnI w' w.heap.size u (digA T r)) ∧ Below w.heap.size w w'

end Go.Proofs.YtglghdkjppcedaaDoor

/- Contract: spec.l05Values. -/
namespace Go.Proofs.YtglghdkjppcedaaDoor
open Go.RowKit

end Go.Proofs.YtglghdkjppcedaaDoor

/- Contracts: IsValue. -/
namespace Go.Proofs.YtglghdkjppcedaaDoor
open Go.RowKit

/-- The code of a branch and a number. -/
def svC (T : List Int) (z : Int) : Int := if braB T = true then (if inB z 0 20000 = true then 0 else 2) else 1
def svB (T : List Int) (z : Int) : Bool := braB T && (inB z 0 20000 && valB T z)
end Go.Proofs.YtglghdkjppcedaaDoor

/- Contracts: AperyOf. -/
namespace Go.Proofs.YtglghdkjppcedaaDoor
open Go.RowKit

/-- Where the number z stands in the list. -/
def ixA (T : List Int) (z : Nat) : Nat := (mixS T (z : Int) (T.length - 1) % gI T 0).toNat
theorem ixA_bd {T : List Int} (h : BraOk T) (z : Nat) : ixA T z < nT T ∧ ((ixA T z : Nat) : Int) = mixS T (z : Int) (T.length - 1) % gI T 0 := by
  have h0 := h.first
  have h1 := Int.emod_nonneg (mixS T (z : Int) (T.length - 1)) (show gI T 0 ≠ 0 by omega)
  have h2 := Int.emod_lt_of_pos (mixS T (z : Int) (T.length - 1)) (show 0 < gI T 0 by omega)
  unfold ixA nT
  omega
theorem ixA_lst {T : List Int} (h : BraOk T) (z : Nat) : lst T (ixA T z : Nat) = mixS T (z : Int) (T.length - 1) := by
  rw [(ixA_bd h z).2]; exact mixS_lst h _
theorem ixA_all {T : List Int} (h : BraOk T) {r : Nat} (hr : r < nT T) : ∃ z, z < nT T ∧ ixA T z = r := by
  have h0 := h.first
  have hr' : (r : Int) < gI T 0 := by unfold nT at hr; omega
  obtain ⟨z, h1, h2, h3⟩ := mix_rem h (r := (r : Int)) (by omega) hr'
  obtain ⟨n, rfl⟩ := Int.eq_ofNat_of_zero_le h1
  refine ⟨n, by unfold nT; omega, ?_⟩
  have := (ixA_bd h n).2
  omega
/-- The first k numbers have been put down. -/
def ApTo (T : List Int) (k : Nat) (L : List Int) : Prop := L.length = nT T ∧ ∀ z, z < k → gI L (ixA T z) = lst T (ixA T z : Nat)
theorem ApTo.put {T : List Int} {k : Nat} {L : List Int} (h : BraOk T) (hL : ApTo T k L) : ApTo T (k + 1) (L.set (ixA T k) (mixS T (k : Int) (T.length - 1))) := by
  refine ⟨by simp [hL.1], fun z hz => ?_⟩
  by_cases e : ixA T k = ixA T z
  · rw [← e, gI_set_at (by rw [hL.1]; exact (ixA_bd h k).1), ixA_lst h]
  · rw [gI_set_ne e]
    refine hL.2 z ?_
    apply Nat.lt_of_le_of_ne (by omega)
    intro e2; subst e2; exact e rfl
theorem ApTo.all {T : List Int} {L : List Int} (h : BraOk T) (hL : ApTo T (nT T) L) : L = lstL T := by
  refine gI_ext (by rw [lstL_len]; exact hL.1) (fun r hr => ?_)
  rw [hL.1] at hr
  obtain ⟨z, hz, rfl⟩ := ixA_all h hr
  rw [gI_lstL hr]
  exact hL.2 z hz

end Go.Proofs.YtglghdkjppcedaaDoor

/- Contracts: RepresentationOf. -/
namespace Go.Proofs.YtglghdkjppcedaaDoor
open Go.RowKit

/-- The code, and the numbers. -/
def rpC (T : List Int) (z : Int) : Int := if svC T z = 0 then (if valB T z = true then 0 else 4) else svC T z
def rpL (T : List Int) (z : Int) : List Int := if rpC T z = 0 then low T z / gI T 0 :: digA T z else []
/-- What is left, and the digits that have been taken: j digits are wanted. -/
structure RpS (T : List Int) (z : Int) (j : Nat) (Z : Int) (R : List Int) : Prop where
  lt : j < T.length
  len : R.length = T.length - 1 - j
  dvd : eI T j ∣ Z
  digs : digA T z = digs T j Z ++ R
  rest : low T z = strip T j Z
  hi : Z ≤ z
  lo : -(64000000000000000 * ((T.length - 1 - j : Nat) : Int)) ≤ Z
theorem RpS.start {T : List Int} (h : BraOk T) {z : Int} (hz : 0 ≤ z) : RpS T z (T.length - 1) z [] :=
  ⟨by have := h.len; omega, by simp, e_last h z, by rw [List.append_nil]; rfl, rfl, Int.le_refl _, by rw [Nat.sub_self]; simp; exact hz⟩
theorem RpS.next {T : List Int} (h : BraOk T) {z Z : Int} {j : Nat} {R : List Int} (hs : RpS T z (j + 1) Z R) : RpS T z j (Z - dig T j Z * vI T (j + 1)) ((dig T j Z : Int) :: R) := by
  have hl := hs.lt
  have hd := dig_ok h hl hs.dvd
  have hr := rI_bd h (j + 1)
  have hv := vI_bd h hl
  have hm := mul_bd (a := (dig T j Z : Int)) (A := 64) (b := vI T (j + 1)) (B := 1000000000000000) (by omega) (by omega) (by omega) hv.2
  have h1 := hs.lo
  have h2 := hs.hi
  have h3 := hs.len
  refine ⟨by omega, by simp [h3]; omega, hd.2.1, by rw [hs.digs, digs_succ]; simp, by rw [hs.rest, strip_succ], by omega, by omega⟩

end Go.Proofs.YtglghdkjppcedaaDoor

/- Contracts: ValuesUpTo, GapsOf. -/
namespace Go.Proofs.YtglghdkjppcedaaDoor
open Go.RowKit

/-- The numbers below k with p. -/
def selTo (p : Nat → Bool) : Nat → List Int
  | 0 => []
  | k + 1 => if p k = true then selTo p k ++ [(k : Int)] else selTo p k
/-- The values up to z; the gaps. -/
def vuL (T : List Int) (z : Int) : List Int := if svC T z = 0 then selTo (fun v => valB T (v : Int)) (z.toNat + 1) else []
def gpC (T : List Int) : Int := if braB T = true then (if 20000 < conI T then 3 else 0) else 1
def gpL (T : List Int) : List Int := if gpC T = 0 then selTo (fun v => !valB T (v : Int)) (conI T).toNat else []
end Go.Proofs.YtglghdkjppcedaaDoor

/- Contracts: the source of drawn numbers. -/
namespace Go.Proofs.YtglghdkjppcedaaDoor
open Go.RowKit

/-- The next number of a source. -/
def nxtH (h : Int) : Int := IntKind.u64.wrap (IntKind.u64.wrap (h * 6364136223846793005) + 1442695040888963407)
/-- What is drawn from it. -/
def xiH (h : Int) : Int := bits .and .u64 (nxtH h / 8589934592) 16777215
theorem nxtH_bd (h : Int) : 0 ≤ nxtH h ∧ nxtH h < 18446744073709551616 := by
  unfold nxtH
  have e : ∀ n, IntKind.u64.wrap n = n % 18446744073709551616 := fun n => by simp [IntKind.wrap, IntKind.bits, IntKind.signed]
  rw [e]
  omega
theorem xiH_eq (h : Int) : xiH h = nxtH h / 8589934592 % 16777216 := by
  have hb := nxtH_bd h
  unfold xiH
  generalize nxtH h = z at *
  have h1 : 0 ≤ z / 8589934592 := by omega
  have h2 : z / 8589934592 < 18446744073709551616 := by omega
  rw [u64_and _ _ h1 h2 (by omega) (by omega)]
  obtain ⟨m, hm⟩ := Int.eq_ofNat_of_zero_le h1
  rw [hm]
  show ((m &&& 16777215 : Nat) : Int) = _
  rw [show (16777215 : Nat) = 2 ^ 24 - 1 by decide, Nat.and_two_pow_sub_one_eq_mod]
  omega
theorem xiH_bd (h : Int) : 0 ≤ xiH h ∧ xiH h ≤ 16777215 := by rw [xiH_eq]; omega
/-- The block g is a source: the code C, the place a in it and the number h. -/
structure SrcC (w : World) (g : Nat) (C : List Int) (a : Nat) (h : Int) : Prop where
  src : ∃ (p : Option Addr) (c : Nat), Blk w g 68 #[.slice p C.length c, .int .i64 (a : Int), .int .u64 h] ∧ (0 < C.length → ∃ b off, p = some ⟨b, off, none⟩ ∧ b < g ∧ ∀ i, i < C.length → w.cell? ⟨b, off + i, none⟩ = some (.int .u8 (gI C i)))
  at_le : a ≤ C.length
  len : C.length ≤ 4096
  num : ∀ i, i < C.length → 0 ≤ gI C i ∧ gI C i ≤ 255
  h0 : 0 ≤ h ∧ h < 18446744073709551616
theorem SrcC.lt {w : World} {g : Nat} {C : List Int} {a : Nat} {h : Int} (s : SrcC w g C a h) : g < w.heap.size := by
  obtain ⟨p, c, hB, _⟩ := s.src; exact hB.lt
theorem SrcC.keeps {w w' : World} {g : Nat} {C : List Int} {a : Nat} {h : Int} {M : Nat → Prop} (s : SrcC w g C a h) (hk : Keeps M w w') (hM : ∀ q, q ≤ g → ¬ M q) : SrcC w' g C a h := by
  obtain ⟨p, c, hB, hc⟩ := s.src
  refine ⟨⟨p, c, hB.keeps hk (hM g (Nat.le_refl _)), fun h0 => ?_⟩, s.at_le, s.len, s.num, s.h0⟩
  obtain ⟨b, off, h1, h2, h3⟩ := hc h0
  have hl := hB.lt
  exact ⟨b, off, h1, h2, fun i hi => by rw [hk.cell (p := ⟨b, off + i, none⟩) (by show b < _; omega) (hM b (by omega))]; exact h3 i hi⟩
theorem SrcC.below {w w' : World} {g : Nat} {C : List Int} {a : Nat} {h : Int} (s : SrcC w g C a h) (hb : Below w.heap.size w w') : SrcC w' g C a h :=
  s.keeps (M := fun _ => False) (Keeps.of_below hb) (fun _ _ => id)
/-- The next place. -/
def nxtA (C : List Int) (a : Nat) : Nat := if a < C.length then a + 1 else a
/-- The number that is drawn. -/
def drwX (C : List Int) (a : Nat) (h : Int) : Int := xiH h + if a < C.length then gI C a else 0
set_option maxHeartbeats 4000000 in
theorem l01Next_c (g : Nat) (n : Int) (C : List Int) (a : Nat) (h : Int) (w : World) (s : SrcC w g C a h) (hn : 1 ≤ n) (hn2 : n ≤ 9223372036854775807) :
    Calls Tryd.prog 31 #[.pointer (some ⟨g, 0, none⟩), .int .i64 n] w fun e w' => e = .returned (.int .i64 (drwX C a h % n)) ∧ SrcC w' g C (nxtA C a) (nxtH h) ∧ Keeps (fun q => q = g) w w' := by
  obtain ⟨p, c, B, hc⟩ := s.src
  have hlen := s.len
  have hle := s.at_le
  have c0 := B.cell 0
  have c1 := B.cell 1
  have c2 := B.cell 2
  have f1 := B.free 1
  have f2 := B.free 2
  have hB1 := B.set 2 (.int .u64 (nxtH h))
  have hK1 : Keeps (fun q => q = g) w (w.setCell ⟨g, 2, none⟩ (.int .u64 (nxtH h))) := (Keeps.refl (fun q => q = g) w).setCell (p := ⟨g, 2, none⟩) rfl _
  have hxb := xiH_bd h
  have hxe : wrap64 (bits .and .u64 (IntKind.u64.wrap (IntKind.u64.wrap (h * 6364136223846793005) + 1442695040888963407) / 8589934592) 16777215) = xiH h := by
    show wrap64 (xiH h) = xiH h
    exact IntWalk.wrap64_in _ ⟨by omega, by omega⟩
  have hne : IntKind.u64.wrap (IntKind.u64.wrap (h * 6364136223846793005) + 1442695040888963407) = nxtH h := rfl
  have HXE := Lib.hid hxe
  have HNE := Lib.hid hne
  clear hxe hne
  go_enter Tryd.func31, Tryd.ntmps31
  go_wp2_with fail
  rw [HXE.out, HNE.out]
  have hs := s
  clear s c0 c1 c2 f1 f2
  generalize hw1 : w.setCell ⟨g, 2, none⟩ (.int .u64 (nxtH h)) = w1 at *
  have B1 : Blk w1 g 68 #[.slice p C.length c, .int .i64 (a : Int), .int .u64 (nxtH h)] := hB1
  clear hB1 hw1
  have c0 := B1.cell 0
  have c1 := B1.cell 1
  have f1 := B1.free 1
  by_cases hlt : a < C.length
  · obtain ⟨b, off, rfl, hbg, hcs⟩ := hc (by omega)
    have hgl := B.lt
    have dC : w1.cell? ⟨b, off + a, none⟩ = some (.int .u8 (gI C a)) := (hK1.cell (p := ⟨b, off + a, none⟩) (by show b < _; omega) (by show ¬ b = g; omega)).trans (hcs a hlt)
    have hnum := hs.num a hlt
    have hai : (a : Int) < (C.length : Int) := by omega
    have ha0 : (0 : Int) ≤ (a : Int) := by omega
    have hfin : ∀ W, Drew w1 W → (Ending.returned (.int .i64 ((xiH h + gI C a) % n)) = .returned (.int .i64 (drwX C a h % n))) ∧ SrcC (W.setCell ⟨g, 1, none⟩ (.int .i64 ((a : Int) + 1))) g C (nxtA C a) (nxtH h) ∧ Keeps (fun q => q = g) w (W.setCell ⟨g, 1, none⟩ (.int .i64 ((a : Int) + 1))) := by
      rintro W ⟨m, rfl⟩
      have e1 : nxtA C a = a + 1 := by unfold nxtA; rw [if_pos hlt]
      have e2 : drwX C a h = xiH h + gI C a := by unfold drwX; rw [if_pos hlt]
      have hK2 : Keeps (fun q => q = g) w ((w1.drewN m).setCell ⟨g, 1, none⟩ (.int .i64 ((a : Int) + 1))) := (hK1.drewN m).setCell (p := ⟨g, 1, none⟩) rfl _
      refine ⟨by rw [e2], ?_, hK2⟩
      have hB3 : Blk ((w1.drewN m).setCell ⟨g, 1, none⟩ (.int .i64 ((a : Int) + 1))) g 68 #[.slice (some ⟨b, off, none⟩) C.length c, .int .i64 ((a + 1 : Nat) : Int), .int .u64 (nxtH h)] := (B1.drewN m).set 1 (.int .i64 ((a : Int) + 1))
      rw [e1]
      exact ⟨⟨_, c, hB3, fun _ => ⟨b, off, rfl, hbg, fun i hi => (hK2.cell (p := ⟨b, off + i, none⟩) (by show b < _; omega) (by show ¬ b = g; omega)).trans (hcs i hi)⟩⟩, by omega, hlen, hs.num, nxtH_bd h⟩
    have HF := Lib.hid hfin
    clear hfin hcs hc hs B hK1
    generalize xiH h = x at *
    generalize gI C a = y at *
    have hm : Int.tmod (x + y) n = (x + y) % n := Int.tmod_eq_emod_of_nonneg (by omega)
    have hnz : ¬ n = 0 := by omega
    go_wp2_with fail
    go_quiet (fail)
    have HF2 := Lib.hid (fun W (hW : Drew (w1.drewN nq) W) => HF.out W ((Drew.one w1 nq).trans hW))
    have B2 := B1.drewN nq
    have dC2 : (w1.drewN nq).cell? ⟨b, off + a, none⟩ = some (.int .u8 y) := dC
    generalize w1.drewN nq = w2 at *
    clear c0 c1 f1 dC HF B1
    have c0 := B2.cell 0
    have c1 := B2.cell 1
    go_wp2_with fail
    go_quiet (fail)
    have HF3 := Lib.hid (fun W (hW : Drew (w2.drewN nq) W) => HF2.out W ((Drew.one w2 nq).trans hW))
    have B3 := B2.drewN nq
    generalize w2.drewN nq = w3 at *
    clear c0 c1 dC2 HF2 B2
    have c1 := B3.cell 1
    have f1 := B3.free 1
    go_wp2
    go_ret
    exact HF3.out w3 (Drew.refl _)
  · have hae : a = C.length := by omega
    have hai : ¬ (a : Int) < (C.length : Int) := by omega
    have hfin : ∀ W, Drew w1 W → (Ending.returned (.int .i64 (xiH h % n)) = .returned (.int .i64 (drwX C a h % n))) ∧ SrcC W g C (nxtA C a) (nxtH h) ∧ Keeps (fun q => q = g) w W := by
      rintro W ⟨m, rfl⟩
      have e1 : nxtA C a = a := by unfold nxtA; rw [if_neg hlt]
      have e2 : drwX C a h = xiH h := by unfold drwX; rw [if_neg hlt]; omega
      have hK2 := hK1.drewN m
      refine ⟨by rw [e2], ?_, hK2⟩
      rw [e1]
      refine ⟨⟨_, c, B1.drewN m, fun h0 => ?_⟩, hle, hlen, hs.num, nxtH_bd h⟩
      obtain ⟨b, off, q1, q2, q3⟩ := hc h0
      have hgl := B.lt
      exact ⟨b, off, q1, q2, fun i hi => (hK2.cell (p := ⟨b, off + i, none⟩) (by show b < _; omega) (by show ¬ b = g; omega)).trans (q3 i hi)⟩
    have HF := Lib.hid hfin
    clear hfin hc hs B hK1 hae
    generalize xiH h = x at *
    have hm : Int.tmod x n = x % n := Int.tmod_eq_emod_of_nonneg (by omega)
    have hnz : ¬ n = 0 := by omega
    go_wp2_with fail
    go_quiet (fail)
    go_wp2
    go_ret
    exact HF.out _ (Drew.one _ _)
end Go.Proofs.YtglghdkjppcedaaDoor
