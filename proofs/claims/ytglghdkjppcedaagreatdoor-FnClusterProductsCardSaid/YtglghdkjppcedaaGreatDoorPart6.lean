/- Lists of lists that a call owns: what is handed back, and how a row is put behind. No program in sight. -/
import Derived.Test.YtglghdkjppcedaaGreatDoorPart1
import Derived.Test.YtglghdkjppcedaaGreatDoorPart2
import Derived.Deep.AppendLies
import Derived.Test.YtglghdkjppcedaaGreatDoorPart0
import Derived.Test.YtglghdkjppcedaaGreatDoorPart4
import Derived.Laws.AppendOwnNone
import Derived.Deep.RegionLaw
import Derived.Deep.DeepCutAuto
namespace Go.Proofs.YtglghdkjppcedaaGreatDoor
open Go.RowKit

/-- The rows R lie, each apart from the others, in the slices V; the slice v has these. e: the number of int64. -/
structure OwnM (e : TypeId) (w : World) (base : Nat) (v : Value) (V : Nat → Value) (R : List (List Int)) : Prop where
  shape : (v = .slice none 0 0 ∧ R = []) ∨ ∃ g cap, v = .slice (some ⟨g, 0, none⟩) R.length cap ∧ base ≤ g ∧ g < w.heap.size ∧ R.length ≤ cap ∧ cap ≤ 9223372036854775807 ∧ ∀ i, i < R.length → w.cell? ⟨g, i, none⟩ = some (V i)
  row : ∀ i, i < R.length → Own e w base (V i) (gR R i)
  apart : ∀ i j, i < R.length → j < R.length → i ≠ j → Apart (V i) (V j)
  self : ∀ i, i < R.length → Apart (V i) v

/-- The blocks of a list of lists. -/
def OwnM.mine (v : Value) (V : Nat → Value) (R : List (List Int)) (k : Nat) : Prop := v.ownBlock = some k ∨ ∃ i, i < R.length ∧ (V i).ownBlock = some k

theorem OwnM.nil (e : TypeId) (w : World) (base : Nat) : OwnM e w base (.slice none 0 0) (fun _ => .slice none 0 0) [] :=
  ⟨.inl ⟨rfl, rfl⟩, fun i hi => by simp at hi, fun i _ hi => by simp at hi, fun i hi => by simp at hi⟩
theorem OwnM.form {e : TypeId} {w : World} {base : Nat} {v : Value} {V : Nat → Value} {R : List (List Int)} (h : OwnM e w base v V R) : ∃ a k, v = .slice a R.length k := by
  rcases h.shape with ⟨rfl, rfl⟩ | ⟨g, cap, rfl, _⟩
  · exact ⟨none, 0, rfl⟩
  · exact ⟨_, _, rfl⟩
theorem OwnM.block {e : TypeId} {w : World} {base : Nat} {v : Value} {V : Nat → Value} {R : List (List Int)} (h : OwnM e w base v V R) : ∀ g, OwnM.mine v V R g → base ≤ g ∧ g < w.heap.size := by
  intro g hg
  rcases hg with hg | ⟨i, hi, hg⟩
  · rcases h.shape with ⟨rfl, _⟩ | ⟨g', cap, rfl, h1, h2, _⟩
    · simp [Value.ownBlock] at hg
    · simp [Value.ownBlock] at hg; omega
  · exact (h.row i hi).block g hg
theorem OwnM.keeps {e : TypeId} {w w' : World} {base : Nat} {v : Value} {V : Nat → Value} {R : List (List Int)} {M : Nat → Prop} (h : OwnM e w base v V R) (hk : Keeps M w w') (hn : ∀ g, OwnM.mine v V R g → ¬ M g) : OwnM e w' base v V R := by
  refine ⟨?_, fun i hi => (h.row i hi).keeps hk (fun g hg => hn g (.inr ⟨i, hi, hg⟩)), h.apart, h.self⟩
  rcases h.shape with hs | ⟨g, cap, rfl, h1, h2, h3, h4, h5⟩
  · exact .inl hs
  · refine .inr ⟨g, cap, rfl, h1, Nat.lt_of_lt_of_le h2 hk.size, h3, h4, fun i hi => ?_⟩
    rw [hk.cell (p := ⟨g, i, none⟩) h2 (hn g (.inl rfl))]; exact h5 i hi
theorem OwnM.below {e : TypeId} {w w' : World} {base : Nat} {v : Value} {V : Nat → Value} {R : List (List Int)} (h : OwnM e w base v V R) (hb : Below w.heap.size w w') : OwnM e w' base v V R :=
  h.keeps (M := fun _ => False) (Keeps.of_below hb) (fun _ _ => id)
theorem OwnM.base_le {e : TypeId} {w : World} {base base' : Nat} {v : Value} {V : Nat → Value} {R : List (List Int)} (h : OwnM e w base v V R) (hB : base' ≤ base) : OwnM e w base' v V R := by
  refine ⟨?_, fun i hi => (h.row i hi).base_le hB, h.apart, h.self⟩
  rcases h.shape with hs | ⟨g, cap, rfl, h1, h2⟩
  · exact .inl hs
  · exact .inr ⟨g, cap, rfl, Nat.le_trans hB h1, h2⟩
theorem OwnM.rd {e : TypeId} {w : World} {base : Nat} {v : Value} {V : Nat → Value} {R : List (List Int)} (h : OwnM e w base v V R) : RdR w v R := by
  rcases h.shape with ⟨rfl, rfl⟩ | ⟨g, cap, rfl, h1, h2, h3, h4, h5⟩
  · exact ⟨none, 0, rfl, by simp, by simp, fun h => absurd rfl h⟩
  · exact ⟨_, cap, rfl, h3, h4, fun _ => ⟨g, 0, rfl, h2, fun i hi => ⟨V i, by rw [Nat.zero_add]; exact h5 i hi, (h.row i hi).rd⟩⟩⟩
theorem OwnM.of_rows {e : TypeId} {w : World} {base g n cap : Nat} {V : Nat → Value} {R : Nat → List Int} (h : Rows e w base g n V R) (h3 : n ≤ cap) (h4 : cap ≤ 9223372036854775807) : OwnM e w base (.slice (some ⟨g, 0, none⟩) n cap) V ((List.range n).map R) := by
  have hl : ((List.range n).map R).length = n := by simp
  refine ⟨.inr ⟨g, cap, by rw [hl], h.lo, h.lt, by rw [hl]; exact h3, h4, fun i hi => h.cell i (by omega)⟩, fun i hi => ?_, fun i j hi hj => h.apart i j (by omega) (by omega), fun i hi k hk hk2 => ?_⟩
  · rw [gR_map (by omega)]; exact h.row i (by omega)
  · simp [Value.ownBlock] at hk2
    exact h.self i (by omega) (by rw [hk, hk2])

/-- A list of lists that grows: the outer block is known whole. te: the number of []int64. -/
structure GrowM (e te : TypeId) (w : World) (base : Nat) (v : Value) (vs : List Value) (R : List (List Int)) : Prop where
  len : vs.length = R.length
  out : w.ownsRow base te 1 v vs.length vs
  row : ∀ i, i < R.length → Own e w base (vs.getD i (.slice none 0 0)) (gR R i)
  apart : ∀ i j, i < R.length → j < R.length → i ≠ j → Apart (vs.getD i (.slice none 0 0)) (vs.getD j (.slice none 0 0))
  self : ∀ i, i < R.length → Apart (vs.getD i (.slice none 0 0)) v

theorem GrowM.own {e te : TypeId} {w : World} {base : Nat} {v : Value} {vs : List Value} {R : List (List Int)} (h : GrowM e te w base v vs R) : OwnM e w base v (fun i => vs.getD i (.slice none 0 0)) R := by
  refine ⟨?_, h.row, h.apart, h.self⟩
  have hl := h.len
  rcases h.out.2 with ⟨h1, h2⟩ | ⟨g, cap, cur, h1, h2, h3, h4, h5, _⟩
  · exact .inl ⟨h1, List.eq_nil_of_length_eq_zero (by omega)⟩
  · refine .inr ⟨g, cap, by rw [h1, hl], h2, (Array.getElem?_eq_some_iff.1 h3).1, by omega, by unfold maxLen at h5; omega, fun i hi => ?_⟩
    have ho := h.out
    rw [h1] at ho
    rw [World.ownsRow.cellAt ho i (by omega)]
    simp [List.getD, List.getElem?_eq_getElem (show i < vs.length by omega)]
theorem GrowM.below {e te : TypeId} {w w' : World} {base : Nat} {v : Value} {vs : List Value} {R : List (List Int)} (h : GrowM e te w base v vs R) (hb : Below w.heap.size w w') : GrowM e te w' base v vs R := by
  refine ⟨h.len, ⟨h.out.1, ?_⟩, fun i hi => (h.row i hi).below hb (Nat.le_refl _), h.apart, h.self⟩
  rcases h.out.2 with hn | ⟨g, cap, cur, hv, hbg, hg, rest⟩
  · exact .inl hn
  · refine .inr ⟨g, cap, cur, hv, hbg, ?_, rest⟩
    have hlt := (Array.getElem?_eq_some_iff.1 hg).1
    rw [hb.block g (by omega)]; exact hg
theorem GrowM.keeps {e te : TypeId} {w w' : World} {base : Nat} {v : Value} {vs : List Value} {R : List (List Int)} {M : Nat → Prop} (h : GrowM e te w base v vs R) (hk : Keeps M w w') (hn : ∀ g, OwnM.mine v (fun i => vs.getD i (.slice none 0 0)) R g → ¬ M g) : GrowM e te w' base v vs R := by
  refine ⟨h.len, ⟨h.out.1, ?_⟩, fun i hi => (h.row i hi).keeps hk (fun g hg => hn g (.inr ⟨i, hi, hg⟩)), h.apart, h.self⟩
  rcases h.out.2 with hn' | ⟨g, cap, cur, hv, hbg, hg, rest⟩
  · exact .inl hn'
  · refine .inr ⟨g, cap, cur, hv, hbg, ?_, rest⟩
    have hlt := (Array.getElem?_eq_some_iff.1 hg).1
    rw [hk.block g hlt (hn g (.inl (by rw [hv]; rfl)))]; exact hg
theorem GrowM.nil (e te : TypeId) (w : World) (base : Nat) : GrowM e te w base (.slice none 0 0) [] [] :=
  ⟨rfl, World.ownsRow_nil w base te 1, fun i hi => by simp at hi, fun i _ hi => by simp at hi, fun i hi => by simp at hi⟩
theorem GrowM.empty (e te : TypeId) (w : World) (base g : Nat) (hg : g = w.heap.size) (hb : base ≤ g) : GrowM e te (w.alloc (.cells #[] te)) base (.slice (some ⟨g, 0, none⟩) 0 0) [] [] := by
  subst hg
  exact ⟨rfl, World.ownsRow_lit w #[] 0 hb (by unfold maxLen; omega) rfl, fun i hi => by simp at hi, fun i _ hi => by simp at hi, fun i hi => by simp at hi⟩
theorem GrowM.block {e te : TypeId} {w : World} {base : Nat} {v : Value} {vs : List Value} {R : List (List Int)} (h : GrowM e te w base v vs R) (g : Nat) (hg : v.ownBlock = some g) : base ≤ g ∧ g < w.heap.size := h.own.block g (.inl hg)

theorem gR_app_lt {R : List (List Int)} {ys : List (List Int)} {i : Nat} (h : i < R.length) : gR (R ++ ys) i = gR R i := by simp [gR, List.getD, List.getElem?_append_left h]
theorem gR_app_at {R : List (List Int)} {y : List Int} {i : Nat} (h : i = R.length) : gR (R ++ [y]) i = y := by subst h; simp [gR, List.getD]

/-- A row of its own is put behind. -/
theorem GrowM.push {e te : TypeId} {w w' : World} {base : Nat} {v u : Value} {vs : List Value} {R : List (List Int)} {ys : List Int} {g cap : Nat} (h : GrowM e te w base v vs R)
    (hu : Own e w base u ys) (hua : Apart u v) (hur : ∀ i, i < R.length → Apart (vs.getD i (.slice none 0 0)) u)
    (ho : w'.ownsRow base te 1 (.slice (some ⟨g, 0, none⟩) (vs.length + 1) cap) (vs.length + 1) (vs ++ [u])) (hk : Keeps (fun k => v.ownBlock = some k) w w') (hg : v.ownBlock = some g ∨ g = w.heap.size) :
    GrowM e te w' base (.slice (some ⟨g, 0, none⟩) (vs.length + 1) cap) (vs ++ [u]) (R ++ [ys]) := by
  have hl := h.len
  have old : ∀ i, i < R.length → (vs ++ [u]).getD i (.slice none 0 0) = vs.getD i (.slice none 0 0) := fun i hi => by simp [List.getD, List.getElem?_append_left (show i < vs.length by omega)]
  have new : (vs ++ [u]).getD R.length (.slice none 0 0) = u := by rw [← hl]; simp [List.getD]
  have hun : ∀ k, u.ownBlock = some k → ¬ v.ownBlock = some k := fun k h1 h2 => hua k h1 h2
  refine ⟨by simp [hl], by simpa using ho, ?_, ?_, ?_⟩
  · intro i hi
    simp at hi
    by_cases e' : i = R.length
    · subst e'
      rw [new, gR_app_at rfl]
      exact hu.keeps hk hun
    · rw [old i (by omega), gR_app_lt (by omega)]
      exact (h.row i (by omega)).keeps hk (fun k h1 h2 => h.self i (by omega) k h1 h2)
  · intro i j hi hj hne
    simp at hi hj
    by_cases e1 : i = R.length
    · subst e1
      rw [new, old j (by omega)]
      exact (hur j (by omega)).symm
    · by_cases e2 : j = R.length
      · subst e2
        rw [new, old i (by omega)]
        exact hur i (by omega)
      · rw [old i (by omega), old j (by omega)]
        exact h.apart i j (by omega) (by omega) hne
  · intro i hi k h1 h2
    simp at hi
    simp [Value.ownBlock] at h2
    by_cases e1 : i = R.length
    · subst e1
      rw [new] at h1
      rcases hg with hg | hg
      · exact hua k h1 (by rw [hg, h2])
      · have := (hu.block k h1).2; omega
    · rw [old i (by omega)] at h1
      rcases hg with hg | hg
      · exact h.self i (by omega) k h1 (by rw [hg, h2])
      · have := ((h.row i (by omega)).block k h1).2; omega

/-- 'out = append(out, row)'. -/
theorem wpList_pushR {P : Program} {w : World} {ops : Array Oper} {rest : List Oper} {o : Oper} {a : Act} {Q : Exit → Act → World → Prop} (hgd : o.guard = none) (s x : Operand) (t : TypeId)
    (ho : o.op = .call { callee := .builtin .append, args := #[s, x], argTypes := #[t, t] })
    (base : Nat) (e te : TypeId) (i : TypeInfo) (ht : P.underlying t = some (.slice te)) (hi : P.info? te = some i) (hz : i.zero = some (.slice none 0 0)) (hsize : i.size = 1) (hby : i.bytes = 24)
    (v : Value) (vs : List Value) (R : List (List Int)) (u : Value) (ys : List Int) (hs : a.eval s = v) (hown : GrowM e te w base v vs R) (gx : Nat) (hgx : gx = w.heap.size) (hx : a.eval x = .slice (some ⟨gx, 0, none⟩) 1 1)
    (hu : Own e w base u ys) (hua : Apart u v) (hur : ∀ i, i < R.length → Apart (vs.getD i (.slice none 0 0)) u)
    (hlen : R.length ≤ 1000000000) (hbase : base ≤ w.heap.size)
    (h : ∀ g cap w', GrowM e te w' base (.slice (some ⟨g, 0, none⟩) (R.length + 1) cap) (vs ++ [u]) (R ++ [ys]) → Keeps (fun k => v.ownBlock = some k) w w' → g < w'.heap.size → wpList P ops Q rest (a.put o.dst (.slice (some ⟨g, 0, none⟩) (R.length + 1) cap)) w') :
    wpList P ops Q (o :: rest) a (w.alloc (.cells #[u] te)) := by
  subst hgx
  have hl := hown.len
  have hal : Below w.heap.size w (w.alloc (.cells #[u] te)) := (Below.refl _ _).alloc (Nat.le_refl _) _
  obtain ⟨ua, uk, hue⟩ := hu.form
  refine wpList_append_lies _ hgd s x t ho base te i (.slice none 0 0) 1 24 ht hi hz hsize hby rfl (by decide) v vs.length vs hs (hown.below hal).out ⟨w.heap.size, 0, none⟩ 1 1 [u] hx rfl (cell_one_new _ _ _) ?_ (by omega) ?_ ?_ ?_ _ rfl ?_
  · intro y hy; simp at hy; subst hy; subst hue; rfl
  · unfold maxLen; omega
  · omega
  · simp; omega
  · intro g cap w' h2 h3 h4 h5
    have hk : Keeps (fun k => v.ownBlock = some k) (w.alloc (.cells #[u] te)) w' := Keeps.of_grown h3
    have hp := (hown.below hal).push (hu.below hal (Nat.le_refl _)) hua hur h2 hk h4
    rw [hl] at hp ⊢
    exact h g cap w' hp ((Keeps.of_below hal).trans hk) h5

/-- A list of lists and a code are handed back. -/
def RetMC (e0 : TypeId) (w : World) (R : List (List Int)) (c : Int) (e : Ending) (w' : World) : Prop :=
  ∃ a k V, e = .returned (.tuple #[.slice a R.length k, .int .i64 c]) ∧ OwnM e0 w' w.heap.size (.slice a R.length k) V R ∧ Below w.heap.size w w'
/-- A list of lists is handed back. -/
def RetM (e0 : TypeId) (w : World) (R : List (List Int)) (e : Ending) (w' : World) : Prop :=
  ∃ a k V, e = .returned (.slice a R.length k) ∧ OwnM e0 w' w.heap.size (.slice a R.length k) V R ∧ Below w.heap.size w w'
theorem retMC_mk {e0 : TypeId} {w w' : World} {v : Value} {V : Nat → Value} {R : List (List Int)} {c : Int} (h : OwnM e0 w' w.heap.size v V R) (hb : Below w.heap.size w w') : RetMC e0 w R c (.returned (.tuple #[v, .int .i64 c])) w' := by
  obtain ⟨a, k, rfl⟩ := h.form
  exact ⟨a, k, V, rfl, h, hb⟩
theorem retM_mk {e0 : TypeId} {w w' : World} {v : Value} {V : Nat → Value} {R : List (List Int)} (h : OwnM e0 w' w.heap.size v V R) (hb : Below w.heap.size w w') : RetM e0 w R (.returned v) w' := by
  obtain ⟨a, k, rfl⟩ := h.form
  exact ⟨a, k, V, rfl, h, hb⟩
/-- The number of all numbers of rows. -/
def totR (R : List (List Int)) (i : Nat) : Nat := ((List.range i).map fun j => (gR R j).length).sum
/-- The rows as they are marked. -/
def iotaR (k : Int) (R : List (List Int)) : List (List Int) := (List.range R.length).map fun i => iotaI (k + totR R i) (gR R i).length
@[simp] theorem iotaR_len (k : Int) (R : List (List Int)) : (iotaR k R).length = R.length := by simp [iotaR]
/-- The result behind a test. -/
def okR (b : Bool) (R : List (List Int)) : List (List Int) := if b then R else []
end Go.Proofs.YtglghdkjppcedaaGreatDoor

/- Two rows of two numbers put behind a list of lists that the call owns. No program in sight. -/
namespace Go.Proofs.YtglghdkjppcedaaGreatDoor
open Go.RowKit

theorem own_blk2 {e : TypeId} {w : World} {g base : Nat} {x y : Int} (h : Blk w g e #[.int .i64 x, .int .i64 y]) (hb : base ≤ g) : Own e w base (.slice (some ⟨g, 0, none⟩) 2 2) [x, y] :=
  ⟨rfl, .inr ⟨g, 2, #[.int .i64 x, .int .i64 y], rfl, hb, h, Nat.le_refl _, by unfold maxLen; omega, rfl, rfl⟩⟩

theorem getD_app2 {vs : List Value} {u1 u2 z : Value} : (vs ++ [u1, u2]).getD vs.length z = u1 ∧ (vs ++ [u1, u2]).getD (vs.length + 1) z = u2 := by
  constructor <;> simp [List.getD]
theorem gR_app2 {R : List (List Int)} {y1 y2 : List Int} : gR (R ++ [y1, y2]) R.length = y1 ∧ gR (R ++ [y1, y2]) (R.length + 1) = y2 := by
  constructor <;> simp [gR, List.getD]

theorem GrowM.push2 {e te : TypeId} {w w' : World} {base : Nat} {v : Value} {vs : List Value} {R : List (List Int)} {g cap h1 h2 : Nat} {p1 q1 p2 q2 : Int} (h : GrowM e te w base v vs R)
    (u1 : Own e w base (.slice (some ⟨h1, 0, none⟩) 2 2) [p1, q1]) (u2 : Own e w base (.slice (some ⟨h2, 0, none⟩) 2 2) [p2, q2]) (hne : h1 ≠ h2)
    (hf : ∀ k, OwnM.mine v (fun i => vs.getD i (.slice none 0 0)) R k → k ≠ h1 ∧ k ≠ h2)
    (ho : w'.ownsRow base te 1 (.slice (some ⟨g, 0, none⟩) (vs.length + 2) cap) (vs.length + 2) (vs ++ [Value.slice (some ⟨h1, 0, none⟩) 2 2, Value.slice (some ⟨h2, 0, none⟩) 2 2])) (hk : Keeps (fun k => v.ownBlock = some k) w w') (hg : v.ownBlock = some g ∨ g = w.heap.size) :
    GrowM e te w' base (.slice (some ⟨g, 0, none⟩) (vs.length + 2) cap) (vs ++ [Value.slice (some ⟨h1, 0, none⟩) 2 2, Value.slice (some ⟨h2, 0, none⟩) 2 2]) (R ++ [[p1, q1], [p2, q2]]) := by
  have hl := h.len
  have old : ∀ i, i < R.length → (vs ++ [Value.slice (some ⟨h1, 0, none⟩) 2 2, Value.slice (some ⟨h2, 0, none⟩) 2 2]).getD i (.slice none 0 0) = vs.getD i (.slice none 0 0) := fun i hi => by simp [List.getD, List.getElem?_append_left (show i < vs.length by omega)]
  have n1 : (vs ++ [Value.slice (some ⟨h1, 0, none⟩) 2 2, Value.slice (some ⟨h2, 0, none⟩) 2 2]).getD R.length (Value.slice none 0 0) = Value.slice (some ⟨h1, 0, none⟩) 2 2 := by rw [← hl]; exact getD_app2.1
  have n2 : (vs ++ [Value.slice (some ⟨h1, 0, none⟩) 2 2, Value.slice (some ⟨h2, 0, none⟩) 2 2]).getD (R.length + 1) (Value.slice none 0 0) = Value.slice (some ⟨h2, 0, none⟩) 2 2 := by rw [← hl]; exact getD_app2.2
  have lt1 := (u1.block h1 rfl).2
  have lt2 := (u2.block h2 rfl).2
  have hv1 : ∀ k, v.ownBlock = some k → k ≠ h1 ∧ k ≠ h2 := fun k hk => hf k (.inl hk)
  have hr1 : ∀ i, i < R.length → ∀ k, (vs.getD i (.slice none 0 0)).ownBlock = some k → k ≠ h1 ∧ k ≠ h2 := fun i hi k hk => hf k (.inr ⟨i, hi, hk⟩)
  have cases3 : ∀ i, i < (R ++ [[p1, q1], [p2, q2]]).length → i < R.length ∨ i = R.length ∨ i = R.length + 1 := by intro i hi; simp at hi; omega
  refine ⟨by simp [hl], by simpa using ho, ?_, ?_, ?_⟩
  · intro i hi
    rcases cases3 i hi with c | c | c
    · rw [old i c, gR_app_lt c]
      exact (h.row i c).keeps hk (fun k k1 k2 => h.self i c k k1 k2)
    · subst c
      rw [n1, gR_app2.1]
      exact u1.keeps hk (fun k k1 k2 => by simp [Value.ownBlock] at k1; have := (hv1 k k2).1; omega)
    · subst c
      rw [n2, gR_app2.2]
      exact u2.keeps hk (fun k k1 k2 => by simp [Value.ownBlock] at k1; have := (hv1 k k2).2; omega)
  · intro i j hi hj hij
    rcases cases3 i hi with c | c | c <;> rcases cases3 j hj with d | d | d
    · rw [old i c, old j d]; exact h.apart i j c d hij
    · rw [old i c, d, n1]; intro k k1 k2; simp [Value.ownBlock] at k2; have := (hr1 i c k k1).1; omega
    · rw [old i c, d, n2]; intro k k1 k2; simp [Value.ownBlock] at k2; have := (hr1 i c k k1).2; omega
    · rw [c, n1, old j d]; intro k k1 k2; simp [Value.ownBlock] at k1; have := (hr1 j d k k2).1; omega
    · omega
    · rw [c, d, n1, n2]; intro k k1 k2; simp [Value.ownBlock] at k1 k2; omega
    · rw [c, n2, old j d]; intro k k1 k2; simp [Value.ownBlock] at k1; have := (hr1 j d k k2).2; omega
    · rw [c, d, n1, n2]; intro k k1 k2; simp [Value.ownBlock] at k1 k2; omega
    · omega
  · intro i hi k k1 k2
    simp [Value.ownBlock] at k2
    rcases cases3 i hi with c | c | c
    · rw [old i c] at k1
      rcases hg with hg | hg
      · exact h.self i c k k1 (by rw [hg, k2])
      · have := ((h.row i c).block k k1).2; omega
    · subst c
      rw [n1] at k1
      simp [Value.ownBlock] at k1
      rcases hg with hg | hg
      · have := (hv1 g hg).1; omega
      · omega
    · subst c
      rw [n2] at k1
      simp [Value.ownBlock] at k1
      rcases hg with hg | hg
      · have := (hv1 g hg).2; omega
      · omega

end Go.Proofs.YtglghdkjppcedaaGreatDoor

/- Contracts of the laws' own helpers on slices, branches and clusters: sizes, copies, comparisons, marks. -/
namespace Go.Proofs.YtglghdkjppcedaaGreatDoor
open Go.RowKit

/-- What is left of l places behind n. -/
def szI (l : Int) (n : Nat) : Int := if l < n then -1 else l - n
end Go.Proofs.YtglghdkjppcedaaGreatDoor

/- Contracts of the laws' own helpers on clusters: sizes, copies, comparisons, marks. -/
namespace Go.Proofs.YtglghdkjppcedaaGreatDoor
open Go.RowKit

/-- A new cluster is returned. -/
def RetC (w : World) (P S W : List Int) (e : Ending) (w' : World) : Prop :=
  ∃ a i b j c k, e = .returned (.agg #[.slice a P.length i, .slice b S.length j, .slice c W.length k]) ∧ Own3 2 w' w.heap.size (.slice a P.length i) (.slice b S.length j) (.slice c W.length k) P S W ∧ Below w.heap.size w w'

end Go.Proofs.YtglghdkjppcedaaGreatDoor

/- Contracts of the laws' own helpers on branches: sizes, copies, comparisons. -/
namespace Go.Proofs.YtglghdkjppcedaaGreatDoor
open Go.RowKit

/-- A new branch is returned. -/
def RetB (w : World) (P : List Int) (e : Ending) (w' : World) : Prop :=
  ∃ a i, e = .returned (.agg #[.slice a P.length i]) ∧ OwnI w' w.heap.size (.slice a P.length i) P ∧ Below w.heap.size w w'

end Go.Proofs.YtglghdkjppcedaaGreatDoor

/- Contracts of the laws' own helpers on branches: marks. -/
namespace Go.Proofs.YtglghdkjppcedaaGreatDoor
open Go.RowKit

end Go.Proofs.YtglghdkjppcedaaGreatDoor

/- Contracts of the two programs' functions on one cluster: IsCluster. -/
namespace Go.Proofs.YtglghdkjppcedaaGreatDoor
open Go.RowKit

end Go.Proofs.YtglghdkjppcedaaGreatDoor

/- Contracts: PathOf. -/
namespace Go.Proofs.YtglghdkjppcedaaGreatDoor
open Go.RowKit

/-- A literal of one number, the call's own. -/
theorem own_one {e : TypeId} (w : World) (base : Nat) (hb : base ≤ w.heap.size) (x : Int) : Own e (w.alloc (.cells #[.int .i64 x] e)) base (.slice (some ⟨w.heap.size, 0, none⟩) 1 1) [x] :=
  World.ownsRow_lit w #[.int .i64 x] 1 hb (by unfold maxLen; omega) rfl

/-- The points from the root to the point i; f bounds their number. -/
def pathUp (P : List Int) : Nat → Int → List Int
  | 0, _ => []
  | f + 1, i => if i < 0 then [] else pathUp P f (gI P i.toNat) ++ [i]
def pathTo (P : List Int) (i : Int) : List Int := pathUp P (P.length + 1) i

theorem isPoint_c (p s q : Value) (P : List Int) (n : Int) (w : World) (hp : Rd w p P) (h24 : P.length ≤ 24) :
    Calls Tryz.prog 45 #[.agg #[p, s, q], .int .i64 n] w fun e w' => e = .returned (.bool (inB n 0 ((P.length : Int) - 1))) ∧ Below w.heap.size w w' := by
  have hx := Boxed.start w 26 #[p, s, q]
  obtain ⟨a1, k1, rfl⟩ := hp.len0
  have c0 := hx.cell 0
  go_enter Tryz.func45, Tryz.ntmps45
  go_wp2_with fail
  refine (inRange_c n 0 ((P.length : Int) - 1) _).mono ?_
  rintro e w1 ⟨rfl, rfl⟩
  go_wp2
  go_ret
  exact ⟨rfl, hx.below⟩

/-- The point is one of the cluster. -/
def ptB (P S W : List Int) (n : Int) : Bool := cluB P S W && inB n 0 ((P.length : Int) - 1)
/-- The code of a cluster and a point. -/
def ptC (P S W : List Int) (n : Int) : Int := if cluB P S W then (if inB n 0 ((P.length : Int) - 1) then 0 else 2) else 1
theorem ptC_bad {P S W : List Int} {n : Int} (h : cluB P S W = false) : ptC P S W n = 1 := by simp [ptC, h]
theorem ptC_out {P S W : List Int} {n : Int} (h : cluB P S W = true) (h2 : inB n 0 ((P.length : Int) - 1) = false) : ptC P S W n = 2 := by simp [ptC, h, h2]
theorem ptC_ok {P S W : List Int} {n : Int} (h : cluB P S W = true) (h2 : inB n 0 ((P.length : Int) - 1) = true) : ptC P S W n = 0 := by simp [ptC, h, h2]
theorem ptB_bad {P S W : List Int} {n : Int} (h : cluB P S W = false) : ptB P S W n = false := by simp [ptB, h]
theorem ptB_out {P S W : List Int} {n : Int} (h2 : inB n 0 ((P.length : Int) - 1) = false) : ptB P S W n = false := by simp [ptB, h2]
theorem ptB_ok {P S W : List Int} {n : Int} (h : cluB P S W = true) (h2 : inB n 0 ((P.length : Int) - 1) = true) : ptB P S W n = true := by simp [ptB, h, h2]

end Go.Proofs.YtglghdkjppcedaaGreatDoor

/- Contracts: impl.clusterProximates. -/
namespace Go.Proofs.YtglghdkjppcedaaGreatDoor
open Go.RowKit

theorem Tryz.infoII : (Tryz.prog.info? 24).map (fun i => (i.zero, i.size, i.bytes)) = some (some (.slice none 0 0), 1, 24) := by kernel_rfl

/-- What the rows are after k rounds. -/
def proxTo (P S : List Int) (k : Nat) : Nat → List Int := fun i => if i < k then proxOf P S i else []

/-- A list of lists that is new. -/
def RetR (w : World) (n : Nat) (R : Nat → List Int) (e : Ending) (w' : World) : Prop :=
  ∃ g V, e = .returned (.slice (some ⟨g, 0, none⟩) n n) ∧ Rows 2 w' w.heap.size g n V R ∧ Below w.heap.size w w'

set_option maxRecDepth 100000 in
set_option maxHeartbeats 4000000 in
theorem clusterProximates_c (p s q : Value) (P S W : List Int) (w : World) (hp : Rd w p P) (hs : Rd w s S) (hq : Rd w q W) (hl : S.length = P.length) (h0 : 0 < P.length) (h24 : P.length ≤ 24) :
    Calls Tryz.prog 36 #[.agg #[p, s, q]] w (RetR w P.length (proxOf P S)) := by
  obtain ⟨i0, hi, hz0, hz1, hz2⟩ := info_parts Tryz.infoI
  obtain ⟨j0, ji, jz0, jz1, jz2⟩ := info_parts Tryz.infoII
  obtain ⟨bp, op, kp, rfl, hpc1, hpc2, hpb, hpc⟩ := hp.cells h0
  obtain ⟨bs, os, ks, rfl, hsc1, hsc2, hsb, hsc⟩ := hs.cells (by omega)
  obtain ⟨aq, kq, rfl⟩ := hq.len0
  have hl1 : P.length ≤ S.length := by omega
  have hl2 : S.length ≤ P.length := by omega
  clear hl
  have hx := Boxed.start w 26 #[.slice (some ⟨bp, op, none⟩) P.length kp, .slice (some ⟨bs, os, none⟩) S.length ks, .slice aq W.length kq]
  go_enter Tryz.func36, Tryz.ntmps36
  go_wp2_with (at_make; refine wpList_make_full _ rfl (.tmp 7) (.tmp 7) 35 rfl (w.heap.size + 1) 24 j0 (.slice none 0 0) 1 Tryz.underlying35 ji jz0 jz1 _ _ _ _ P.length rfl rfl rfl rfl ?c1 ?c2 ?c3 ?_)
  case c1 => rw [jz2]; omega
  case c2 => unfold maxLen; omega
  case c3 => simp
  intro w1 hown hgrow
  have hx1 : Boxed w w1 26 #[.slice (some ⟨bp, op, none⟩) P.length kp, .slice (some ⟨bs, os, none⟩) S.length ks, .slice aq W.length kq] := by
    refine hx.trans ((Below.refl _ _).grown hgrow (Nat.le_refl _) (by simp))
  have hR : Rows 2 w1 (w.heap.size + 1) (w.heap.size + 1) P.length (fun _ => .slice none 0 0) (fun _ => []) := by
    rw [toList_madeCells_one] at hown
    exact Rows.made hown (Nat.le_refl _) ((World.ownsRow.lt hown) _ rfl).2
  clear hown hgrow hx
  go_wp2
  go_loopw [4] (fun i wr => ∃ k : Nat, ∃ V, 1 ≤ k ∧ k ≤ P.length ∧ i = .int .i64 k ∧ Rows 2 wr (w.heap.size + 1) (w.heap.size + 1) P.length V (proxTo P S k) ∧ Boxed w wr 26 #[.slice (some ⟨bp, op, none⟩) P.length kp, .slice (some ⟨bs, os, none⟩) S.length ks, .slice aq W.length kq]) (fun i _ => P.length - (intOf i).toNat)
  case atStart => exact ⟨1, _, Nat.le_refl _, by omega, rfl, hR.congr (fun i _ => by unfold proxTo; split <;> simp [proxOf]; omega), hx1⟩
  case round =>
    obtain ⟨k, V, hk1, hk, rfl, hrow, hbx⟩ := hrel
    clear hR hx1
    obtain ⟨wo, rfl⟩ : ∃ wo : World, wo = wr := ⟨_, rfl⟩
    by_cases hlt : k < P.length
    · have hi1 : (k : Int) < (S.length : Int) := by omega
      have hi2 : (k : Int) < (P.length : Int) := by omega
      have h00 : (0 : Int) ≤ (k : Int) := Int.natCast_nonneg _
      have c0 := hbx.cell 0
      have c1 := hbx.cell 1
      have dS : wo.cell? ⟨bs, os + k, none⟩ = some (.int .i64 (gI S k)) := by rw [hbx.below.cell (p := ⟨bs, os + k, none⟩) hsb]; exact hsc k (by omega)
      go_upto_if 20 with (fail)
      go_cut [4] from 15 to 34 (fun s wc => s = .int .i64 k ∧ ∃ V', Rows 2 wc (w.heap.size + 1) (w.heap.size + 1) P.length V' (upd (proxTo P S k) k (secL S k)) ∧ Boxed w wc 26 #[.slice (some ⟨bp, op, none⟩) P.length kp, .slice (some ⟨bs, os, none⟩) S.length ks, .slice aq W.length kq])
      case first =>
        by_cases hge : 0 ≤ gI S k
        · have dV := hrow.cell k hlt
          have hsz := hbx.size
          have hbp : bp < wo.heap.size := by omega
          have hbs : bs < wo.heap.size := by omega
          have hgo := hrow.lt
          have hal : Below wo.heap.size wo ((wo.alloc (.cells #[.int .i64 (gI S k)] 2)).drew) := ((Below.refl _ _).alloc (Nat.le_refl _) _).drew
          have hrow' := hrow.below hal
          have hbx' := hbx.trans hal
          go_wp2_with fail
          go_region_law (refine step_push rfl (.tmp 26) (.tmp 32) 24 rfl (w.heap.size + 1) 2 i0 Tryz.underlying24 hi hz0 hz1 hz2 (V k) (proxTo P S k k) (gI S k) wo.heap.size rfl (hrow'.row k hlt) rfl (Blk.new wo _ _) (by simp [proxTo]) (by simp; omega) ?_; intro g cap w2 h1 h2 h3 h4; have d2 : w2.cell? ⟨w.heap.size + 1, k, none⟩ = some (V k) := (h2.cell (p := ⟨w.heap.size + 1, k, none⟩) hrow'.lt (hrow.self k hlt)).trans (hrow'.cell k hlt); have f2 : w2.frozen? ⟨w.heap.size + 1, k, none⟩ = false := (h2.frozen (p := ⟨w.heap.size + 1, k, none⟩) hrow'.lt (hrow.self k hlt)).trans (hrow'.free k))
          all_goals
            have hput := hrow'.put hlt h1 h2 (h3.imp id (fun h => by omega))
            have hbx2 := hbx'.wrote ((h2.mono (fun k hk => ((hrow.row _ hlt).block k hk).1)).setCell (p := ⟨w.heap.size + 1, k, none⟩) (Nat.le_refl (w.heap.size + 1)) (.slice (some ⟨g, 0, none⟩) ((proxTo P S k k).length + 1) cap))
            go_wp2
            go_meet
            refine ⟨rfl, _, hput.congr (fun i _ => ?_), hbx2⟩
            unfold upd
            split
            · rw [secL_yes hge]; simp [proxTo]
            · rfl
        · go_wp2
          go_meet
          refine ⟨rfl, _, hrow.congr (fun i _ => ?_), hbx⟩
          unfold upd
          split
          · rename_i h; rw [secL_no (by omega), h]; simp [proxTo]
          · rfl
      case rest =>
        obtain ⟨rfl, V', hrow2, hbx2⟩ := hcut
        clear hrow hbx c0 c1 dS
        obtain ⟨wo2, rfl⟩ : ∃ wo : World, wo = wc := ⟨_, rfl⟩
        have c0 := hbx2.cell 0
        have dP : wo2.cell? ⟨bp, op + k, none⟩ = some (.int .i64 (gI P k)) := by rw [hbx2.below.cell (p := ⟨bp, op + k, none⟩) hpb]; exact hpc k hlt
        have dV := hrow2.cell k hlt
        have hsz := hbx2.size
        have hbp : bp < wo2.heap.size := by omega
        have hgo := hrow2.lt
        have hal : Below wo2.heap.size wo2 ((wo2.alloc (.cells #[.int .i64 (gI P k)] 2)).drew) := ((Below.refl _ _).alloc (Nat.le_refl _) _).drew
        have hrow' := hrow2.below hal
        have hbx' := hbx2.trans hal
        have hlen := secL_len S k
        have hO := hrow'.row k hlt
        rw [upd_at] at hO
        go_wp2_with fail
        go_region_law (refine step_push rfl (.tmp 40) (.tmp 46) 24 rfl (w.heap.size + 1) 2 i0 Tryz.underlying24 hi hz0 hz1 hz2 (V' k) (secL S k) (gI P k) wo2.heap.size rfl hO rfl (Blk.new wo2 _ _) (by omega) (by simp; omega) ?_; intro g cap w2 h1 h2 h3 h4; have d2 : w2.cell? ⟨w.heap.size + 1, k, none⟩ = some (V' k) := (h2.cell (p := ⟨w.heap.size + 1, k, none⟩) hrow'.lt (hrow2.self k hlt)).trans (hrow'.cell k hlt); have f2 : w2.frozen? ⟨w.heap.size + 1, k, none⟩ = false := (h2.frozen (p := ⟨w.heap.size + 1, k, none⟩) hrow'.lt (hrow2.self k hlt)).trans (hrow'.free k))
        all_goals
          have hput := hrow'.put hlt h1 h2 (h3.imp id (fun h => by omega))
          have hbx3 := hbx'.wrote ((h2.mono (fun k hk => ((hrow2.row _ hlt).block k hk).1)).setCell (p := ⟨w.heap.size + 1, k, none⟩) (Nat.le_refl (w.heap.size + 1)) (.slice (some ⟨g, 0, none⟩) ((secL S k).length + 1) cap))
          have hfin := hput.congr (R' := proxTo P S (k + 1)) (fun i _ => by
            unfold upd proxTo
            by_cases e : i = k
            · subst e; simp [proxOf]; omega
            · simp only [e, if_false]
              by_cases e2 : i < k
              · rw [if_pos e2, if_pos (by omega)]
              · rw [if_neg e2, if_neg (by omega)])
          clear hput hO d2 f2 h1 h2 h3 h4
          go_wp2
          go_roundw
          case rel => exact ⟨k + 1, _, by omega, by omega, by go_num, hfin, hbx3⟩
          case measure => simp [intOf]; omega
    · go_wp2
      have hk' : k = P.length := by omega
      subst hk'
      go_ret
      exact ⟨_, _, rfl, (hrow.base_le (by omega)).congr (fun i hi => by simp [proxTo, hi]), hbx.below⟩
end Go.Proofs.YtglghdkjppcedaaGreatDoor
