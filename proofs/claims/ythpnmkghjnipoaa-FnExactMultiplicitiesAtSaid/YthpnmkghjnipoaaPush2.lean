/- Two rows of two numbers put behind a list of lists that the call owns. No program in sight. -/
import Derived.Test.YthpnmkghjnipoaaMatL
namespace Go.Proofs.Ythpnmkghjnipoaa
open Go.RowKit

theorem own_blk2 {e : TypeId} {w : World} {g base : Nat} {x y : Int} (h : Blk w g e #[.int .i64 x, .int .i64 y]) (hb : base ≤ g) : Own e w base (.slice (some ⟨g, 0, none⟩) 2 2) [x, y] :=
  ⟨rfl, .inr ⟨g, 2, #[.int .i64 x, .int .i64 y], rfl, hb, h, Nat.le_refl _, by unfold maxLen; omega, rfl, rfl⟩⟩

theorem getD_app2 {vs : List Value} {u1 u2 z : Value} : (vs ++ [u1, u2]).getD vs.length z = u1 ∧ (vs ++ [u1, u2]).getD (vs.length + 1) z = u2 := by
  constructor <;> simp [List.getD]
theorem gR_app2 {R : List (List Int)} {y1 y2 : List Int} : gR (R ++ [y1, y2]) R.length = y1 ∧ gR (R ++ [y1, y2]) (R.length + 1) = y2 := by
  constructor <;> simp [gR, List.getD]

theorem GrowM.push2 {e te : TypeId} {w w' : World} {base : Nat} {v : Value} {vs : List Value} {R : List (List Int)} {g cap h1 h2 : Nat} {p1 q1 p2 q2 : Int} (h : GrowM e te w base v vs R)
    (u1 : Own e w base (.slice (some ⟨h1, 0, none⟩) 2 2) [p1, q1]) (u2 : Own e w base (.slice (some ⟨h2, 0, none⟩) 2 2) [p2, q2]) (hne : h1 ≠ h2)
    (hf : ∀ k, OwnM.mine v (fun i => vs.getD i (.slice none 0 0)) R k → k ≠ h1 ∧ k ≠ h2)
    (ho : w'.ownsRow base te 1 (.slice (some ⟨g, 0, none⟩) (vs.length + 2) cap) (vs.length + 2) (vs ++ [Value.slice (some ⟨h1, 0, none⟩) 2 2, Value.slice (some ⟨h2, 0, none⟩) 2 2])) (hk : Keeps (fun k => v.ownBlock = some k) w w') (hg : v.ownBlock = some g ∨ g = w.heap.size) :
    GrowM e te w' base (.slice (some ⟨g, 0, none⟩) (vs.length + 2) cap) (vs ++ [Value.slice (some ⟨h1, 0, none⟩) 2 2, Value.slice (some ⟨h2, 0, none⟩) 2 2]) (R ++ [[p1, q1], [p2, q2]]) := by
  have hl := h.len
  have old : ∀ i, i < R.length → (vs ++ [Value.slice (some ⟨h1, 0, none⟩) 2 2, Value.slice (some ⟨h2, 0, none⟩) 2 2]).getD i (.slice none 0 0) = vs.getD i (.slice none 0 0) := fun i hi => by simp [List.getD, List.getElem?_append_left (show i < vs.length by omega)]
  have n1 : (vs ++ [Value.slice (some ⟨h1, 0, none⟩) 2 2, Value.slice (some ⟨h2, 0, none⟩) 2 2]).getD R.length (Value.slice none 0 0) = Value.slice (some ⟨h1, 0, none⟩) 2 2 := by rw [← hl]; exact getD_app2.1
  have n2 : (vs ++ [Value.slice (some ⟨h1, 0, none⟩) 2 2, Value.slice (some ⟨h2, 0, none⟩) 2 2]).getD (R.length + 1) (Value.slice none 0 0) = Value.slice (some ⟨h2, 0, none⟩) 2 2 := by rw [← hl]; exact getD_app2.2
  have lt1 := (u1.block h1 rfl).2
  have lt2 := (u2.block h2 rfl).2
  have hv1 : ∀ k, v.ownBlock = some k → k ≠ h1 ∧ k ≠ h2 := fun k hk => hf k (.inl hk)
  have hr1 : ∀ i, i < R.length → ∀ k, (vs.getD i (.slice none 0 0)).ownBlock = some k → k ≠ h1 ∧ k ≠ h2 := fun i hi k hk => hf k (.inr ⟨i, hi, hk⟩)
  have cases3 : ∀ i, i < (R ++ [[p1, q1], [p2, q2]]).length → i < R.length ∨ i = R.length ∨ i = R.length + 1 := by intro i hi; simp at hi; omega
  refine ⟨by simp [hl], by simpa using ho, ?_, ?_, ?_⟩
  · intro i hi
    rcases cases3 i hi with c | c | c
    · rw [old i c, gR_app_lt c]
      exact (h.row i c).keeps hk (fun k k1 k2 => h.self i c k k1 k2)
    · subst c
      rw [n1, gR_app2.1]
      exact u1.keeps hk (fun k k1 k2 => by simp [Value.ownBlock] at k1; have := (hv1 k k2).1; omega)
    · subst c
      rw [n2, gR_app2.2]
      exact u2.keeps hk (fun k k1 k2 => by simp [Value.ownBlock] at k1; have := (hv1 k k2).2; omega)
  · intro i j hi hj hij
    rcases cases3 i hi with c | c | c <;> rcases cases3 j hj with d | d | d
    · rw [old i c, old j d]; exact h.apart i j c d hij
    · rw [old i c, d, n1]; intro k k1 k2; simp [Value.ownBlock] at k2; have := (hr1 i c k k1).1; omega
    · rw [old i c, d, n2]; intro k k1 k2; simp [Value.ownBlock] at k2; have := (hr1 i c k k1).2; omega
    · rw [c, n1, old j d]; intro k k1 k2; simp [Value.ownBlock] at k1; have := (hr1 j d k k2).1; omega
    · omega
    · rw [c, d, n1, n2]; intro k k1 k2; simp [Value.ownBlock] at k1 k2; omega
    · rw [c, n2, old j d]; intro k k1 k2; simp [Value.ownBlock] at k1; have := (hr1 j d k k2).2; omega
    · rw [c, d, n1, n2]; intro k k1 k2; simp [Value.ownBlock] at k1 k2; omega
    · omega
  · intro i hi k k1 k2
    simp [Value.ownBlock] at k2
    rcases cases3 i hi with c | c | c
    · rw [old i c] at k1
      rcases hg with hg | hg
      · exact h.self i c k k1 (by rw [hg, k2])
      · have := ((h.row i c).block k k1).2; omega
    · subst c
      rw [n1] at k1
      simp [Value.ownBlock] at k1
      rcases hg with hg | hg
      · have := (hv1 g hg).1; omega
      · omega
    · subst c
      rw [n2] at k1
      simp [Value.ownBlock] at k1
      rcases hg with hg | hg
      · have := (hv1 g hg).2; omega
      · omega

/-- What stands ahead of the append: the old list at w0, and the new blocks behind. -/
theorem push2_pre {e te : TypeId} {w0 : World} {base : Nat} {v : Value} {vs : List Value} {R : List (List Int)} {h1 h2 : Nat} (hown : GrowM e te w0 base v vs R) (l1 : w0.heap.size ≤ h1) (l2 : w0.heap.size ≤ h2) :
    ∀ k, OwnM.mine v (fun i => vs.getD i (.slice none 0 0)) R k → k ≠ h1 ∧ k ≠ h2 := fun k hk => by
  have := hown.own.block k hk
  omega

theorem step_pushR2 {P : Program} {w : World} {ops : Array Oper} {o : Oper} {a : Act} {K : Act → World → Prop} {Q : Exit → Act → World → Prop} {E : Prop} (hgd : o.guard = none) (s x : Operand) (t : TypeId)
    (ho : o.op = .call { callee := .builtin .append, args := #[s, x], argTypes := #[t, t] })
    (base : Nat) (e te : TypeId) (i : TypeInfo) (ht : P.underlying t = some (.slice te)) (hi : P.info? te = some i) (hz : i.zero = some (.slice none 0 0)) (hsize : i.size = 1) (hby : i.bytes = 24)
    (w0 : World) (v : Value) (vs : List Value) (R : List (List Int)) (h1 h2 hx0 : Nat) (p1 q1 p2 q2 : Int) (hs : a.eval s = v) (hown : GrowM e te w0 base v vs R) (hb : Below w0.heap.size w0 w)
    (hx : a.eval x = .slice (some ⟨hx0, 0, none⟩) 2 2) (hblk : Blk w hx0 te #[Value.slice (some ⟨h1, 0, none⟩) 2 2, Value.slice (some ⟨h2, 0, none⟩) 2 2])
    (b1 : Blk w h1 e #[.int .i64 p1, .int .i64 q1]) (b2 : Blk w h2 e #[.int .i64 p2, .int .i64 q2]) (hne : h1 ≠ h2) (l1 : w0.heap.size ≤ h1) (l2 : w0.heap.size ≤ h2)
    (hlen : R.length ≤ 1000000) (hbase : base ≤ w0.heap.size)
    (hK : ∀ g cap w', GrowM e te w' base (.slice (some ⟨g, 0, none⟩) (R.length + 2) cap) (vs ++ [Value.slice (some ⟨h1, 0, none⟩) 2 2, Value.slice (some ⟨h2, 0, none⟩) 2 2]) (R ++ [[p1, q1], [p2, q2]]) → Keeps (fun k => v.ownBlock = some k) w w' → (v.ownBlock = some g ∨ w0.heap.size ≤ g) → K (a.put o.dst (.slice (some ⟨g, 0, none⟩) (R.length + 2) cap)) w') :
    if Region.wanted o (yielded ops a.tmps) = true then Oper.wp P o a w K Q else E := by
  have hl := hown.len
  have hsz := hb.size
  refine step_append_lies w hgd s x t ho base te i (.slice none 0 0) 1 24 ht hi hz hsize hby rfl (by decide) v vs.length vs hs (hown.below hb).out ⟨hx0, 0, none⟩ 2 2 [Value.slice (some ⟨h1, 0, none⟩) 2 2, Value.slice (some ⟨h2, 0, none⟩) 2 2] hx rfl (World.news_of_block (cs := #[Value.slice (some ⟨h1, 0, none⟩) 2 2, Value.slice (some ⟨h2, 0, none⟩) 2 2]) (t := te) (fr := (0, 0)) hblk) ?_ (by omega) ?_ ?_ (by omega) w.heap.size rfl ?_
  · intro u hu; simp at hu; rcases hu with hu | hu <;> subst hu <;> rfl
  · unfold maxLen; omega
  · omega
  · intro g cap w' k1 k2 k3 k4
    have hk : Keeps (fun k => v.ownBlock = some k) w w' := Keeps.of_grown k2
    have hp := (hown.below hb).push2 (own_blk2 b1 (by omega)) (own_blk2 b2 (by omega)) hne (push2_pre hown l1 l2) k1 hk k3
    rw [hl] at hp ⊢
    exact hK g cap w' hp hk (k3.imp id (fun h => by omega))

theorem wpList_pushR2 {P : Program} {w : World} {ops : Array Oper} {rest : List Oper} {o : Oper} {a : Act} {Q : Exit → Act → World → Prop} (hgd : o.guard = none) (s x : Operand) (t : TypeId)
    (ho : o.op = .call { callee := .builtin .append, args := #[s, x], argTypes := #[t, t] })
    (base : Nat) (e te : TypeId) (i : TypeInfo) (ht : P.underlying t = some (.slice te)) (hi : P.info? te = some i) (hz : i.zero = some (.slice none 0 0)) (hsize : i.size = 1) (hby : i.bytes = 24)
    (w0 : World) (v : Value) (vs : List Value) (R : List (List Int)) (h1 h2 hx0 : Nat) (p1 q1 p2 q2 : Int) (hs : a.eval s = v) (hown : GrowM e te w0 base v vs R) (hb : Below w0.heap.size w0 w)
    (hx : a.eval x = .slice (some ⟨hx0, 0, none⟩) 2 2) (hblk : Blk w hx0 te #[Value.slice (some ⟨h1, 0, none⟩) 2 2, Value.slice (some ⟨h2, 0, none⟩) 2 2])
    (b1 : Blk w h1 e #[.int .i64 p1, .int .i64 q1]) (b2 : Blk w h2 e #[.int .i64 p2, .int .i64 q2]) (hne : h1 ≠ h2) (l1 : w0.heap.size ≤ h1) (l2 : w0.heap.size ≤ h2)
    (hlen : R.length ≤ 1000000) (hbase : base ≤ w0.heap.size)
    (hK : ∀ g cap w', GrowM e te w' base (.slice (some ⟨g, 0, none⟩) (R.length + 2) cap) (vs ++ [Value.slice (some ⟨h1, 0, none⟩) 2 2, Value.slice (some ⟨h2, 0, none⟩) 2 2]) (R ++ [[p1, q1], [p2, q2]]) → Keeps (fun k => v.ownBlock = some k) w w' → (v.ownBlock = some g ∨ w0.heap.size ≤ g) → wpList P ops Q rest (a.put o.dst (.slice (some ⟨g, 0, none⟩) (R.length + 2) cap)) w') :
    wpList P ops Q (o :: rest) a w := by
  have hl := hown.len
  have hsz := hb.size
  refine wpList_append_lies w hgd s x t ho base te i (.slice none 0 0) 1 24 ht hi hz hsize hby rfl (by decide) v vs.length vs hs (hown.below hb).out ⟨hx0, 0, none⟩ 2 2 [Value.slice (some ⟨h1, 0, none⟩) 2 2, Value.slice (some ⟨h2, 0, none⟩) 2 2] hx rfl (World.news_of_block (cs := #[Value.slice (some ⟨h1, 0, none⟩) 2 2, Value.slice (some ⟨h2, 0, none⟩) 2 2]) (t := te) (fr := (0, 0)) hblk) ?_ (by omega) ?_ ?_ (by omega) w.heap.size rfl ?_
  · intro u hu; simp at hu; rcases hu with hu | hu <;> subst hu <;> rfl
  · unfold maxLen; omega
  · omega
  · intro g cap w' k1 k2 k3 k4
    have hk : Keeps (fun k => v.ownBlock = some k) w w' := Keeps.of_grown k2
    have hp := (hown.below hb).push2 (own_blk2 b1 (by omega)) (own_blk2 b2 (by omega)) hne (push2_pre hown l1 l2) k1 hk k3
    rw [hl] at hp ⊢
    exact hK g cap w' hp hk (k3.imp id (fun h => by omega))
theorem GrowM.of_blk {e te : TypeId} {w : World} {g base : Nat} (h : Blk w g te #[]) (hb : base ≤ g) : GrowM e te w base (.slice (some ⟨g, 0, none⟩) 0 0) [] [] :=
  ⟨rfl, ⟨rfl, .inr ⟨g, 0, #[], rfl, hb, h, Nat.le_refl _, by unfold maxLen; omega, rfl, rfl⟩⟩, fun i hi => by simp at hi, fun i _ hi => by simp at hi, fun i hi => by simp at hi⟩
end Go.Proofs.Ythpnmkghjnipoaa
