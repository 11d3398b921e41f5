/- Contracts: impl.factors, spec.l08Factors: the points with positive excesses. -/
import Derived.Test.YthfdkigljbdogaaMatL
import Derived.Test.YthfdkigljbdogaaHelpM
import Derived.Test.YthfdkigljbdogaaCons
namespace Go.Proofs.Ythfdkigljbdogaa
open Go.RowKit

theorem own_two {e : TypeId} (w : World) (base : Nat) (hb : base ≤ w.heap.size) (x y : Int) : Own e (w.alloc (.cells #[.int .i64 x, .int .i64 y] e)) base (.slice (some ⟨w.heap.size, 0, none⟩) 2 2) [x, y] :=
  World.ownsRow_lit w #[.int .i64 x, .int .i64 y] 2 hb (by unfold maxLen; omega) rfl

/-- 'out = append(out, row)', and where the result lies. -/
theorem wpList_pushR2 {P : Program} {w : World} {ops : Array Oper} {rest : List Oper} {o : Oper} {a : Act} {Q : Exit → Act → World → Prop} (hgd : o.guard = none) (s x : Operand) (t : TypeId)
    (ho : o.op = .call { callee := .builtin .append, args := #[s, x], argTypes := #[t, t] })
    (base : Nat) (e te : TypeId) (i : TypeInfo) (ht : P.underlying t = some (.slice te)) (hi : P.info? te = some i) (hz : i.zero = some (.slice none 0 0)) (hsize : i.size = 1) (hby : i.bytes = 24)
    (v : Value) (vs : List Value) (R : List (List Int)) (u : Value) (ys : List Int) (hs : a.eval s = v) (hown : GrowM e te w base v vs R) (gx : Nat) (hgx : gx = w.heap.size) (hx : a.eval x = .slice (some ⟨gx, 0, none⟩) 1 1)
    (hu : Own e w base u ys) (hua : Apart u v) (hur : ∀ i, i < R.length → Apart (vs.getD i (.slice none 0 0)) u)
    (hlen : R.length ≤ 1000000000) (hbase : base ≤ w.heap.size)
    (h : ∀ g cap w', GrowM e te w' base (.slice (some ⟨g, 0, none⟩) (R.length + 1) cap) (vs ++ [u]) (R ++ [ys]) → Keeps (fun k => v.ownBlock = some k) w w' → g < w'.heap.size → (v.ownBlock = some g ∨ w.heap.size ≤ g) → wpList P ops Q rest (a.put o.dst (.slice (some ⟨g, 0, none⟩) (R.length + 1) cap)) w') :
    wpList P ops Q (o :: rest) a (w.alloc (.cells #[u] te)) := by
  subst hgx
  have hl := hown.len
  have hal : Below w.heap.size w (w.alloc (.cells #[u] te)) := (Below.refl _ _).alloc (Nat.le_refl _) _
  obtain ⟨ua, uk, hue⟩ := hu.form
  refine wpList_append_lies _ hgd s x t ho base te i (.slice none 0 0) 1 24 ht hi hz hsize hby rfl (by decide) v vs.length vs hs (hown.below hal).out ⟨w.heap.size, 0, none⟩ 1 1 [u] hx rfl (cell_one_new _ _ _) ?_ (by omega) ?_ ?_ ?_ _ rfl ?_
  · intro y hy; simp at hy; subst hy; subst hue; rfl
  · unfold maxLen; omega
  · omega
  · simp; omega
  · intro g cap w' h2 h3 h4 h5
    have hk : Keeps (fun k => v.ownBlock = some k) (w.alloc (.cells #[u] te)) w' := Keeps.of_grown h3
    have hp := (hown.below hal).push (hu.below hal (Nat.le_refl _)) hua hur h2 hk h4
    rw [hl] at hp ⊢
    exact h g cap w' hp ((Keeps.of_below hal).trans hk) h5 (h4.imp id (fun e => by rw [e]; simp))

/-- The points before k with positive numbers, and these. -/
def fTo (E : List Int) : Nat → List (List Int)
  | 0 => []
  | k + 1 => if 0 < gI E k then fTo E k ++ [[(k : Int), gI E k]] else fTo E k
theorem fTo_yes {E : List Int} {k : Nat} (h : 0 < gI E k) : fTo E (k + 1) = fTo E k ++ [[(k : Int), gI E k]] := by
  show (if 0 < gI E k then _ else _) = _
  rw [if_pos h]
theorem fTo_no {E : List Int} {k : Nat} (h : ¬ 0 < gI E k) : fTo E (k + 1) = fTo E k := by
  show (if 0 < gI E k then _ else _) = _
  rw [if_neg h]
theorem fTo_len (E : List Int) (k : Nat) : (fTo E k).length ≤ k := by
  induction k with
  | zero => exact Nat.le_refl _
  | succ k ih =>
    by_cases h : 0 < gI E k
    · rw [fTo_yes h]; simp; omega
    · rw [fTo_no h]; omega
theorem fTo_row (E : List Int) (k : Nat) : ∀ j, j < (fTo E k).length → (gR (fTo E k) j).length ≤ 2 := by
  induction k with
  | zero => intro j hj; simp [fTo] at hj
  | succ k ih =>
    intro j hj
    by_cases h : 0 < gI E k
    · rw [fTo_yes h] at hj ⊢
      by_cases e : j < (fTo E k).length
      · rw [gR_app_lt e]; exact ih j e
      · simp at hj; rw [gR_app_at (by omega)]; simp
    · rw [fTo_no h] at hj ⊢; exact ih j hj
def facL (P S W : List Int) : List (List Int) := fTo (exTo (proxL P S) W P.length) P.length

set_option maxRecDepth 100000 in
set_option maxHeartbeats 2000000 in
theorem factors_c (p s q : Value) (P S W : List Int) (w : World) (hp : Rd w p P) (hs : Rd w s S) (hq : Rd w q W) (hc : CluOk P S W) :
    Calls Try.prog 125 #[.agg #[p, s, q]] w (RetM 2 w (facL P S W)) := by
  obtain ⟨j0, ji, jz0, jz1, jz2⟩ := info_parts Try.infoII
  have hx := Boxed.start w 47 #[p, s, q]
  have hxa := hx.alloc (.cells #[] 22)
  have h24 := hc.1.2.1
  have h0 := hc.1.1
  have hlW := Lib.hid (show W.length = P.length from hc.1.2.2.2)
  have hE : (exTo (proxL P S) W P.length).length = P.length := by rw [exTo_len]; exact hlW.out
  have HE := Lib.hid hE
  have HC := Lib.hid hc
  have hg0 := GrowM.empty 2 22 (w.alloc (.cells #[p, s, q] 47)) (w.heap.size + 1) (w.heap.size + 1) (by simp) (Nat.le_refl _)
  clear hc hE
  have c0 := hxa.cell 0
  have c1 := hxa.cell 1
  have c2 := hxa.cell 2
  go_enter Try.func125, Try.ntmps125
  go_wp2_with fail
  refine (excesses_c _ _ _ P S W _ (hxa.rd hp) (hxa.rd hs) (hxa.rd hq) HC.out).mono ?_
  rintro e w1 ⟨a, kE, rfl, ho, hb⟩
  obtain ⟨ge, gc, hge, hge0, hge1, hge2, hge3⟩ := Own.pos ho (by rw [HE.out]; omega)
  injection hge with hgea hgeb hgec
  subst hgea hgec
  clear hgeb
  rw [HE.out] at ho ⊢
  have hge4 : w.heap.size + 2 ≤ ge := by simpa using hge0
  have hg1 := hg0.below hb
  have hx1 := hxa.trans hb
  have ho := ho.base_le (base' := w.heap.size + 1) (by simp)
  have hEl := HE.out
  clear hg0 hxa hx c0 c1 c2 hge0
  have HFL := Lib.hid (show facL P S W = fTo (exTo (proxL P S) W P.length) P.length from rfl)
  generalize exTo (proxL P S) W P.length = E at ho HE hEl HFL
  clear HE
  have HEl := Lib.hid hEl
  clear hEl
  go_wp2
  go_loopw [3, 4, 5, 10] (fun v _ _ i wr => ∃ k : Nat, ∃ vs, k ≤ P.length ∧ i = .int .i64 k ∧ GrowM 2 22 wr (w.heap.size + 1) v vs (fTo E k) ∧ OwnI wr (w.heap.size + 1) (.slice (some ⟨ge, 0, none⟩) P.length kE) E ∧ v.ownBlock ≠ some ge ∧ Boxed w wr 47 #[p, s, q]) (fun _ _ _ i _ => P.length - (intOf i).toNat)
  case atStart => exact ⟨0, _, Nat.zero_le _, rfl, hg1, ho, by simp [Value.ownBlock]; omega, hx1⟩
  case round =>
    obtain ⟨k, vs, hk, rfl, hgr, ho, hne, hbx⟩ := hrel
    clear hg1 hx1
    obtain ⟨wo, rfl⟩ : ∃ wo : World, wo = wr := ⟨_, rfl⟩
    by_cases hlt : k < P.length
    · have hki : (k : Int) < (P.length : Int) := by omega
      have hoE : OwnI wo (w.heap.size + 1) (.slice (some ⟨ge, 0, none⟩) E.length kE) E := by rw [HEl.out]; exact ho
      have dE := hoE.cell k (by rw [HEl.out]; exact hlt)
      clear hoE
      by_cases hpos : 0 < gI E k
      · have HF := Lib.hid (fTo_yes hpos)
        have hfl := fTo_len E k
        have hblk : ∀ b, OwnM.mine u3 (fun i => vs.getD i (.slice none 0 0)) (fTo E k) b → w.heap.size + 1 ≤ b ∧ b < wo.heap.size := hgr.own.block
        have hgs := (ho.block ge rfl).2
        have hal : Below wo.heap.size wo (wo.alloc (.cells #[.int .i64 (k : Int), .int .i64 (gI E k)] 2)) := (Below.refl _ _).alloc (Nat.le_refl _) _
        have hsz := hbx.size
        have hrow := own_two (e := 2) wo (w.heap.size + 1) hsz (k : Int) (gI E k)
        have hgr2 := hgr.below hal
        have ho2 := ho.below hal (Nat.le_refl _)
        have hbx2 := hbx.trans hal
        have q1 : Apart (.slice (some ⟨wo.heap.size, 0, none⟩) 2 2) u3 := by intro b h1 h2; have := (hblk b (.inl h2)).2; simp [Value.ownBlock] at h1; omega
        have q2 : ∀ i, i < (fTo E k).length → Apart (vs.getD i (.slice none 0 0)) (.slice (some ⟨wo.heap.size, 0, none⟩) 2 2) := by intro i hi b h1 h2; have := (hblk b (.inr ⟨i, hi, h1⟩)).2; simp [Value.ownBlock] at h2; omega
        have q3 : (fTo E k).length ≤ 1000000000 := by omega
        have q4 : w.heap.size + 1 ≤ (wo.alloc (.cells #[.int .i64 (k : Int), .int .i64 (gI E k)] 2)).heap.size := by simp; omega
        clear hgr ho hbx
        generalize gI E k = x at *
        go_wp2_with (at_builtin; refine wpList_pushR2 rfl (.tmp 17) (.tmp 21) 52 rfl (w.heap.size + 1) 2 22 j0 Try.underlying52 ji jz0 jz1 jz2 u3 vs (fTo E k) (.slice (some ⟨wo.heap.size, 0, none⟩) 2 2) [(k : Int), x] rfl hgr2 _ (by simp) rfl hrow q1 q2 q3 q4 ?_; intro g5 cap5 w5 hgr5 hk5 hg5 hl5)
        have hbx5 := hbx2.wrote (hk5.mono (fun b hb => (hblk b (.inl hb)).1))
        have ho5 := ho2.keeps hk5 (fun b hb e => hne (by rw [e, ← hb]; rfl))
        have hne5 : (Value.slice (some ⟨g5, 0, none⟩) ((fTo E k).length + 1) cap5).ownBlock ≠ some ge := by
          intro e
          simp [Value.ownBlock] at e
          rcases hl5 with h | h
          · exact hne (by rw [h, e])
          · simp at h; omega
        rw [← HF.out] at hgr5
        go_roundw
        case rel => exact ⟨k + 1, _, by omega, by go_num, hgr5, ho5, hne5, hbx5⟩
        case measure => simp [intOf]; omega
      · have HF := Lib.hid (fTo_no hpos)
        generalize hx : gI E k = x at dE hpos
        clear hx
        go_wp2
        go_roundw
        case rel => exact ⟨k + 1, vs, by omega, by go_num, by rw [HF.out]; exact hgr, ho, hne, hbx⟩
        case measure => simp [intOf]; omega
    · go_wp2
      have hk' : k = P.length := by omega
      subst hk'
      go_ret
      rw [HFL.out]
      exact retM_mk (hgr.own.base_le (base' := w.heap.size) (by omega)) hbx.below
set_option maxRecDepth 100000 in
set_option maxHeartbeats 2000000 in
theorem l08Factors_c (p s q : Value) (P S W : List Int) (w : World) (hp : Rd w p P) (hs : Rd w s S) (hq : Rd w q W) (hc : CluOk P S W) :
    Calls Try.prog 123 #[.agg #[p, s, q]] w (RetM 2 w (facL P S W)) := by
  obtain ⟨j0, ji, jz0, jz1, jz2⟩ := info_parts Try.infoII
  have hx := Boxed.start w 47 #[p, s, q]
  have hxa := hx
  have h24 := hc.1.2.1
  have h0 := hc.1.1
  have hlW := Lib.hid (show W.length = P.length from hc.1.2.2.2)
  have hE : (exTo (proxL P S) W P.length).length = P.length := by rw [exTo_len]; exact hlW.out
  have HE := Lib.hid hE
  have HC := Lib.hid hc
  clear hc hE
  have c0 := hxa.cell 0
  have c1 := hxa.cell 1
  have c2 := hxa.cell 2
  go_enter Try.func123, Try.ntmps123
  go_wp2_with fail
  refine (l07Excess_c _ _ _ _ P S W W _ (hxa.rd hp) (hxa.rd hs) (hxa.rd hq) HC.out hlW.out (fun i hi => by have := HC.out.2.1 i hi; omega)).mono ?_
  rintro e w1 ⟨a, kE, rfl, ho, hb⟩
  obtain ⟨ge, gc, hge, hge0, hge1, hge2, hge3⟩ := Own.pos ho (by rw [HE.out]; omega)
  injection hge with hgea hgeb hgec
  subst hgea hgec
  clear hgeb
  rw [HE.out] at ho ⊢
  have hge4 : w.heap.size + 1 ≤ ge := by simpa using hge0
  have hx1 := hxa.trans hb
  have ho := ho.base_le (base' := w.heap.size + 1) (by simp)
  have hEl := HE.out
  have hg1 := GrowM.empty 2 22 w1 (w.heap.size + 1) w1.heap.size rfl hx1.size
  have hx2 := hx1.alloc (.cells #[] 22)
  have ho2 := ho.below (show Below w1.heap.size w1 (w1.alloc (.cells #[] 22)) from (Below.refl _ _).alloc (Nat.le_refl _) _) (Nat.le_refl _)
  clear hxa hx c0 c1 c2 hge0
  have HFL := Lib.hid (show facL P S W = fTo (exTo (proxL P S) W P.length) P.length from rfl)
  generalize exTo (proxL P S) W P.length = E at ho ho2 HE hEl HFL
  clear HE
  have HEl := Lib.hid hEl
  clear hEl
  go_wp2
  go_loopw [4, 5] (fun v i wr => ∃ k : Nat, ∃ vs, k ≤ P.length ∧ i = .int .i64 k ∧ GrowM 2 22 wr (w.heap.size + 1) v vs (fTo E k) ∧ OwnI wr (w.heap.size + 1) (.slice (some ⟨ge, 0, none⟩) P.length kE) E ∧ v.ownBlock ≠ some ge ∧ Boxed w wr 47 #[p, s, q]) (fun _ i _ => P.length - (intOf i).toNat)
  case atStart => exact ⟨0, _, Nat.zero_le _, rfl, hg1, ho2, by simp [Value.ownBlock]; omega, hx2⟩
  case round =>
    obtain ⟨k, vs, hk, rfl, hgr, ho, hne, hbx⟩ := hrel
    clear hg1 hx1 hx2 ho2
    obtain ⟨wo, rfl⟩ : ∃ wo : World, wo = wr := ⟨_, rfl⟩
    by_cases hlt : k < P.length
    · have hki : (k : Int) < (P.length : Int) := by omega
      have hoE : OwnI wo (w.heap.size + 1) (.slice (some ⟨ge, 0, none⟩) E.length kE) E := by rw [HEl.out]; exact ho
      have dE := hoE.cell k (by rw [HEl.out]; exact hlt)
      clear hoE
      by_cases hpos : 0 < gI E k
      · have HF := Lib.hid (fTo_yes hpos)
        have hfl := fTo_len E k
        have hblk : ∀ b, OwnM.mine u4 (fun i => vs.getD i (.slice none 0 0)) (fTo E k) b → w.heap.size + 1 ≤ b ∧ b < wo.heap.size := hgr.own.block
        have hgs := (ho.block ge rfl).2
        have hal : Below wo.heap.size wo (wo.alloc (.cells #[.int .i64 (k : Int), .int .i64 (gI E k)] 2)) := (Below.refl _ _).alloc (Nat.le_refl _) _
        have hsz := hbx.size
        have hrow := own_two (e := 2) wo (w.heap.size + 1) hsz (k : Int) (gI E k)
        have hgr2 := hgr.below hal
        have ho2 := ho.below hal (Nat.le_refl _)
        have hbx2 := hbx.trans hal
        have q1 : Apart (.slice (some ⟨wo.heap.size, 0, none⟩) 2 2) u4 := by intro b h1 h2; have := (hblk b (.inl h2)).2; simp [Value.ownBlock] at h1; omega
        have q2 : ∀ i, i < (fTo E k).length → Apart (vs.getD i (.slice none 0 0)) (.slice (some ⟨wo.heap.size, 0, none⟩) 2 2) := by intro i hi b h1 h2; have := (hblk b (.inr ⟨i, hi, h1⟩)).2; simp [Value.ownBlock] at h2; omega
        have q3 : (fTo E k).length ≤ 1000000000 := by omega
        have q4 : w.heap.size + 1 ≤ (wo.alloc (.cells #[.int .i64 (k : Int), .int .i64 (gI E k)] 2)).heap.size := by simp; omega
        clear hgr ho hbx
        generalize gI E k = x at *
        go_wp2_with (at_builtin; refine wpList_pushR2 rfl (.tmp 22) (.tmp 29) 52 rfl (w.heap.size + 1) 2 22 j0 Try.underlying52 ji jz0 jz1 jz2 u4 vs (fTo E k) (.slice (some ⟨wo.heap.size, 0, none⟩) 2 2) [(k : Int), x] rfl hgr2 _ (by simp) rfl hrow q1 q2 q3 q4 ?_; intro g5 cap5 w5 hgr5 hk5 hg5 hl5)
        have hbx5 := hbx2.wrote (hk5.mono (fun b hb => (hblk b (.inl hb)).1))
        have ho5 := ho2.keeps hk5 (fun b hb e => hne (by rw [e, ← hb]; rfl))
        have hne5 : (Value.slice (some ⟨g5, 0, none⟩) ((fTo E k).length + 1) cap5).ownBlock ≠ some ge := by
          intro e
          simp [Value.ownBlock] at e
          rcases hl5 with h | h
          · exact hne (by rw [h, e])
          · simp at h; omega
        rw [← HF.out] at hgr5
        go_roundw
        case rel => exact ⟨k + 1, _, by omega, by go_num, hgr5, ho5, hne5, hbx5⟩
        case measure => simp [intOf]; omega
      · have HF := Lib.hid (fTo_no hpos)
        generalize hx : gI E k = x at dE hpos
        clear hx
        go_wp2
        go_roundw
        case rel => exact ⟨k + 1, vs, by omega, by go_num, by rw [HF.out]; exact hgr, ho, hne, hbx⟩
        case measure => simp [intOf]; omega
    · go_wp2
      have hk' : k = P.length := by omega
      subst hk'
      go_ret
      rw [HFL.out]
      exact retM_mk (hgr.own.base_le (base' := w.heap.size) (by omega)) hbx.below
end Go.Proofs.Ythfdkigljbdogaa
