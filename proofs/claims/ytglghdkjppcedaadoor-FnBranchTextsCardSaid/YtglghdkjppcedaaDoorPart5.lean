/- Slices of texts that a call owns; contracts: impl.wordsOf, spec.l01Split. -/
import Derived.Test.YtglghdkjppcedaaDoorPart4
namespace Go.Proofs.YtglghdkjppcedaaDoor
open Go.RowKit

theorem Tryd.infoS : (Tryd.prog.info? 9).map (fun i => (i.zero, i.size, i.bytes)) = some (some (.string ByteArray.empty), 1, 16) := by kernel_rfl
/-- The text at a place. -/
def gS (ss : List ByteArray) (i : Nat) : ByteArray := ss.getD i ByteArray.empty
theorem gS_lt {ss : List ByteArray} {i : Nat} (h : i < ss.length) : gS ss i = ss[i] := by simp [gS, List.getD, h]
/-- The slice value v reads as the texts ss. -/
def RdT (w : World) (v : Value) (ss : List ByteArray) : Prop :=
  ∃ a cap, v = .slice a ss.length cap ∧ ss.length ≤ cap ∧ cap ≤ 9223372036854775807 ∧ (ss ≠ [] → ∃ b off, a = some ⟨b, off, none⟩ ∧ b < w.heap.size ∧ ∀ i, i < ss.length → w.cell? ⟨b, off + i, none⟩ = some (.string (gS ss i)))
/-- It owns them. -/
def OwnT (w : World) (base : Nat) (v : Value) (ss : List ByteArray) : Prop :=
  w.ownsRow base 9 1 v ss.length (ss.map Value.string)
theorem OwnT.shape {w : World} {base : Nat} {v : Value} {ss : List ByteArray} (h : OwnT w base v ss) :
    (v = .slice none 0 0 ∧ ss = []) ∨ ∃ g cap, v = .slice (some ⟨g, 0, none⟩) ss.length cap ∧ base ≤ g ∧ g < w.heap.size ∧ ss.length ≤ cap ∧ cap ≤ 9223372036854775807 := by
  rcases h.2 with ⟨h1, h2⟩ | ⟨g, cap, cur, h1, h2, h3, h4, h5, _⟩
  · exact .inl ⟨h1, List.eq_nil_of_length_eq_zero h2⟩
  · exact .inr ⟨g, cap, h1, h2, (Array.getElem?_eq_some_iff.1 h3).1, h4, by unfold maxLen at h5; omega⟩
theorem OwnT.form {w : World} {base : Nat} {v : Value} {ss : List ByteArray} (h : OwnT w base v ss) : ∃ a k, v = .slice a ss.length k := by
  rcases h.shape with ⟨h1, h2⟩ | ⟨g, cap, h1, _⟩
  · subst h2; exact ⟨none, 0, h1⟩
  · exact ⟨_, _, h1⟩
theorem OwnT.rd {w : World} {base : Nat} {v : Value} {ss : List ByteArray} (h : OwnT w base v ss) : RdT w v ss := by
  rcases h.shape with ⟨h1, h2⟩ | ⟨g, cap, h1, h2, h3, h4, h5⟩
  · subst h2; exact ⟨none, 0, h1, by simp, by simp, fun h => absurd rfl h⟩
  · subst h1
    refine ⟨_, cap, rfl, h4, h5, fun _ => ⟨g, 0, rfl, h3, fun i hi => ?_⟩⟩
    have := World.ownsRow.cellAt h i (by omega)
    rw [Nat.zero_add, this]
    simp [List.getElem?_map, List.getElem?_eq_getElem hi, gS_lt hi]
theorem RdT.below {w w' : World} {v : Value} {ss : List ByteArray} {B : Nat} (h : RdT w v ss) (hb : Below B w w') (hB : w.heap.size ≤ B) : RdT w' v ss := by
  obtain ⟨a, cap, h1, h2, h3, h4⟩ := h
  refine ⟨a, cap, h1, h2, h3, fun hx => ?_⟩
  obtain ⟨b, off, e1, e2, e3⟩ := h4 hx
  refine ⟨b, off, e1, Nat.lt_of_lt_of_le e2 hb.size, fun i hi => ?_⟩
  rw [hb.cell (p := ⟨b, off + i, none⟩) (by simp; omega)]
  exact e3 i hi
theorem OwnT.below {w w' : World} {base : Nat} {v : Value} {ss : List ByteArray} {B : Nat} (h : OwnT w base v ss) (hb : Below B w w') (hB : w.heap.size ≤ B) : OwnT w' base v ss := by
  refine ⟨h.1, ?_⟩
  rcases h.2 with hn | ⟨g, cap, cur, hv, hbg, hg, rest⟩
  · exact .inl hn
  · refine .inr ⟨g, cap, cur, hv, hbg, ?_, rest⟩
    have hlt := (Array.getElem?_eq_some_iff.1 hg).1
    rw [hb.block g (by omega)]; exact hg
theorem OwnT.block {w : World} {base : Nat} {v : Value} {ss : List ByteArray} (h : OwnT w base v ss) : ∀ g, v.ownBlock = some g → base ≤ g ∧ g < w.heap.size := by
  intro g hg
  rcases h.shape with ⟨rfl, _⟩ | ⟨g', cap, rfl, h1, h2, _⟩
  · simp [Value.ownBlock] at hg
  · simp [Value.ownBlock] at hg; omega
theorem ownT_empty (w : World) (base : Nat) (hb : base ≤ w.heap.size) : OwnT (w.alloc (.cells #[] 9)) base (.slice (some ⟨w.heap.size, 0, none⟩) 0 0) [] :=
  World.ownsRow_lit w #[] 0 hb (by unfold maxLen; omega) rfl
theorem ownT_append {w : World} {base : Nat} {v : Value} {ss : List ByteArray} {y : ByteArray} (h : w.ownsRow base 9 1 v (ss.length + 1) (ss.map Value.string ++ [.string y])) : OwnT w base v (ss ++ [y]) := by
  unfold OwnT
  rw [List.length_append, List.map_append]
  exact h
/-- 'out = append(out, y)' for texts. -/
theorem wpList_pushT {P : Program} {w : World} {ops : Array Oper} {rest : List Oper} {o : Oper} {a : Act} {Q : Exit → Act → World → Prop} (hgd : o.guard = none) (s x : Operand) (t : TypeId)
    (ho : o.op = .call { callee := .builtin .append, args := #[s, x], argTypes := #[t, t] })
    (base : Nat) (i : TypeInfo) (ht : P.underlying t = some (.slice 9)) (hi : P.info? 9 = some i) (hz : i.zero = some (.string ByteArray.empty)) (hsize : i.size = 1) (hby : i.bytes = 16)
    (v : Value) (ss : List ByteArray) (y : ByteArray) (hs : a.eval s = v) (hown : OwnT w base v ss) (hx : a.eval x = .slice (some ⟨w.heap.size, 0, none⟩) 1 1)
    (hlen : ss.length ≤ 1000000000000) (hbase : base ≤ w.heap.size)
    (h : ∀ v' w', OwnT w' base v' (ss ++ [y]) → Keeps (fun k => v.ownBlock = some k) w w' → wpList P ops Q rest (a.put o.dst v') w') :
    wpList P ops Q (o :: rest) a (w.alloc (.cells #[.string y] 9)) := by
  refine wpList_append_own _ hgd s x t ho base 9 i (.string ByteArray.empty) 1 16 ht hi hz hsize hby rfl (by decide) v ss.length (ss.map Value.string) hs (World.ownsRow.alloc hown _) ⟨w.heap.size, 0, none⟩ 1 1 [.string y] hx rfl (cell_one_new _ _ _) ?_ ?_ ?_ ?_ ?_
  · intro u hu; simp at hu; subst hu; rfl
  · unfold maxLen; omega
  · omega
  · simp; omega
  · intro v' w' ho' hg _
    refine h v' w' (ownT_append ho') ?_
    have h1 : Keeps (fun k => v.ownBlock = some k) w (w.alloc (.cells #[.string y] 9)) := Keeps.of_below ((Below.refl _ _).alloc (Nat.le_refl _) _)
    exact h1.trans (Keeps.of_grown hg)
/-- The parts of a text are handed back. -/
def RetTx (w : World) (c : UInt8) (t : List UInt8) (e : Ending) (w' : World) : Prop :=
  ∃ a k ss, e = .returned (.slice a ss.length k) ∧ RdT w' (.slice a ss.length k) ss ∧ ss.map lB = splitL c t ∧ (∀ g, (Value.slice a ss.length k).ownBlock = some g → w.heap.size ≤ g) ∧ Below w.heap.size w w'
theorem retTx_own {w w' : World} {c : UInt8} {t : List UInt8} {v : Value} {ss : List ByteArray} {base : Nat} (h : OwnT w' base v ss) (hB : w.heap.size ≤ base) (hl : ss.map lB = splitL c t) (hb : Below w.heap.size w w') : RetTx w c t (.returned v) w' := by
  obtain ⟨a, k, rfl⟩ := h.form
  exact ⟨a, k, ss, rfl, h.rd, hl, fun g hg => Nat.le_trans hB (h.block g hg).1, hb⟩
theorem spl_size (c : UInt8) : ∀ (n : Nat) (t : List UInt8), t.length ≤ n → (splitL c t).length ≤ t.length + 1 := by
  intro n
  induction n with
  | zero => intro t ht; have : t = [] := List.eq_nil_of_length_eq_zero (by omega); subst this; simp [splitL]
  | succ n ih =>
    intro t ht
    rcases cut_first c t with h | ⟨u, r, rfl, hu⟩
    · rw [spl_no h]; simp
    · rw [spl_at hu]
      have := ih r (by simp at ht; omega)
      simp; omega
theorem bef_no {c : UInt8} {t : List UInt8} (h : hasC c t = false) : bef c t = t := by
  rcases cut_first c t with h1 | ⟨u, r, h1, h2⟩
  · exact (hasC_no h1).2.1
  · rw [h1, (hasC_at (r := r) h2).1] at h; cases h
set_option maxRecDepth 100000 in
set_option maxHeartbeats 2000000 in
theorem wordsOf_c (s : ByteArray) (c : UInt8) (w : World) (hs : s.size ≤ 137438953472) :
    Calls Tryd.prog 51 #[.string s, .int .u8 (c.toNat : Int)] w (RetTx w c (lB s)) := by
  obtain ⟨i0, hi, hz0, hz1, hz2⟩ := info_parts Tryd.infoS
  go_enter Tryd.func51, Tryd.ntmps51
  go_wp2_with fail
  have hown0 := ownT_empty w w.heap.size (Nat.le_refl _)
  have hbl0 : Below w.heap.size w (w.alloc (.cells #[] 9)) := (Below.refl _ _).alloc (Nat.le_refl _) _
  go_loopw [0, 5] (fun sv ov wr => ∃ (r : ByteArray) (ss : List ByteArray), sv = .string r ∧ ss.length + r.size ≤ s.size ∧ ss.map lB ++ splitL c (lB r) = splitL c (lB s) ∧ OwnT wr w.heap.size ov ss ∧ Below w.heap.size w wr) (fun sv _ _ => match sv with | .string r => r.size | _ => 0)
  case atStart => exact ⟨s, [], rfl, by simp, by simp, hown0, hbl0⟩
  case round =>
    obtain ⟨r, ss, rfl, hl, hsp, ho, hb⟩ := hrel
    obtain ⟨wo, rfl⟩ : ∃ wo : World, wo = wr := ⟨_, rfl⟩
    clear hown0 hbl0
    have HSP := Lib.hid hsp
    clear hsp
    go_wp2_with fail
    refine (parted_c r c _ (by omega)).mono ?_
    rintro e w1 ⟨x, y, rfl, hx, hy, hd⟩
    have hb1 := hd.below wo.heap.size
    have ho1 := ho.below hb1 (Nat.le_refl _)
    have hbl1 := below_step hb hb1
    have hsz1 : w.heap.size ≤ w1.heap.size := hbl1.size
    have hnew : (ss ++ [x]).map lB = ss.map lB ++ [bef c (lB r)] := by rw [List.map_append]; simp [hx]
    have hlr := bef_len c (lB r)
    have hys : y.size ≤ r.size := by rw [← lB_len, hy, ← lB_len]; exact hlr.2
    have HX := Lib.hid hx
    have HY := Lib.hid hy
    have HN := Lib.hid hnew
    clear hx hy hd ho hb hb1 hnew
    cases hc : hasC c (lB r)
    · have hfin : (ss ++ [x]).map lB = splitL c (lB s) := by
        rw [HN.out, ← HSP.out, spl_has, hc, bef_no hc]; rfl
      have HF := Lib.hid hfin
      clear hfin hc hlr
      go_wp2_with (at_builtin; refine wpList_pushT rfl (.tmp 17) (.tmp 19) 56 rfl w.heap.size i0 Tryd.underlying56 hi hz0 hz1 hz2 _ ss x rfl ho1 rfl (by omega) hsz1 ?_; intro v' w2 ho2 hk2)
      have HR := Lib.hid (retTx_own (c := c) ho2 (Nat.le_refl _) HF.out (hbl1.trans (hk2.below hbl1.size (fun b e => (ho1.block b e).1))))
      clear ho2 hk2 ho1 hbl1
      go_wp2
      go_ret
      exact HR.out
    · have hlt : y.size + 1 ≤ r.size := by
        have h1 := congrArg List.length (has_cut hc)
        simp only [List.length_append, List.length_cons, lB_len] at h1
        have h2 := congrArg List.length HY.out
        rw [lB_len] at h2
        omega
      have hfin : (ss ++ [x]).map lB ++ splitL c (lB y) = splitL c (lB s) := by
        rw [HN.out, ← HSP.out, HY.out]
        conv => rhs; rw [spl_has, hc]
        simp
      have HF := Lib.hid hfin
      clear hfin hc hlr
      go_wp2_with (at_builtin; refine wpList_pushT rfl (.tmp 17) (.tmp 19) 56 rfl w.heap.size i0 Tryd.underlying56 hi hz0 hz1 hz2 _ ss x rfl ho1 rfl (by omega) hsz1 ?_; intro v' w2 ho2 hk2)
      have HR := Lib.hid (show OwnT w2 w.heap.size v' (ss ++ [x]) ∧ Below w.heap.size w w2 from ⟨ho2, hbl1.trans (hk2.below hbl1.size (fun b e => (ho1.block b e).1))⟩)
      clear ho2 hk2 ho1 hbl1
      go_wp2
      go_roundw
      case rel => exact ⟨y, ss ++ [x], rfl, by simp; omega, HF.out, HR.out⟩
      case measure => show y.size < r.size; omega
/-- What has been split off, and where the next part begins. -/
theorem spl_run {c : UInt8} {t : List UInt8} {a i : Nat} (hai : a ≤ i) (hi : i < t.length) (hn : ∀ x, x ∈ (t.drop a).take (i - a) → x ≠ c) (hc : t[i] = c) : splitL c (t.drop a) = (t.drop a).take (i - a) :: splitL c (t.drop (i + 1)) := by
  have e : t.drop a = (t.drop a).take (i - a) ++ c :: t.drop (i + 1) := by
    conv => lhs; rw [← List.take_append_drop (i - a) (t.drop a)]
    rw [List.drop_drop, show a + (i - a) = i by omega, List.drop_eq_getElem_cons hi, hc]
  have h := spl_at (c := c) (u := (t.drop a).take (i - a)) (r := t.drop (i + 1)) (fun hm => hn _ hm rfl)
  rw [← e] at h
  exact h
theorem take_next {t : List UInt8} {a i : Nat} (hai : a ≤ i) (hi : i < t.length) : (t.drop a).take (i + 1 - a) = (t.drop a).take (i - a) ++ [t[i]] := by
  rw [show i + 1 - a = i - a + 1 by omega, List.take_succ_eq_append_getElem (by simp; omega)]
  simp only [List.getElem_drop]
  congr 2
  congr 1
  omega
set_option maxRecDepth 100000 in
set_option maxHeartbeats 2000000 in
theorem l01Split_c (s : ByteArray) (c : UInt8) (w : World) (hs : s.size ≤ 137438953472) :
    Calls Tryd.prog 33 #[.string s, .int .u8 (c.toNat : Int)] w (RetTx w c (lB s)) := by
  obtain ⟨i0, hi, hz0, hz1, hz2⟩ := info_parts Tryd.infoS
  have hlen : (lB s).length = s.size := lB_len s
  go_enter Tryd.func33, Tryd.ntmps33
  go_wp2_with fail
  have hown0 := ownT_empty w w.heap.size (Nat.le_refl _)
  have hbl0 : Below w.heap.size w (w.alloc (.cells #[] 9)) := (Below.refl _ _).alloc (Nat.le_refl _) _
  go_loopw [5, 6, 7] (fun ov av iv wr => ∃ (a i : Nat) (ss : List ByteArray), av = .int .i64 (a : Int) ∧ iv = .int .i64 (i : Int) ∧ a ≤ i ∧ i ≤ s.size ∧ ss.length ≤ i ∧ Hid ((∀ x, x ∈ ((lB s).drop a).take (i - a) → x ≠ c) ∧ ss.map lB ++ splitL c ((lB s).drop a) = splitL c (lB s)) ∧ OwnT wr w.heap.size ov ss ∧ Below w.heap.size w wr) (fun _ _ iv _ => s.size - (intOf iv).toNat)
  case atStart => exact ⟨0, 0, [], rfl, rfl, Nat.le_refl _, Nat.zero_le _, Nat.le_refl _, Lib.hid ⟨by simp, by simp⟩, hown0, hbl0⟩
  case round =>
    obtain ⟨a, i, ss, rfl, rfl, hai, his, hsl, H, ho, hb⟩ := hrel
    obtain ⟨wo, rfl⟩ : ∃ wo : World, wo = wr := ⟨_, rfl⟩
    clear hown0 hbl0
    have hsz1 : w.heap.size ≤ wo.heap.size := hb.size
    by_cases hlt : i < s.size
    · have hki : (i : Int) < (s.size : Int) := by omega
      have hi' : i < (lB s).length := by omega
      have hgt := lB_get hlt hi'
      by_cases hc : s[i]'hlt = c
      · have hcb : (((s[i]'hlt).toNat : Int) == (c.toNat : Int)) = true := by rw [hc]; simp
        have hx : lB (s.extract a i) = ((lB s).drop a).take (i - a) := lB_cut s a i
        have H2 : Hid ((∀ x, x ∈ ((lB s).drop (i + 1)).take (i + 1 - (i + 1)) → x ≠ c) ∧ (ss ++ [s.extract a i]).map lB ++ splitL c ((lB s).drop (i + 1)) = splitL c (lB s)) := Lib.hid ⟨by simp, by
          rw [← H.out.2, spl_run hai hi' H.out.1 (by rw [hgt]; exact hc), List.map_append, List.append_assoc]
          simp [hx]⟩
        have hg0 : (0 : Int) ≤ (a : Int) := by omega
        have hg1 : (a : Int) ≤ (i : Int) := by omega
        have hg2 : (i : Int) ≤ (s.size : Int) := by omega
        clear H hx hgt hc
        go_wp2_with (at_builtin; refine wpList_pushT rfl (.tmp 20) (.tmp 25) 56 rfl w.heap.size i0 Tryd.underlying56 hi hz0 hz1 hz2 _ ss (s.extract a i) rfl ho rfl (by omega) hsz1 ?_; intro v' w2 ho2 hk2)
        have HR := Lib.hid (show OwnT w2 w.heap.size v' (ss ++ [s.extract a i]) ∧ Below w.heap.size w w2 from ⟨ho2, hb.trans (hk2.below hb.size (fun b e => (ho.block b e).1))⟩)
        clear ho2 hk2 ho hb
        go_wp2
        go_roundw
        case rel => exact ⟨i + 1, i + 1, ss ++ [s.extract a i], by go_num, by go_num, Nat.le_refl _, by omega, by simp; omega, H2, HR.out⟩
        case measure => simp [intOf]; omega
      · have hcb : (((s[i]'hlt).toNat : Int) == (c.toNat : Int)) = false := by
          rw [beq_eq_false_iff_ne]
          intro e
          exact hc (UInt8.toNat_inj.1 (by omega))
        have H2 : Hid ((∀ x, x ∈ ((lB s).drop a).take (i + 1 - a) → x ≠ c) ∧ ss.map lB ++ splitL c ((lB s).drop a) = splitL c (lB s)) := Lib.hid ⟨fun x hx => by
          rw [take_next hai hi', List.mem_append, List.mem_singleton, hgt] at hx
          rcases hx with hx | hx
          · exact H.out.1 x hx
          · rw [hx]; exact hc, H.out.2⟩
        clear H hgt hc
        have HR := Lib.hid (show OwnT wo w.heap.size _ ss ∧ Below w.heap.size w wo from ⟨ho, hb⟩)
        clear ho hb
        go_wp2
        go_roundw
        case rel => exact ⟨a, i + 1, ss, rfl, by go_num, by omega, by omega, by omega, H2, HR.out⟩
        case measure => simp [intOf]; omega
    · have hie : i = s.size := by omega
      have hki : ¬ (i : Int) < (s.size : Int) := by omega
      have hx : lB (s.extract a s.size) = (lB s).drop a := by rw [lB_cut, List.take_of_length_le (by simp; omega)]
      have hfin : (ss ++ [s.extract a s.size]).map lB = splitL c (lB s) := by
        have h2 := H.out.1
        rw [List.take_of_length_le (by simp; omega)] at h2
        rw [← H.out.2, spl_no (c := c) (s := (lB s).drop a) (fun hm => h2 _ hm rfl), List.map_append]
        simp [hx]
      have HF := Lib.hid hfin
      have hg0 : (0 : Int) ≤ (a : Int) := by omega
      have hg2 : (a : Int) ≤ (s.size : Int) := by omega
      clear H hx hfin
      go_wp2_with (at_builtin; refine wpList_pushT rfl (.tmp 29) (.tmp 33) 56 rfl w.heap.size i0 Tryd.underlying56 hi hz0 hz1 hz2 _ ss (s.extract a s.size) rfl ho rfl (by omega) hsz1 ?_; intro v' w2 ho2 hk2)
      have HR := Lib.hid (retTx_own (c := c) ho2 (Nat.le_refl _) HF.out (hb.trans (hk2.below hb.size (fun b e => (ho.block b e).1))))
      clear ho2 hk2 ho hb
      go_wp2
      go_ret
      exact HR.out
theorem part_len (c : UInt8) : ∀ (n : Nat) (t : List UInt8), t.length ≤ n → ∀ x ∈ splitL c t, x.length ≤ t.length := by
  intro n
  induction n with
  | zero => intro t ht x hx; have : t = [] := List.eq_nil_of_length_eq_zero (by omega); subst this; simp [splitL] at hx; subst hx; simp
  | succ n ih =>
    intro t ht x hx
    rcases cut_first c t with h | ⟨u, r, rfl, hu⟩
    · rw [spl_no h, List.mem_singleton] at hx; subst hx; exact Nat.le_refl _
    · rw [spl_at hu, List.mem_cons] at hx
      rcases hx with hx | hx
      · subst hx; simp
      · have := ih r (by simp at ht; omega) x hx
        simp; omega
/-- The parts, one by one. -/
theorem parts_at {c : UInt8} {t : List UInt8} {ss : List ByteArray} (h : ss.map lB = splitL c t) {i : Nat} (hi : i < ss.length) : lB (gS ss i) = gT (splitL c t) i ∧ (gS ss i).size ≤ t.length := by
  have hl : (splitL c t).length = ss.length := by rw [← h]; simp
  have e : lB (gS ss i) = gT (splitL c t) i := by
    rw [gT_lt (by omega), gS_lt hi]
    simp [← h]
  refine ⟨e, ?_⟩
  have h2 := part_len c _ t (Nat.le_refl _) _ (show gT (splitL c t) i ∈ splitL c t by rw [gT_lt (by omega)]; exact List.getElem_mem _)
  rw [← e, lB_len] at h2
  exact h2
theorem RdT.cells {w : World} {v : Value} {ss : List ByteArray} (h : RdT w v ss) (hp : 0 < ss.length) : ∃ b off cap, v = .slice (some ⟨b, off, none⟩) ss.length cap ∧ b < w.heap.size ∧ ∀ i, i < ss.length → w.cell? ⟨b, off + i, none⟩ = some (.string (gS ss i)) := by
  obtain ⟨a, cap, rfl, _, _, h4⟩ := h
  obtain ⟨b, off, rfl, h5, h6⟩ := h4 (by intro e; rw [e] at hp; simp at hp)
  exact ⟨b, off, cap, rfl, h5, h6⟩
end Go.Proofs.YtglghdkjppcedaaDoor
