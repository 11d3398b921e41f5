/- Excesses: the reference's and the program's order of subtractions give the same, and all numbers stay small. No program in sight. -/
import Derived.Test.YtiinceflafigeaaDoorOrdPure
import Derived.Lib.SliceRun
namespace Go.Proofs.YtiinceflafigeaaDoor

theorem gI_set {L : List Int} {i j : Nat} {y : Int} : gI (L.set i y) j = if i = j ∧ i < L.length then y else gI L j := by
  by_cases h : i = j
  · subst h
    by_cases h2 : i < L.length
    · rw [gI_set_at h2, if_pos ⟨rfl, h2⟩]
    · rw [if_neg (fun h => h2 h.2), List.set_eq_of_length_le (by omega)]
  · rw [gI_set_ne h, if_neg (fun e => h e.1)]

/-- x taken from the number at i. -/
def dec (L : List Int) (i x : Int) : List Int := L.set i.toNat (gI L i.toNat - x)
@[simp] theorem dec_len (L : List Int) (i x : Int) : (dec L i x).length = L.length := by simp [dec]
theorem gI_dec {L : List Int} {i x : Int} {j : Nat} : gI (dec L i x) j = if i.toNat = j ∧ i.toNat < L.length then gI L j - x else gI L j := by
  unfold dec
  rw [gI_set]
  by_cases h : i.toNat = j ∧ i.toNat < L.length
  · rw [if_pos h, if_pos h, h.1]
  · rw [if_neg h, if_neg h]
theorem dec_comm (L : List Int) (i j x : Int) : dec (dec L i x) j x = dec (dec L j x) i x := by
  apply gI_ext (by simp)
  intro k _
  rw [gI_dec, gI_dec, gI_dec, gI_dec]
  simp only [dec_len]
  split <;> split <;> rfl

/-- x taken from the numbers at the first m places of a row. -/
def decTo (row : List Int) (x : Int) (L : List Int) : Nat → List Int
  | 0 => L
  | m + 1 => dec (decTo row x L m) (gI row m) x
theorem decTo_succ (row : List Int) (x : Int) (L : List Int) (m : Nat) : decTo row x L (m + 1) = dec (decTo row x L m) (gI row m) x := rfl
theorem decTo_len (row : List Int) (x : Int) (L : List Int) (m : Nat) : (decTo row x L m).length = L.length := by
  induction m with
  | zero => rfl
  | succ m ih => rw [decTo_succ, dec_len, ih]

/-- The numbers after k rounds. -/
def exTo (R : List (List Int)) (W : List Int) : Nat → List Int
  | 0 => W
  | k + 1 => decTo (gR R k) (gI W k) (exTo R W k) (gR R k).length
theorem exTo_succ (R : List (List Int)) (W : List Int) (k : Nat) : exTo R W (k + 1) = decTo (gR R k) (gI W k) (exTo R W k) (gR R k).length := rfl
theorem exTo_len (R : List (List Int)) (W : List Int) (k : Nat) : (exTo R W k).length = W.length := by
  induction k with
  | zero => rfl
  | succ k ih => rw [exTo_succ, decTo_len, ih]

theorem decTo_bd (row : List Int) (x : Int) (L : List Int) (A : Int) (hx : -1000000000000 ≤ x ∧ x ≤ 1000000000000) (hL : ∀ i, -A ≤ gI L i ∧ gI L i ≤ A) (m : Nat) (i : Nat) :
    -(A + 1000000000000 * m) ≤ gI (decTo row x L m) i ∧ gI (decTo row x L m) i ≤ A + 1000000000000 * m := by
  induction m with
  | zero => have := hL i; simp only [decTo]; omega
  | succ m ih =>
    rw [decTo_succ, gI_dec]
    split <;> omega

/-- Rows that point into the list, and numbers that are not too large. -/
structure ExOk (R : List (List Int)) (W : List Int) : Prop where
  len : R.length ≤ W.length
  lim : W.length ≤ 400
  rowlen : ∀ k, k < R.length → (gR R k).length ≤ 400
  row : ∀ k, k < R.length → ∀ m, m < (gR R k).length → 0 ≤ gI (gR R k) m ∧ gI (gR R k) m < (W.length : Int)
  num : ∀ i, -1000000000000 ≤ gI W i ∧ gI W i ≤ 1000000000000

theorem exTo_bd {R : List (List Int)} {W : List Int} (h : ExOk R W) (k : Nat) (hk : k ≤ R.length) (i : Nat) :
    -(1000000000000 + 400000000000000 * k) ≤ gI (exTo R W k) i ∧ gI (exTo R W k) i ≤ 1000000000000 + 400000000000000 * (k : Int) := by
  induction k generalizing i with
  | zero => have := h.num i; simp only [exTo]; omega
  | succ k ih =>
    rw [exTo_succ]
    have := decTo_bd (gR R k) (gI W k) (exTo R W k) (1000000000000 + 400000000000000 * (k : Int)) (h.num k) (fun i => ih (by omega) i) (gR R k).length i
    have h2 := h.rowlen k (by omega)
    omega

theorem ex_small {R : List (List Int)} {W : List Int} (h : ExOk R W) {k : Nat} (hk : k < R.length) {m : Nat} (hm : m ≤ (gR R k).length) (i : Nat) :
    -200000000000000000 ≤ gI (decTo (gR R k) (gI W k) (exTo R W k) m) i ∧ gI (decTo (gR R k) (gI W k) (exTo R W k) m) i ≤ 200000000000000000 := by
  have := decTo_bd (gR R k) (gI W k) (exTo R W k) (1000000000000 + 400000000000000 * (k : Int)) (h.num k) (fun i => exTo_bd h k (by omega) i) m i
  have h2 := h.rowlen k (by omega)
  have h3 := h.len
  have h4 := h.lim
  omega

theorem num_all {W : List Int} {a b : Int} (h : ∀ i, i < W.length → a ≤ gI W i ∧ gI W i ≤ b) (ha : a ≤ 0) (hb : 0 ≤ b) (i : Nat) : a ≤ gI W i ∧ gI W i ≤ b := by
  by_cases hi : i < W.length
  · exact h i hi
  · have : gI W i = 0 := by simp [gI, List.getD, List.getElem?_eq_none (by omega : W.length ≤ i)]
    omega

theorem prox_row {P S : List Int} {k : Nat} (hk : k < P.length) : gR (proxL P S) k = proxOf P S k := gR_map hk
theorem prox_len (P S : List Int) : (proxL P S).length = P.length := by simp [proxL]

theorem exOk_clu {P S W L : List Int} (h : CluOk P S W) (hl : L.length = P.length) (hL : ∀ i, i < L.length → -1000000000000 ≤ gI L i ∧ gI L i ≤ 1000000000000) : ExOk (proxL P S) L := by
  have ha := addOk_clu h (own := fun _ => 0) (fun _ _ => by omega)
  have h24 := h.1.2.1
  refine ⟨by rw [prox_len]; omega, by omega, ha.rowlen, fun k hk m hm => ?_, num_all hL (by omega) (by omega)⟩
  have := ha.row k hk m hm
  rw [prox_len] at hk
  omega

/-- A round of the reference. -/
def exStep (P S W L : List Int) (k : Nat) : List Int := if 0 ≤ gI S k then dec (dec L (gI P k) (gI W k)) (gI S k) (gI W k) else dec L (gI P k) (gI W k)
theorem exTo_one {P S W : List Int} (L : List Int) (h : CluOk P S W) : exTo (proxL P S) L 1 = L := by
  rw [exTo_succ, prox_row h.1.1]
  simp [proxOf, decTo, exTo]
theorem exTo_step {P S : List Int} (L : List Int) {k : Nat} (hk : k < P.length) (h0 : 0 < k) : exTo (proxL P S) L (k + 1) = exStep P S L (exTo (proxL P S) L k) k := by
  rw [exTo_succ, prox_row hk]
  unfold proxOf exStep
  rw [if_neg (by omega)]
  by_cases hs : 0 ≤ gI S k
  · rw [secL_yes hs, if_pos hs]
    show dec (dec _ (gI S k) (gI L k)) (gI P k) (gI L k) = _
    exact dec_comm _ _ _ _
  · rw [secL_no hs, if_neg hs]
    rfl

/-- All numbers are not negative. -/
def nonNeg (L : List Int) : Bool := decide (∀ i, i < L.length → 0 ≤ gI L i)
theorem nonNeg_yes {L : List Int} (h : ∀ i, i < L.length → 0 ≤ gI L i) : nonNeg L = true := by simpa [nonNeg] using h
theorem nonNeg_no {L : List Int} {i : Nat} (h : i < L.length) (h2 : gI L i < 0) : nonNeg L = false := by
  simp only [nonNeg, decide_eq_false_iff_not]
  intro hh; have := hh i h; omega

/-- The least of the first k numbers. -/
def minTo (L : List Int) : Nat → Int
  | 0 => gI L 0
  | k + 1 => if gI L k < minTo L k then gI L k else minTo L k
theorem minTo_succ (L : List Int) (k : Nat) : minTo L (k + 1) = if gI L k < minTo L k then gI L k else minTo L k := rfl
theorem minTo_one (L : List Int) : minTo L 1 = gI L 0 := by rw [minTo_succ]; simp [minTo]
theorem minTo_le (L : List Int) {i k : Nat} (h : i < k) : minTo L k ≤ gI L i := by
  induction k with
  | zero => omega
  | succ k ih =>
    rw [minTo_succ]
    by_cases e : i = k
    · subst e; split <;> omega
    · have := ih (by omega)
      split <;> omega
theorem minTo_mem (L : List Int) (k : Nat) : minTo L k = gI L 0 ∨ ∃ i, i < k ∧ minTo L k = gI L i := by
  induction k with
  | zero => exact .inl rfl
  | succ k ih =>
    rw [minTo_succ]
    split
    · exact .inr ⟨k, by omega, rfl⟩
    · rcases ih with h | ⟨i, h1, h2⟩
      · exact .inl h
      · exact .inr ⟨i, by omega, h2⟩
theorem min_nonNeg {L : List Int} (hp : 0 < L.length) : nonNeg L = decide (0 ≤ minTo L L.length) := by
  by_cases h : 0 ≤ minTo L L.length
  · rw [nonNeg_yes (fun i hi => Int.le_trans h (minTo_le L hi))]; simp [h]
  · rcases minTo_mem L L.length with h2 | ⟨i, hi, h2⟩
    · rw [nonNeg_no hp (by omega)]; simp [h]
    · rw [nonNeg_no hi (by omega)]; simp [h]
end Go.Proofs.YtiinceflafigeaaDoor

/- Contracts: slices.Clone, spec.l01Own: a copy of a slice of integers that is not empty. -/
namespace Go.Proofs.YtiinceflafigeaaDoor
open Go.RowKit

/-- 'append(s, t...)' on a slice that the call owns, t not empty. -/
theorem wpList_extend {P : Program} {w : World} {ops : Array Oper} {rest : List Oper} {o : Oper} {a : Act} {Q : Exit → Act → World → Prop} (hgd : o.guard = none) (s x : Operand) (t : TypeId)
    (ho : o.op = .call { callee := .builtin .append, args := #[s, x], argTypes := #[t, t] })
    (base : Nat) (e : TypeId) (i : TypeInfo) (ht : P.underlying t = some (.slice e)) (hi : P.info? e = some i) (hz : i.zero = some (.int .i64 0)) (hsize : i.size = 1) (hby : i.bytes = 8)
    (v u : Value) (xs ys : List Int) (hs : a.eval s = v) (hown : Own e w base v xs) (hx : a.eval x = u) (hu : Rd w u ys) (hp : 0 < ys.length)
    (hlen : xs.length + ys.length ≤ 1000000000000) (hbase : base ≤ w.heap.size)
    (h : ∀ v' w', Own e w' base v' (xs ++ ys) → Keeps (fun k => v.ownBlock = some k) w w' → wpList P ops Q rest (a.put o.dst v') w') :
    wpList P ops Q (o :: rest) a w := by
  obtain ⟨b, off, c, rfl, h1, h2, hb, hc⟩ := hu.cells hp
  refine wpList_append_own _ hgd s x t ho base e i (.int .i64 0) 1 8 ht hi hz hsize hby rfl (by decide) v xs.length (xs.map (Value.int .i64)) hs hown ⟨b, off, none⟩ ys.length c (ys.map (Value.int .i64)) hx (by simp) ?_ ?_ ?_ ?_ hbase ?_
  · intro j y hj
    have hjl : j < ys.length := by
      have := (List.getElem?_eq_some_iff.1 hj).1
      simpa using this
    have hy : y = .int .i64 (gI ys j) := by
      rw [List.getElem?_map, gI_some hjl] at hj
      simpa using hj.symm
    rw [Addr.add_lit, hc j hjl, hy]
  · intro y hy; simp at hy; obtain ⟨n, _, rfl⟩ := hy; rfl
  · unfold maxLen; omega
  · omega
  · intro v' w' ho' hg _
    refine h v' w' ?_ (Keeps.of_grown hg)
    unfold Own
    rw [List.length_append, List.map_append]
    exact ho'

theorem own_of_nil_app {e : TypeId} {w : World} {base : Nat} {v : Value} {xs : List Int} (h : Own e w base v ([] ++ xs)) : Own e w base v xs := h

theorem l01Own_c (v : Value) (xs : List Int) (w : World) (h : Rd w v xs) (hp : 0 < xs.length) (hn : xs.length ≤ 1000000) :
    Calls Tryd.prog 48 #[v] w (RetI w xs) := by
  obtain ⟨i0, hi, hz0, hz1, hz2⟩ := info_parts Tryd.infoI
  have hal : Below w.heap.size w (w.alloc (.cells #[] 2)) := (Below.refl _ _).alloc (Nat.le_refl _) _
  have hr := h.below hal (Nat.le_refl _)
  obtain ⟨ad, cap, rfl⟩ := h.len0
  go_enter Tryd.func48, Tryd.ntmps48
  go_wp2_with (at_builtin; refine wpList_extend rfl (.tmp 3) (.tmp 4) 24 rfl w.heap.size 2 i0 Tryd.underlying24 hi hz0 hz1 hz2 (.slice (some ⟨w.heap.size, 0, none⟩) 0 0) (.slice ad xs.length cap) [] xs rfl (own_empty w _ (Nat.le_refl _)) rfl hr hp (by simp; omega) (by simp) ?_; intro v' w2 hown' hkp)
  have hb := hal.trans (hkp.below (B := w.heap.size) (by simp) (fun g hg => by simp [Value.ownBlock] at hg; omega))
  go_ret
  exact retI_mk (own_of_nil_app hown') hb

end Go.Proofs.YtiinceflafigeaaDoor

/- Contract: slices.Reverse of an owned slice of integers. -/
namespace Go.Proofs.YtiinceflafigeaaDoor
open Go.RowKit

theorem gI_mapr {n i : Nat} {f : Nat → Int} (h : i < n) : gI ((List.range n).map f) i = f i := by rw [gI_lt (by simpa using h)]; simp
theorem gI_rev {xs : List Int} {i : Nat} (h : i < xs.length) : gI xs.reverse i = gI xs (xs.length - 1 - i) := by
  rw [gI_lt (by simpa using h), gI_lt (by omega), List.getElem_reverse]

/-- The list after k exchanges. -/
def revTo (xs : List Int) (k : Nat) : List Int := (List.range xs.length).map fun i => if i < k ∨ xs.length ≤ i + k then gI xs (xs.length - 1 - i) else gI xs i
@[simp] theorem revTo_len (xs : List Int) (k : Nat) : (revTo xs k).length = xs.length := by simp [revTo]
theorem gI_revTo {xs : List Int} {k i : Nat} (h : i < xs.length) : gI (revTo xs k) i = if i < k ∨ xs.length ≤ i + k then gI xs (xs.length - 1 - i) else gI xs i := gI_mapr h
theorem revTo_zero (xs : List Int) : revTo xs 0 = xs := by
  apply gI_ext (by simp)
  intro i hi
  rw [revTo_len] at hi
  rw [gI_revTo hi, if_neg (by omega)]
theorem revTo_end {xs : List Int} {k : Nat} (h : xs.length ≤ 2 * k + 1) : revTo xs k = xs.reverse := by
  apply gI_ext (by simp)
  intro i hi
  rw [revTo_len] at hi
  rw [gI_revTo hi, gI_rev hi]
  by_cases c : i < k ∨ xs.length ≤ i + k
  · rw [if_pos c]
  · rw [if_neg c]; congr 1; omega
theorem revTo_step {xs : List Int} {k j : Nat} (h : k < j) (hj : j + k + 1 = xs.length) : ((revTo xs k).set k (gI (revTo xs k) j)).set j (gI (revTo xs k) k) = revTo xs (k + 1) := by
  apply gI_ext (by simp)
  intro i hi
  have hi : i < xs.length := by simpa using hi
  rw [gI_revTo hi]
  by_cases e : j = i
  · subst e
    rw [gI_set_at (by simp; omega), gI_revTo (by omega), if_neg (by omega), if_pos (by omega)]
    congr 1; omega
  · rw [gI_set_ne e]
    by_cases e2 : k = i
    · subst e2
      rw [gI_set_at (by simp; omega), gI_revTo (by omega), if_neg (by omega), if_pos (by omega)]
      congr 1; omega
    · rw [gI_set_ne e2, gI_revTo hi]
      by_cases c : i < k ∨ xs.length ≤ i + k
      · rw [if_pos c, if_pos (by omega)]
      · rw [if_neg c, if_neg (by omega)]

end Go.Proofs.YtiinceflafigeaaDoor
