/- How a slice and a code, a branch and a code, a cluster and a code are handed back. -/
import Derived.Test.YtiinceflafigeaaDoorLib
import Derived.Test.YtiinceflafigeaaDoorRowL
namespace Go.Proofs.YtiinceflafigeaaDoor
open Go.RowKit

def RetIC (w : World) (xs : List Int) (c : Int) (e : Ending) (w' : World) : Prop :=
  ∃ a k, e = .returned (.tuple #[.slice a xs.length k, .int .i64 c]) ∧ OwnI w' w.heap.size (.slice a xs.length k) xs ∧ Below w.heap.size w w'
def RetBC (w : World) (xs : List Int) (c : Int) (e : Ending) (w' : World) : Prop :=
  ∃ a k, e = .returned (.tuple #[.agg #[.slice a xs.length k], .int .i64 c]) ∧ OwnI w' w.heap.size (.slice a xs.length k) xs ∧ Below w.heap.size w w'
def RetCC (w : World) (xs ys zs : List Int) (c : Int) (e : Ending) (w' : World) : Prop :=
  ∃ a i b j d k, e = .returned (.tuple #[.agg #[.slice a xs.length i, .slice b ys.length j, .slice d zs.length k], .int .i64 c]) ∧
    Own3 2 w' w.heap.size (.slice a xs.length i) (.slice b ys.length j) (.slice d zs.length k) xs ys zs ∧ Below w.heap.size w w'

/-- The shape of an owned slice. -/
theorem Own.form {e : TypeId} {w : World} {base : Nat} {v : Value} {xs : List Int} (h : Own e w base v xs) : ∃ a k, v = .slice a xs.length k := by
  rcases h.shape with ⟨rfl, rfl⟩ | ⟨g, cap, rfl, _⟩
  · exact ⟨none, 0, rfl⟩
  · exact ⟨_, _, rfl⟩
theorem retIC_mk {w w' : World} {v : Value} {xs : List Int} {c : Int} (h : OwnI w' w.heap.size v xs) (hb : Below w.heap.size w w') : RetIC w xs c (.returned (.tuple #[v, .int .i64 c])) w' := by
  obtain ⟨a, k, rfl⟩ := h.form
  exact ⟨a, k, rfl, h, hb⟩
theorem retI_mk {w w' : World} {v : Value} {xs : List Int} (h : OwnI w' w.heap.size v xs) (hb : Below w.heap.size w w') : RetI w xs (.returned v) w' := by
  obtain ⟨a, k, rfl⟩ := h.form
  exact ⟨a, k, rfl, h, hb⟩
theorem retIC_nil {w w' : World} {c : Int} (hb : Below w.heap.size w w') : RetIC w [] c (.returned (.tuple #[.slice none 0 0, .int .i64 c])) w' :=
  ⟨none, 0, rfl, own_nil _ _ _, hb⟩
/-- An empty literal slice of the call's own. -/
theorem own_empty (w : World) (base : Nat) (hb : base ≤ w.heap.size) : OwnI (w.alloc (.cells #[] 2)) base (.slice (some ⟨w.heap.size, 0, none⟩) 0 0) [] :=
  World.ownsRow_lit w #[] 0 hb (by unfold maxLen; omega) rfl
theorem own_empty_at (w : World) (base g : Nat) (hg : g = w.heap.size) (hb : base ≤ g) : OwnI (w.alloc (.cells #[] 2)) base (.slice (some ⟨g, 0, none⟩) 0 0) [] := by
  subst hg; exact own_empty w base hb

end Go.Proofs.YtiinceflafigeaaDoor

/- The plain part of impl.added: each point's own number plus the numbers of all points to which it is proximate. -/
namespace Go.Proofs.YtiinceflafigeaaDoor
open Go.RowKit

/-- The first k results. -/
def addTo (own : Nat → Int) (R : List (List Int)) : Nat → List Int
  | 0 => []
  | k + 1 => addTo own R k ++ [own k + sumTo (fun x => gI (addTo own R k) (gI (gR R k) x).toNat) (gR R k).length]
theorem addTo_succ (own : Nat → Int) (R : List (List Int)) (k : Nat) : addTo own R (k + 1) = addTo own R k ++ [own k + sumTo (fun x => gI (addTo own R k) (gI (gR R k) x).toNat) (gR R k).length] := rfl
theorem addTo_len (own : Nat → Int) (R : List (List Int)) (k : Nat) : (addTo own R k).length = k := by
  induction k with
  | zero => rfl
  | succ k ih => rw [addTo_succ, List.length_append, ih]; rfl
theorem addTo_old (own : Nat → Int) (R : List (List Int)) {i k : Nat} (h : i < k) : gI (addTo own R k) i = gI (addTo own R (i + 1)) i := by
  induction k with
  | zero => omega
  | succ k ih =>
    by_cases e : i = k
    · rw [e]
    · rw [addTo_succ, gI_app_lt (by rw [addTo_len]; omega)]; exact ih (by omega)
theorem addTo_at (own : Nat → Int) (R : List (List Int)) {i k : Nat} (h : i < k) : gI (addTo own R k) i = own i + sumTo (fun x => gI (addTo own R i) (gI (gR R i) x).toNat) (gR R i).length := by
  rw [addTo_old own R h, addTo_succ, gI_app_at (by rw [addTo_len])]

/-- All rows point back, and no number is too large. -/
structure AddOk (own : Nat → Int) (R : List (List Int)) : Prop where
  len : R.length ≤ 400
  rowlen : ∀ k, k < R.length → (gR R k).length ≤ 400
  row : ∀ k, k < R.length → ∀ m, m < (gR R k).length → 0 ≤ gI (gR R k) m ∧ gI (gR R k) m < (k : Int)
  ownb : ∀ k, k < R.length → -1000000000000000 ≤ own k ∧ own k ≤ 1000000000000000
  out : ∀ k, k < R.length → ∀ i, i < k → -1000000000000000 ≤ gI (addTo own R k) i ∧ gI (addTo own R k) i ≤ 1000000000000000

/-- An owned slice that is not empty lies in a block. -/
theorem Own.pos {e : TypeId} {w : World} {base : Nat} {v : Value} {xs : List Int} (h : Own e w base v xs) (hp : 0 < xs.length) : ∃ g cap, v = .slice (some ⟨g, 0, none⟩) xs.length cap ∧ base ≤ g ∧ g < w.heap.size ∧ xs.length ≤ cap ∧ cap ≤ 9223372036854775807 := by
  rcases h.shape with ⟨_, rfl⟩ | h
  · simp at hp
  · exact h
end Go.Proofs.YtiinceflafigeaaDoor

/- The points to which a point of a cluster is proximate. No program in sight. -/
namespace Go.Proofs.YtiinceflafigeaaDoor

/-- The points to which the point i of a cluster is proximate. -/
def secL (S : List Int) (i : Nat) : List Int := if 0 ≤ gI S i then [gI S i] else []
theorem secL_yes {S : List Int} {i : Nat} (h : 0 ≤ gI S i) : secL S i = [gI S i] := by simp [secL, h]
theorem secL_no {S : List Int} {i : Nat} (h : ¬ 0 ≤ gI S i) : secL S i = [] := by simp [secL, h]
theorem secL_len (S : List Int) (i : Nat) : (secL S i).length ≤ 1 := by unfold secL; split <;> simp
def proxOf (P S : List Int) (i : Nat) : List Int := if i = 0 then [] else secL S i ++ [gI P i]
def proxL (P S : List Int) : List (List Int) := (List.range P.length).map (proxOf P S)
/-- Where all points before n stand in their places, each second lies before its point. -/
theorem second_lt {P S : List Int} {n : Nat} (h : ∀ x, x < n → placeOk P S x) : ∀ x, x < n → gI S x < (x : Int) ∧ gI P x < (x : Int) := by
  intro x
  induction x using Nat.strongRecOn with
  | _ x ih =>
    intro hx
    rcases h x hx with ⟨h0, h1, h2⟩ | ⟨h0, h1, h2, h3⟩
    · omega
    · have hp : (gI P x).toNat < x := by omega
      have := ih _ hp (by omega)
      rcases h3 with h3 | ⟨h3, h4 | h4⟩ <;> omega

end Go.Proofs.YtiinceflafigeaaDoor

/- Orders of points: the reference's sums and the program's are the same, and stay small. No program in sight. -/
namespace Go.Proofs.YtiinceflafigeaaDoor

/-- The first k orders for some own numbers. -/
def ordTo (own : Nat → Int) (P S : List Int) : Nat → List Int
  | 0 => []
  | k + 1 => ordTo own P S k ++ [own k + (if k = 0 then 0 else gI (ordTo own P S k) (gI P k).toNat) + (if 0 ≤ gI S k then gI (ordTo own P S k) (gI S k).toNat else 0)]
theorem ordTo_succ (own : Nat → Int) (P S : List Int) (k : Nat) : ordTo own P S (k + 1) = ordTo own P S k ++ [own k + (if k = 0 then 0 else gI (ordTo own P S k) (gI P k).toNat) + (if 0 ≤ gI S k then gI (ordTo own P S k) (gI S k).toNat else 0)] := rfl
theorem ordTo_len (own : Nat → Int) (P S : List Int) (k : Nat) : (ordTo own P S k).length = k := by
  induction k with
  | zero => rfl
  | succ k ih => rw [ordTo_succ, List.length_append, ih]; rfl

theorem clu_place {P S W : List Int} (h : CluOk P S W) {k : Nat} (hk : k < P.length) (h0 : 0 < k) : 0 ≤ gI P k ∧ gI P k < (k : Int) ∧ gI S k < (k : Int) := by
  have h1 := second_lt (fun x hx => (h.2.2 x hx).1) k hk
  rcases (h.2.2 k hk).1 with h2 | h2
  · omega
  · omega
theorem clu_zero {P S W : List Int} (h : CluOk P S W) : gI P 0 = -1 ∧ gI S 0 = -1 := by
  rcases (h.2.2 0 h.1.1).1 with h2 | h2
  · exact h2.2
  · omega

theorem add_ord {P S W : List Int} (h : CluOk P S W) (own : Nat → Int) (k : Nat) (hk : k ≤ P.length) : addTo own (proxL P S) k = ordTo own P S k := by
  induction k with
  | zero => rfl
  | succ k ih =>
    have ih' := ih (by omega)
    rw [addTo_succ, ordTo_succ, ih']
    have hg : gR (proxL P S) k = proxOf P S k := gR_map (by omega)
    rw [hg]
    by_cases e : k = 0
    · subst e
      have := (clu_zero h).2
      simp [proxOf, sumTo, this]
    · rw [if_neg e]
      unfold proxOf
      rw [if_neg e]
      by_cases hs : 0 ≤ gI S k
      · rw [secL_yes hs, if_pos hs]
        simp [sumTo, gI]
        omega
      · rw [secL_no hs, if_neg hs]
        simp [sumTo, gI]

theorem ord_eq {P S W : List Int} (h : CluOk P S W) {own : Nat → Int} : addTo own (proxL P S) P.length = ordTo own P S P.length := add_ord h own P.length (Nat.le_refl _)

theorem ordTo_old (own : Nat → Int) (P S : List Int) {i k : Nat} (h : i < k) : gI (ordTo own P S k) i = gI (ordTo own P S (i + 1)) i := by
  induction k with
  | zero => omega
  | succ k ih =>
    by_cases e : i = k
    · rw [e]
    · rw [ordTo_succ, gI_app_lt (by rw [ordTo_len]; omega)]; exact ih (by omega)
theorem ordTo_at (own : Nat → Int) (P S : List Int) {i k : Nat} (h : i < k) :
    gI (ordTo own P S k) i = own i + (if i = 0 then 0 else gI (ordTo own P S i) (gI P i).toNat) + (if 0 ≤ gI S i then gI (ordTo own P S i) (gI S i).toNat else 0) := by
  rw [ordTo_old own P S h, ordTo_succ, gI_app_at (by rw [ordTo_len])]

/-- The bound of the order i. -/
def capI (i : Nat) : Int := 100000 * (2 ^ (i + 1) - 1)
theorem capI_mono {i j : Nat} (h : i ≤ j) : capI i ≤ capI j := by
  unfold capI
  have h1 : (2 : Nat) ^ (i + 1) ≤ 2 ^ (j + 1) := Nat.pow_le_pow_right (by omega) (by omega)
  have h2 : ((2 ^ (i + 1) : Nat) : Int) ≤ ((2 ^ (j + 1) : Nat) : Int) := by omega
  push_cast at h2
  omega
theorem capI_succ (i : Nat) : capI (i + 1) = 100000 + 2 * capI i := by
  unfold capI
  rw [Int.pow_succ]
  omega
theorem capI_23 : capI 23 = 1677721500000 := by decide +kernel
theorem capI_nn (i : Nat) : 100000 ≤ capI i := by
  have := capI_mono (Nat.zero_le i)
  have h0 : capI 0 = 100000 := by decide
  omega

theorem ord_bd {P S W : List Int} (h : CluOk P S W) {own : Nat → Int} (ho : ∀ j, j < P.length → -100000 ≤ own j ∧ own j ≤ 100000) (k : Nat) : k < P.length → ∀ n, k < n → -(capI k) ≤ gI (ordTo own P S n) k ∧ gI (ordTo own P S n) k ≤ capI k := by
  induction k using Nat.strongRecOn with
  | _ k ih =>
    intro hk n hn
    rw [ordTo_at own P S hn]
    have h1 := ho k hk
    by_cases e : k = 0
    · subst e
      have := (clu_zero h).2
      have h0 : capI 0 = 100000 := by decide
      simp [this]
      omega
    · obtain ⟨h2, h3, h4⟩ := clu_place h hk (by omega)
      rw [if_neg e]
      have h5 := ih (gI P k).toNat (by omega) (by omega) k (by omega)
      have h6 := capI_mono (i := (gI P k).toNat) (j := k - 1) (by omega)
      have h7 := capI_succ (k - 1)
      rw [show k - 1 + 1 = k by omega] at h7
      have h8 := capI_nn (k - 1)
      by_cases hs : 0 ≤ gI S k
      · rw [if_pos hs]
        have h9 := ih (gI S k).toNat (by omega) (by omega) k (by omega)
        have h10 := capI_mono (i := (gI S k).toNat) (j := k - 1) (by omega)
        omega
      · rw [if_neg hs]
        omega

/-- Every order is small. -/
theorem ord_small {P S W : List Int} (h : CluOk P S W) {own : Nat → Int} (ho : ∀ j, j < P.length → -100000 ≤ own j ∧ own j ≤ 100000) {k n : Nat} (hk : k < P.length) (hn : k < n) : -1677721500000 ≤ gI (ordTo own P S n) k ∧ gI (ordTo own P S n) k ≤ 1677721500000 := by
  have h1 := ord_bd h ho k hk n hn
  have h2 := capI_mono (i := k) (j := 23) (by have := h.1.2.1; omega)
  rw [capI_23] at h2
  omega

theorem addOk_clu {P S W : List Int} (h : CluOk P S W) {own : Nat → Int} (ho : ∀ j, j < P.length → -100000 ≤ own j ∧ own j ≤ 100000) : AddOk own (proxL P S) := by
  have hl : (proxL P S).length = P.length := by simp [proxL]
  have h24 := h.1.2.1
  refine ⟨by omega, ?_, ?_, fun k hk => by have := ho k (by omega); omega, ?_⟩
  · intro k hk
    rw [show gR (proxL P S) k = proxOf P S k from gR_map (by omega)]
    have := secL_len S k
    unfold proxOf
    split
    · simp
    · simp; omega
  · intro k hk m hm
    rw [show gR (proxL P S) k = proxOf P S k from gR_map (by omega)] at hm ⊢
    unfold proxOf at hm ⊢
    by_cases e : k = 0
    · simp [e] at hm
    · rw [if_neg e] at hm ⊢
      obtain ⟨h2, h3, h4⟩ := clu_place h (by omega : k < P.length) (by omega)
      by_cases hs : 0 ≤ gI S k
      · rw [secL_yes hs] at hm ⊢
        match m, hm with
        | 0, _ => simp [gI] at hs h4 ⊢; omega
        | 1, _ => simp [gI] at h2 h3 ⊢; omega
        | m + 2, hm => simp at hm; omega
      · rw [secL_no hs] at hm ⊢
        match m, hm with
        | 0, _ => simp [gI] at h2 h3 ⊢; omega
        | m + 1, hm => simp at hm
  · intro k hk i hi
    rw [add_ord h own k (by omega)]
    have := ord_small h ho (by omega : i < P.length) hi
    omega
end Go.Proofs.YtiinceflafigeaaDoor
