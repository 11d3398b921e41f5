/- How a slice and a code, a branch and a code, a cluster and a code are handed back. -/
import Derived.Test.YtglghdkjppcedaaGreatDoorPart0
import Derived.Test.YtglghdkjppcedaaGreatDoorPart1
import Derived.Lib.SliceRun
namespace Go.Proofs.YtglghdkjppcedaaGreatDoor
open Go.RowKit

def RetIC (w : World) (xs : List Int) (c : Int) (e : Ending) (w' : World) : Prop :=
  ∃ a k, e = .returned (.tuple #[.slice a xs.length k, .int .i64 c]) ∧ OwnI w' w.heap.size (.slice a xs.length k) xs ∧ Below w.heap.size w w'
def RetBC (w : World) (xs : List Int) (c : Int) (e : Ending) (w' : World) : Prop :=
  ∃ a k, e = .returned (.tuple #[.agg #[.slice a xs.length k], .int .i64 c]) ∧ OwnI w' w.heap.size (.slice a xs.length k) xs ∧ Below w.heap.size w w'
def RetCC (w : World) (xs ys zs : List Int) (c : Int) (e : Ending) (w' : World) : Prop :=
  ∃ a i b j d k, e = .returned (.tuple #[.agg #[.slice a xs.length i, .slice b ys.length j, .slice d zs.length k], .int .i64 c]) ∧
    Own3 2 w' w.heap.size (.slice a xs.length i) (.slice b ys.length j) (.slice d zs.length k) xs ys zs ∧ Below w.heap.size w w'

/-- The shape of an owned slice. -/
theorem Own.form {e : TypeId} {w : World} {base : Nat} {v : Value} {xs : List Int} (h : Own e w base v xs) : ∃ a k, v = .slice a xs.length k := by
  rcases h.shape with ⟨rfl, rfl⟩ | ⟨g, cap, rfl, _⟩
  · exact ⟨none, 0, rfl⟩
  · exact ⟨_, _, rfl⟩
theorem retIC_mk {w w' : World} {v : Value} {xs : List Int} {c : Int} (h : OwnI w' w.heap.size v xs) (hb : Below w.heap.size w w') : RetIC w xs c (.returned (.tuple #[v, .int .i64 c])) w' := by
  obtain ⟨a, k, rfl⟩ := h.form
  exact ⟨a, k, rfl, h, hb⟩
theorem retI_mk {w w' : World} {v : Value} {xs : List Int} (h : OwnI w' w.heap.size v xs) (hb : Below w.heap.size w w') : RetI w xs (.returned v) w' := by
  obtain ⟨a, k, rfl⟩ := h.form
  exact ⟨a, k, rfl, h, hb⟩
theorem retIC_nil {w w' : World} {c : Int} (hb : Below w.heap.size w w') : RetIC w [] c (.returned (.tuple #[.slice none 0 0, .int .i64 c])) w' :=
  ⟨none, 0, rfl, own_nil _ _ _, hb⟩
/-- An empty literal slice of the call's own. -/
theorem own_empty (w : World) (base : Nat) (hb : base ≤ w.heap.size) : OwnI (w.alloc (.cells #[] 2)) base (.slice (some ⟨w.heap.size, 0, none⟩) 0 0) [] :=
  World.ownsRow_lit w #[] 0 hb (by unfold maxLen; omega) rfl
theorem own_empty_at (w : World) (base g : Nat) (hg : g = w.heap.size) (hb : base ≤ g) : OwnI (w.alloc (.cells #[] 2)) base (.slice (some ⟨g, 0, none⟩) 0 0) [] := by
  subst hg; exact own_empty w base hb

end Go.Proofs.YtglghdkjppcedaaGreatDoor

/- The plain part of impl.added: each point's own number plus the numbers of all points to which it is proximate. -/
namespace Go.Proofs.YtglghdkjppcedaaGreatDoor
open Go.RowKit

/-- The first k results. -/
def addTo (own : Nat → Int) (R : List (List Int)) : Nat → List Int
  | 0 => []
  | k + 1 => addTo own R k ++ [own k + sumTo (fun x => gI (addTo own R k) (gI (gR R k) x).toNat) (gR R k).length]
theorem addTo_succ (own : Nat → Int) (R : List (List Int)) (k : Nat) : addTo own R (k + 1) = addTo own R k ++ [own k + sumTo (fun x => gI (addTo own R k) (gI (gR R k) x).toNat) (gR R k).length] := rfl
theorem addTo_len (own : Nat → Int) (R : List (List Int)) (k : Nat) : (addTo own R k).length = k := by
  induction k with
  | zero => rfl
  | succ k ih => rw [addTo_succ, List.length_append, ih]; rfl
/-- All rows point back, and no number is too large. -/
structure AddOk (own : Nat → Int) (R : List (List Int)) : Prop where
  len : R.length ≤ 400
  rowlen : ∀ k, k < R.length → (gR R k).length ≤ 400
  row : ∀ k, k < R.length → ∀ m, m < (gR R k).length → 0 ≤ gI (gR R k) m ∧ gI (gR R k) m < (k : Int)
  ownb : ∀ k, k < R.length → -1000000000000000 ≤ own k ∧ own k ≤ 1000000000000000
  out : ∀ k, k < R.length → ∀ i, i < k → -1000000000000000 ≤ gI (addTo own R k) i ∧ gI (addTo own R k) i ≤ 1000000000000000

/-- An owned slice that is not empty lies in a block. -/
theorem Own.pos {e : TypeId} {w : World} {base : Nat} {v : Value} {xs : List Int} (h : Own e w base v xs) (hp : 0 < xs.length) : ∃ g cap, v = .slice (some ⟨g, 0, none⟩) xs.length cap ∧ base ≤ g ∧ g < w.heap.size ∧ xs.length ≤ cap ∧ cap ≤ 9223372036854775807 := by
  rcases h.shape with ⟨_, rfl⟩ | h
  · simp at hp
  · exact h
end Go.Proofs.YtglghdkjppcedaaGreatDoor

/- The points to which a point of a cluster is proximate. No program in sight. -/
namespace Go.Proofs.YtglghdkjppcedaaGreatDoor

/-- The points to which the point i of a cluster is proximate. -/
def secL (S : List Int) (i : Nat) : List Int := if 0 ≤ gI S i then [gI S i] else []
theorem secL_yes {S : List Int} {i : Nat} (h : 0 ≤ gI S i) : secL S i = [gI S i] := by simp [secL, h]
theorem secL_no {S : List Int} {i : Nat} (h : ¬ 0 ≤ gI S i) : secL S i = [] := by simp [secL, h]
theorem secL_len (S : List Int) (i : Nat) : (secL S i).length ≤ 1 := by unfold secL; split <;> simp
def proxOf (P S : List Int) (i : Nat) : List Int := if i = 0 then [] else secL S i ++ [gI P i]
def proxL (P S : List Int) : List (List Int) := (List.range P.length).map (proxOf P S)
/-- Where all points before n stand in their places, each second lies before its point. -/
theorem second_lt {P S : List Int} {n : Nat} (h : ∀ x, x < n → placeOk P S x) : ∀ x, x < n → gI S x < (x : Int) ∧ gI P x < (x : Int) := by
  intro x
  induction x using Nat.strongRecOn with
  | _ x ih =>
    intro hx
    rcases h x hx with ⟨h0, h1, h2⟩ | ⟨h0, h1, h2, h3⟩
    · omega
    · have hp : (gI P x).toNat < x := by omega
      have := ih _ hp (by omega)
      rcases h3 with h3 | ⟨h3, h4 | h4⟩ <;> omega

end Go.Proofs.YtglghdkjppcedaaGreatDoor

/- Orders of points: the reference's sums and the program's are the same, and stay small. No program in sight. -/
namespace Go.Proofs.YtglghdkjppcedaaGreatDoor

/-- The first k orders for some own numbers. -/
def ordTo (own : Nat → Int) (P S : List Int) : Nat → List Int
  | 0 => []
  | k + 1 => ordTo own P S k ++ [own k + (if k = 0 then 0 else gI (ordTo own P S k) (gI P k).toNat) + (if 0 ≤ gI S k then gI (ordTo own P S k) (gI S k).toNat else 0)]
theorem ordTo_succ (own : Nat → Int) (P S : List Int) (k : Nat) : ordTo own P S (k + 1) = ordTo own P S k ++ [own k + (if k = 0 then 0 else gI (ordTo own P S k) (gI P k).toNat) + (if 0 ≤ gI S k then gI (ordTo own P S k) (gI S k).toNat else 0)] := rfl
theorem ordTo_len (own : Nat → Int) (P S : List Int) (k : Nat) : (ordTo own P S k).length = k := by
  induction k with
  | zero => rfl
  | succ k ih => rw [ordTo_succ, List.length_append, ih]; rfl

theorem clu_place {P S W : List Int} (h : CluOk P S W) {k : Nat} (hk : k < P.length) (h0 : 0 < k) : 0 ≤ gI P k ∧ gI P k < (k : Int) ∧ gI S k < (k : Int) := by
  have h1 := second_lt (fun x hx => (h.2.2 x hx).1) k hk
  rcases (h.2.2 k hk).1 with h2 | h2
  · omega
  · omega
theorem clu_zero {P S W : List Int} (h : CluOk P S W) : gI P 0 = -1 ∧ gI S 0 = -1 := by
  rcases (h.2.2 0 h.1.1).1 with h2 | h2
  · exact h2.2
  · omega

theorem add_ord {P S W : List Int} (h : CluOk P S W) (own : Nat → Int) (k : Nat) (hk : k ≤ P.length) : addTo own (proxL P S) k = ordTo own P S k := by
  induction k with
  | zero => rfl
  | succ k ih =>
    have ih' := ih (by omega)
    rw [addTo_succ, ordTo_succ, ih']
    have hg : gR (proxL P S) k = proxOf P S k := gR_map (by omega)
    rw [hg]
    by_cases e : k = 0
    · subst e
      have := (clu_zero h).2
      simp [proxOf, sumTo, this]
    · rw [if_neg e]
      unfold proxOf
      rw [if_neg e]
      by_cases hs : 0 ≤ gI S k
      · rw [secL_yes hs, if_pos hs]
        simp [sumTo, gI]
        omega
      · rw [secL_no hs, if_neg hs]
        simp [sumTo, gI]

theorem ord_eq {P S W : List Int} (h : CluOk P S W) {own : Nat → Int} : addTo own (proxL P S) P.length = ordTo own P S P.length := add_ord h own P.length (Nat.le_refl _)

theorem ordTo_old (own : Nat → Int) (P S : List Int) {i k : Nat} (h : i < k) : gI (ordTo own P S k) i = gI (ordTo own P S (i + 1)) i := by
  induction k with
  | zero => omega
  | succ k ih =>
    by_cases e : i = k
    · rw [e]
    · rw [ordTo_succ, gI_app_lt (by rw [ordTo_len]; omega)]; exact ih (by omega)
theorem ordTo_at (own : Nat → Int) (P S : List Int) {i k : Nat} (h : i < k) :
    gI (ordTo own P S k) i = own i + (if i = 0 then 0 else gI (ordTo own P S i) (gI P i).toNat) + (if 0 ≤ gI S i then gI (ordTo own P S i) (gI S i).toNat else 0) := by
  rw [ordTo_old own P S h, ordTo_succ, gI_app_at (by rw [ordTo_len])]

/-- The bound of the order i. -/
def capI (i : Nat) : Int := 100000 * (2 ^ (i + 1) - 1)
theorem capI_mono {i j : Nat} (h : i ≤ j) : capI i ≤ capI j := by
  unfold capI
  have h1 : (2 : Nat) ^ (i + 1) ≤ 2 ^ (j + 1) := Nat.pow_le_pow_right (by omega) (by omega)
  have h2 : ((2 ^ (i + 1) : Nat) : Int) ≤ ((2 ^ (j + 1) : Nat) : Int) := by omega
  push_cast at h2
  omega
theorem capI_succ (i : Nat) : capI (i + 1) = 100000 + 2 * capI i := by
  unfold capI
  rw [Int.pow_succ]
  omega
theorem capI_23 : capI 23 = 1677721500000 := by decide +kernel
theorem capI_nn (i : Nat) : 100000 ≤ capI i := by
  have := capI_mono (Nat.zero_le i)
  have h0 : capI 0 = 100000 := by decide
  omega

theorem ord_bd {P S W : List Int} (h : CluOk P S W) {own : Nat → Int} (ho : ∀ j, j < P.length → -100000 ≤ own j ∧ own j ≤ 100000) (k : Nat) : k < P.length → ∀ n, k < n → -(capI k) ≤ gI (ordTo own P S n) k ∧ gI (ordTo own P S n) k ≤ capI k := by
  induction k using Nat.strongRecOn with
  | _ k ih =>
    intro hk n hn
    rw [ordTo_at own P S hn]
    have h1 := ho k hk
    by_cases e : k = 0
    · subst e
      have := (clu_zero h).2
      have h0 : capI 0 = 100000 := by decide
      simp [this]
      omega
    · obtain ⟨h2, h3, h4⟩ := clu_place h hk (by omega)
      rw [if_neg e]
      have h5 := ih (gI P k).toNat (by omega) (by omega) k (by omega)
      have h6 := capI_mono (i := (gI P k).toNat) (j := k - 1) (by omega)
      have h7 := capI_succ (k - 1)
      rw [show k - 1 + 1 = k by omega] at h7
      have h8 := capI_nn (k - 1)
      by_cases hs : 0 ≤ gI S k
      · rw [if_pos hs]
        have h9 := ih (gI S k).toNat (by omega) (by omega) k (by omega)
        have h10 := capI_mono (i := (gI S k).toNat) (j := k - 1) (by omega)
        omega
      · rw [if_neg hs]
        omega

/-- Every order is small. -/
theorem ord_small {P S W : List Int} (h : CluOk P S W) {own : Nat → Int} (ho : ∀ j, j < P.length → -100000 ≤ own j ∧ own j ≤ 100000) {k n : Nat} (hk : k < P.length) (hn : k < n) : -1677721500000 ≤ gI (ordTo own P S n) k ∧ gI (ordTo own P S n) k ≤ 1677721500000 := by
  have h1 := ord_bd h ho k hk n hn
  have h2 := capI_mono (i := k) (j := 23) (by have := h.1.2.1; omega)
  rw [capI_23] at h2
  omega

theorem addOk_clu {P S W : List Int} (h : CluOk P S W) {own : Nat → Int} (ho : ∀ j, j < P.length → -100000 ≤ own j ∧ own j ≤ 100000) : AddOk own (proxL P S) := by
  have hl : (proxL P S).length = P.length := by simp [proxL]
  have h24 := h.1.2.1
  refine ⟨by omega, ?_, ?_, fun k hk => by have := ho k (by omega); omega, ?_⟩
  · intro k hk
    rw [show gR (proxL P S) k = proxOf P S k from gR_map (by omega)]
    have := secL_len S k
    unfold proxOf
    split
    · simp
    · simp; omega
  · intro k hk m hm
    rw [show gR (proxL P S) k = proxOf P S k from gR_map (by omega)] at hm ⊢
    unfold proxOf at hm ⊢
    by_cases e : k = 0
    · simp [e] at hm
    · rw [if_neg e] at hm ⊢
      obtain ⟨h2, h3, h4⟩ := clu_place h (by omega : k < P.length) (by omega)
      by_cases hs : 0 ≤ gI S k
      · rw [secL_yes hs] at hm ⊢
        match m, hm with
        | 0, _ => simp [gI] at hs h4 ⊢; omega
        | 1, _ => simp [gI] at h2 h3 ⊢; omega
        | m + 2, hm => simp at hm; omega
      · rw [secL_no hs] at hm ⊢
        match m, hm with
        | 0, _ => simp [gI] at h2 h3 ⊢; omega
        | m + 1, hm => simp at hm
  · intro k hk i hi
    rw [add_ord h own k (by omega)]
    have := ord_small h ho (by omega : i < P.length) hi
    omega
end Go.Proofs.YtglghdkjppcedaaGreatDoor

/- Excesses: the reference's and the program's order of subtractions give the same, and all numbers stay small. No program in sight. -/
namespace Go.Proofs.YtglghdkjppcedaaGreatDoor

theorem gI_set {L : List Int} {i j : Nat} {y : Int} : gI (L.set i y) j = if i = j ∧ i < L.length then y else gI L j := by
  by_cases h : i = j
  · subst h
    by_cases h2 : i < L.length
    · rw [gI_set_at h2, if_pos ⟨rfl, h2⟩]
    · rw [if_neg (fun h => h2 h.2), List.set_eq_of_length_le (by omega)]
  · rw [gI_set_ne h, if_neg (fun e => h e.1)]

/-- x taken from the number at i. -/
def dec (L : List Int) (i x : Int) : List Int := L.set i.toNat (gI L i.toNat - x)
@[simp] theorem dec_len (L : List Int) (i x : Int) : (dec L i x).length = L.length := by simp [dec]
theorem gI_dec {L : List Int} {i x : Int} {j : Nat} : gI (dec L i x) j = if i.toNat = j ∧ i.toNat < L.length then gI L j - x else gI L j := by
  unfold dec
  rw [gI_set]
  by_cases h : i.toNat = j ∧ i.toNat < L.length
  · rw [if_pos h, if_pos h, h.1]
  · rw [if_neg h, if_neg h]
theorem dec_comm (L : List Int) (i j x : Int) : dec (dec L i x) j x = dec (dec L j x) i x := by
  apply gI_ext (by simp)
  intro k _
  rw [gI_dec, gI_dec, gI_dec, gI_dec]
  simp only [dec_len]
  split <;> split <;> rfl

/-- x taken from the numbers at the first m places of a row. -/
def decTo (row : List Int) (x : Int) (L : List Int) : Nat → List Int
  | 0 => L
  | m + 1 => dec (decTo row x L m) (gI row m) x
theorem decTo_succ (row : List Int) (x : Int) (L : List Int) (m : Nat) : decTo row x L (m + 1) = dec (decTo row x L m) (gI row m) x := rfl
theorem decTo_len (row : List Int) (x : Int) (L : List Int) (m : Nat) : (decTo row x L m).length = L.length := by
  induction m with
  | zero => rfl
  | succ m ih => rw [decTo_succ, dec_len, ih]

/-- The numbers after k rounds. -/
def exTo (R : List (List Int)) (W : List Int) : Nat → List Int
  | 0 => W
  | k + 1 => decTo (gR R k) (gI W k) (exTo R W k) (gR R k).length
theorem exTo_succ (R : List (List Int)) (W : List Int) (k : Nat) : exTo R W (k + 1) = decTo (gR R k) (gI W k) (exTo R W k) (gR R k).length := rfl
theorem exTo_len (R : List (List Int)) (W : List Int) (k : Nat) : (exTo R W k).length = W.length := by
  induction k with
  | zero => rfl
  | succ k ih => rw [exTo_succ, decTo_len, ih]

theorem decTo_bd (row : List Int) (x : Int) (L : List Int) (A : Int) (hx : -1000000000000 ≤ x ∧ x ≤ 1000000000000) (hL : ∀ i, -A ≤ gI L i ∧ gI L i ≤ A) (m : Nat) (i : Nat) :
    -(A + 1000000000000 * m) ≤ gI (decTo row x L m) i ∧ gI (decTo row x L m) i ≤ A + 1000000000000 * m := by
  induction m with
  | zero => have := hL i; simp only [decTo]; omega
  | succ m ih =>
    rw [decTo_succ, gI_dec]
    split <;> omega

/-- Rows that point into the list, and numbers that are not too large. -/
structure ExOk (R : List (List Int)) (W : List Int) : Prop where
  len : R.length ≤ W.length
  lim : W.length ≤ 400
  rowlen : ∀ k, k < R.length → (gR R k).length ≤ 400
  row : ∀ k, k < R.length → ∀ m, m < (gR R k).length → 0 ≤ gI (gR R k) m ∧ gI (gR R k) m < (W.length : Int)
  num : ∀ i, -1000000000000 ≤ gI W i ∧ gI W i ≤ 1000000000000

theorem exTo_bd {R : List (List Int)} {W : List Int} (h : ExOk R W) (k : Nat) (hk : k ≤ R.length) (i : Nat) :
    -(1000000000000 + 400000000000000 * k) ≤ gI (exTo R W k) i ∧ gI (exTo R W k) i ≤ 1000000000000 + 400000000000000 * (k : Int) := by
  induction k generalizing i with
  | zero => have := h.num i; simp only [exTo]; omega
  | succ k ih =>
    rw [exTo_succ]
    have := decTo_bd (gR R k) (gI W k) (exTo R W k) (1000000000000 + 400000000000000 * (k : Int)) (h.num k) (fun i => ih (by omega) i) (gR R k).length i
    have h2 := h.rowlen k (by omega)
    omega

theorem ex_small {R : List (List Int)} {W : List Int} (h : ExOk R W) {k : Nat} (hk : k < R.length) {m : Nat} (hm : m ≤ (gR R k).length) (i : Nat) :
    -200000000000000000 ≤ gI (decTo (gR R k) (gI W k) (exTo R W k) m) i ∧ gI (decTo (gR R k) (gI W k) (exTo R W k) m) i ≤ 200000000000000000 := by
  have := decTo_bd (gR R k) (gI W k) (exTo R W k) (1000000000000 + 400000000000000 * (k : Int)) (h.num k) (fun i => exTo_bd h k (by omega) i) m i
  have h2 := h.rowlen k (by omega)
  have h3 := h.len
  have h4 := h.lim
  omega

theorem num_all {W : List Int} {a b : Int} (h : ∀ i, i < W.length → a ≤ gI W i ∧ gI W i ≤ b) (ha : a ≤ 0) (hb : 0 ≤ b) (i : Nat) : a ≤ gI W i ∧ gI W i ≤ b := by
  by_cases hi : i < W.length
  · exact h i hi
  · have : gI W i = 0 := by simp [gI, List.getD, List.getElem?_eq_none (by omega : W.length ≤ i)]
    omega

theorem prox_row {P S : List Int} {k : Nat} (hk : k < P.length) : gR (proxL P S) k = proxOf P S k := gR_map hk
theorem prox_len (P S : List Int) : (proxL P S).length = P.length := by simp [proxL]

theorem exOk_clu {P S W L : List Int} (h : CluOk P S W) (hl : L.length = P.length) (hL : ∀ i, i < L.length → -1000000000000 ≤ gI L i ∧ gI L i ≤ 1000000000000) : ExOk (proxL P S) L := by
  have ha := addOk_clu h (own := fun _ => 0) (fun _ _ => by omega)
  have h24 := h.1.2.1
  refine ⟨by rw [prox_len]; omega, by omega, ha.rowlen, fun k hk m hm => ?_, num_all hL (by omega) (by omega)⟩
  have := ha.row k hk m hm
  rw [prox_len] at hk
  omega

/-- A round of the reference. -/
def exStep (P S W L : List Int) (k : Nat) : List Int := if 0 ≤ gI S k then dec (dec L (gI P k) (gI W k)) (gI S k) (gI W k) else dec L (gI P k) (gI W k)
theorem exTo_one {P S W : List Int} (L : List Int) (h : CluOk P S W) : exTo (proxL P S) L 1 = L := by
  rw [exTo_succ, prox_row h.1.1]
  simp [proxOf, decTo, exTo]
theorem exTo_step {P S : List Int} (L : List Int) {k : Nat} (hk : k < P.length) (h0 : 0 < k) : exTo (proxL P S) L (k + 1) = exStep P S L (exTo (proxL P S) L k) k := by
  rw [exTo_succ, prox_row hk]
  unfold proxOf exStep
  rw [if_neg (by omega)]
  by_cases hs : 0 ≤ gI S k
  · rw [secL_yes hs, if_pos hs]
    show dec (dec _ (gI S k) (gI L k)) (gI P k) (gI L k) = _
    exact dec_comm _ _ _ _
  · rw [secL_no hs, if_neg hs]
    rfl

/-- All numbers are not negative. -/
def nonNeg (L : List Int) : Bool := decide (∀ i, i < L.length → 0 ≤ gI L i)
/-- The least of the first k numbers. -/
def minTo (L : List Int) : Nat → Int
  | 0 => gI L 0
  | k + 1 => if gI L k < minTo L k then gI L k else minTo L k
end Go.Proofs.YtglghdkjppcedaaGreatDoor

/- Contracts: slices.Clone, spec.l01Own: a copy of a slice of integers that is not empty. -/
namespace Go.Proofs.YtglghdkjppcedaaGreatDoor
open Go.RowKit

/-- 'append(s, t...)' on a slice that the call owns, t not empty. -/
theorem wpList_extend {P : Program} {w : World} {ops : Array Oper} {rest : List Oper} {o : Oper} {a : Act} {Q : Exit → Act → World → Prop} (hgd : o.guard = none) (s x : Operand) (t : TypeId)
    (ho : o.op = .call { callee := .builtin .append, args := #[s, x], argTypes := #[t, t] })
    (base : Nat) (e : TypeId) (i : TypeInfo) (ht : P.underlying t = some (.slice e)) (hi : P.info? e = some i) (hz : i.zero = some (.int .i64 0)) (hsize : i.size = 1) (hby : i.bytes = 8)
    (v u : Value) (xs ys : List Int) (hs : a.eval s = v) (hown : Own e w base v xs) (hx : a.eval x = u) (hu : Rd w u ys) (hp : 0 < ys.length)
    (hlen : xs.length + ys.length ≤ 1000000000000) (hbase : base ≤ w.heap.size)
    (h : ∀ v' w', Own e w' base v' (xs ++ ys) → Keeps (fun k => v.ownBlock = some k) w w' → wpList P ops Q rest (a.put o.dst v') w') :
    wpList P ops Q (o :: rest) a w := by
  obtain ⟨b, off, c, rfl, h1, h2, hb, hc⟩ := hu.cells hp
  refine wpList_append_own _ hgd s x t ho base e i (.int .i64 0) 1 8 ht hi hz hsize hby rfl (by decide) v xs.length (xs.map (Value.int .i64)) hs hown ⟨b, off, none⟩ ys.length c (ys.map (Value.int .i64)) hx (by simp) ?_ ?_ ?_ ?_ hbase ?_
  · intro j y hj
    have hjl : j < ys.length := by
      have := (List.getElem?_eq_some_iff.1 hj).1
      simpa using this
    have hy : y = .int .i64 (gI ys j) := by
      rw [List.getElem?_map, gI_some hjl] at hj
      simpa using hj.symm
    rw [Addr.add_lit, hc j hjl, hy]
  · intro y hy; simp at hy; obtain ⟨n, _, rfl⟩ := hy; rfl
  · unfold maxLen; omega
  · omega
  · intro v' w' ho' hg _
    refine h v' w' ?_ (Keeps.of_grown hg)
    unfold Own
    rw [List.length_append, List.map_append]
    exact ho'

theorem own_of_nil_app {e : TypeId} {w : World} {base : Nat} {v : Value} {xs : List Int} (h : Own e w base v ([] ++ xs)) : Own e w base v xs := h

theorem l01Own_c (v : Value) (xs : List Int) (w : World) (h : Rd w v xs) (hp : 0 < xs.length) (hn : xs.length ≤ 1000000) :
    Calls Tryz.prog 67 #[v] w (RetI w xs) := by
  obtain ⟨i0, hi, hz0, hz1, hz2⟩ := info_parts Tryz.infoI
  have hal : Below w.heap.size w (w.alloc (.cells #[] 2)) := (Below.refl _ _).alloc (Nat.le_refl _) _
  have hr := h.below hal (Nat.le_refl _)
  obtain ⟨ad, cap, rfl⟩ := h.len0
  go_enter Tryz.func67, Tryz.ntmps67
  go_wp2_with (at_builtin; refine wpList_extend rfl (.tmp 3) (.tmp 4) 24 rfl w.heap.size 2 i0 Tryz.underlying24 hi hz0 hz1 hz2 (.slice (some ⟨w.heap.size, 0, none⟩) 0 0) (.slice ad xs.length cap) [] xs rfl (own_empty w _ (Nat.le_refl _)) rfl hr hp (by simp; omega) (by simp) ?_; intro v' w2 hown' hkp)
  have hb := hal.trans (hkp.below (B := w.heap.size) (by simp) (fun g hg => by simp [Value.ownBlock] at hg; omega))
  go_ret
  exact retI_mk (own_of_nil_app hown') hb

theorem clone_c (v : Value) (xs : List Int) (w : World) (h : Rd w v xs) (hp : 0 < xs.length) (hn : xs.length ≤ 1000000) :
    Calls Tryz.prog 51 #[v] w (RetI w xs) := by
  obtain ⟨i0, hi, hz0, hz1, hz2⟩ := info_parts Tryz.infoI
  have hal : Below w.heap.size w (w.alloc (.cells #[] 2)) := (Below.refl _ _).alloc (Nat.le_refl _) _
  have hr := h.below hal (Nat.le_refl _)
  obtain ⟨b, off, cap, rfl, _⟩ := h.cells hp
  have q22 : ∀ (w : World) (a : Option Addr) (n c n' c' : Nat), (binOp .eql 24 (.slice a n c) (.slice none n' c')).run Tryz.prog w = .ok (.bool a.isNone) w := fun w a n c n' c' => Lib.run_eql_slice_nil w _ _ a n c n' c' Tryz.underlying24
  go_enter Tryz.func51, Tryz.ntmps51
  go_wp2_with (at_builtin; refine wpList_extend rfl (.tmp 5) (.tmp 6) 24 rfl w.heap.size 2 i0 Tryz.underlying24 hi hz0 hz1 hz2 (.slice (some ⟨w.heap.size, 0, none⟩) 0 0) (.slice (some ⟨b, off, none⟩) xs.length cap) [] xs rfl (own_empty w _ (Nat.le_refl _)) rfl hr hp (by simp; omega) (by simp) ?_; intro v' w2 hown' hkp)
  have hb := hal.trans (hkp.below (B := w.heap.size) (by simp) (fun g hg => by simp [Value.ownBlock] at hg; omega))
  go_ret
  exact retI_mk (own_of_nil_app hown') hb
end Go.Proofs.YtglghdkjppcedaaGreatDoor

/- Contract: slices.Reverse of an owned slice of integers. -/
namespace Go.Proofs.YtglghdkjppcedaaGreatDoor
open Go.RowKit

/-- The list after k exchanges. -/
def revTo (xs : List Int) (k : Nat) : List Int := (List.range xs.length).map fun i => if i < k ∨ xs.length ≤ i + k then gI xs (xs.length - 1 - i) else gI xs i
@[simp] theorem revTo_len (xs : List Int) (k : Nat) : (revTo xs k).length = xs.length := by simp [revTo]
end Go.Proofs.YtglghdkjppcedaaGreatDoor
