/- Unloading, the plain law of the program's way: a number is added to a weight, and the excesses follow; the points behind a point; a step as the program makes it. No program in sight. -/
import Derived.Test.YtiinceflafigeaaUnlBd
import Derived.Test.YtiinceflafigeaaLib
import Derived.Test.YtiinceflafigeaaCons
import Derived.Test.YtiinceflafigeaaWith
import Derived.Test.YtiinceflafigeaaPushS
namespace Go.Proofs.Ytiinceflafigeaa

theorem exF_inc (P S : List Int) (A : Nat → Int) {i p : Nat} (s : Int) (hi : i < P.length) :
    exF P S (fun j => A j + if j = i then s else 0) p = exF P S A p + (if p = i then s else 0) - nB P S i p * s := by
  unfold exF
  have h : sumTo (fun j => nB P S j p * (A j + if j = i then s else 0)) P.length = sumTo (fun j => nB P S j p * A j) P.length + nB P S i p * s := by
    have e : ∀ j, j < P.length → nB P S j p * (A j + if j = i then s else 0) = nB P S j p * A j + (if j = i then 1 else 0) * (nB P S j p * s) := by
      intro j _
      by_cases hj : j = i
      · rw [if_pos hj, if_pos hj, Int.mul_add, Int.one_mul]
      · rw [if_neg hj, if_neg hj, Int.mul_add, Int.mul_zero, Int.zero_mul]
    rw [sumTo_congr e, sumTo_add, sumTo_unit, if_pos hi]
  rw [h]
  show A p + (if p = i then s else 0) - _ = _
  omega

theorem gI_inc_nat {L : List Int} {i j : Nat} {s : Int} (hj : j < L.length) : gI (inc L (i : Int) s) j = gI L j + if j = i then s else 0 := by
  rw [gI_inc]
  have : ((i : Int)).toNat = i := by omega
  rw [this]
  by_cases e : j = i
  · subst e; rw [if_pos ⟨rfl, hj⟩, if_pos rfl]
  · rw [if_neg (fun h => e h.1.symm), if_neg e]; omega

theorem dec_row {P S : List Int} {i : Nat} (s : Int) (X : List Int) : decTo (proxOf P S i) s X (proxOf P S i).length = if i = 0 then X else if 0 ≤ gI S i then dec (dec X (gI P i) s) (gI S i) s else dec X (gI P i) s := by
  unfold proxOf
  by_cases h0 : i = 0
  · rw [if_pos h0, if_pos h0]; rfl
  · rw [if_neg h0, if_neg h0]
    by_cases hs : 0 ≤ gI S i
    · rw [secL_yes hs, if_pos hs]
      show dec (dec _ (gI S i) s) (gI P i) s = _
      exact dec_comm _ _ _ _
    · rw [secL_no hs, if_neg hs]
      rfl

theorem exL_shift {P S W L : List Int} (hc : CluOk P S W) (hl : L.length = P.length) {i : Nat} (hi : i < P.length) (s : Int) :
    decTo (proxOf P S i) s (inc (exL P S L) (i : Int) s) (proxOf P S i).length = exL P S (inc L (i : Int) s) := by
  have hlX : (inc (exL P S L) (i : Int) s).length = P.length := by rw [inc_len, exL_len, hl]
  apply gI_ext (by rw [decTo_len, hlX, exL_len, inc_len, hl])
  intro p hp
  have hp' : p < P.length := by rw [decTo_len, hlX] at hp; exact hp
  rw [exL_at hc (by rw [inc_len, hl]) hp']
  rw [exF_congr (B := fun j => gI L j + if j = i then s else 0) (fun j hj => gI_inc_nat (by omega)) hp', exF_inc P S (fun j => gI L j) s hi, ← exL_at hc hl hp', dec_row]
  have hX : gI (inc (exL P S L) (i : Int) s) p = gI (exL P S L) p + if p = i then s else 0 := gI_inc_nat (by rw [exL_len, hl]; exact hp')
  rw [nB_eq hc hi]
  by_cases h0 : i = 0
  · subst h0
    have hz := clu_zero hc
    rw [if_pos rfl, if_pos rfl, if_neg (show ¬ 0 ≤ gI S 0 by omega), hX]
    omega
  · obtain ⟨h1, h2, h3⟩ := clu_place hc hi (by omega)
    rw [if_neg h0, if_neg h0]
    by_cases hs : 0 ≤ gI S i
    · have hne := clu_ne hc hi hs
      rw [if_pos hs, if_pos hs, gI_dec, gI_dec, dec_len, hlX, hX]
      by_cases e1 : p = (gI P i).toNat
      · rw [if_neg (by omega), if_pos (by omega), if_pos e1, if_neg (show ¬ p = (gI S i).toNat by omega)]; simp
      · by_cases e2 : p = (gI S i).toNat
        · rw [if_pos (by omega), if_neg (by omega), if_neg e1, if_pos e2]; simp
        · rw [if_neg (by omega), if_neg (by omega), if_neg e1, if_neg e2]; simp
    · rw [if_neg hs, if_neg hs, gI_dec, hlX, hX]
      by_cases e1 : p = (gI P i).toNat
      · rw [if_pos (by omega), if_pos e1]; simp
      · rw [if_neg (by omega), if_neg e1]; simp

/-- The points before k that are proximate to i. -/
def bhL (P S : List Int) (k i : Nat) : List Int := ((List.range k).filter fun j => nearB P S j (i : Int)).map fun (j : Nat) => (j : Int)
theorem bhL_zero (P S : List Int) (i : Nat) : bhL P S 0 i = [] := rfl
theorem bhL_yes {P S : List Int} {k i : Nat} (h : nearB P S k (i : Int) = true) : bhL P S (k + 1) i = bhL P S k i ++ [(k : Int)] := by
  unfold bhL
  rw [List.range_succ, List.filter_append, List.map_append]
  simp [h]
theorem bhL_no {P S : List Int} {k i : Nat} (h : nearB P S k (i : Int) = false) : bhL P S (k + 1) i = bhL P S k i := by
  unfold bhL
  rw [List.range_succ, List.filter_append, List.map_append]
  simp [h]
theorem bhL_len (P S : List Int) (i : Nat) : ∀ k, ((bhL P S k i).length : Int) = sumTo (fun j => nB P S j i) k := by
  intro k
  induction k with
  | zero => rfl
  | succ k ih =>
    rw [sumTo_succ]
    cases h : nearB P S k (i : Int)
    · rw [bhL_no h, ih]; unfold nB; rw [if_neg (by simp [h])]; omega
    · rw [bhL_yes h, List.length_append, Int.natCast_add, ih]; unfold nB; rw [if_pos h]; rfl
theorem bhL_le (P S : List Int) (i : Nat) : ∀ k, (bhL P S k i).length ≤ k := by
  intro k
  induction k with
  | zero => exact Nat.le_refl _
  | succ k ih =>
    cases h : nearB P S k (i : Int)
    · rw [bhL_no h]; omega
    · rw [bhL_yes h, List.length_append]; simp; omega
theorem bhL_mem (P S : List Int) (i : Nat) : ∀ k t, t < (bhL P S k i).length → ∃ j : Nat, gI (bhL P S k i) t = j ∧ j < k := by
  intro k
  induction k with
  | zero => intro t ht; simp [bhL_zero] at ht
  | succ k ih =>
    intro t ht
    cases h : nearB P S k (i : Int)
    · rw [bhL_no h] at ht ⊢
      obtain ⟨j, h1, h2⟩ := ih t ht
      exact ⟨j, h1, by omega⟩
    · rw [bhL_yes h] at ht ⊢
      rw [List.length_append] at ht
      by_cases e : t < (bhL P S k i).length
      · obtain ⟨j, h1, h2⟩ := ih t e
        exact ⟨j, by rw [gI_app_lt e]; exact h1, by omega⟩
      · exact ⟨k, gI_app_at (by simp at ht; omega), by omega⟩

theorem incTo_congr {row row' : List Int} (x : Int) (L : List Int) {m : Nat} (h : ∀ t, t < m → gI row t = gI row' t) : incTo row x L m = incTo row' x L m := by
  induction m with
  | zero => rfl
  | succ m ih => rw [incTo_succ, incTo_succ, ih (fun t ht => h t (by omega)), h m (by omega)]
theorem incTo_app (xs : List Int) (y x : Int) (L : List Int) : incTo (xs ++ [y]) x L (xs ++ [y]).length = inc (incTo xs x L xs.length) y x := by
  have e : (xs ++ [y]).length = xs.length + 1 := by simp
  rw [e, incTo_succ, gI_app_at rfl, incTo_congr (row' := xs) x L (fun t ht => gI_app_lt ht)]

theorem inc_behind (P S L : List Int) (i : Nat) (x : Int) : ∀ k, k ≤ L.length → ∀ q, q < L.length → gI (incTo (bhL P S k i) x L (bhL P S k i).length) q = gI L q + if q < k then nB P S q i * x else 0 := by
  intro k
  induction k with
  | zero => intro _ q _; rw [if_neg (by omega)]; simp [bhL_zero, incTo]
  | succ k ih =>
    intro hk q hq
    have ih := ih (by omega) q hq
    cases h : nearB P S k (i : Int)
    · rw [bhL_no h, ih]
      by_cases e : q = k
      · subst e
        rw [if_neg (show ¬ q < q by omega), if_pos (show q < q + 1 by omega)]
        unfold nB; rw [if_neg (by simp [h])]; omega
      · by_cases e2 : q < k
        · rw [if_pos e2, if_pos (show q < k + 1 by omega)]
        · rw [if_neg e2, if_neg (show ¬ q < k + 1 by omega)]
    · rw [bhL_yes h, incTo_app, gI_inc_nat (by rw [incTo_len]; exact hq), ih]
      by_cases e : q = k
      · subst e
        rw [if_neg (show ¬ q < q by omega), if_pos (show q < q + 1 by omega), if_pos rfl]
        unfold nB; rw [if_pos h]; omega
      · rw [if_neg e]
        by_cases e2 : q < k
        · rw [if_pos e2, if_pos (show q < k + 1 by omega)]; omega
        · rw [if_neg e2, if_neg (show ¬ q < k + 1 by omega)]; omega

/-- A step, as the program makes it. -/
theorem step_behind {P S W L : List Int} (hc : CluOk P S W) (hl : L.length = P.length) {i : Nat} (hi : i < P.length) :
    incTo (bhL P S P.length i) (-(upS (gI (exL P S L) i) (hB P S i))) (inc L (i : Int) (upS (gI (exL P S L) i) (hB P S i))) (bhL P S P.length i).length = stL P S L i := by
  apply gI_ext (by rw [incTo_len, inc_len, stL_len, hl])
  intro q hq
  have hq' : q < P.length := by rw [incTo_len, inc_len, hl] at hq; exact hq
  rw [inc_behind P S _ i _ P.length (by rw [inc_len, hl]; exact Nat.le_refl _) q (by rw [inc_len, hl]; exact hq'), gI_inc_nat (by omega), gI_stL hc hl hi hq', ← exL_at hc hl hi, if_pos hq', Int.mul_neg]
  unfold stF
  show _ = gI L q + (if q = i then _ else 0) - _
  omega

/-- All numbers of a prefix of the step stay small. -/
theorem behind_small {P S L : List Int} {i : Nat} {x b : Int} (hx : -b ≤ x ∧ x ≤ b) (hL : ∀ q, -b ≤ gI L q ∧ gI L q ≤ b) (m : Nat) : ∀ q, -(b * (m + 1)) ≤ gI (incTo (bhL P S P.length i) x L m) q ∧ gI (incTo (bhL P S P.length i) x L m) q ≤ b * (m + 1) := by
  induction m with
  | zero => intro q; simpa [incTo] using hL q
  | succ m ih =>
    intro q
    have ih := ih q
    rw [incTo_succ, gI_inc]
    have e : b * ((m + 1 : Nat) + 1 : Int) = b * (m + 1) + b := by rw [Int.natCast_add, Int.mul_add b _ 1]; simp
    rw [e]
    have hb : 0 ≤ b := by omega
    split <;> omega

/-- The points behind i while the row of the point j is read: its first m numbers are done. -/
def bhI (P S : List Int) (j m i : Nat) : List Int := if (i : Int) ∈ (proxOf P S j).take m then bhL P S j i ++ [(j : Int)] else bhL P S j i
theorem bhI_zero (P S : List Int) (j i : Nat) : bhI P S j 0 i = bhL P S j i := by simp [bhI]
theorem prox_mem {P S W : List Int} (hc : CluOk P S W) {j : Nat} (hj : j < P.length) (i : Nat) : (i : Int) ∈ proxOf P S j ↔ nearB P S j (i : Int) = true := by
  rw [nearB_iff]
  unfold proxOf
  by_cases h0 : j = 0
  · subst h0
    have hz := clu_zero hc
    rw [if_pos rfl]
    constructor
    · intro h; simp at h
    · intro h; omega
  · rw [if_neg h0]
    obtain ⟨h1, h2, h3⟩ := clu_place hc hj (by omega)
    by_cases hs : 0 ≤ gI S j
    · rw [secL_yes hs]; simp; omega
    · rw [secL_no hs]; simp; omega
theorem bhI_all {P S W : List Int} (hc : CluOk P S W) {j : Nat} (hj : j < P.length) (i : Nat) : bhI P S j (proxOf P S j).length i = bhL P S (j + 1) i := by
  unfold bhI
  rw [List.take_length]
  cases h : nearB P S j (i : Int)
  · rw [bhL_no h, if_neg (fun hm => by rw [(prox_mem hc hj i).1 hm] at h; cases h)]
  · rw [bhL_yes h, if_pos ((prox_mem hc hj i).2 h)]
theorem take_one {xs : List Int} {m : Nat} (h : m < xs.length) : xs.take (m + 1) = xs.take m ++ [gI xs m] := by
  rw [List.take_add_one, gI_some h]; rfl
/-- The numbers of a row are distinct. -/
theorem prox_new {P S W : List Int} (hc : CluOk P S W) {j m : Nat} (hj : j < P.length) (hm : m < (proxOf P S j).length) : ¬ gI (proxOf P S j) m ∈ (proxOf P S j).take m := by
  unfold proxOf at hm ⊢
  by_cases h0 : j = 0
  · rw [if_pos h0] at hm; simp at hm
  · rw [if_neg h0] at hm ⊢
    by_cases hs : 0 ≤ gI S j
    · have hne := clu_ne hc hj hs
      rw [secL_yes hs] at hm ⊢
      by_cases e : m = 0
      · subst e; simp
      · have : m = 1 := by simp at hm; omega
        subst this
        simp [gI]
        exact hne.1
    · rw [secL_no hs] at hm ⊢
      have : m = 0 := by simp at hm; omega
      subst this
      simp
theorem bhI_step {P S : List Int} {j m x : Nat} (hm : m < (proxOf P S j).length) (hx : gI (proxOf P S j) m = (x : Int)) (i : Nat) :
    bhI P S j (m + 1) i = if i = x then bhL P S j x ++ [(j : Int)] else bhI P S j m i := by
  unfold bhI
  rw [take_one hm, hx]
  by_cases e : i = x
  · subst e; rw [if_pos (by simp), if_pos rfl]
  · rw [if_neg e]
    by_cases h : (i : Int) ∈ (proxOf P S j).take m
    · rw [if_pos h, if_pos (List.mem_append_left _ h)]
    · rw [if_neg h, if_neg (by
        intro h2
        rcases List.mem_append.1 h2 with h2 | h2
        · exact h h2
        · simp at h2; omega)]
theorem bhI_at {P S W : List Int} (hc : CluOk P S W) {j m x : Nat} (hj : j < P.length) (hm : m < (proxOf P S j).length) (hx : gI (proxOf P S j) m = (x : Int)) : bhI P S j m x = bhL P S j x := by
  have := prox_new hc hj hm
  unfold bhI
  rw [if_neg (by rw [← hx]; exact this)]
end Go.Proofs.Ytiinceflafigeaa

/- Contracts: impl.shift: a number is added to the weight of a point, and the excesses follow. -/
namespace Go.Proofs.Ytiinceflafigeaa
open Go.RowKit

set_option maxRecDepth 100000 in
set_option maxHeartbeats 4000000 in
theorem shift_c (w0 : World) (v : Value) (R : List (List Int)) (L E : List Int) (gW kW gE kE n i : Nat) (s : Int) (w : World) (hR : RdR w0 v R) (hb : Below w0.heap.size w0 w)
    (hW : OwnI w w0.heap.size (.slice (some ⟨gW, 0, none⟩) n kW) L) (hE : OwnI w w0.heap.size (.slice (some ⟨gE, 0, none⟩) n kE) E) (hne : gW ≠ gE) (hn : L.length = n) (hm : E.length = n) (hr : R.length = n) (hn4 : n ≤ 400) (hi : i < n)
    (hrow : ∀ k, k < (gR R i).length → 0 ≤ gI (gR R i) k ∧ gI (gR R i) k < (n : Int)) (hrl : (gR R i).length ≤ 400)
    (bs : -100000000000000 ≤ s ∧ s ≤ 100000000000000) (bL : ∀ k, -1000000000000000 ≤ gI L k ∧ gI L k ≤ 1000000000000000) (bE : ∀ k, -100000000000000000 ≤ gI E k ∧ gI E k ≤ 100000000000000000) :
    Calls Try.prog 231 #[v, .slice (some ⟨gW, 0, none⟩) n kW, .slice (some ⟨gE, 0, none⟩) n kE, .int .i64 (i : Int), .int .i64 s] w fun e w' =>
      e = .returned (.tuple #[]) ∧ OwnI w' w0.heap.size (.slice (some ⟨gW, 0, none⟩) n kW) (inc L (i : Int) s) ∧ OwnI w' w0.heap.size (.slice (some ⟨gE, 0, none⟩) n kE) (decTo (gR R i) s (inc E (i : Int) s) (gR R i).length) ∧ Keeps (fun b => b = gW ∨ b = gE) w w' ∧ Below w0.heap.size w0 w' := by
  obtain ⟨br, ofr, kr, rfl, hr1, hr2, hrb, hrc⟩ := hR.cells (by omega)
  obtain ⟨u, hu, hru⟩ := hrc i (by omega)
  obtain ⟨au, ku, rfl, hru1, hru2, hru3⟩ := hru
  rw [hr]
  have hgW := (hW.block gW rfl).1
  have hgE := (hE.block gE rfl).1
  have hW' : OwnI w w0.heap.size (.slice (some ⟨gW, 0, none⟩) L.length kW) L := by rw [hn]; exact hW
  have hE' : OwnI w w0.heap.size (.slice (some ⟨gE, 0, none⟩) E.length kE) E := by rw [hm]; exact hE
  have dW := hW'.cell i (by omega)
  have fW := hW'.free i
  have hset := hW'.set i (gI L i + s)
  rw [hn] at hset
  have hk1 : Keeps (fun b => b = gW ∨ b = gE) w (w.setCell ⟨gW, i, none⟩ (.int .i64 (gI L i + s))) := (Keeps.refl _ _).setCell (p := ⟨gW, i, none⟩) (.inl rfl) _
  have hE1 : OwnI (w.setCell ⟨gW, i, none⟩ (.int .i64 (gI L i + s))) w0.heap.size (.slice (some ⟨gE, 0, none⟩) E.length kE) E := hE'.other (fun k hk => by simp [Value.ownBlock] at hk; omega) i _
  have dE1 := hE1.cell i (by omega)
  have fE1 := hE1.free i
  have hset2 := hE1.set i (gI E i + s)
  rw [hm] at hset2
  have hW2 := hset.other (g := gE) (fun k hk => by simp [Value.ownBlock] at hk; omega) i (.int .i64 (gI E i + s))
  have hk2 := hk1.setCell (p := ⟨gE, i, none⟩) (.inr rfl) (.int .i64 (gI E i + s))
  have hb2 := hb.trans (hk2.below hb.size (fun k hk => by omega))
  have eL : inc L (i : Int) s = L.set i (gI L i + s) := by unfold inc; simp
  have eE : inc E (i : Int) s = E.set i (gI E i + s) := by unfold inc; simp
  have hEb : ∀ k, -110000000000000000 ≤ gI (inc E (i : Int) s) k ∧ gI (inc E (i : Int) s) k ≤ 110000000000000000 := by
    intro k
    rw [eE, gI_set]
    split
    · have := bE i; omega
    · have := bE k; omega
  have hEl : (inc E (i : Int) s).length = n := by rw [eE]; simp [hm]
  rw [← eL] at hW2
  rw [← eE] at hset2
  have HW2 := Lib.hid hW2
  have HE2 := Lib.hid hset2
  have HK2 := Lib.hid hk2
  have HB2 := Lib.hid hb2
  have HEB := Lib.hid hEb
  have HEL := Lib.hid hEl
  have HROW := Lib.hid hrow
  have du := hb2.cell (p := ⟨br, ofr + i, none⟩) hrb
  rw [hu] at du
  have bL0 := (bL i).1
  have bL1 := (bL i).2
  have bE0 := (bE i).1
  have bE1 := (bE i).2
  clear hset hset2 hk1 hk2 hE1 hW' hE' hW hE hW2 eL eE hEb hEl hR bL bE hrow hb2 hb hrc hu
  generalize inc L (i : Int) s = L2 at HW2 ⊢
  generalize inc E (i : Int) s = E2 at HE2 HEB HEL ⊢
  generalize gI L i = x at dW dE1 fE1 bL0 bL1 HW2 HE2 HK2 HB2 du
  generalize gI E i = y at dE1 bE0 bE1 HW2 HE2 HK2 HB2 du
  generalize gR R i = row at hru1 hru2 hru3 HROW hrl du ⊢
  obtain ⟨bs0, bs1⟩ := bs
  have hii : (i : Int) < (n : Int) := by omega
  have hi0 : (0 : Int) ≤ (i : Int) := Int.natCast_nonneg _
  go_enter Try.func231, Try.ntmps231
  go_wp2_with fail
  generalize hw2 : (w.setCell ⟨gW, i, none⟩ (.int .i64 (x + s))).setCell ⟨gE, i, none⟩ (.int .i64 (y + s)) = w2 at HW2 HE2 HK2 HB2 du ⊢
  clear hw2 dE1 fE1 dW fW
  go_loopw [11, 31] (fun _ jv wr => ∃ m : Nat, m ≤ row.length ∧ jv = .int .i64 m ∧ OwnI wr w0.heap.size (.slice (some ⟨gW, 0, none⟩) n kW) L2 ∧ OwnI wr w0.heap.size (.slice (some ⟨gE, 0, none⟩) n kE) (decTo row s E2 m) ∧ Keeps (fun b => b = gW ∨ b = gE) w wr ∧ Below w0.heap.size w0 wr) (fun _ jv _ => row.length - (intOf jv).toNat)
  case atStart => exact ⟨0, Nat.zero_le _, rfl, HW2.out, HE2.out, HK2.out, HB2.out⟩
  case round =>
    obtain ⟨m, hm2, rfl, hoW, hoE, hkk, hbb⟩ := hrel
    clear HW2 HE2 HK2 HB2 du
    obtain ⟨wo, rfl⟩ : ∃ wo : World, wo = wr := ⟨_, rfl⟩
    by_cases hmt : m < row.length
    · obtain ⟨b2, off2, rfl, hb2, hcs2⟩ := hru3 (ne_of_lt_len hmt)
      have hc2 : wo.cell? ⟨b2, off2 + m, none⟩ = some (.int .i64 (gI row m)) := by rw [hbb.cell (p := ⟨b2, off2 + m, none⟩) hb2]; exact hcs2 m hmt
      have hxr := HROW.out m hmt
      have hlen : (decTo row s E2 m).length = n := by rw [decTo_len]; exact HEL.out
      have hO : OwnI wo w0.heap.size (.slice (some ⟨gE, 0, none⟩) (decTo row s E2 m).length kE) (decTo row s E2 m) := by rw [hlen]; exact hoE
      have hcell := hO.cell (gI row m).toNat (by rw [hlen]; omega)
      have hfree := hO.free (gI row m).toNat
      have hsm : -200000000000000000 ≤ gI (decTo row s E2 m) (gI row m).toNat ∧ gI (decTo row s E2 m) (gI row m).toNat ≤ 200000000000000000 := by
        have key : ∀ t, t ≤ 400 → ∀ q, -(110000000000000000 + 100000000000000 * t) ≤ gI (decTo row s E2 t) q ∧ gI (decTo row s E2 t) q ≤ 110000000000000000 + 100000000000000 * t := by
          intro t
          induction t with
          | zero => intro _ q; have := HEB.out q; simp [decTo]; omega
          | succ t ih =>
            intro ht q
            have ih := ih (by omega) q
            rw [decTo_succ, gI_dec]
            split <;> omega
        have := key m (by omega) (gI row m).toNat
        omega
      have hset := hO.set (gI row m).toNat (gI (decTo row s E2 m) (gI row m).toNat - s)
      have hset2 : OwnI (wo.setCell ⟨gE, (gI row m).toNat, none⟩ (.int .i64 (gI (decTo row s E2 m) (gI row m).toNat - s))) w0.heap.size (.slice (some ⟨gE, 0, none⟩) n kE) (decTo row s E2 (m + 1)) := by
        rw [hlen] at hset; exact hset
      have hW3 := hoW.other (g := gE) (fun k hk => by simp [Value.ownBlock] at hk; omega) (gI row m).toNat (.int .i64 (gI (decTo row s E2 m) (gI row m).toNat - s))
      have hk3 := hkk.setCell (p := ⟨gE, (gI row m).toNat, none⟩) (.inr rfl) (.int .i64 (gI (decTo row s E2 m) (gI row m).toNat - s))
      have hb3 := hbb.setCell (p := ⟨gE, (gI row m).toNat, none⟩) hgE (.int .i64 (gI (decTo row s E2 m) (gI row m).toNat - s))
      clear hset hO hoE hoW hlen hcs2 hru3 HROW hkk hbb
      have HS := Lib.hid hset2
      have HW3 := Lib.hid hW3
      have HK3 := Lib.hid hk3
      have HB3 := Lib.hid hb3
      clear hset2 hW3 hk3 hb3
      generalize gI (decTo row s E2 m) (gI row m).toNat = z at hcell hsm HS HW3 HK3 HB3
      generalize gI row m = t at hc2 hcell hfree hxr HS HW3 HK3 HB3
      obtain ⟨hx0, hx1⟩ := hxr
      obtain ⟨hs0, hs1⟩ := hsm
      go_wp2
      go_roundw
      case rel => exact ⟨m + 1, by omega, by go_num, HW3.out, HS.out, HK3.out, HB3.out⟩
      case measure => simp [intOf]; omega
    · have hm' : m = row.length := by omega
      subst hm'
      go_wp2
      exact ⟨rfl, .tuple #[], (by simp [results, Try.results231, go_sem]), rfl, hoW, hoE, hkk, hbb⟩
end Go.Proofs.Ytiinceflafigeaa

/- Contracts: spec.l08Least: the least point with a negative excess. -/
namespace Go.Proofs.Ytiinceflafigeaa
open Go.RowKit

set_option maxHeartbeats 1000000 in
theorem l08Least_c (p s q v : Value) (P S W L : List Int) (w : World) (hp : Rd w p P) (hs : Rd w s S) (hv : Rd w v L) (hq : ∃ a n k, q = .slice a n k) (hc : CluOk P S W) (hl : L.length = P.length) (hL : ∀ i, i < L.length → -1000000000000 ≤ gI L i ∧ gI L i ≤ 1000000000000) :
    Calls Try.prog 175 #[.agg #[p, s, q], v] w fun e w' => e = .returned (.int .i64 (leastTo (exL P S L) P.length)) ∧ Below w.heap.size w w' := by
  have hx := Boxed.start w 40 #[p, s, q]
  obtain ⟨a1, k1, rfl⟩ := hp.len0
  obtain ⟨a2, k2, rfl⟩ := hs.len0
  obtain ⟨a3, n3, k3, rfl⟩ := hq
  obtain ⟨a4, k4, rfl⟩ := hv.len0
  have HL := Lib.hid hl
  have HC := Lib.hid hc
  have HB := Lib.hid hL
  have h0 := hc.1.1
  have h24 := hc.1.2.1
  clear hl hc hL
  have c0 := hx.cell 0
  have c1 := hx.cell 1
  have c2 := hx.cell 2
  go_enter Try.func175, Try.ntmps175
  go_wp2_with fail
  refine (l07Excess_c _ _ _ _ P S W L _ (hx.rd hp) (hx.rd hs) (hx.rd hv) HC.out HL.out HB.out).mono ?_
  rintro e w1 ⟨a, k, rfl, ho, hb⟩
  have hEl : (exTo (proxL P S) L P.length).length = P.length := by rw [exTo_len]; exact HL.out
  have hEX : exL P S L = exTo (proxL P S) L P.length := rfl
  have HEX := Lib.hid hEX
  have hb1 := (hx.trans hb).below
  obtain ⟨ge, gc, hge, hge0, hge1, hge2, hge3⟩ := Own.pos ho (by rw [hEl]; exact h0)
  injection hge with hgea hgeb hgec
  subst hgea hgec
  clear hgeb hEX c0 c1 c2
  have hcell : ∀ i, i < P.length → w1.cell? ⟨ge, i, none⟩ = some (.int .i64 (gI (exTo (proxL P S) L P.length) i)) := fun i hi => ho.cell i (by rw [hEl]; exact hi)
  rw [hEl]
  clear ho hge2
  generalize exTo (proxL P S) L P.length = E at HEX hcell hEl
  clear hEl
  have hres : ∀ m, leastTo E P.length = m → leastTo (exL P S L) P.length = m := fun m h => by rw [HEX.out]; exact h
  have HR := Lib.hid hres
  clear hres
  go_wp2
  go_loop [6] (fun i => ∃ j : Nat, j ≤ P.length ∧ i = .int .i64 j ∧ ∀ t, t < j → 0 ≤ gI E t) (fun i => P.length - (intOf i).toNat)
  case atStart => exact ⟨0, Nat.zero_le _, rfl, fun t ht => absurd ht (by omega)⟩
  case round =>
    obtain ⟨j, hj, rfl, hg⟩ := hrel
    by_cases hlt : j < P.length
    · have hji : (j : Int) < (P.length : Int) := by omega
      have dE := hcell j hlt
      have HG := Lib.hid hg
      by_cases hneg : gI E j < 0
      · have HF := Lib.hid (HR.out _ (leastTo_at hlt hneg hg))
        clear hg hcell
        generalize gI E j = x at dE hneg
        go_wp2
        go_ret
        exact ⟨ret_int HF.out.symm, hb1⟩
      · have HF : Hid (∀ t, t < j + 1 → 0 ≤ gI E t) := Lib.hid (fun t ht => by
          by_cases e : t = j
          · subst e; omega
          · exact hg t (by omega))
        clear hg hcell
        generalize gI E j = x at dE hneg
        go_wp2
        go_round
        case rel => exact ⟨j + 1, by omega, by go_num, HF.out⟩
        case measure => simp [intOf]; omega
    · have hj' : j = P.length := by omega
      subst hj'
      have HF := Lib.hid (HR.out _ (leastTo_none hg))
      clear hg
      go_wp2
      go_ret
      exact ⟨ret_int HF.out.symm, hb1⟩
end Go.Proofs.Ytiinceflafigeaa

/- Contracts: spec.l08Step: a point is unloaded. -/
namespace Go.Proofs.Ytiinceflafigeaa
open Go.RowKit

/-- The weights while the point p is raised by s: the points before t are done. -/
def spTo (P S L : List Int) (p : Nat) (s : Int) (t : Nat) : List Int := lF P.length fun i => gI L i + (if i = p then s else 0) - (if i < t then nB P S i p * s else 0)
@[simp] theorem spTo_len (P S L : List Int) (p : Nat) (s : Int) (t : Nat) : (spTo P S L p s t).length = P.length := by simp [spTo]
theorem gI_spTo {P S L : List Int} {p : Nat} {s : Int} {t i : Nat} (h : i < P.length) : gI (spTo P S L p s t) i = gI L i + (if i = p then s else 0) - (if i < t then nB P S i p * s else 0) := gI_lF h
theorem spTo_zero {P S L : List Int} {p : Nat} {s : Int} (hp : p < P.length) (hl : L.length = P.length) : L.set p (gI L p + s) = spTo P S L p s 0 := by
  apply gI_ext (by simp [hl])
  intro i hi
  have hi' : i < P.length := by simp at hi; omega
  rw [gI_spTo hi', gI_set, if_neg (show ¬ i < 0 by omega)]
  by_cases e : p = i
  · subst e; rw [if_pos ⟨rfl, by omega⟩, if_pos rfl]; omega
  · rw [if_neg (fun h => e h.1), if_neg (fun h => e h.symm)]; omega
theorem spTo_yes {P S L : List Int} {p : Nat} {s : Int} {t : Nat} (ht : t < P.length) (hn : nearB P S t (p : Int) = true) : (spTo P S L p s t).set t (gI L t + (if t = p then s else 0) - s) = spTo P S L p s (t + 1) := by
  have h1 : nB P S t p = 1 := by unfold nB; rw [if_pos hn]
  apply gI_ext (by simp)
  intro i hi
  have hi' : i < P.length := by simpa using hi
  rw [gI_set, gI_spTo hi', gI_spTo hi', spTo_len]
  by_cases e : t = i
  · subst e; rw [if_pos ⟨rfl, ht⟩, if_pos (show t < t + 1 by omega), h1]; omega
  · rw [if_neg (fun h => e h.1)]
    by_cases e2 : i < t
    · rw [if_pos e2, if_pos (show i < t + 1 by omega)]
    · rw [if_neg e2, if_neg (show ¬ i < t + 1 by omega)]
theorem spTo_no {P S L : List Int} {p : Nat} {s : Int} {t : Nat} (hn : nearB P S t (p : Int) = false) : spTo P S L p s t = spTo P S L p s (t + 1) := by
  have h1 : nB P S t p = 0 := by unfold nB; rw [if_neg (by simp [hn])]
  apply gI_ext (by simp)
  intro i hi
  have hi' : i < P.length := by simpa using hi
  rw [gI_spTo hi', gI_spTo hi']
  by_cases e : t = i
  · subst e; rw [if_neg (show ¬ t < t by omega), if_pos (show t < t + 1 by omega), h1]; omega
  · by_cases e2 : i < t
    · rw [if_pos e2, if_pos (show i < t + 1 by omega)]
    · rw [if_neg e2, if_neg (show ¬ i < t + 1 by omega)]
theorem spTo_all (P S L : List Int) (p : Nat) (s : Int) : spTo P S L p s P.length = lF P.length (stF P S (fun i => gI L i) p s) := by
  apply gI_ext (by simp)
  intro i hi
  have hi' : i < P.length := by simpa using hi
  rw [gI_spTo hi', gI_lF hi', if_pos hi']
  rfl
theorem nB_near (P S : List Int) (t p : Nat) : nB P S t p = if nearB P S t (p : Int) then 1 else 0 := rfl
theorem upS_tdiv {e h : Int} (he : e < 0) (hh : 0 ≤ h) : Int.tdiv (-e + h) (1 + h) = upS e h := Int.tdiv_eq_ediv_of_nonneg (by omega)
theorem upS_bd {e h : Int} (he : e < 0) (hh : 0 ≤ h) : 1 ≤ upS e h ∧ upS e h ≤ -e + h := by
  refine ⟨upS_pos he hh, ?_⟩
  unfold upS
  exact Int.ediv_le_self _ (by omega)

set_option maxRecDepth 100000 in
set_option maxHeartbeats 4000000 in
theorem l08Step_c (p s q : Value) (a3 : Option Addr) (n3 k3 : Nat) (v : Value) (P S W L : List Int) (t : Nat) (w : World) (hp : Rd w p P) (hs : Rd w s S) (hqe : q = .slice a3 n3 k3) (hv : Rd w v L) (hc : CluOk P S W) (hl : L.length = P.length)
    (hL : ∀ i, i < L.length → -1000000000000 ≤ gI L i ∧ gI L i ≤ 1000000000000) (ht : t < P.length) (hneg : gI (exL P S L) t < 0) :
    Calls Try.prog 176 #[.agg #[p, s, q], v, .int .i64 (t : Int)] w (RetL P.length w (stL P S L t)) := by
  subst hqe
  have hx := Boxed.start w 40 #[p, s, .slice a3 n3 k3]
  obtain ⟨a1, k1, rfl⟩ := hp.len0
  obtain ⟨a2, k2, rfl⟩ := hs.len0
  obtain ⟨a4, k4, rfl⟩ := hv.len0
  have HL := Lib.hid hl
  have HC := Lib.hid hc
  have HB := Lib.hid hL
  have h0 := hc.1.1
  have h24 := hc.1.2.1
  have hcl1 := Lib.hid (show S.length = P.length from hc.1.2.2.1)
  have hLp : 0 < L.length := by omega
  have hLn : L.length ≤ 1000000 := by omega
  have hE := exF_bd (P := P) (S := S) (A := fun i => gI L i) (b := 1000000000000) h24 (fun i hi => hL i (by omega)) ht
  rw [← exL_at hc hl ht] at hE
  have hh := hB_bd P S t h24
  have hEl : (exTo (proxL P S) L P.length).length = P.length := by rw [exTo_len]; exact hl
  have hEe : gI (exTo (proxL P S) L P.length) t = gI (exL P S L) t := rfl
  have hEe := Lib.hid hEe
  have HST := Lib.hid (show stL P S L t = spTo P S L t (upS (gI (exL P S L) t) (hB P S t)) P.length from (spTo_all _ _ _ _ _).symm)
  have HEl := Lib.hid hEl
  clear hl hc hL hEl
  have hti : (t : Int) < (P.length : Int) := by omega
  have ht0 : (0 : Int) ≤ (t : Int) := Int.natCast_nonneg _
  go_enter Try.func176, Try.ntmps176
  go_wp2_with fail
  refine (l01Own_c _ L _ (hx.rd hv) hLp hLn).mono ?_
  rintro e w1 ⟨a, k, rfl, ho, hb⟩
  obtain ⟨g, gc, hge, hg0, hg1, _, _⟩ := Own.pos ho hLp
  injection hge with hgea hgeb hgec
  subst hgea hgec
  clear hgeb
  rw [HL.out] at ho hv ⊢
  have hx1 := hx.trans hb
  have hgw : w.heap.size + 1 ≤ g := by simpa using hg0
  have ho := ho.base_le (base' := w.heap.size + 1) (by simp)
  have c0 := hx1.cell 0
  have c1 := hx1.cell 1
  have c2 := hx1.cell 2
  clear hg0 hg1 hx hb
  go_wp2_with fail
  refine (l07Excess_c _ _ _ _ P S W L _ (hx1.rd hp) (hx1.rd hs) (hx1.rd hv) HC.out HL.out HB.out).mono ?_
  rintro e w2 ⟨b, kb, rfl, hoe, hb2⟩
  obtain ⟨ge, gce, hge, hge0, hge1, _, _⟩ := Own.pos hoe (by rw [HEl.out]; exact h0)
  injection hge with hgea hgeb hgec
  subst hgea hgec
  clear hgeb
  have de := hoe.cell t (by rw [HEl.out]; exact ht)
  rw [hEe.out] at de
  rw [HEl.out]
  have ho2 := ho.below hb2 (Nat.le_refl _)
  have hx2 := hx1.trans hb2
  clear ho hx1 hoe hb2 c0 c1 c2 hge0 hge1
  generalize gI (exL P S L) t = ex at hneg hE de HST
  obtain ⟨hE1, hE2⟩ := hE
  go_wp2
  go_loopw [8, 10] (fun hv jv wr => ∃ j : Nat, j ≤ P.length ∧ jv = .int .i64 j ∧ hv = .int .i64 (sumTo (fun j => nB P S j t) j) ∧ OwnI wr (w.heap.size + 1) (.slice (some ⟨g, 0, none⟩) P.length k) L ∧ Boxed w wr 40 #[.slice a1 P.length k1, .slice a2 S.length k2, .slice a3 n3 k3]) (fun _ jv _ => P.length - (intOf jv).toNat)
  case atStart => exact ⟨0, Nat.zero_le _, rfl, rfl, ho2, hx2⟩
  case round =>
    obtain ⟨j, hj, rfl, rfl, ho3, hx3⟩ := hrel
    clear ho2 hx2 de
    obtain ⟨wo, rfl⟩ : ∃ wo : World, wo = wr := ⟨_, rfl⟩
    by_cases hjt : j < P.length
    · have hji : (j : Int) < (P.length : Int) := by omega
      have c0 := hx3.cell 0
      have c1 := hx3.cell 1
      have c2 := hx3.cell 2
      have hsb := sumTo_bound (f := fun j => nB P S j t) (n := j) 0 1 (fun i _ => by rcases nB_01 P S i t with h | h <;> omega)
      have HS := Lib.hid (sumTo_succ (fun j => nB P S j t) j)
      go_wp2_with fail
      refine (l07Near_c _ _ _ P S (j : Int) (t : Int) _ (hx3.rd hp) (hx3.rd hs) hcl1.out (by omega) (by omega)).mono ?_
      rintro e w3 ⟨rfl, hb3⟩
      have ho4 := ho3.below hb3 (Nat.le_refl _)
      have hx4 := hx3.trans hb3
      clear c0 c1 c2 ho3 hx3
      have e0 : (j : Int).toNat = j := by omega
      rw [e0]
      clear e0
      cases hnb : nearB P S j (t : Int)
      · have h1 := Lib.hid (show nB P S j t = 0 by rw [nB_near, hnb]; rfl)
        go_wp2
        go_roundw
        case rel => exact ⟨j + 1, by omega, by go_num, by rw [HS.out, h1.out, Int.add_zero], ho4, hx4⟩
        case measure => simp [intOf]; omega
      · have h1 := Lib.hid (show nB P S j t = 1 by rw [nB_near, hnb]; rfl)
        generalize sumTo (fun j => nB P S j t) j = z at hsb HS
        have z1 : 0 ≤ z := by omega
        have z2 : z ≤ 100 := by omega
        clear hsb
        go_wp2
        go_roundw
        case rel => exact ⟨j + 1, by omega, by go_num, by rw [HS.out, h1.out], ho4, hx4⟩
        case measure => simp [intOf]; omega
    · have hj' : j = P.length := by omega
      subst hj'
      have hBe : sumTo (fun j => nB P S j t) P.length = hB P S t := rfl
      rw [hBe]
      clear hBe
      have HTD := Lib.hid (upS_tdiv hneg hh.1)
      have hub := upS_bd hneg hh.1
      have hLt := HB.out t (by rw [HL.out]; exact ht)
      have hO : OwnI wo (w.heap.size + 1) (.slice (some ⟨g, 0, none⟩) L.length k) L := by rw [HL.out]; exact ho3
      have dz := hO.cell t (by rw [HL.out]; exact ht)
      have fz := hO.free t
      have hset := hO.set t (gI L t + upS ex (hB P S t))
      rw [HL.out, spTo_zero (S := S) ht HL.out] at hset
      have hk5 : Keeps (fun b => b = g) wo (wo.setCell ⟨g, t, none⟩ (.int .i64 (gI L t + upS ex (hB P S t)))) := (Keeps.refl (fun b => b = g) _).setCell (p := ⟨g, t, none⟩) rfl _
      have hx5 := hx3.wrote (hk5.mono (fun b hb => by omega))
      have HS := Lib.hid hset
      have HX := Lib.hid hx5
      clear hset hx5 hk5 hO ho3 hx3
      generalize hB P S t = hb at hh HTD hub HS HX HST
      generalize gI L t = z at dz hLt HS HX
      obtain ⟨hh1, hh2⟩ := hh
      obtain ⟨u1, u2⟩ := hub
      obtain ⟨z1, z2⟩ := hLt
      have w1' : IntKind.i64.wrap (-ex) = -ex := IntWalk.i64_in _ (by omega)
      have w2' : IntKind.i64.wrap (-ex + hb) = -ex + hb := IntWalk.i64_in _ (by omega)
      have w3' : IntKind.i64.wrap (1 + hb) = 1 + hb := IntWalk.i64_in _ (by omega)
      have w5' : ¬ (1 + hb) = 0 := by omega
      have w4' : IntKind.i64.wrap (Int.tdiv (-ex + hb) (1 + hb)) = upS ex hb := by rw [HTD.out]; exact IntWalk.i64_in _ (by omega)
      clear HTD
      generalize upS ex hb = sv at u1 u2 w4' HS HX HST
      have s1 : sv ≤ 100000000000000 := by omega
      clear u2
      go_wp2
      go_loopw [12] (fun jv wr => ∃ j : Nat, j ≤ P.length ∧ jv = .int .i64 j ∧ OwnI wr (w.heap.size + 1) (.slice (some ⟨g, 0, none⟩) P.length k) (spTo P S L t sv j) ∧ Boxed w wr 40 #[.slice a1 P.length k1, .slice a2 S.length k2, .slice a3 n3 k3]) (fun jv _ => P.length - (intOf jv).toNat)
      case atStart => exact ⟨0, Nat.zero_le _, rfl, HS.out, HX.out⟩
      case round =>
        obtain ⟨j, hj, rfl, ho6, hx6⟩ := hrel
        clear HS HX dz fz
        obtain ⟨wq, rfl⟩ : ∃ wq : World, wq = wr := ⟨_, rfl⟩
        by_cases hjt : j < P.length
        · have hji : (j : Int) < (P.length : Int) := by omega
          have c0 := hx6.cell 0
          have c1 := hx6.cell 1
          have c2 := hx6.cell 2
          go_wp2_with fail
          refine (l07Near_c _ _ _ P S (j : Int) (t : Int) _ (hx6.rd hp) (hx6.rd hs) hcl1.out (by omega) (by omega)).mono ?_
          rintro e w3 ⟨rfl, hb3⟩
          have ho7 := ho6.below hb3 (Nat.le_refl _)
          have hx7 := hx6.trans hb3
          clear c0 c1 c2 ho6 hx6
          have e0 : (j : Int).toNat = j := by omega
          rw [e0]
          clear e0
          cases hnb : nearB P S j (t : Int)
          · have h1 := Lib.hid (spTo_no (L := L) (s := sv) hnb)
            go_wp2
            go_roundw
            case rel => exact ⟨j + 1, by omega, by go_num, by rw [← h1.out]; exact ho7, hx7⟩
            case measure => simp [intOf]; omega
          · have h1 := Lib.hid (spTo_yes (L := L) (s := sv) hjt hnb)
            have hlj := HB.out j (by rw [HL.out]; exact hjt)
            have hO7 : OwnI w3 (w.heap.size + 1) (.slice (some ⟨g, 0, none⟩) (spTo P S L t sv j).length k) (spTo P S L t sv j) := by rw [spTo_len]; exact ho7
            have dy := hO7.cell j (by rw [spTo_len]; exact hjt)
            rw [gI_spTo hjt, if_neg (show ¬ j < j by omega), Int.sub_zero] at dy
            have fy := hO7.free j
            have hset7 := hO7.set j (gI L j + (if j = t then sv else 0) - sv)
            rw [h1.out, spTo_len] at hset7
            have hx8 := hx7.wrote (((Keeps.refl (fun b => b = g) w3).setCell (p := ⟨g, j, none⟩) rfl (.int .i64 (gI L j + (if j = t then sv else 0) - sv))).mono (fun b hb => by omega))
            have HS8 := Lib.hid hset7
            have HX8 := Lib.hid hx8
            generalize hy : gI L j + (if j = t then sv else 0) = y at dy HS8 HX8
            have y1 : -1000000000000 ≤ y := by rw [← hy]; split <;> omega
            have y2 : y ≤ 200000000000000 := by rw [← hy]; split <;> omega
            clear hset7 hx8 hy hO7 ho7 hx7
            go_wp2
            go_roundw
            case rel => exact ⟨j + 1, by omega, by go_num, HS8.out, HX8.out⟩
            case measure => simp [intOf]; omega
        · have hj' : j = P.length := by omega
          subst hj'
          rw [← HST.out] at ho6
          go_wp2
          go_ret
          exact ⟨_, _, rfl, ho6.base_le (by omega), hx6.below⟩
end Go.Proofs.Ytiinceflafigeaa

/- Contracts: spec.l08Unload: points are unloaded, the least one first, till the cluster is consistent. -/
namespace Go.Proofs.Ytiinceflafigeaa
open Go.RowKit

/-- The numbers that a slice reads. -/
def rdL (w : World) (v : Value) (n : Nat) : List Int := (List.range n).map fun i => match v with
  | .slice (some a) _ _ => intOf ((w.cell? ⟨a.block, a.off + i, none⟩).getD (.int .i64 0))
  | _ => 0
theorem rdL_eq {w : World} {v : Value} {xs : List Int} {n : Nat} (h : Rd w v xs) (hn : xs.length = n) : rdL w v n = xs := by
  subst hn
  obtain ⟨a, cap, rfl, h1, h2, h3⟩ := h
  apply gI_ext (by simp [rdL])
  intro i hi
  have hi' : i < xs.length := by simpa [rdL] using hi
  obtain ⟨b, off, rfl, hb, hc⟩ := h3 (by intro e; simp [e] at hi')
  rw [gI_lt hi]
  simp [rdL, hc i hi', intOf]

set_option maxRecDepth 100000 in
set_option maxHeartbeats 2000000 in
theorem l08Unload_c (p s q : Value) (a3 : Option Addr) (n3 k3 : Nat) (v : Value) (P S W W0 : List Int) (w : World) (hp : Rd w p P) (hs : Rd w s S) (hqe : q = .slice a3 n3 k3) (hv : Rd w v W0) (hc : CluOk P S W) (hl : W0.length = P.length) (hu : UnlOk P S fun i => gI W0 i) :
    Calls Try.prog 165 #[.agg #[p, s, q], v] w fun e w' => ∃ a k, e = .returned (.slice a P.length k) ∧ Rd w' (.slice a P.length k) (unlL P S W0) ∧ Below w.heap.size w w' := by
  subst hqe
  have hx := Boxed.start w 40 #[p, s, .slice a3 n3 k3]
  obtain ⟨a1, k1, rfl⟩ := hp.len0
  obtain ⟨a2, k2, rfl⟩ := hs.len0
  obtain ⟨a4, k4, rfl⟩ := hv.len0
  have HC := Lib.hid hc
  have HU := Lib.hid hu
  have HL := Lib.hid hl
  have h24 := hc.1.2.1
  rw [hl] at hv ⊢
  have hway0 : OnWay P S W0 W0 := ⟨hl, Good.refl _ _ _⟩
  clear hc hu hl
  go_enter Try.func165, Try.ntmps165
  go_wp2_with fail
  go_loopw [1, 5] (fun vv _ wr => ∃ L a k, vv = .slice a P.length k ∧ Rd wr (.slice a P.length k) L ∧ OnWay P S W0 L ∧ Boxed w wr 40 #[.slice a1 P.length k1, .slice a2 S.length k2, .slice a3 n3 k3]) (fun vv _ wr => measN P S fun i => gI (rdL wr vv P.length) i)
  case atStart => exact ⟨W0, a4, k4, rfl, hx.rd hv, hway0, hx⟩
  case round =>
    obtain ⟨L, a, k, rfl, hr, hway, hbx⟩ := hrel
    obtain ⟨wo, rfl⟩ : ∃ wo : World, wo = wr := ⟨_, rfl⟩
    have hll := Lib.hid hway.1
    have hsm := Lib.hid (show ∀ i, i < L.length → -1000000000000 ≤ gI L i ∧ gI L i ≤ 1000000000000 from fun i hi => by have := hway.small HC.out HU.out (i := i) (by have := hll.out; omega); omega)
    have hmeq := Lib.hid (rdL_eq hr hll.out)
    have c0 := hbx.cell 0
    have c1 := hbx.cell 1
    have c2 := hbx.cell 2
    go_wp2_with fail
    refine (l08Least_c _ _ _ _ P S W L _ (hbx.rd hp) (hbx.rd hs) hr ⟨_, _, _, rfl⟩ HC.out hll.out hsm.out).mono ?_
    rintro e w2 ⟨rfl, hb2⟩
    have hr2 := hr.below hb2 (Nat.le_refl _)
    have hbx2 := hbx.trans hb2
    clear c0 c1 c2
    rcases leastTo_spec (exL P S L) P.length with ⟨h1, h2⟩ | ⟨h1, h2, h3, h4⟩
    · rw [h1]
      have hd := Lib.hid (hway.done HC.out HU.out HL.out h2)
      clear h1 h2
      go_wp2
      go_ret
      exact ⟨_, _, rfl, by rw [← hd.out]; exact hr2, hbx2.below⟩
    · obtain ⟨t, ht⟩ := Int.eq_ofNat_of_zero_le h1
      rw [ht]
      have htP : t < P.length := by omega
      have e0 : (leastTo (exL P S L) P.length).toNat = t := by omega
      rw [e0] at h3
      have hstep := Lib.hid (hway.step HC.out htP h3)
      have hless := Lib.hid (hway.less HC.out HU.out htP h3)
      clear h1 h2 h4 e0 ht
      have H3 := Lib.hid h3
      clear h3 hway
      have ht0 : ¬ (t : Int) < 0 := by omega
      have c0 := hbx2.cell 0
      have c1 := hbx2.cell 1
      have c2 := hbx2.cell 2
      go_wp2_with fail
      refine (l08Step_c _ _ _ _ _ _ _ P S W L t _ (hbx2.rd hp) (hbx2.rd hs) rfl hr2 HC.out hll.out hsm.out htP H3.out).mono ?_
      rintro e w3 ⟨a', k', rfl, ho3, hb3⟩
      have hbx3 := hbx2.trans hb3
      clear c0 c1 c2
      go_wp2
      go_roundw
      case rel => exact ⟨_, a', k', rfl, ho3.rd, hstep.out, hbx3⟩
      case measure =>
        have e1 := rdL_eq ho3.rd (stL_len P S L t)
        show measN P S (fun i => gI (rdL w3 (.slice a' P.length k') P.length) i) < measN P S (fun i => gI (rdL wo (.slice a P.length k) P.length) i)
        rw [e1, hmeq.out]
        exact hless.out
end Go.Proofs.Ytiinceflafigeaa

/- Contracts: impl.unloaded: sweeps over the points till none has a negative excess. -/
namespace Go.Proofs.Ytiinceflafigeaa
open Go.RowKit

theorem Try.infoN : (Try.prog.info? 3).map (fun i => (i.zero, i.size, i.bytes)) = some (some (.int .i64 0), 1, 8) := by kernel_rfl
theorem Try.infoNN : (Try.prog.info? 157).map (fun i => (i.zero, i.size, i.bytes)) = some (some (.slice none 0 0), 1, 24) := by kernel_rfl

/-- How a sweep stands at the point i: nothing has been done (d), or the measure has fallen. -/
def SwOk (P S L L2 : List Int) (d : Bool) (i : Nat) : Prop := (d = true ∧ L2 = L ∧ ∀ t, t < i → 0 ≤ gI (exL P S L) t) ∨ (d = false ∧ measN P S (fun t => gI L2 t) < measN P S (fun t => gI L t))
theorem SwOk.next {P S L L2 : List Int} {d : Bool} {i : Nat} (h : SwOk P S L L2 d i) (he : 0 ≤ gI (exL P S L2) i) : SwOk P S L L2 d (i + 1) := by
  rcases h with ⟨h1, h2, h3⟩ | h
  · refine .inl ⟨h1, h2, fun t ht => ?_⟩
    by_cases e : t = i
    · subst e; rw [← h2]; exact he
    · exact h3 t (by omega)
  · exact .inr h
theorem SwOk.fell {P S W W0 L L2 : List Int} {d : Bool} {i : Nat} (hc : CluOk P S W) (hu : UnlOk P S fun i => gI W0 i) (h : SwOk P S L L2 d i) (hw : OnWay P S W0 L2) (hi : i < P.length) (he : gI (exL P S L2) i < 0) : SwOk P S L (stL P S L2 i) false (i + 1) := by
  have := hw.less hc hu hi he
  rcases h with ⟨_, h2, _⟩ | h
  · subst h2; exact .inr ⟨rfl, this⟩
  · exact .inr ⟨rfl, Nat.lt_trans this h.2⟩

set_option maxRecDepth 100000 in
set_option maxHeartbeats 4000000 in
theorem unloaded_c (v u : Value) (P S W W0 : List Int) (w : World) (h : RdR w v (proxL P S)) (hu : Rd w u W0) (hc : CluOk P S W) (hl : W0.length = P.length) (hok : UnlOk P S fun i => gI W0 i) :
    Calls Try.prog 213 #[v, u] w (RetL P.length w (unlL P S W0)) := by
  obtain ⟨i0, ii, iz0, iz1, iz2⟩ := info_parts Try.infoN
  obtain ⟨j0, ji, jz0, jz1, jz2⟩ := info_parts Try.infoNN
  have hway0 : OnWay P S W0 W0 := ⟨hl, Good.refl _ _ _⟩
  have hsm0 := Lib.hid (show ∀ i, i < W0.length → -1000000000000 ≤ gI W0 i ∧ gI W0 i ≤ 1000000000000 from fun i hi => by have := hway0.small hc hok (i := i) (by omega); omega)
  have hex := Lib.hid (exOk_clu hc hl hsm0.out)
  have HC := Lib.hid hc
  have HU := Lib.hid hok
  have HL := Lib.hid hl
  have hp : 0 < W0.length := by have := hc.1.1; omega
  have h24 := hc.1.2.1
  have hP0 : 0 < P.length := hc.1.1
  have hWn : W0.length ≤ 1000000 := by omega
  obtain ⟨b, off, cap, rfl, hcap1, hcap2, hrb, hrc⟩ := h.cells (by rw [prox_len]; exact hP0)
  rw [prox_len] at hcap1 hrc h ⊢
  clear hok hc
  go_enter Try.func213, Try.ntmps213
  go_wp2_with fail
  refine (clone_c _ W0 _ hu hp hWn).mono ?_
  rintro e w1 ⟨ao, ko, rfl, hown, hb1⟩
  obtain ⟨gO, kO', hge, hO0, hO1, hO2, hO3⟩ := Own.pos hown hp
  injection hge with hge1 hge2 hge3
  subst hge1 hge3
  clear hge2
  rw [hl] at hown ⊢
  go_wp2_with (at_make; refine wpList_make_full _ rfl (.tmp 21) (.tmp 21) 163 rfl w1.heap.size 157 j0 (.slice none 0 0) 1 Try.underlying163 ji jz0 jz1 _ _ _ _ P.length rfl rfl rfl rfl ?c1 ?c2 ?c3 ?_)
  case c1 => rw [jz2]; omega
  case c2 => unfold maxLen; omega
  case c3 => exact Nat.le_refl _
  intro w2 hownB hgrow
  have hb2 : Below w1.heap.size w1 w2 := (Below.refl _ _).grown hgrow (Nat.le_refl _) (by simp)
  have hRw : Rows 3 w2 w1.heap.size w1.heap.size P.length (fun _ => .slice none 0 0) (fun _ => []) := by
    rw [toList_madeCells_one] at hownB
    exact Rows.made hownB (Nat.le_refl _) ((World.ownsRow.lt hownB) _ rfl).2
  clear hownB hgrow
  go_wp2
  go_loopw [25] (fun i wr => ∃ k : Nat, ∃ V, k ≤ P.length ∧ i = .int .i64 k ∧ Rows 3 wr w1.heap.size w1.heap.size P.length V (bhL P S k) ∧ Below w1.heap.size w1 wr) (fun i _ => P.length - (intOf i).toNat)
  case atStart => exact ⟨0, _, Nat.zero_le _, rfl, hRw.congr (fun i _ => (bhL_zero P S i).symm), hb2⟩
  case round =>
    obtain ⟨k, V, hk, rfl, hrow, hbl⟩ := hrel
    clear hRw hb2
    obtain ⟨wo, rfl⟩ : ∃ wo : World, wo = wr := ⟨_, rfl⟩
    have hb1s := hb1.size
    by_cases hlt : k < P.length
    · have hki : (k : Int) < (P.length : Int) := by omega
      obtain ⟨ur, hur, hru⟩ := hrc k hlt
      rw [prox_row hlt] at hru
      have du : wo.cell? ⟨b, off + k, none⟩ = some ur := by rw [hbl.cell (p := ⟨b, off + k, none⟩) (by simp; omega), hb1.cell (p := ⟨b, off + k, none⟩) hrb]; exact hur
      have hrl := (hex.out.rowlen k (by rw [prox_len]; exact hlt))
      have hrw := Lib.hid (hex.out.row k (by rw [prox_len]; exact hlt))
      rw [prox_row hlt] at hrl hrw
      obtain ⟨ar, kr, rfl, hr1, hr2, hrr⟩ := hru
      clear hur
      go_wp2_with fail
      go_loopw [32] (fun i wr => ∃ m : Nat, ∃ V, m ≤ (proxOf P S k).length ∧ i = .int .i64 m ∧ Rows 3 wr w1.heap.size w1.heap.size P.length V (bhI P S k m) ∧ Below w1.heap.size w1 wr) (fun i _ => (proxOf P S k).length - (intOf i).toNat)
      case atStart => exact ⟨0, _, Nat.zero_le _, rfl, hrow.congr (fun i _ => (bhI_zero P S k i).symm), hbl⟩
      case round =>
        obtain ⟨m, V2, hm, rfl, hrow2, hbl2⟩ := hrel
        clear hrow hbl du
        obtain ⟨wo2, rfl⟩ : ∃ wo : World, wo = wr := ⟨_, rfl⟩
        by_cases hmt : m < (proxOf P S k).length
        · obtain ⟨b2, off2, rfl, hrb2, hcs2⟩ := hrr (ne_of_lt_len hmt)
          have hc2 : wo2.cell? ⟨b2, off2 + m, none⟩ = some (.int .i64 (gI (proxOf P S k) m)) := by rw [hbl2.cell (p := ⟨b2, off2 + m, none⟩) (by simp; omega), hb1.cell (p := ⟨b2, off2 + m, none⟩) hrb2]; exact hcs2 m hmt
          have hxr := hrw.out m hmt
          rw [hl] at hxr
          obtain ⟨x, hx⟩ := Int.eq_ofNat_of_zero_le hxr.1
          have hxP : x < P.length := by omega
          have HX := Lib.hid hx
          have hmi : (m : Int) < ((proxOf P S k).length : Int) := by omega
          rw [hx] at hc2
          have hO := hrow2.row x hxP
          rw [bhI_at HC.out hlt hmt hx] at hO
          have hOl := bhL_le P S x k
          have dV := hrow2.cell x hxP
          have dF := hrow2.free x
          have hsf := hrow2.self x hxP
          have hgl := hrow2.lt
          have hgo := hrow2.lo
          have hxi : (x : Int) < (P.length : Int) := by omega
          have hx0 : (0 : Int) ≤ (x : Int) := Int.natCast_nonneg _
          have HROW := Lib.hid hrow2
          clear hcs2 hxr hx hrow2
          go_wp2_with (at_builtin; refine wpList_pushL rfl (.tmp 41) (.tmp 43) 157 rfl w1.heap.size 3 i0 Try.underlying157 ii iz0 iz1 iz2 (V2 x) (bhL P S k x) (k : Int) rfl hO rfl (by omega) (by omega) ?_; intro g2 c2 w3 hown3 hkp hlies; have d3 := (hkp.cell (p := ⟨w1.heap.size, x, none⟩) hgl hsf).trans dV; have f3 := (hkp.frozen (p := ⟨w1.heap.size, x, none⟩) hgl hsf).trans dF)
          have hput := HROW.out.put hxP hown3 hkp hlies
          have hbl3 := hbl2.trans (((hkp.mono (M' := fun q => w1.heap.size ≤ q) (fun q hq => (hO.block q hq).1)).setCell (p := ⟨w1.heap.size, x, none⟩) (Nat.le_refl _) (.slice (some ⟨g2, 0, none⟩) ((bhL P S k x).length + 1) c2)).below hbl2.size (fun q hq => hq))
          go_roundw
          case rel => exact ⟨m + 1, _, by omega, by go_num, hput.congr (fun i _ => by rw [bhI_step hmt HX.out]; unfold upd; rfl), hbl3⟩
          case measure => simp [intOf]; omega
        · have hm' : m = (proxOf P S k).length := by omega
          subst hm'
          have hr' := hrow2.congr (fun i _ => bhI_all HC.out hlt i)
          go_wp2
          go_roundw
          case rel => exact ⟨k + 1, _, by omega, by go_num, hr', hbl2⟩
          case measure => simp [intOf]; omega
    · have hk' : k = P.length := by omega
      subst hk'
      have h2 := (h.below hb1 (Nat.le_refl _)).below hbl (Nat.le_refl _)
      have hown2 := hown.below hbl (Nat.le_refl _)
      go_wp2_with fail
      refine (excessesOf_c _ _ (proxL P S) W0 _ h2 hown2.rd hex.out hp).mono ?_
      rintro e w4 ⟨ae, ke, rfl, howE, hb4⟩
      have hEl : (exTo (proxL P S) W0 (proxL P S).length).length = P.length := by rw [exTo_len]; exact hl
      obtain ⟨gE, kE, hge, hE0, hE1, hE2, hE3⟩ := Own.pos howE (by rw [hEl]; exact hP0)
      injection hge with hge1 hge2 hge3
      subst hge1 hge3
      have hEx : exTo (proxL P S) W0 (proxL P S).length = exL P S W0 := by rw [prox_len]; rfl
      rw [hEl] at howE ⊢
      rw [hEx] at howE
      have hrow4 := hrow.below hb4
      have hgB := hrow.lt
      have hown4 := hown2.below hb4 (Nat.le_refl _)
      have hbls := hbl.size
      have howE4 := howE.base_le (base' := w.heap.size) (by omega)
      have hbw := below_step (below_step hb1 hbl) hb4
      have hgne : gO ≠ gE := by omega
      have hgB1 : ¬ (w1.heap.size = gO ∨ w1.heap.size = gE) := by omega
      have hcB : ∀ wr, Keeps (fun q => q = gO ∨ q = gE) w4 wr → ∀ i, i < P.length → wr.cell? ⟨w1.heap.size, i, none⟩ = some (V i) := fun wr hk i hi => (hk.cell (p := ⟨w1.heap.size, i, none⟩) hrow4.lt hgB1).trans (hrow4.cell i hi)
      have hrB : ∀ wr, Keeps (fun q => q = gO ∨ q = gE) w4 wr → ∀ i, i < P.length → Own 3 wr w1.heap.size (V i) (bhL P S P.length i) := fun wr hk i hi => (hrow4.row i hi).keeps hk (fun q h1 h2 => by have := (hrow.row i hi).block q h1; omega)
      have HCB := Lib.hid hcB
      have HRB := Lib.hid hrB
      clear hge2 hEx hEl hcB hrB hrow hrow4 hbl hown2 hown h2 howE hb4
      go_wp2_with fail
      go_loopw [12] (fun _ wr => ∃ L, OwnI wr w.heap.size (.slice (some ⟨gO, 0, none⟩) P.length ko) L ∧ OwnI wr w.heap.size (.slice (some ⟨gE, 0, none⟩) P.length ke) (exL P S L) ∧ OnWay P S W0 L ∧ Keeps (fun q => q = gO ∨ q = gE) w4 wr ∧ Below w.heap.size w wr) (fun _ wr => measN P S fun i => gI (rdL wr (.slice (some ⟨gO, 0, none⟩) P.length ko) P.length) i)
      case atStart => exact ⟨W0, hown4, howE4, hway0, Keeps.refl _ _, hbw⟩
      case round =>
        obtain ⟨L, hoO, hoE, hway, hkp, hbw⟩ := hrel
        clear hown4 howE4 hway0
        obtain ⟨wq, rfl⟩ : ∃ wo : World, wo = wr := ⟨_, rfl⟩
        have hmeq := Lib.hid (rdL_eq hoO.rd hway.1)
        go_wp2_with fail
        go_loopw [12, 53] (fun dv iv wr => ∃ i : Nat, ∃ L2 d, i ≤ P.length ∧ iv = .int .i64 i ∧ dv = .bool d ∧ OwnI wr w.heap.size (.slice (some ⟨gO, 0, none⟩) P.length ko) L2 ∧ OwnI wr w.heap.size (.slice (some ⟨gE, 0, none⟩) P.length ke) (exL P S L2) ∧ OnWay P S W0 L2 ∧ Keeps (fun q => q = gO ∨ q = gE) w4 wr ∧ Below w.heap.size w wr ∧ SwOk P S L L2 d i) (fun _ iv _ => P.length - (intOf iv).toNat)
        case atStart => exact ⟨0, L, true, Nat.zero_le _, rfl, rfl, hoO, hoE, hway, hkp, hbw, .inl ⟨rfl, rfl, fun t ht => absurd ht (by omega)⟩⟩
        case round =>
          obtain ⟨i, L2, d, hi, rfl, rfl, hoO2, hoE2, hway2, hkp2, hbw2, hsw⟩ := hrel
          clear hoO hoE hkp hbw
          obtain ⟨wp, rfl⟩ : ∃ wo : World, wo = wr := ⟨_, rfl⟩
          by_cases hit : i < P.length
          · have hii : (i : Int) < (P.length : Int) := by omega
            have hi0 : (0 : Int) ≤ (i : Int) := Int.natCast_nonneg _
            have hEO : OwnI wp w.heap.size (.slice (some ⟨gE, 0, none⟩) (exL P S L2).length ke) (exL P S L2) := by rw [exL_len, hway2.1]; exact hoE2
            have dE := hEO.cell i (by rw [exL_len, hway2.1]; exact hit)
            clear hEO
            by_cases hneg : gI (exL P S L2) i < 0
            · have hE := exF_bd (P := P) (S := S) (A := fun i => gI L2 i) (b := 333849600000) h24 (fun i hi => hway2.small HC.out HU.out hi) hit
              rw [← exL_at HC.out hway2.1 hit] at hE
              have hh := hB_bd P S i h24
              have hbn := bhL_len P S i P.length
              have hbn : ((bhL P S P.length i).length : Int) = hB P S i := hbn
              have hle := bhL_le P S i P.length
              have hstb := Lib.hid (step_behind HC.out hway2.1 hit)
              have hsh := Lib.hid (exL_shift HC.out hway2.1 hit (upS (gI (exL P S L2) i) (hB P S i)))
              have hstep := Lib.hid (hway2.step HC.out hit hneg)
              have hfell := Lib.hid (hsw.fell HC.out HU.out hway2 hit hneg)
              have hll := Lib.hid hway2.1
              have hsm := Lib.hid (show ∀ k, -333849600000 ≤ gI L2 k ∧ gI L2 k ≤ 333849600000 from num_all (fun k hk => hway2.small HC.out HU.out (by have := hway2.1; omega)) (by omega) (by omega))
              have hsmE := Lib.hid (show ∀ k, -100000000000000000 ≤ gI (exL P S L2) k ∧ gI (exL P S L2) k ≤ 100000000000000000 from num_all (fun k hk => by
                have hk' : k < P.length := by rw [exL_len, hway2.1] at hk; exact hk
                have := exF_bd (P := P) (S := S) (A := fun i => gI L2 i) (b := 333849600000) h24 (fun i hi => hway2.small HC.out HU.out hi) hk'
                rw [← exL_at HC.out hway2.1 hk'] at this
                omega) (by omega) (by omega))
              have dB := HCB.out _ hkp2 i hit
              obtain ⟨av, kv, hVe⟩ := Own.form (HRB.out _ hkp2 i hit)
              rw [hVe] at dB
              have HVE := Lib.hid hVe
              clear hway2 hsw hVe
              rw [← hbn] at hh hstb hsh
              obtain ⟨q, hq⟩ : ∃ q, q = (bhL P S P.length i).length := ⟨_, rfl⟩
              rw [← hq] at dB hbn hh hstb hsh hle
              have HTD := Lib.hid (upS_tdiv hneg hh.1)
              have hub := upS_bd hneg hh.1
              have HQ := Lib.hid hq
              have HBN := Lib.hid hbn
              clear hq hbn
              obtain ⟨hE1, hE2⟩ := hE
              obtain ⟨hh1, hh2⟩ := hh
              obtain ⟨u1, u2⟩ := hub
              have hrowP : ∀ t, t < P.length → (∀ m, m < (gR (proxL P S) t).length → 0 ≤ gI (gR (proxL P S) t) m ∧ gI (gR (proxL P S) t) m < (P.length : Int)) ∧ (gR (proxL P S) t).length ≤ 400 := fun t ht => ⟨fun m hm => by have := hex.out.row t (by rw [prox_len]; exact ht) m hm; rw [hl] at this; exact this, hex.out.rowlen t (by rw [prox_len]; exact ht)⟩
              have HRP := Lib.hid hrowP
              clear hrowP
              generalize gI (exL P S L2) i = ex at dE hneg hE1 hE2 HTD u1 u2 hstb hsh
              have w1' : IntKind.i64.wrap (-ex) = -ex := IntWalk.i64_in _ (by omega)
              have w2' : IntKind.i64.wrap (1 + (q : Int)) = 1 + (q : Int) := IntWalk.i64_in _ (by omega)
              have w3' : IntKind.i64.wrap (-ex + (1 + (q : Int))) = -ex + (1 + (q : Int)) := IntWalk.i64_in _ (by omega)
              have w4' : IntKind.i64.wrap (-ex + (1 + (q : Int)) - 1) = -ex + (q : Int) := by
                have e : -ex + (1 + (q : Int)) - 1 = -ex + (q : Int) := by omega
                rw [e]
                exact IntWalk.i64_in _ (by omega)
              have w5' : ¬ (1 + (q : Int)) = 0 := by omega
              have w6' : IntKind.i64.wrap (Int.tdiv (-ex + (q : Int)) (1 + (q : Int))) = upS ex (q : Int) := by rw [HTD.out]; exact IntWalk.i64_in _ (by omega)
              clear HTD
              generalize upS ex (q : Int) = sv at u1 u2 w6' hstb hsh
              have s1 : sv ≤ 20000000000000 := by omega
              clear u2
              have w7' : IntKind.i64.wrap (-sv) = -sv := IntWalk.i64_in _ (by omega)
              have h1b := Lib.hid (show ∀ k, -30000000000000 ≤ gI (inc L2 (i : Int) sv) k ∧ gI (inc L2 (i : Int) sv) k ≤ 30000000000000 from fun k => by
                have := hsm.out k
                rw [gI_inc]
                split <;> omega)
              have h1l := Lib.hid (show (inc L2 (i : Int) sv).length = P.length by rw [inc_len]; exact hll.out)
              go_wp2_with fail
              refine (shift_c w _ (proxL P S) L2 (exL P S L2) gO ko gE ke P.length i sv _ h hbw2 hoO2 hoE2 hgne hll.out (by rw [exL_len]; exact hll.out) (prox_len _ _) (by omega) hit (HRP.out i hit).1 (HRP.out i hit).2 (by omega) (fun k => by have := hsm.out k; omega) hsmE.out).mono ?_
              rintro e w5 ⟨rfl, ho5, he5, hk5, hb5⟩
              rw [prox_row hit, hsh.out] at he5
              have hkp5 := hkp2.trans hk5
              clear hoO2 hoE2 hkp2 hbw2 dE dB hsh hk5
              have dB : w5.cell? ⟨w1.heap.size, i, none⟩ = some (.slice av q kv) := by rw [HCB.out _ hkp5 i hit, HVE.out, HQ.out]
              generalize inc L2 (i : Int) sv = L1 at ho5 he5 hstb h1b h1l
              go_wp2_with fail
              go_loopw [88] (fun mv wr => ∃ m : Nat, m ≤ q ∧ mv = .int .i64 m ∧ OwnI wr w.heap.size (.slice (some ⟨gO, 0, none⟩) P.length ko) (incTo (bhL P S P.length i) (-sv) L1 m) ∧ OwnI wr w.heap.size (.slice (some ⟨gE, 0, none⟩) P.length ke) (exL P S (incTo (bhL P S P.length i) (-sv) L1 m)) ∧ Keeps (fun q => q = gO ∨ q = gE) w4 wr ∧ Below w.heap.size w wr) (fun mv _ => q - (intOf mv).toNat)
              case atStart => exact ⟨0, Nat.zero_le _, rfl, ho5, he5, hkp5, hb5⟩
              case round =>
                obtain ⟨m, hm, rfl, ho6, he6, hkp6, hb6⟩ := hrel
                clear ho5 he5 hkp5 hb5 dB
                obtain ⟨ws, rfl⟩ : ∃ wo : World, wo = wr := ⟨_, rfl⟩
                by_cases hmq : m < q
                · have hmqi : (m : Int) < (q : Int) := by omega
                  have hB6 := HRB.out _ hkp6 i hit
                  rw [HVE.out] at hB6
                  obtain ⟨j, hj, hjP⟩ := bhL_mem P S i P.length m (by rw [← HQ.out]; exact hmq)
                  obtain ⟨gb, kb, hgb, hgb0, hgb1, hgb2, hgb3⟩ := Own.pos hB6 (by rw [← HQ.out]; omega)
                  injection hgb with hgba hgbb hgbc
                  subst hgba hgbc
                  have dm := hB6.cell m (by rw [← HQ.out]; exact hmq)
                  rw [hj] at dm
                  have HJ := Lib.hid hj
                  have hsq := Lib.hid (behind_small (P := P) (S := S) (i := i) (L := L1) (x := -sv) (b := 30000000000000) (by omega) h1b.out m)
                  have hlq : (incTo (bhL P S P.length i) (-sv) L1 m).length = P.length := by rw [incTo_len]; exact h1l.out
                  have HLQ := Lib.hid hlq
                  have hm24 : (m : Int) ≤ 24 := by omega
                  have hseq := Lib.hid (show ∀ k, -100000000000000000 ≤ gI (exL P S (incTo (bhL P S P.length i) (-sv) L1 m)) k ∧ gI (exL P S (incTo (bhL P S P.length i) (-sv) L1 m)) k ≤ 100000000000000000 from num_all (fun k hk => by
                    have hk' : k < P.length := by rw [exL_len, hlq] at hk; exact hk
                    have := exF_bd (P := P) (S := S) (A := fun t => gI (incTo (bhL P S P.length i) (-sv) L1 m) t) (b := 1000000000000000) h24 (fun t _ => by have := hsq.out t; omega) hk'
                    rw [← exL_at HC.out hlq hk'] at this
                    omega) (by omega) (by omega))
                  clear hgbb hB6 hj hlq
                  go_wp2_with fail
                  refine (shift_c w _ (proxL P S) _ _ gO ko gE ke P.length j (-sv) _ h hb6 ho6 he6 hgne HLQ.out (by rw [exL_len]; exact HLQ.out) (prox_len _ _) (by omega) hjP (HRP.out j hjP).1 (HRP.out j hjP).2 (by omega) (fun k => by have := hsq.out k; omega) hseq.out).mono ?_
                  rintro e w7 ⟨rfl, ho7, he7, hk7, hb7⟩
                  rw [prox_row hjP, exL_shift HC.out HLQ.out hjP] at he7
                  have e7 : inc (incTo (bhL P S P.length i) (-sv) L1 m) (j : Int) (-sv) = incTo (bhL P S P.length i) (-sv) L1 (m + 1) := by rw [incTo_succ, HJ.out]
                  rw [e7] at ho7 he7
                  have hkp7 := hkp6.trans hk7
                  clear ho6 he6 hkp6 hb6 dm e7 hk7
                  go_wp2
                  go_roundw
                  case rel => exact ⟨m + 1, by omega, by go_num, ho7, he7, hkp7, hb7⟩
                  case measure => simp [intOf]; omega
                · have hm' : m = q := by omega
                  subst hm'
                  rw [hstb.out] at ho6 he6
                  go_wp2
                  go_roundw
                  case rel => exact ⟨i + 1, _, false, by omega, by go_num, rfl, ho6, he6, hstep.out, hkp6, hb6, hfell.out⟩
                  case measure => simp [intOf]; omega
            · go_wp2
              go_roundw
              case rel => exact ⟨i + 1, L2, d, by omega, by go_num, rfl, hoO2, hoE2, hway2, hkp2, hbw2, hsw.next (by omega)⟩
              case measure => simp [intOf]; omega
          · have hi' : i = P.length := by omega
            subst hi'
            have HSW := Lib.hid hsw
            have HWAY := Lib.hid hway2
            clear hsw hway2 hway
            cases d
            · go_wp2
              go_roundw
              case rel => exact ⟨L2, hoO2, hoE2, HWAY.out, hkp2, hbw2⟩
              case measure =>
                rcases HSW.out with ⟨h1, _⟩ | ⟨_, h1⟩
                · cases h1
                · have e1 := rdL_eq hoO2.rd HWAY.out.1
                  show measN P S (fun i => gI (rdL wp (.slice (some ⟨gO, 0, none⟩) P.length ko) P.length) i) < measN P S (fun i => gI (rdL wq (.slice (some ⟨gO, 0, none⟩) P.length ko) P.length) i)
                  rw [e1, hmeq.out]
                  exact h1
            · go_wp2
              go_ret
              rcases HSW.out with ⟨_, h1, h2⟩ | ⟨h1, _⟩
              · subst h1
                rw [HWAY.out.done HC.out HU.out HL.out h2] at hoO2
                exact ⟨_, _, rfl, hoO2, hbw2⟩
              · cases h1
end Go.Proofs.Ytiinceflafigeaa
