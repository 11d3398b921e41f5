/- The contracts that the walk of FnExactMultiplierCluster leans on, in one text. -/
import Derived.Test.YthpnmkghjnipoaaUnlBd
import Derived.Test.YthpnmkghjnipoaaSlc
import Derived.Test.YthpnmkghjnipoaaExImpl
import Derived.Test.YthpnmkghjnipoaaExPure
import Derived.Test.YthpnmkghjnipoaaClone
import Derived.Test.YthpnmkghjnipoaaCluFns
import Derived.Laws.AppendOwnNone
import Derived.Test.YthpnmkghjnipoaaRowL
import Derived.Test.YthpnmkghjnipoaaExSpec
import Derived.Test.YthpnmkghjnipoaaWith
import Derived.Test.YthpnmkghjnipoaaProx
import Derived.Deep.RegionHeld3
import Derived.Test.YthpnmkghjnipoaaExCons
import Derived.ArgAppend
import Derived.Test.YthpnmkghjnipoaaMu1
import Derived.Test.YthpnmkghjnipoaaCons
import Derived.Test.YthpnmkghjnipoaaOfOrd
import Derived.Test.YthpnmkghjnipoaaDisc
import Derived.Test.YthpnmkghjnipoaaOrd
import Derived.Test.YthpnmkghjnipoaaLtS
import Derived.Deep.DeepCutAuto
import Derived.Test.YthpnmkghjnipoaaHelpC
import Derived.Test.YthpnmkghjnipoaaHelp

/- Unloading, the plain law of the program's way: a number is added to a weight, and the excesses follow; the points behind a point; a step as the program makes it. No program in sight. -/
namespace Go.Proofs.Ythpnmkghjnipoaa

theorem exF_inc (P S : List Int) (A : Nat → Int) {i p : Nat} (s : Int) (hi : i < P.length) :
    exF P S (fun j => A j + if j = i then s else 0) p = exF P S A p + (if p = i then s else 0) - nB P S i p * s := by
  unfold exF
  have h : sumTo (fun j => nB P S j p * (A j + if j = i then s else 0)) P.length = sumTo (fun j => nB P S j p * A j) P.length + nB P S i p * s := by
    have e : ∀ j, j < P.length → nB P S j p * (A j + if j = i then s else 0) = nB P S j p * A j + (if j = i then 1 else 0) * (nB P S j p * s) := by
      intro j _
      by_cases hj : j = i
      · rw [if_pos hj, if_pos hj, Int.mul_add, Int.one_mul]
      · rw [if_neg hj, if_neg hj, Int.mul_add, Int.mul_zero, Int.zero_mul]
    rw [sumTo_congr e, sumTo_add, sumTo_unit, if_pos hi]
  rw [h]
  show A p + (if p = i then s else 0) - _ = _
  omega

theorem gI_inc_nat {L : List Int} {i j : Nat} {s : Int} (hj : j < L.length) : gI (inc L (i : Int) s) j = gI L j + if j = i then s else 0 := by
  rw [gI_inc]
  have : ((i : Int)).toNat = i := by omega
  rw [this]
  by_cases e : j = i
  · subst e; rw [if_pos ⟨rfl, hj⟩, if_pos rfl]
  · rw [if_neg (fun h => e h.1.symm), if_neg e]; omega

theorem dec_row {P S : List Int} {i : Nat} (s : Int) (X : List Int) : decTo (proxOf P S i) s X (proxOf P S i).length = if i = 0 then X else if 0 ≤ gI S i then dec (dec X (gI P i) s) (gI S i) s else dec X (gI P i) s := by
  unfold proxOf
  by_cases h0 : i = 0
  · rw [if_pos h0, if_pos h0]; rfl
  · rw [if_neg h0, if_neg h0]
    by_cases hs : 0 ≤ gI S i
    · rw [secL_yes hs, if_pos hs]
      show dec (dec _ (gI S i) s) (gI P i) s = _
      exact dec_comm _ _ _ _
    · rw [secL_no hs, if_neg hs]
      rfl

theorem exL_shift {P S W L : List Int} (hc : CluOk P S W) (hl : L.length = P.length) {i : Nat} (hi : i < P.length) (s : Int) :
    decTo (proxOf P S i) s (inc (exL P S L) (i : Int) s) (proxOf P S i).length = exL P S (inc L (i : Int) s) := by
  have hlX : (inc (exL P S L) (i : Int) s).length = P.length := by rw [inc_len, exL_len, hl]
  apply gI_ext (by rw [decTo_len, hlX, exL_len, inc_len, hl])
  intro p hp
  have hp' : p < P.length := by rw [decTo_len, hlX] at hp; exact hp
  rw [exL_at hc (by rw [inc_len, hl]) hp']
  rw [exF_congr (B := fun j => gI L j + if j = i then s else 0) (fun j hj => gI_inc_nat (by omega)) hp', exF_inc P S (fun j => gI L j) s hi, ← exL_at hc hl hp', dec_row]
  have hX : gI (inc (exL P S L) (i : Int) s) p = gI (exL P S L) p + if p = i then s else 0 := gI_inc_nat (by rw [exL_len, hl]; exact hp')
  rw [nB_eq hc hi]
  by_cases h0 : i = 0
  · subst h0
    have hz := clu_zero hc
    rw [if_pos rfl, if_pos rfl, if_neg (show ¬ 0 ≤ gI S 0 by omega), hX]
    omega
  · obtain ⟨h1, h2, h3⟩ := clu_place hc hi (by omega)
    rw [if_neg h0, if_neg h0]
    by_cases hs : 0 ≤ gI S i
    · have hne := clu_ne hc hi hs
      rw [if_pos hs, if_pos hs, gI_dec, gI_dec, dec_len, hlX, hX]
      by_cases e1 : p = (gI P i).toNat
      · rw [if_neg (by omega), if_pos (by omega), if_pos e1, if_neg (show ¬ p = (gI S i).toNat by omega)]; simp
      · by_cases e2 : p = (gI S i).toNat
        · rw [if_pos (by omega), if_neg (by omega), if_neg e1, if_pos e2]; simp
        · rw [if_neg (by omega), if_neg (by omega), if_neg e1, if_neg e2]; simp
    · rw [if_neg hs, if_neg hs, gI_dec, hlX, hX]
      by_cases e1 : p = (gI P i).toNat
      · rw [if_pos (by omega), if_pos e1]; simp
      · rw [if_neg (by omega), if_neg e1]; simp

/-- The points before k that are proximate to i. -/
def bhL (P S : List Int) (k i : Nat) : List Int := ((List.range k).filter fun j => nearB P S j (i : Int)).map fun (j : Nat) => (j : Int)
theorem bhL_zero (P S : List Int) (i : Nat) : bhL P S 0 i = [] := rfl
theorem bhL_yes {P S : List Int} {k i : Nat} (h : nearB P S k (i : Int) = true) : bhL P S (k + 1) i = bhL P S k i ++ [(k : Int)] := by
  unfold bhL
  rw [List.range_succ, List.filter_append, List.map_append]
  simp [h]
theorem bhL_no {P S : List Int} {k i : Nat} (h : nearB P S k (i : Int) = false) : bhL P S (k + 1) i = bhL P S k i := by
  unfold bhL
  rw [List.range_succ, List.filter_append, List.map_append]
  simp [h]
theorem bhL_len (P S : List Int) (i : Nat) : ∀ k, ((bhL P S k i).length : Int) = sumTo (fun j => nB P S j i) k := by
  intro k
  induction k with
  | zero => rfl
  | succ k ih =>
    rw [sumTo_succ]
    cases h : nearB P S k (i : Int)
    · rw [bhL_no h, ih]; unfold nB; rw [if_neg (by simp [h])]; omega
    · rw [bhL_yes h, List.length_append, Int.natCast_add, ih]; unfold nB; rw [if_pos h]; rfl
theorem bhL_le (P S : List Int) (i : Nat) : ∀ k, (bhL P S k i).length ≤ k := by
  intro k
  induction k with
  | zero => exact Nat.le_refl _
  | succ k ih =>
    cases h : nearB P S k (i : Int)
    · rw [bhL_no h]; omega
    · rw [bhL_yes h, List.length_append]; simp; omega
theorem bhL_mem (P S : List Int) (i : Nat) : ∀ k t, t < (bhL P S k i).length → ∃ j : Nat, gI (bhL P S k i) t = j ∧ j < k := by
  intro k
  induction k with
  | zero => intro t ht; simp [bhL_zero] at ht
  | succ k ih =>
    intro t ht
    cases h : nearB P S k (i : Int)
    · rw [bhL_no h] at ht ⊢
      obtain ⟨j, h1, h2⟩ := ih t ht
      exact ⟨j, h1, by omega⟩
    · rw [bhL_yes h] at ht ⊢
      rw [List.length_append] at ht
      by_cases e : t < (bhL P S k i).length
      · obtain ⟨j, h1, h2⟩ := ih t e
        exact ⟨j, by rw [gI_app_lt e]; exact h1, by omega⟩
      · exact ⟨k, gI_app_at (by simp at ht; omega), by omega⟩

theorem incTo_congr {row row' : List Int} (x : Int) (L : List Int) {m : Nat} (h : ∀ t, t < m → gI row t = gI row' t) : incTo row x L m = incTo row' x L m := by
  induction m with
  | zero => rfl
  | succ m ih => rw [incTo_succ, incTo_succ, ih (fun t ht => h t (by omega)), h m (by omega)]
theorem incTo_app (xs : List Int) (y x : Int) (L : List Int) : incTo (xs ++ [y]) x L (xs ++ [y]).length = inc (incTo xs x L xs.length) y x := by
  have e : (xs ++ [y]).length = xs.length + 1 := by simp
  rw [e, incTo_succ, gI_app_at rfl, incTo_congr (row' := xs) x L (fun t ht => gI_app_lt ht)]

theorem inc_behind (P S L : List Int) (i : Nat) (x : Int) : ∀ k, k ≤ L.length → ∀ q, q < L.length → gI (incTo (bhL P S k i) x L (bhL P S k i).length) q = gI L q + if q < k then nB P S q i * x else 0 := by
  intro k
  induction k with
  | zero => intro _ q _; rw [if_neg (by omega)]; simp [bhL_zero, incTo]
  | succ k ih =>
    intro hk q hq
    have ih := ih (by omega) q hq
    cases h : nearB P S k (i : Int)
    · rw [bhL_no h, ih]
      by_cases e : q = k
      · subst e
        rw [if_neg (show ¬ q < q by omega), if_pos (show q < q + 1 by omega)]
        unfold nB; rw [if_neg (by simp [h])]; omega
      · by_cases e2 : q < k
        · rw [if_pos e2, if_pos (show q < k + 1 by omega)]
        · rw [if_neg e2, if_neg (show ¬ q < k + 1 by omega)]
    · rw [bhL_yes h, incTo_app, gI_inc_nat (by rw [incTo_len]; exact hq), ih]
      by_cases e : q = k
      · subst e
        rw [if_neg (show ¬ q < q by omega), if_pos (show q < q + 1 by omega), if_pos rfl]
        unfold nB; rw [if_pos h]; omega
      · rw [if_neg e]
        by_cases e2 : q < k
        · rw [if_pos e2, if_pos (show q < k + 1 by omega)]; omega
        · rw [if_neg e2, if_neg (show ¬ q < k + 1 by omega)]; omega

/-- A step, as the program makes it. -/
theorem step_behind {P S W L : List Int} (hc : CluOk P S W) (hl : L.length = P.length) {i : Nat} (hi : i < P.length) :
    incTo (bhL P S P.length i) (-(upS (gI (exL P S L) i) (hB P S i))) (inc L (i : Int) (upS (gI (exL P S L) i) (hB P S i))) (bhL P S P.length i).length = stL P S L i := by
  apply gI_ext (by rw [incTo_len, inc_len, stL_len, hl])
  intro q hq
  have hq' : q < P.length := by rw [incTo_len, inc_len, hl] at hq; exact hq
  rw [inc_behind P S _ i _ P.length (by rw [inc_len, hl]; exact Nat.le_refl _) q (by rw [inc_len, hl]; exact hq'), gI_inc_nat (by omega), gI_stL hc hl hi hq', ← exL_at hc hl hi, if_pos hq', Int.mul_neg]
  unfold stF
  show _ = gI L q + (if q = i then _ else 0) - _
  omega

/-- All numbers of a prefix of the step stay small. -/
theorem behind_small {P S L : List Int} {i : Nat} {x b : Int} (hx : -b ≤ x ∧ x ≤ b) (hL : ∀ q, -b ≤ gI L q ∧ gI L q ≤ b) (m : Nat) : ∀ q, -(b * (m + 1)) ≤ gI (incTo (bhL P S P.length i) x L m) q ∧ gI (incTo (bhL P S P.length i) x L m) q ≤ b * (m + 1) := by
  induction m with
  | zero => intro q; simpa [incTo] using hL q
  | succ m ih =>
    intro q
    have ih := ih q
    rw [incTo_succ, gI_inc]
    have e : b * ((m + 1 : Nat) + 1 : Int) = b * (m + 1) + b := by rw [Int.natCast_add, Int.mul_add b _ 1]; simp
    rw [e]
    have hb : 0 ≤ b := by omega
    split <;> omega

/-- The points behind i while the row of the point j is read: its first m numbers are done. -/
def bhI (P S : List Int) (j m i : Nat) : List Int := if (i : Int) ∈ (proxOf P S j).take m then bhL P S j i ++ [(j : Int)] else bhL P S j i
theorem bhI_zero (P S : List Int) (j i : Nat) : bhI P S j 0 i = bhL P S j i := by simp [bhI]
theorem prox_mem {P S W : List Int} (hc : CluOk P S W) {j : Nat} (hj : j < P.length) (i : Nat) : (i : Int) ∈ proxOf P S j ↔ nearB P S j (i : Int) = true := by
  rw [nearB_iff]
  unfold proxOf
  by_cases h0 : j = 0
  · subst h0
    have hz := clu_zero hc
    rw [if_pos rfl]
    constructor
    · intro h; simp at h
    · intro h; omega
  · rw [if_neg h0]
    obtain ⟨h1, h2, h3⟩ := clu_place hc hj (by omega)
    by_cases hs : 0 ≤ gI S j
    · rw [secL_yes hs]; simp; omega
    · rw [secL_no hs]; simp; omega
theorem bhI_all {P S W : List Int} (hc : CluOk P S W) {j : Nat} (hj : j < P.length) (i : Nat) : bhI P S j (proxOf P S j).length i = bhL P S (j + 1) i := by
  unfold bhI
  rw [List.take_length]
  cases h : nearB P S j (i : Int)
  · rw [bhL_no h, if_neg (fun hm => by rw [(prox_mem hc hj i).1 hm] at h; cases h)]
  · rw [bhL_yes h, if_pos ((prox_mem hc hj i).2 h)]
theorem take_one {xs : List Int} {m : Nat} (h : m < xs.length) : xs.take (m + 1) = xs.take m ++ [gI xs m] := by
  rw [List.take_add_one, gI_some h]; rfl
/-- The numbers of a row are distinct. -/
theorem prox_new {P S W : List Int} (hc : CluOk P S W) {j m : Nat} (hj : j < P.length) (hm : m < (proxOf P S j).length) : ¬ gI (proxOf P S j) m ∈ (proxOf P S j).take m := by
  unfold proxOf at hm ⊢
  by_cases h0 : j = 0
  · rw [if_pos h0] at hm; simp at hm
  · rw [if_neg h0] at hm ⊢
    by_cases hs : 0 ≤ gI S j
    · have hne := clu_ne hc hj hs
      rw [secL_yes hs] at hm ⊢
      by_cases e : m = 0
      · subst e; simp
      · have : m = 1 := by simp at hm; omega
        subst this
        simp [gI]
        exact hne.1
    · rw [secL_no hs] at hm ⊢
      have : m = 0 := by simp at hm; omega
      subst this
      simp
theorem bhI_step {P S : List Int} {j m x : Nat} (hm : m < (proxOf P S j).length) (hx : gI (proxOf P S j) m = (x : Int)) (i : Nat) :
    bhI P S j (m + 1) i = if i = x then bhL P S j x ++ [(j : Int)] else bhI P S j m i := by
  unfold bhI
  rw [take_one hm, hx]
  by_cases e : i = x
  · subst e; rw [if_pos (by simp), if_pos rfl]
  · rw [if_neg e]
    by_cases h : (i : Int) ∈ (proxOf P S j).take m
    · rw [if_pos h, if_pos (List.mem_append_left _ h)]
    · rw [if_neg h, if_neg (by
        intro h2
        rcases List.mem_append.1 h2 with h2 | h2
        · exact h h2
        · simp at h2; omega)]
theorem bhI_at {P S W : List Int} (hc : CluOk P S W) {j m x : Nat} (hj : j < P.length) (hm : m < (proxOf P S j).length) (hx : gI (proxOf P S j) m = (x : Int)) : bhI P S j m x = bhL P S j x := by
  have := prox_new hc hj hm
  unfold bhI
  rw [if_neg (by rw [← hx]; exact this)]
end Go.Proofs.Ythpnmkghjnipoaa

/- Contracts: impl.shift: a number is added to the weight of a point, and the excesses follow. -/
namespace Go.Proofs.Ythpnmkghjnipoaa
open Go.RowKit

set_option maxRecDepth 100000 in
set_option maxHeartbeats 4000000 in
theorem shift_c (w0 : World) (v : Value) (R : List (List Int)) (L E : List Int) (gW kW gE kE n i : Nat) (s : Int) (w : World) (hR : RdR w0 v R) (hb : Below w0.heap.size w0 w)
    (hW : OwnI w w0.heap.size (.slice (some ⟨gW, 0, none⟩) n kW) L) (hE : OwnI w w0.heap.size (.slice (some ⟨gE, 0, none⟩) n kE) E) (hne : gW ≠ gE) (hn : L.length = n) (hm : E.length = n) (hr : R.length = n) (hn4 : n ≤ 400) (hi : i < n)
    (hrow : ∀ k, k < (gR R i).length → 0 ≤ gI (gR R i) k ∧ gI (gR R i) k < (n : Int)) (hrl : (gR R i).length ≤ 400)
    (bs : -100000000000000 ≤ s ∧ s ≤ 100000000000000) (bL : ∀ k, -1000000000000000 ≤ gI L k ∧ gI L k ≤ 1000000000000000) (bE : ∀ k, -100000000000000000 ≤ gI E k ∧ gI E k ≤ 100000000000000000) :
    Calls Try.prog 160 #[v, .slice (some ⟨gW, 0, none⟩) n kW, .slice (some ⟨gE, 0, none⟩) n kE, .int .i64 (i : Int), .int .i64 s] w fun e w' =>
      e = .returned (.tuple #[]) ∧ OwnI w' w0.heap.size (.slice (some ⟨gW, 0, none⟩) n kW) (inc L (i : Int) s) ∧ OwnI w' w0.heap.size (.slice (some ⟨gE, 0, none⟩) n kE) (decTo (gR R i) s (inc E (i : Int) s) (gR R i).length) ∧ Keeps (fun b => b = gW ∨ b = gE) w w' ∧ Below w0.heap.size w0 w' := by
  obtain ⟨br, ofr, kr, rfl, hr1, hr2, hrb, hrc⟩ := hR.cells (by omega)
  obtain ⟨u, hu, hru⟩ := hrc i (by omega)
  obtain ⟨au, ku, rfl, hru1, hru2, hru3⟩ := hru
  rw [hr]
  have hgW := (hW.block gW rfl).1
  have hgE := (hE.block gE rfl).1
  have hW' : OwnI w w0.heap.size (.slice (some ⟨gW, 0, none⟩) L.length kW) L := by rw [hn]; exact hW
  have hE' : OwnI w w0.heap.size (.slice (some ⟨gE, 0, none⟩) E.length kE) E := by rw [hm]; exact hE
  have dW := hW'.cell i (by omega)
  have fW := hW'.free i
  have hset := hW'.set i (gI L i + s)
  rw [hn] at hset
  have hk1 : Keeps (fun b => b = gW ∨ b = gE) w (w.setCell ⟨gW, i, none⟩ (.int .i64 (gI L i + s))) := (Keeps.refl _ _).setCell (p := ⟨gW, i, none⟩) (.inl rfl) _
  have hE1 : OwnI (w.setCell ⟨gW, i, none⟩ (.int .i64 (gI L i + s))) w0.heap.size (.slice (some ⟨gE, 0, none⟩) E.length kE) E := hE'.other (fun k hk => by simp [Value.ownBlock] at hk; omega) i _
  have dE1 := hE1.cell i (by omega)
  have fE1 := hE1.free i
  have hset2 := hE1.set i (gI E i + s)
  rw [hm] at hset2
  have hW2 := hset.other (g := gE) (fun k hk => by simp [Value.ownBlock] at hk; omega) i (.int .i64 (gI E i + s))
  have hk2 := hk1.setCell (p := ⟨gE, i, none⟩) (.inr rfl) (.int .i64 (gI E i + s))
  have hb2 := hb.trans (hk2.below hb.size (fun k hk => by omega))
  have eL : inc L (i : Int) s = L.set i (gI L i + s) := by unfold inc; simp
  have eE : inc E (i : Int) s = E.set i (gI E i + s) := by unfold inc; simp
  have hEb : ∀ k, -110000000000000000 ≤ gI (inc E (i : Int) s) k ∧ gI (inc E (i : Int) s) k ≤ 110000000000000000 := by
    intro k
    rw [eE, gI_set]
    split
    · have := bE i; omega
    · have := bE k; omega
  have hEl : (inc E (i : Int) s).length = n := by rw [eE]; simp [hm]
  rw [← eL] at hW2
  rw [← eE] at hset2
  have HW2 := Lib.hid hW2
  have HE2 := Lib.hid hset2
  have HK2 := Lib.hid hk2
  have HB2 := Lib.hid hb2
  have HEB := Lib.hid hEb
  have HEL := Lib.hid hEl
  have HROW := Lib.hid hrow
  have du := hb2.cell (p := ⟨br, ofr + i, none⟩) hrb
  rw [hu] at du
  have bL0 := (bL i).1
  have bL1 := (bL i).2
  have bE0 := (bE i).1
  have bE1 := (bE i).2
  clear hset hset2 hk1 hk2 hE1 hW' hE' hW hE hW2 eL eE hEb hEl hR bL bE hrow hb2 hb hrc hu
  generalize inc L (i : Int) s = L2 at HW2 ⊢
  generalize inc E (i : Int) s = E2 at HE2 HEB HEL ⊢
  generalize gI L i = x at dW dE1 fE1 bL0 bL1 HW2 HE2 HK2 HB2 du
  generalize gI E i = y at dE1 bE0 bE1 HW2 HE2 HK2 HB2 du
  generalize gR R i = row at hru1 hru2 hru3 HROW hrl du ⊢
  obtain ⟨bs0, bs1⟩ := bs
  have hii : (i : Int) < (n : Int) := by omega
  have hi0 : (0 : Int) ≤ (i : Int) := Int.natCast_nonneg _
  go_enter Try.func160, Try.ntmps160
  go_wp2_with fail
  generalize hw2 : (w.setCell ⟨gW, i, none⟩ (.int .i64 (x + s))).setCell ⟨gE, i, none⟩ (.int .i64 (y + s)) = w2 at HW2 HE2 HK2 HB2 du ⊢
  clear hw2 dE1 fE1 dW fW
  go_loopw [11, 31] (fun _ jv wr => ∃ m : Nat, m ≤ row.length ∧ jv = .int .i64 m ∧ OwnI wr w0.heap.size (.slice (some ⟨gW, 0, none⟩) n kW) L2 ∧ OwnI wr w0.heap.size (.slice (some ⟨gE, 0, none⟩) n kE) (decTo row s E2 m) ∧ Keeps (fun b => b = gW ∨ b = gE) w wr ∧ Below w0.heap.size w0 wr) (fun _ jv _ => row.length - (intOf jv).toNat)
  case atStart => exact ⟨0, Nat.zero_le _, rfl, HW2.out, HE2.out, HK2.out, HB2.out⟩
  case round =>
    obtain ⟨m, hm2, rfl, hoW, hoE, hkk, hbb⟩ := hrel
    clear HW2 HE2 HK2 HB2 du
    obtain ⟨wo, rfl⟩ : ∃ wo : World, wo = wr := ⟨_, rfl⟩
    by_cases hmt : m < row.length
    · obtain ⟨b2, off2, rfl, hb2, hcs2⟩ := hru3 (ne_of_lt_len hmt)
      have hc2 : wo.cell? ⟨b2, off2 + m, none⟩ = some (.int .i64 (gI row m)) := by rw [hbb.cell (p := ⟨b2, off2 + m, none⟩) hb2]; exact hcs2 m hmt
      have hxr := HROW.out m hmt
      have hlen : (decTo row s E2 m).length = n := by rw [decTo_len]; exact HEL.out
      have hO : OwnI wo w0.heap.size (.slice (some ⟨gE, 0, none⟩) (decTo row s E2 m).length kE) (decTo row s E2 m) := by rw [hlen]; exact hoE
      have hcell := hO.cell (gI row m).toNat (by rw [hlen]; omega)
      have hfree := hO.free (gI row m).toNat
      have hsm : -200000000000000000 ≤ gI (decTo row s E2 m) (gI row m).toNat ∧ gI (decTo row s E2 m) (gI row m).toNat ≤ 200000000000000000 := by
        have key : ∀ t, t ≤ 400 → ∀ q, -(110000000000000000 + 100000000000000 * t) ≤ gI (decTo row s E2 t) q ∧ gI (decTo row s E2 t) q ≤ 110000000000000000 + 100000000000000 * t := by
          intro t
          induction t with
          | zero => intro _ q; have := HEB.out q; simp [decTo]; omega
          | succ t ih =>
            intro ht q
            have ih := ih (by omega) q
            rw [decTo_succ, gI_dec]
            split <;> omega
        have := key m (by omega) (gI row m).toNat
        omega
      have hset := hO.set (gI row m).toNat (gI (decTo row s E2 m) (gI row m).toNat - s)
      have hset2 : OwnI (wo.setCell ⟨gE, (gI row m).toNat, none⟩ (.int .i64 (gI (decTo row s E2 m) (gI row m).toNat - s))) w0.heap.size (.slice (some ⟨gE, 0, none⟩) n kE) (decTo row s E2 (m + 1)) := by
        rw [hlen] at hset; exact hset
      have hW3 := hoW.other (g := gE) (fun k hk => by simp [Value.ownBlock] at hk; omega) (gI row m).toNat (.int .i64 (gI (decTo row s E2 m) (gI row m).toNat - s))
      have hk3 := hkk.setCell (p := ⟨gE, (gI row m).toNat, none⟩) (.inr rfl) (.int .i64 (gI (decTo row s E2 m) (gI row m).toNat - s))
      have hb3 := hbb.setCell (p := ⟨gE, (gI row m).toNat, none⟩) hgE (.int .i64 (gI (decTo row s E2 m) (gI row m).toNat - s))
      clear hset hO hoE hoW hlen hcs2 hru3 HROW hkk hbb
      have HS := Lib.hid hset2
      have HW3 := Lib.hid hW3
      have HK3 := Lib.hid hk3
      have HB3 := Lib.hid hb3
      clear hset2 hW3 hk3 hb3
      generalize gI (decTo row s E2 m) (gI row m).toNat = z at hcell hsm HS HW3 HK3 HB3
      generalize gI row m = t at hc2 hcell hfree hxr HS HW3 HK3 HB3
      obtain ⟨hx0, hx1⟩ := hxr
      obtain ⟨hs0, hs1⟩ := hsm
      go_wp2
      go_roundw
      case rel => exact ⟨m + 1, by omega, by go_num, HW3.out, HS.out, HK3.out, HB3.out⟩
      case measure => simp [intOf]; omega
    · have hm' : m = row.length := by omega
      subst hm'
      go_wp2
      exact ⟨rfl, .tuple #[], (by simp [results, Try.results160, go_sem]), rfl, hoW, hoE, hkk, hbb⟩
end Go.Proofs.Ythpnmkghjnipoaa

/- Contract: slices.Reverse of an owned slice of integers. -/
namespace Go.Proofs.Ythpnmkghjnipoaa
open Go.RowKit

theorem gI_mapr {n i : Nat} {f : Nat → Int} (h : i < n) : gI ((List.range n).map f) i = f i := by rw [gI_lt (by simpa using h)]; simp
theorem gI_rev {xs : List Int} {i : Nat} (h : i < xs.length) : gI xs.reverse i = gI xs (xs.length - 1 - i) := by
  rw [gI_lt (by simpa using h), gI_lt (by omega), List.getElem_reverse]

/-- The list after k exchanges. -/
def revTo (xs : List Int) (k : Nat) : List Int := (List.range xs.length).map fun i => if i < k ∨ xs.length ≤ i + k then gI xs (xs.length - 1 - i) else gI xs i
@[simp] theorem revTo_len (xs : List Int) (k : Nat) : (revTo xs k).length = xs.length := by simp [revTo]
theorem gI_revTo {xs : List Int} {k i : Nat} (h : i < xs.length) : gI (revTo xs k) i = if i < k ∨ xs.length ≤ i + k then gI xs (xs.length - 1 - i) else gI xs i := gI_mapr h
theorem revTo_zero (xs : List Int) : revTo xs 0 = xs := by
  apply gI_ext (by simp)
  intro i hi
  rw [revTo_len] at hi
  rw [gI_revTo hi, if_neg (by omega)]
theorem revTo_end {xs : List Int} {k : Nat} (h : xs.length ≤ 2 * k + 1) : revTo xs k = xs.reverse := by
  apply gI_ext (by simp)
  intro i hi
  rw [revTo_len] at hi
  rw [gI_revTo hi, gI_rev hi]
  by_cases c : i < k ∨ xs.length ≤ i + k
  · rw [if_pos c]
  · rw [if_neg c]; congr 1; omega
theorem revTo_step {xs : List Int} {k j : Nat} (h : k < j) (hj : j + k + 1 = xs.length) : ((revTo xs k).set k (gI (revTo xs k) j)).set j (gI (revTo xs k) k) = revTo xs (k + 1) := by
  apply gI_ext (by simp)
  intro i hi
  have hi : i < xs.length := by simpa using hi
  rw [gI_revTo hi]
  by_cases e : j = i
  · subst e
    rw [gI_set_at (by simp; omega), gI_revTo (by omega), if_neg (by omega), if_pos (by omega)]
    congr 1; omega
  · rw [gI_set_ne e]
    by_cases e2 : k = i
    · subst e2
      rw [gI_set_at (by simp; omega), gI_revTo (by omega), if_neg (by omega), if_pos (by omega)]
      congr 1; omega
    · rw [gI_set_ne e2, gI_revTo hi]
      by_cases c : i < k ∨ xs.length ≤ i + k
      · rw [if_pos c, if_pos (by omega)]
      · rw [if_neg c, if_neg (by omega)]

set_option maxHeartbeats 1600000 in
theorem reverse_c (v : Value) (xs : List Int) (base : Nat) (w : World) (h : OwnI w base v xs) (hn : xs.length ≤ 1000000) :
    Calls Try.prog 171 #[v] w fun e w' => e = .returned (.tuple #[]) ∧ OwnI w' base v xs.reverse ∧ Keeps (fun k => v.ownBlock = some k) w w' := by
  rcases h.shape with ⟨rfl, rfl⟩ | ⟨g, cap, rfl, h1, h2, h3, h4⟩
  · go_enter Try.func171, Try.ntmps171
    go_wp2
    go_loop [2, 3] (fun i j => i = .int .i64 0 ∧ j = .int .i64 (-1)) (fun _ _ => 0)
    case atStart => exact ⟨rfl, rfl⟩
    case round =>
      obtain ⟨rfl, rfl⟩ := hrel
      go_wp2
      go_end0
      exact ⟨rfl, h, Keeps.refl _ _⟩
  · go_enter Try.func171, Try.ntmps171
    go_wp2
    go_loopw [2, 3] (fun i j wr => ∃ k : Nat, 2 * k ≤ xs.length + 1 ∧ i = .int .i64 k ∧ j = .int .i64 ((xs.length : Int) - 1 - k) ∧ OwnI wr base (.slice (some ⟨g, 0, none⟩) xs.length cap) (revTo xs k) ∧ Keeps (fun k => k = g) w wr) (fun i _ _ => xs.length + 1 - (intOf i).toNat)
    case atStart => exact ⟨0, by omega, rfl, by simp, by rw [revTo_zero]; exact h, Keeps.refl _ _⟩
    case round =>
      obtain ⟨k, hk, rfl, rfl, hown, hkp⟩ := hrel
      by_cases hlt : (k : Int) < (xs.length : Int) - 1 - k
      · obtain ⟨j, hj⟩ : ∃ j : Nat, (xs.length : Int) - 1 - k = j := ⟨((xs.length : Int) - 1 - k).toNat, by omega⟩
        have hjk : k < j := by omega
        have hjl : j + k + 1 = xs.length := by omega
        have hO : OwnI wr base (.slice (some ⟨g, 0, none⟩) (revTo xs k).length cap) (revTo xs k) := by rw [revTo_len]; exact hown
        have ck := hO.cell k (by simp; omega)
        have cj := hO.cell j (by simp; omega)
        have fk := hO.free k
        have fj := hO.free j
        have s1 := hO.set k (gI (revTo xs k) j)
        have s2 := Own.set (xs := (revTo xs k).set k (gI (revTo xs k) j)) (by rw [List.length_set]; exact s1) j (gI (revTo xs k) k)
        rw [revTo_step hjk hjl, List.length_set, revTo_len] at s2
        have hkp2 := (hkp.setCell (p := ⟨g, k, none⟩) rfl (.int .i64 (gI (revTo xs k) j))).setCell (p := ⟨g, j, none⟩) rfl (.int .i64 (gI (revTo xs k) k))
        have HS := Lib.hid s2
        have HK := Lib.hid hkp2
        generalize gI (revTo xs k) k = x at ck HS HK
        generalize gI (revTo xs k) j = y at cj HS HK
        have i1 : (k : Int) < (xs.length : Int) := by omega
        have i2 : (j : Int) < (xs.length : Int) := by omega
        have hlt' : (k : Int) < (j : Int) := by omega
        rw [hj]
        clear s1 s2 hkp2 hO hown hlt hkp
        go_wp2_with fail
        go_region
        go_wp2
        go_roundw
        case rel => exact ⟨k + 1, by omega, by go_num, by rw [← hj]; push_cast; congr 1; omega, HS.out, HK.out.trans (Keeps.of_below (Below.refl _ _).drew)⟩
        case measure => simp [intOf]; omega
      · go_wp2
        go_end0
        rw [revTo_end (by omega)] at hown
        exact ⟨rfl, hown, hkp.mono (fun k hk => by simp [Value.ownBlock, hk])⟩
end Go.Proofs.Ythpnmkghjnipoaa

/- Contracts: PathOf. -/
namespace Go.Proofs.Ythpnmkghjnipoaa
open Go.RowKit

/-- 'append(s, t...)', both slices the call's own. -/
theorem wpList_extendO {P : Program} {w : World} {ops : Array Oper} {rest : List Oper} {o : Oper} {a : Act} {Q : Exit → Act → World → Prop} (hgd : o.guard = none) (s x : Operand) (t : TypeId)
    (ho : o.op = .call { callee := .builtin .append, args := #[s, x], argTypes := #[t, t] })
    (base base' : Nat) (e : TypeId) (i : TypeInfo) (ht : P.underlying t = some (.slice e)) (hi : P.info? e = some i) (hz : i.zero = some (.int .i64 0)) (hsize : i.size = 1) (hby : i.bytes = 8)
    (v u : Value) (xs ys : List Int) (hs : a.eval s = v) (hown : Own e w base v xs) (hx : a.eval x = u) (hu : Own e w base' u ys)
    (hlen : xs.length + ys.length ≤ 1000000000000) (hbase : base ≤ w.heap.size)
    (h : ∀ v' w', Own e w' base v' (xs ++ ys) → Keeps (fun k => v.ownBlock = some k) w w' → wpList P ops Q rest (a.put o.dst v') w') :
    wpList P ops Q (o :: rest) a w := by
  rcases hu.shape with ⟨rfl, rfl⟩ | ⟨g, c, rfl, h1, h2, h3, h4⟩
  · refine wpList_append_own_none hgd s x t ho base e i 1 ht hi v xs.length (xs.map (Value.int .i64)) hs hown hx ?_
    exact h v w (by rw [List.append_nil]; exact hown) (Keeps.refl _ _)
  · refine wpList_append_own _ hgd s x t ho base e i (.int .i64 0) 1 8 ht hi hz hsize hby rfl (by decide) v xs.length (xs.map (Value.int .i64)) hs hown ⟨g, 0, none⟩ ys.length c (ys.map (Value.int .i64)) hx (by simp) ?_ ?_ ?_ ?_ hbase ?_
    · intro j y hj
      have hjl : j < ys.length := by
        have := (List.getElem?_eq_some_iff.1 hj).1
        simpa using this
      have hy : y = .int .i64 (gI ys j) := by
        rw [List.getElem?_map, gI_some hjl] at hj
        simpa using hj.symm
      rw [Addr.add_lit, Nat.zero_add, hu.cell j hjl, hy]
    · intro y hy; simp at hy; obtain ⟨n, _, rfl⟩ := hy; rfl
    · unfold maxLen; omega
    · omega
    · intro v' w' ho' hg _
      refine h v' w' ?_ (Keeps.of_grown hg)
      unfold Own
      rw [List.length_append, List.map_append]
      exact ho'

/-- A literal of one number, the call's own. -/
theorem own_one {e : TypeId} (w : World) (base : Nat) (hb : base ≤ w.heap.size) (x : Int) : Own e (w.alloc (.cells #[.int .i64 x] e)) base (.slice (some ⟨w.heap.size, 0, none⟩) 1 1) [x] :=
  World.ownsRow_lit w #[.int .i64 x] 1 hb (by unfold maxLen; omega) rfl

/-- The points from the root to the point i; f bounds their number. -/
def pathUp (P : List Int) : Nat → Int → List Int
  | 0, _ => []
  | f + 1, i => if i < 0 then [] else pathUp P f (gI P i.toNat) ++ [i]
theorem pathUp_neg (P : List Int) {f : Nat} {i : Int} (h : i < 0) : pathUp P f i = [] := by
  cases f <;> simp [pathUp, h]
theorem pathUp_succ (P : List Int) {f : Nat} {i : Int} (h : 0 ≤ i) : pathUp P (f + 1) i = pathUp P f (gI P i.toNat) ++ [i] := by
  rw [pathUp, if_neg (by omega)]
theorem pathUp_len (P : List Int) (f : Nat) (i : Int) : (pathUp P f i).length ≤ f := by
  induction f generalizing i with
  | zero => simp [pathUp]
  | succ f ih =>
    rw [pathUp]
    split
    · simp
    · rw [List.length_append]; have := ih (gI P i.toNat); simp; omega
def pathTo (P : List Int) (i : Int) : List Int := pathUp P (P.length + 1) i

/-- A round: the rest of the path is one shorter. -/
theorem path_step {P S W : List Int} (h : CluOk P S W) {k : Nat} {i : Int} (h0 : 0 ≤ i) (hi : i + k < (P.length : Int)) :
    pathUp P (P.length + 1 - k) i = pathUp P (P.length + 1 - (k + 1)) (gI P i.toNat) ++ [i] ∧ gI P i.toNat + ((k + 1 : Nat) : Int) < P.length ∧ -1 ≤ gI P i.toNat ∧ gI P i.toNat < i := by
  have hk : P.length + 1 - k = (P.length + 1 - (k + 1)) + 1 := by omega
  refine ⟨by rw [hk, pathUp_succ P h0], ?_⟩
  by_cases e : i = 0
  · subst e
    have := (clu_zero h).1
    rw [show ((0 : Int).toNat) = 0 from rfl, this]
    omega
  · obtain ⟨h1, h2, h3⟩ := clu_place h (k := i.toNat) (by omega) (by omega)
    omega

set_option maxHeartbeats 1000000 in
theorem pathOf_c (p s q : Value) (P S W : List Int) (n : Int) (w : World) (hp : Rd w p P) (hc : CluOk P S W) (hn0 : 0 ≤ n) (hn1 : n < (P.length : Int)) :
    Calls Try.prog 161 #[.agg #[p, s, q], .int .i64 n] w (RetI w (pathTo P n)) := by
  obtain ⟨i0, hi, hz0, hz1, hz2⟩ := info_parts Try.infoI
  have hx := Boxed.start w 47 #[p, s, q]
  obtain ⟨bp, op, kp, rfl, hpc1, hpc2, hpb, hpc⟩ := hp.cells hc.1.1
  have h24 := hc.1.2.1
  go_enter Try.func161, Try.ntmps161
  go_wp2
  go_loopw [1, 5] (fun c v wr => ∃ (k : Nat) (i : Int) (out : List Int), c = .int .i64 i ∧ out.length = k ∧ i + k < (P.length : Int) ∧ -1 ≤ i ∧ OwnI wr (w.heap.size + 1) v out ∧ Boxed w wr 47 #[.slice (some ⟨bp, op, none⟩) P.length kp, s, q] ∧ pathUp P (P.length + 1 - k) i ++ out.reverse = pathTo P n) (fun c _ _ => ((intOf c) + 1).toNat)
  case atStart => exact ⟨0, n, [], rfl, rfl, by omega, by omega, own_empty_at (w.alloc _) (w.heap.size + 1) (w.heap.size + 1) (by simp) (Nat.le_refl _), hx.alloc _, by simp [pathTo]⟩
  case round =>
    obtain ⟨k, i, out, rfl, hol, hik, hi1, hown, hbx, heq⟩ := hrel
    obtain ⟨wo, rfl⟩ : ∃ wo : World, wo = wr := ⟨_, rfl⟩
    by_cases hlt : 0 ≤ i
    · obtain ⟨hs1, hs2, hs3, hs4⟩ := path_step hc hlt hik
      have hsz := hbx.size
      have hcP : w.cell? ⟨bp, op + i.toNat, none⟩ = some (.int .i64 (gI P i.toNat)) := hpc _ (by omega)
      have hiP : i < (P.length : Int) := by omega
      rw [hs1] at heq
      have HE := Lib.hid heq
      clear hs1 heq
      go_wp2_with (at_builtin; refine wpList_push rfl (.tmp 14) (.tmp 16) 22 rfl (w.heap.size + 1) 2 i0 Try.underlying22 hi hz0 hz1 hz2 u5 out i rfl hown rfl (by omega) (by omega) ?_; intro v' w2 hown' hkp; have hbx' := hbx.push hown hkp; have c0 := hbx'.cell 0; have dP : w2.cell? ⟨bp, op + i.toNat, none⟩ = some (.int .i64 (gI P i.toNat)) := (hbx'.below.cell (p := ⟨bp, op + i.toNat, none⟩) hpb).trans hcP)
      go_roundw
      case rel => exact ⟨k + 1, gI P i.toNat, out ++ [i], rfl, by simp [hol], hs2, hs3, hown', hbx', by rw [List.reverse_append]; have := HE.out; rw [List.append_assoc] at this; exact this⟩
      case measure => simp [intOf]; omega
    · have hneg : i < 0 := by omega
      rw [pathUp_neg P hneg, List.nil_append] at heq
      have HE := Lib.hid heq
      clear heq
      go_wp2_with fail
      refine (reverse_c _ _ _ _ hown (by omega)).mono ?_
      rintro e w3 ⟨rfl, hown', hkp⟩
      have hbx' := hbx.push hown hkp
      rw [HE.out] at hown'
      go_wp2
      go_ret
      exact retI_mk (hown'.base_le (by omega)) hbx'.below

set_option maxHeartbeats 1000000 in
theorem l08Path_c (p s q : Value) (P S W : List Int) (n : Int) (w : World) (hp : Rd w p P) (hc : CluOk P S W) (hn0 : 0 ≤ n) (hn1 : n < (P.length : Int)) :
    Calls Try.prog 126 #[.agg #[p, s, q], .int .i64 n] w (RetI w (pathTo P n)) := by
  obtain ⟨i0, hi, hz0, hz1, hz2⟩ := info_parts Try.infoI
  have hx := Boxed.start w 47 #[p, s, q]
  obtain ⟨bp, op, kp, rfl, hpc1, hpc2, hpb, hpc⟩ := hp.cells hc.1.1
  have h24 := hc.1.2.1
  go_enter Try.func126, Try.ntmps126
  go_wp2
  go_loopw [1, 5] (fun c v wr => ∃ (k : Nat) (i : Int) (out : List Int), c = .int .i64 i ∧ out.length = k ∧ i + k < (P.length : Int) ∧ -1 ≤ i ∧ OwnI wr (w.heap.size + 1) v out ∧ Boxed w wr 47 #[.slice (some ⟨bp, op, none⟩) P.length kp, s, q] ∧ pathUp P (P.length + 1 - k) i ++ out = pathTo P n) (fun c _ _ => ((intOf c) + 1).toNat)
  case atStart => exact ⟨0, n, [], rfl, rfl, by omega, by omega, own_empty_at (w.alloc _) (w.heap.size + 1) (w.heap.size + 1) (by simp) (Nat.le_refl _), hx.alloc _, by simp [pathTo]⟩
  case round =>
    obtain ⟨k, i, out, rfl, hol, hik, hi1, hown, hbx, heq⟩ := hrel
    obtain ⟨wo, rfl⟩ : ∃ wo : World, wo = wr := ⟨_, rfl⟩
    by_cases hlt : 0 ≤ i
    · obtain ⟨hs1, hs2, hs3, hs4⟩ := path_step hc hlt hik
      have hsz := hbx.size
      have hcP : w.cell? ⟨bp, op + i.toNat, none⟩ = some (.int .i64 (gI P i.toNat)) := hpc _ (by omega)
      have hiP : i < (P.length : Int) := by omega
      rw [hs1] at heq
      have HE := Lib.hid heq
      clear hs1 heq
      have hal : Below wo.heap.size wo (wo.alloc (.cells #[.int .i64 i] 2)) := (Below.refl _ _).alloc (Nat.le_refl _) _
      have hbx2 := hbx.trans hal
      have hlit := own_one (e := 2) wo (w.heap.size + 1) (by omega) i
      have hou := hown.below hal (Nat.le_refl _)
      go_wp2_with (at_builtin; refine wpList_extendO rfl (.tmp 15) (.tmp 16) 22 rfl (w.heap.size + 1) (w.heap.size + 1) 2 i0 Try.underlying22 hi hz0 hz1 hz2 (.slice (some ⟨wo.heap.size, 0, none⟩) 1 1) u5 [i] out rfl hlit rfl hou (by simp; omega) (by simp; omega) ?_; intro v' w2 hown' hkp; have hbx' := hbx2.push hlit hkp; have c0 := hbx'.cell 0; have dP : w2.cell? ⟨bp, op + i.toNat, none⟩ = some (.int .i64 (gI P i.toNat)) := (hbx'.below.cell (p := ⟨bp, op + i.toNat, none⟩) hpb).trans hcP)
      go_roundw
      case rel => exact ⟨k + 1, gI P i.toNat, [i] ++ out, rfl, by simp [hol], hs2, hs3, hown', hbx', by have := HE.out; rw [List.append_assoc] at this; exact this⟩
      case measure => simp [intOf]; omega
    · have hneg : i < 0 := by omega
      rw [pathUp_neg P hneg, List.nil_append] at heq
      have HE := Lib.hid heq
      clear heq
      go_wp2
      go_ret
      rw [← HE.out]
      exact retI_mk (hown.base_le (by omega)) hbx.below

theorem isPoint_c (p s q : Value) (P : List Int) (n : Int) (w : World) (hp : Rd w p P) (h24 : P.length ≤ 24) :
    Calls Try.prog 127 #[.agg #[p, s, q], .int .i64 n] w fun e w' => e = .returned (.bool (inB n 0 ((P.length : Int) - 1))) ∧ Below w.heap.size w w' := by
  have hx := Boxed.start w 47 #[p, s, q]
  obtain ⟨a1, k1, rfl⟩ := hp.len0
  have c0 := hx.cell 0
  go_enter Try.func127, Try.ntmps127
  go_wp2_with fail
  refine (inRange_c n 0 ((P.length : Int) - 1) _).mono ?_
  rintro e w1 ⟨rfl, rfl⟩
  go_wp2
  go_ret
  exact ⟨rfl, hx.below⟩

/-- The point is one of the cluster. -/
def ptB (P S W : List Int) (n : Int) : Bool := cluB P S W && inB n 0 ((P.length : Int) - 1)
/-- The code of a cluster and a point. -/
def ptC (P S W : List Int) (n : Int) : Int := if cluB P S W then (if inB n 0 ((P.length : Int) - 1) then 0 else 2) else 1
theorem ptC_bad {P S W : List Int} {n : Int} (h : cluB P S W = false) : ptC P S W n = 1 := by simp [ptC, h]
theorem ptC_out {P S W : List Int} {n : Int} (h : cluB P S W = true) (h2 : inB n 0 ((P.length : Int) - 1) = false) : ptC P S W n = 2 := by simp [ptC, h, h2]
theorem ptC_ok {P S W : List Int} {n : Int} (h : cluB P S W = true) (h2 : inB n 0 ((P.length : Int) - 1) = true) : ptC P S W n = 0 := by simp [ptC, h, h2]
theorem ptB_bad {P S W : List Int} {n : Int} (h : cluB P S W = false) : ptB P S W n = false := by simp [ptB, h]
theorem ptB_out {P S W : List Int} {n : Int} (h2 : inB n 0 ((P.length : Int) - 1) = false) : ptB P S W n = false := by simp [ptB, h2]
theorem ptB_ok {P S W : List Int} {n : Int} (h : cluB P S W = true) (h2 : inB n 0 ((P.length : Int) - 1) = true) : ptB P S W n = true := by simp [ptB, h, h2]

theorem l08Point_c (p s q : Value) (P S W : List Int) (n : Int) (w : World) (hp : Rd w p P) (hs : Rd w s S) (hq : Rd w q W) :
    Calls Try.prog 124 #[.agg #[p, s, q], .int .i64 n] w fun e w' => e = .returned (.int .i64 (ptC P S W n)) ∧ Below w.heap.size w w' := by
  have hx := Boxed.start w 47 #[p, s, q]
  obtain ⟨a1, k1, rfl⟩ := hp.len0
  cases hc : cluB P S W
  · rw [ptC_bad hc]
    go_enter Try.func124, Try.ntmps124
    go_wp2_with fail
    refine (l07Is_c _ _ _ P S W _ (hx.rd hp) (hx.rd hs) (hx.rd hq)).mono ?_
    rintro e w1 ⟨rfl, hb⟩
    rw [hc]
    go_wp2
    go_ret
    exact ⟨rfl, (hx.trans hb).below⟩
  · have h24 := (cluB_iff.1 hc).1.2.1
    cases hb2 : inB n 0 ((P.length : Int) - 1)
    all_goals
      first | rw [ptC_out hc hb2] | rw [ptC_ok hc hb2]
      go_enter Try.func124, Try.ntmps124
      go_wp2_with fail
      refine (l07Is_c _ _ _ P S W _ (hx.rd hp) (hx.rd hs) (hx.rd hq)).mono ?_
      rintro e w1 ⟨rfl, hb⟩
      rw [hc]
      have hx1 := hx.trans hb
      have c0 := hx1.cell 0
      go_wp2_with fail
      refine (l01In_c n 0 ((P.length : Int) - 1) _).mono ?_
      rintro e w2 ⟨rfl, rfl⟩
      rw [hb2]
      go_wp2
      go_ret
      exact ⟨rfl, hx1.below⟩

end Go.Proofs.Ythpnmkghjnipoaa

/- One number put behind an owned slice, and where the result lies. No program in sight. -/
namespace Go.Proofs.Ythpnmkghjnipoaa
open Go.RowKit

theorem wpList_pushL {P : Program} {w : World} {ops : Array Oper} {rest : List Oper} {o : Oper} {a : Act} {Q : Exit → Act → World → Prop} (hgd : o.guard = none) (s x : Operand) (t : TypeId)
    (ho : o.op = .call { callee := .builtin .append, args := #[s, x], argTypes := #[t, t] })
    (base : Nat) (e : TypeId) (i : TypeInfo) (ht : P.underlying t = some (.slice e)) (hi : P.info? e = some i) (hz : i.zero = some (.int .i64 0)) (hsize : i.size = 1) (hby : i.bytes = 8)
    (v : Value) (xs : List Int) (y : Int) (hs : a.eval s = v) (hown : Own e w base v xs) (hx : a.eval x = .slice (some ⟨w.heap.size, 0, none⟩) 1 1)
    (hlen : xs.length ≤ 1000000000000) (hbase : base ≤ w.heap.size)
    (h : ∀ g cap w', Own e w' base (.slice (some ⟨g, 0, none⟩) (xs.length + 1) cap) (xs ++ [y]) → Keeps (fun k => v.ownBlock = some k) w w' → (v.ownBlock = some g ∨ w.heap.size ≤ g) → wpList P ops Q rest (a.put o.dst (.slice (some ⟨g, 0, none⟩) (xs.length + 1) cap)) w') :
    wpList P ops Q (o :: rest) a (w.alloc (.cells #[.int .i64 y] e)) := by
  refine wpList_append_lies _ hgd s x t ho base e i (.int .i64 0) 1 8 ht hi hz hsize hby rfl (by decide) v xs.length (xs.map (Value.int .i64)) hs (World.ownsRow.alloc hown _) ⟨w.heap.size, 0, none⟩ 1 1 [.int .i64 y] hx rfl (cell_one_new _ _ _) ?_ (by omega) ?_ ?_ ?_ _ rfl ?_
  · intro u hu; simp at hu; subst hu; rfl
  · unfold maxLen; omega
  · omega
  · simp; omega
  · intro g cap w' ho' hg hl _
    refine h g cap w' (own_append ho') ?_ (hl.imp id (fun h => by rw [h]; simp))
    have h1 : Keeps (fun k => v.ownBlock = some k) w (w.alloc (.cells #[.int .i64 y] e)) := Keeps.of_below ((Below.refl _ _).alloc (Nat.le_refl _) _)
    exact h1.trans (Keeps.of_grown hg)
end Go.Proofs.Ythpnmkghjnipoaa

/- Contracts: spec.l08Least: the least point with a negative excess. -/
namespace Go.Proofs.Ythpnmkghjnipoaa
open Go.RowKit

set_option maxHeartbeats 1000000 in
theorem l08Least_c (p s q v : Value) (P S W L : List Int) (w : World) (hp : Rd w p P) (hs : Rd w s S) (hv : Rd w v L) (hq : ∃ a n k, q = .slice a n k) (hc : CluOk P S W) (hl : L.length = P.length) (hL : ∀ i, i < L.length → -1000000000000 ≤ gI L i ∧ gI L i ≤ 1000000000000) :
    Calls Try.prog 168 #[.agg #[p, s, q], v] w fun e w' => e = .returned (.int .i64 (leastTo (exL P S L) P.length)) ∧ Below w.heap.size w w' := by
  have hx := Boxed.start w 47 #[p, s, q]
  obtain ⟨a1, k1, rfl⟩ := hp.len0
  obtain ⟨a2, k2, rfl⟩ := hs.len0
  obtain ⟨a3, n3, k3, rfl⟩ := hq
  obtain ⟨a4, k4, rfl⟩ := hv.len0
  have HL := Lib.hid hl
  have HC := Lib.hid hc
  have HB := Lib.hid hL
  have h0 := hc.1.1
  have h24 := hc.1.2.1
  clear hl hc hL
  have c0 := hx.cell 0
  have c1 := hx.cell 1
  have c2 := hx.cell 2
  go_enter Try.func168, Try.ntmps168
  go_wp2_with fail
  refine (l07Excess_c _ _ _ _ P S W L _ (hx.rd hp) (hx.rd hs) (hx.rd hv) HC.out HL.out HB.out).mono ?_
  rintro e w1 ⟨a, k, rfl, ho, hb⟩
  have hEl : (exTo (proxL P S) L P.length).length = P.length := by rw [exTo_len]; exact HL.out
  have hEX : exL P S L = exTo (proxL P S) L P.length := rfl
  have HEX := Lib.hid hEX
  have hb1 := (hx.trans hb).below
  obtain ⟨ge, gc, hge, hge0, hge1, hge2, hge3⟩ := Own.pos ho (by rw [hEl]; exact h0)
  injection hge with hgea hgeb hgec
  subst hgea hgec
  clear hgeb hEX c0 c1 c2
  have hcell : ∀ i, i < P.length → w1.cell? ⟨ge, i, none⟩ = some (.int .i64 (gI (exTo (proxL P S) L P.length) i)) := fun i hi => ho.cell i (by rw [hEl]; exact hi)
  rw [hEl]
  clear ho hge2
  generalize exTo (proxL P S) L P.length = E at HEX hcell hEl
  clear hEl
  have hres : ∀ m, leastTo E P.length = m → leastTo (exL P S L) P.length = m := fun m h => by rw [HEX.out]; exact h
  have HR := Lib.hid hres
  clear hres
  go_wp2
  go_loop [6] (fun i => ∃ j : Nat, j ≤ P.length ∧ i = .int .i64 j ∧ ∀ t, t < j → 0 ≤ gI E t) (fun i => P.length - (intOf i).toNat)
  case atStart => exact ⟨0, Nat.zero_le _, rfl, fun t ht => absurd ht (by omega)⟩
  case round =>
    obtain ⟨j, hj, rfl, hg⟩ := hrel
    by_cases hlt : j < P.length
    · have hji : (j : Int) < (P.length : Int) := by omega
      have dE := hcell j hlt
      have HG := Lib.hid hg
      by_cases hneg : gI E j < 0
      · have HF := Lib.hid (HR.out _ (leastTo_at hlt hneg hg))
        clear hg hcell
        generalize gI E j = x at dE hneg
        go_wp2
        go_ret
        exact ⟨ret_int HF.out.symm, hb1⟩
      · have HF : Hid (∀ t, t < j + 1 → 0 ≤ gI E t) := Lib.hid (fun t ht => by
          by_cases e : t = j
          · subst e; omega
          · exact hg t (by omega))
        clear hg hcell
        generalize gI E j = x at dE hneg
        go_wp2
        go_round
        case rel => exact ⟨j + 1, by omega, by go_num, HF.out⟩
        case measure => simp [intOf]; omega
    · have hj' : j = P.length := by omega
      subst hj'
      have HF := Lib.hid (HR.out _ (leastTo_none hg))
      clear hg
      go_wp2
      go_ret
      exact ⟨ret_int HF.out.symm, hb1⟩
end Go.Proofs.Ythpnmkghjnipoaa

/- Contracts: spec.l08Step: a point is unloaded. -/
namespace Go.Proofs.Ythpnmkghjnipoaa
open Go.RowKit

/-- The weights while the point p is raised by s: the points before t are done. -/
def spTo (P S L : List Int) (p : Nat) (s : Int) (t : Nat) : List Int := lF P.length fun i => gI L i + (if i = p then s else 0) - (if i < t then nB P S i p * s else 0)
@[simp] theorem spTo_len (P S L : List Int) (p : Nat) (s : Int) (t : Nat) : (spTo P S L p s t).length = P.length := by simp [spTo]
theorem gI_spTo {P S L : List Int} {p : Nat} {s : Int} {t i : Nat} (h : i < P.length) : gI (spTo P S L p s t) i = gI L i + (if i = p then s else 0) - (if i < t then nB P S i p * s else 0) := gI_lF h
theorem spTo_zero {P S L : List Int} {p : Nat} {s : Int} (hp : p < P.length) (hl : L.length = P.length) : L.set p (gI L p + s) = spTo P S L p s 0 := by
  apply gI_ext (by simp [hl])
  intro i hi
  have hi' : i < P.length := by simp at hi; omega
  rw [gI_spTo hi', gI_set, if_neg (show ¬ i < 0 by omega)]
  by_cases e : p = i
  · subst e; rw [if_pos ⟨rfl, by omega⟩, if_pos rfl]; omega
  · rw [if_neg (fun h => e h.1), if_neg (fun h => e h.symm)]; omega
theorem spTo_yes {P S L : List Int} {p : Nat} {s : Int} {t : Nat} (ht : t < P.length) (hn : nearB P S t (p : Int) = true) : (spTo P S L p s t).set t (gI L t + (if t = p then s else 0) - s) = spTo P S L p s (t + 1) := by
  have h1 : nB P S t p = 1 := by unfold nB; rw [if_pos hn]
  apply gI_ext (by simp)
  intro i hi
  have hi' : i < P.length := by simpa using hi
  rw [gI_set, gI_spTo hi', gI_spTo hi', spTo_len]
  by_cases e : t = i
  · subst e; rw [if_pos ⟨rfl, ht⟩, if_pos (show t < t + 1 by omega), h1]; omega
  · rw [if_neg (fun h => e h.1)]
    by_cases e2 : i < t
    · rw [if_pos e2, if_pos (show i < t + 1 by omega)]
    · rw [if_neg e2, if_neg (show ¬ i < t + 1 by omega)]
theorem spTo_no {P S L : List Int} {p : Nat} {s : Int} {t : Nat} (hn : nearB P S t (p : Int) = false) : spTo P S L p s t = spTo P S L p s (t + 1) := by
  have h1 : nB P S t p = 0 := by unfold nB; rw [if_neg (by simp [hn])]
  apply gI_ext (by simp)
  intro i hi
  have hi' : i < P.length := by simpa using hi
  rw [gI_spTo hi', gI_spTo hi']
  by_cases e : t = i
  · subst e; rw [if_neg (show ¬ t < t by omega), if_pos (show t < t + 1 by omega), h1]; omega
  · by_cases e2 : i < t
    · rw [if_pos e2, if_pos (show i < t + 1 by omega)]
    · rw [if_neg e2, if_neg (show ¬ i < t + 1 by omega)]
theorem spTo_all (P S L : List Int) (p : Nat) (s : Int) : spTo P S L p s P.length = lF P.length (stF P S (fun i => gI L i) p s) := by
  apply gI_ext (by simp)
  intro i hi
  have hi' : i < P.length := by simpa using hi
  rw [gI_spTo hi', gI_lF hi', if_pos hi']
  rfl
theorem nB_near (P S : List Int) (t p : Nat) : nB P S t p = if nearB P S t (p : Int) then 1 else 0 := rfl
theorem upS_tdiv {e h : Int} (he : e < 0) (hh : 0 ≤ h) : Int.tdiv (-e + h) (1 + h) = upS e h := Int.tdiv_eq_ediv_of_nonneg (by omega)
theorem upS_bd {e h : Int} (he : e < 0) (hh : 0 ≤ h) : 1 ≤ upS e h ∧ upS e h ≤ -e + h := by
  refine ⟨upS_pos he hh, ?_⟩
  unfold upS
  exact Int.ediv_le_self _ (by omega)

set_option maxRecDepth 100000 in
set_option maxHeartbeats 4000000 in
theorem l08Step_c (p s q : Value) (a3 : Option Addr) (n3 k3 : Nat) (v : Value) (P S W L : List Int) (t : Nat) (w : World) (hp : Rd w p P) (hs : Rd w s S) (hqe : q = .slice a3 n3 k3) (hv : Rd w v L) (hc : CluOk P S W) (hl : L.length = P.length)
    (hL : ∀ i, i < L.length → -1000000000000 ≤ gI L i ∧ gI L i ≤ 1000000000000) (ht : t < P.length) (hneg : gI (exL P S L) t < 0) :
    Calls Try.prog 169 #[.agg #[p, s, q], v, .int .i64 (t : Int)] w (RetL P.length w (stL P S L t)) := by
  subst hqe
  have hx := Boxed.start w 47 #[p, s, .slice a3 n3 k3]
  obtain ⟨a1, k1, rfl⟩ := hp.len0
  obtain ⟨a2, k2, rfl⟩ := hs.len0
  obtain ⟨a4, k4, rfl⟩ := hv.len0
  have HL := Lib.hid hl
  have HC := Lib.hid hc
  have HB := Lib.hid hL
  have h0 := hc.1.1
  have h24 := hc.1.2.1
  have hcl1 := Lib.hid (show S.length = P.length from hc.1.2.2.1)
  have hLp : 0 < L.length := by omega
  have hLn : L.length ≤ 1000000 := by omega
  have hE := exF_bd (P := P) (S := S) (A := fun i => gI L i) (b := 1000000000000) h24 (fun i hi => hL i (by omega)) ht
  rw [← exL_at hc hl ht] at hE
  have hh := hB_bd P S t h24
  have hEl : (exTo (proxL P S) L P.length).length = P.length := by rw [exTo_len]; exact hl
  have hEe : gI (exTo (proxL P S) L P.length) t = gI (exL P S L) t := rfl
  have hEe := Lib.hid hEe
  have HST := Lib.hid (show stL P S L t = spTo P S L t (upS (gI (exL P S L) t) (hB P S t)) P.length from (spTo_all _ _ _ _ _).symm)
  have HEl := Lib.hid hEl
  clear hl hc hL hEl
  have hti : (t : Int) < (P.length : Int) := by omega
  have ht0 : (0 : Int) ≤ (t : Int) := Int.natCast_nonneg _
  go_enter Try.func169, Try.ntmps169
  go_wp2_with fail
  refine (l01Own_c _ L _ (hx.rd hv) hLp hLn).mono ?_
  rintro e w1 ⟨a, k, rfl, ho, hb⟩
  obtain ⟨g, gc, hge, hg0, hg1, _, _⟩ := Own.pos ho hLp
  injection hge with hgea hgeb hgec
  subst hgea hgec
  clear hgeb
  rw [HL.out] at ho hv ⊢
  have hx1 := hx.trans hb
  have hgw : w.heap.size + 1 ≤ g := by simpa using hg0
  have ho := ho.base_le (base' := w.heap.size + 1) (by simp)
  have c0 := hx1.cell 0
  have c1 := hx1.cell 1
  have c2 := hx1.cell 2
  clear hg0 hg1 hx hb
  go_wp2_with fail
  refine (l07Excess_c _ _ _ _ P S W L _ (hx1.rd hp) (hx1.rd hs) (hx1.rd hv) HC.out HL.out HB.out).mono ?_
  rintro e w2 ⟨b, kb, rfl, hoe, hb2⟩
  obtain ⟨ge, gce, hge, hge0, hge1, _, _⟩ := Own.pos hoe (by rw [HEl.out]; exact h0)
  injection hge with hgea hgeb hgec
  subst hgea hgec
  clear hgeb
  have de := hoe.cell t (by rw [HEl.out]; exact ht)
  rw [hEe.out] at de
  rw [HEl.out]
  have ho2 := ho.below hb2 (Nat.le_refl _)
  have hx2 := hx1.trans hb2
  clear ho hx1 hoe hb2 c0 c1 c2 hge0 hge1
  generalize gI (exL P S L) t = ex at hneg hE de HST
  obtain ⟨hE1, hE2⟩ := hE
  go_wp2
  go_loopw [8, 10] (fun hv jv wr => ∃ j : Nat, j ≤ P.length ∧ jv = .int .i64 j ∧ hv = .int .i64 (sumTo (fun j => nB P S j t) j) ∧ OwnI wr (w.heap.size + 1) (.slice (some ⟨g, 0, none⟩) P.length k) L ∧ Boxed w wr 47 #[.slice a1 P.length k1, .slice a2 S.length k2, .slice a3 n3 k3]) (fun _ jv _ => P.length - (intOf jv).toNat)
  case atStart => exact ⟨0, Nat.zero_le _, rfl, rfl, ho2, hx2⟩
  case round =>
    obtain ⟨j, hj, rfl, rfl, ho3, hx3⟩ := hrel
    clear ho2 hx2 de
    obtain ⟨wo, rfl⟩ : ∃ wo : World, wo = wr := ⟨_, rfl⟩
    by_cases hjt : j < P.length
    · have hji : (j : Int) < (P.length : Int) := by omega
      have c0 := hx3.cell 0
      have c1 := hx3.cell 1
      have c2 := hx3.cell 2
      have hsb := sumTo_bound (f := fun j => nB P S j t) (n := j) 0 1 (fun i _ => by rcases nB_01 P S i t with h | h <;> omega)
      have HS := Lib.hid (sumTo_succ (fun j => nB P S j t) j)
      go_wp2_with fail
      refine (l07Near_c _ _ _ P S (j : Int) (t : Int) _ (hx3.rd hp) (hx3.rd hs) hcl1.out (by omega) (by omega)).mono ?_
      rintro e w3 ⟨rfl, hb3⟩
      have ho4 := ho3.below hb3 (Nat.le_refl _)
      have hx4 := hx3.trans hb3
      clear c0 c1 c2 ho3 hx3
      have e0 : (j : Int).toNat = j := by omega
      rw [e0]
      clear e0
      cases hnb : nearB P S j (t : Int)
      · have h1 := Lib.hid (show nB P S j t = 0 by rw [nB_near, hnb]; rfl)
        go_wp2
        go_roundw
        case rel => exact ⟨j + 1, by omega, by go_num, by rw [HS.out, h1.out, Int.add_zero], ho4, hx4⟩
        case measure => simp [intOf]; omega
      · have h1 := Lib.hid (show nB P S j t = 1 by rw [nB_near, hnb]; rfl)
        generalize sumTo (fun j => nB P S j t) j = z at hsb HS
        have z1 : 0 ≤ z := by omega
        have z2 : z ≤ 100 := by omega
        clear hsb
        go_wp2
        go_roundw
        case rel => exact ⟨j + 1, by omega, by go_num, by rw [HS.out, h1.out], ho4, hx4⟩
        case measure => simp [intOf]; omega
    · have hj' : j = P.length := by omega
      subst hj'
      have hBe : sumTo (fun j => nB P S j t) P.length = hB P S t := rfl
      rw [hBe]
      clear hBe
      have HTD := Lib.hid (upS_tdiv hneg hh.1)
      have hub := upS_bd hneg hh.1
      have hLt := HB.out t (by rw [HL.out]; exact ht)
      have hO : OwnI wo (w.heap.size + 1) (.slice (some ⟨g, 0, none⟩) L.length k) L := by rw [HL.out]; exact ho3
      have dz := hO.cell t (by rw [HL.out]; exact ht)
      have fz := hO.free t
      have hset := hO.set t (gI L t + upS ex (hB P S t))
      rw [HL.out, spTo_zero (S := S) ht HL.out] at hset
      have hk5 : Keeps (fun b => b = g) wo (wo.setCell ⟨g, t, none⟩ (.int .i64 (gI L t + upS ex (hB P S t)))) := (Keeps.refl (fun b => b = g) _).setCell (p := ⟨g, t, none⟩) rfl _
      have hx5 := hx3.wrote (hk5.mono (fun b hb => by omega))
      have HS := Lib.hid hset
      have HX := Lib.hid hx5
      clear hset hx5 hk5 hO ho3 hx3
      generalize hB P S t = hb at hh HTD hub HS HX HST
      generalize gI L t = z at dz hLt HS HX
      obtain ⟨hh1, hh2⟩ := hh
      obtain ⟨u1, u2⟩ := hub
      obtain ⟨z1, z2⟩ := hLt
      have w1' : IntKind.i64.wrap (-ex) = -ex := IntWalk.i64_in _ (by omega)
      have w2' : IntKind.i64.wrap (-ex + hb) = -ex + hb := IntWalk.i64_in _ (by omega)
      have w3' : IntKind.i64.wrap (1 + hb) = 1 + hb := IntWalk.i64_in _ (by omega)
      have w5' : ¬ (1 + hb) = 0 := by omega
      have w4' : IntKind.i64.wrap (Int.tdiv (-ex + hb) (1 + hb)) = upS ex hb := by rw [HTD.out]; exact IntWalk.i64_in _ (by omega)
      clear HTD
      generalize upS ex hb = sv at u1 u2 w4' HS HX HST
      have s1 : sv ≤ 100000000000000 := by omega
      clear u2
      go_wp2
      go_loopw [12] (fun jv wr => ∃ j : Nat, j ≤ P.length ∧ jv = .int .i64 j ∧ OwnI wr (w.heap.size + 1) (.slice (some ⟨g, 0, none⟩) P.length k) (spTo P S L t sv j) ∧ Boxed w wr 47 #[.slice a1 P.length k1, .slice a2 S.length k2, .slice a3 n3 k3]) (fun jv _ => P.length - (intOf jv).toNat)
      case atStart => exact ⟨0, Nat.zero_le _, rfl, HS.out, HX.out⟩
      case round =>
        obtain ⟨j, hj, rfl, ho6, hx6⟩ := hrel
        clear HS HX dz fz
        obtain ⟨wq, rfl⟩ : ∃ wq : World, wq = wr := ⟨_, rfl⟩
        by_cases hjt : j < P.length
        · have hji : (j : Int) < (P.length : Int) := by omega
          have c0 := hx6.cell 0
          have c1 := hx6.cell 1
          have c2 := hx6.cell 2
          go_wp2_with fail
          refine (l07Near_c _ _ _ P S (j : Int) (t : Int) _ (hx6.rd hp) (hx6.rd hs) hcl1.out (by omega) (by omega)).mono ?_
          rintro e w3 ⟨rfl, hb3⟩
          have ho7 := ho6.below hb3 (Nat.le_refl _)
          have hx7 := hx6.trans hb3
          clear c0 c1 c2 ho6 hx6
          have e0 : (j : Int).toNat = j := by omega
          rw [e0]
          clear e0
          cases hnb : nearB P S j (t : Int)
          · have h1 := Lib.hid (spTo_no (L := L) (s := sv) hnb)
            go_wp2
            go_roundw
            case rel => exact ⟨j + 1, by omega, by go_num, by rw [← h1.out]; exact ho7, hx7⟩
            case measure => simp [intOf]; omega
          · have h1 := Lib.hid (spTo_yes (L := L) (s := sv) hjt hnb)
            have hlj := HB.out j (by rw [HL.out]; exact hjt)
            have hO7 : OwnI w3 (w.heap.size + 1) (.slice (some ⟨g, 0, none⟩) (spTo P S L t sv j).length k) (spTo P S L t sv j) := by rw [spTo_len]; exact ho7
            have dy := hO7.cell j (by rw [spTo_len]; exact hjt)
            rw [gI_spTo hjt, if_neg (show ¬ j < j by omega), Int.sub_zero] at dy
            have fy := hO7.free j
            have hset7 := hO7.set j (gI L j + (if j = t then sv else 0) - sv)
            rw [h1.out, spTo_len] at hset7
            have hx8 := hx7.wrote (((Keeps.refl (fun b => b = g) w3).setCell (p := ⟨g, j, none⟩) rfl (.int .i64 (gI L j + (if j = t then sv else 0) - sv))).mono (fun b hb => by omega))
            have HS8 := Lib.hid hset7
            have HX8 := Lib.hid hx8
            generalize hy : gI L j + (if j = t then sv else 0) = y at dy HS8 HX8
            have y1 : -1000000000000 ≤ y := by rw [← hy]; split <;> omega
            have y2 : y ≤ 200000000000000 := by rw [← hy]; split <;> omega
            clear hset7 hx8 hy hO7 ho7 hx7
            go_wp2
            go_roundw
            case rel => exact ⟨j + 1, by omega, by go_num, HS8.out, HX8.out⟩
            case measure => simp [intOf]; omega
        · have hj' : j = P.length := by omega
          subst hj'
          rw [← HST.out] at ho6
          go_wp2
          go_ret
          exact ⟨_, _, rfl, ho6.base_le (by omega), hx6.below⟩
end Go.Proofs.Ythpnmkghjnipoaa

/- Contracts: spec.l08Unload: points are unloaded, the least one first, till the cluster is consistent. -/
namespace Go.Proofs.Ythpnmkghjnipoaa
open Go.RowKit

/-- The numbers that a slice reads. -/
def rdL (w : World) (v : Value) (n : Nat) : List Int := (List.range n).map fun i => match v with
  | .slice (some a) _ _ => intOf ((w.cell? ⟨a.block, a.off + i, none⟩).getD (.int .i64 0))
  | _ => 0
theorem rdL_eq {w : World} {v : Value} {xs : List Int} {n : Nat} (h : Rd w v xs) (hn : xs.length = n) : rdL w v n = xs := by
  subst hn
  obtain ⟨a, cap, rfl, h1, h2, h3⟩ := h
  apply gI_ext (by simp [rdL])
  intro i hi
  have hi' : i < xs.length := by simpa [rdL] using hi
  obtain ⟨b, off, rfl, hb, hc⟩ := h3 (by intro e; simp [e] at hi')
  rw [gI_lt hi]
  simp [rdL, hc i hi', intOf]

set_option maxRecDepth 100000 in
set_option maxHeartbeats 2000000 in
theorem l08Unload_c (p s q : Value) (a3 : Option Addr) (n3 k3 : Nat) (v : Value) (P S W W0 : List Int) (w : World) (hp : Rd w p P) (hs : Rd w s S) (hqe : q = .slice a3 n3 k3) (hv : Rd w v W0) (hc : CluOk P S W) (hl : W0.length = P.length) (hu : UnlOk P S fun i => gI W0 i) :
    Calls Try.prog 147 #[.agg #[p, s, q], v] w fun e w' => ∃ a k, e = .returned (.slice a P.length k) ∧ Rd w' (.slice a P.length k) (unlL P S W0) ∧ Below w.heap.size w w' := by
  subst hqe
  have hx := Boxed.start w 47 #[p, s, .slice a3 n3 k3]
  obtain ⟨a1, k1, rfl⟩ := hp.len0
  obtain ⟨a2, k2, rfl⟩ := hs.len0
  obtain ⟨a4, k4, rfl⟩ := hv.len0
  have HC := Lib.hid hc
  have HU := Lib.hid hu
  have HL := Lib.hid hl
  have h24 := hc.1.2.1
  rw [hl] at hv ⊢
  have hway0 : OnWay P S W0 W0 := ⟨hl, Good.refl _ _ _⟩
  clear hc hu hl
  go_enter Try.func147, Try.ntmps147
  go_wp2_with fail
  go_loopw [1, 5] (fun vv _ wr => ∃ L a k, vv = .slice a P.length k ∧ Rd wr (.slice a P.length k) L ∧ OnWay P S W0 L ∧ Boxed w wr 47 #[.slice a1 P.length k1, .slice a2 S.length k2, .slice a3 n3 k3]) (fun vv _ wr => measN P S fun i => gI (rdL wr vv P.length) i)
  case atStart => exact ⟨W0, a4, k4, rfl, hx.rd hv, hway0, hx⟩
  case round =>
    obtain ⟨L, a, k, rfl, hr, hway, hbx⟩ := hrel
    obtain ⟨wo, rfl⟩ : ∃ wo : World, wo = wr := ⟨_, rfl⟩
    have hll := Lib.hid hway.1
    have hsm := Lib.hid (show ∀ i, i < L.length → -1000000000000 ≤ gI L i ∧ gI L i ≤ 1000000000000 from fun i hi => by have := hway.small HC.out HU.out (i := i) (by have := hll.out; omega); omega)
    have hmeq := Lib.hid (rdL_eq hr hll.out)
    have c0 := hbx.cell 0
    have c1 := hbx.cell 1
    have c2 := hbx.cell 2
    go_wp2_with fail
    refine (l08Least_c _ _ _ _ P S W L _ (hbx.rd hp) (hbx.rd hs) hr ⟨_, _, _, rfl⟩ HC.out hll.out hsm.out).mono ?_
    rintro e w2 ⟨rfl, hb2⟩
    have hr2 := hr.below hb2 (Nat.le_refl _)
    have hbx2 := hbx.trans hb2
    clear c0 c1 c2
    rcases leastTo_spec (exL P S L) P.length with ⟨h1, h2⟩ | ⟨h1, h2, h3, h4⟩
    · rw [h1]
      have hd := Lib.hid (hway.done HC.out HU.out HL.out h2)
      clear h1 h2
      go_wp2
      go_ret
      exact ⟨_, _, rfl, by rw [← hd.out]; exact hr2, hbx2.below⟩
    · obtain ⟨t, ht⟩ := Int.eq_ofNat_of_zero_le h1
      rw [ht]
      have htP : t < P.length := by omega
      have e0 : (leastTo (exL P S L) P.length).toNat = t := by omega
      rw [e0] at h3
      have hstep := Lib.hid (hway.step HC.out htP h3)
      have hless := Lib.hid (hway.less HC.out HU.out htP h3)
      clear h1 h2 h4 e0 ht
      have H3 := Lib.hid h3
      clear h3 hway
      have ht0 : ¬ (t : Int) < 0 := by omega
      have c0 := hbx2.cell 0
      have c1 := hbx2.cell 1
      have c2 := hbx2.cell 2
      go_wp2_with fail
      refine (l08Step_c _ _ _ _ _ _ _ P S W L t _ (hbx2.rd hp) (hbx2.rd hs) rfl hr2 HC.out hll.out hsm.out htP H3.out).mono ?_
      rintro e w3 ⟨a', k', rfl, ho3, hb3⟩
      have hbx3 := hbx2.trans hb3
      clear c0 c1 c2
      go_wp2
      go_roundw
      case rel => exact ⟨_, a', k', rfl, ho3.rd, hstep.out, hbx3⟩
      case measure =>
        have e1 := rdL_eq ho3.rd (stL_len P S L t)
        show measN P S (fun i => gI (rdL w3 (.slice a' P.length k') P.length) i) < measN P S (fun i => gI (rdL wo (.slice a P.length k) P.length) i)
        rw [e1, hmeq.out]
        exact hless.out
end Go.Proofs.Ythpnmkghjnipoaa

/- Contracts: impl.unloaded: sweeps over the points till none has a negative excess. -/
namespace Go.Proofs.Ythpnmkghjnipoaa
open Go.RowKit

theorem Try.infoN : (Try.prog.info? 3).map (fun i => (i.zero, i.size, i.bytes)) = some (some (.int .i64 0), 1, 8) := by kernel_rfl
theorem Try.infoNN : (Try.prog.info? 117).map (fun i => (i.zero, i.size, i.bytes)) = some (some (.slice none 0 0), 1, 24) := by kernel_rfl

/-- How a sweep stands at the point i: nothing has been done (d), or the measure has fallen. -/
def SwOk (P S L L2 : List Int) (d : Bool) (i : Nat) : Prop := (d = true ∧ L2 = L ∧ ∀ t, t < i → 0 ≤ gI (exL P S L) t) ∨ (d = false ∧ measN P S (fun t => gI L2 t) < measN P S (fun t => gI L t))
theorem SwOk.next {P S L L2 : List Int} {d : Bool} {i : Nat} (h : SwOk P S L L2 d i) (he : 0 ≤ gI (exL P S L2) i) : SwOk P S L L2 d (i + 1) := by
  rcases h with ⟨h1, h2, h3⟩ | h
  · refine .inl ⟨h1, h2, fun t ht => ?_⟩
    by_cases e : t = i
    · subst e; rw [← h2]; exact he
    · exact h3 t (by omega)
  · exact .inr h
theorem SwOk.fell {P S W W0 L L2 : List Int} {d : Bool} {i : Nat} (hc : CluOk P S W) (hu : UnlOk P S fun i => gI W0 i) (h : SwOk P S L L2 d i) (hw : OnWay P S W0 L2) (hi : i < P.length) (he : gI (exL P S L2) i < 0) : SwOk P S L (stL P S L2 i) false (i + 1) := by
  have := hw.less hc hu hi he
  rcases h with ⟨_, h2, _⟩ | h
  · subst h2; exact .inr ⟨rfl, this⟩
  · exact .inr ⟨rfl, Nat.lt_trans this h.2⟩

set_option maxRecDepth 100000 in
set_option maxHeartbeats 4000000 in
theorem unloaded_c (v u : Value) (P S W W0 : List Int) (w : World) (h : RdR w v (proxL P S)) (hu : Rd w u W0) (hc : CluOk P S W) (hl : W0.length = P.length) (hok : UnlOk P S fun i => gI W0 i) :
    Calls Try.prog 122 #[v, u] w (RetL P.length w (unlL P S W0)) := by
  obtain ⟨i0, ii, iz0, iz1, iz2⟩ := info_parts Try.infoN
  obtain ⟨j0, ji, jz0, jz1, jz2⟩ := info_parts Try.infoNN
  have hway0 : OnWay P S W0 W0 := ⟨hl, Good.refl _ _ _⟩
  have hsm0 := Lib.hid (show ∀ i, i < W0.length → -1000000000000 ≤ gI W0 i ∧ gI W0 i ≤ 1000000000000 from fun i hi => by have := hway0.small hc hok (i := i) (by omega); omega)
  have hex := Lib.hid (exOk_clu hc hl hsm0.out)
  have HC := Lib.hid hc
  have HU := Lib.hid hok
  have HL := Lib.hid hl
  have hp : 0 < W0.length := by have := hc.1.1; omega
  have h24 := hc.1.2.1
  have hP0 : 0 < P.length := hc.1.1
  have hWn : W0.length ≤ 1000000 := by omega
  obtain ⟨b, off, cap, rfl, hcap1, hcap2, hrb, hrc⟩ := h.cells (by rw [prox_len]; exact hP0)
  rw [prox_len] at hcap1 hrc h ⊢
  clear hok hc
  go_enter Try.func122, Try.ntmps122
  go_wp2_with fail
  refine (clone_c _ W0 _ hu hp hWn).mono ?_
  rintro e w1 ⟨ao, ko, rfl, hown, hb1⟩
  obtain ⟨gO, kO', hge, hO0, hO1, hO2, hO3⟩ := Own.pos hown hp
  injection hge with hge1 hge2 hge3
  subst hge1 hge3
  clear hge2
  rw [hl] at hown ⊢
  go_wp2_with (at_make; refine wpList_make_full _ rfl (.tmp 21) (.tmp 21) 116 rfl w1.heap.size 117 j0 (.slice none 0 0) 1 Try.underlying116 ji jz0 jz1 _ _ _ _ P.length rfl rfl rfl rfl ?c1 ?c2 ?c3 ?_)
  case c1 => rw [jz2]; omega
  case c2 => unfold maxLen; omega
  case c3 => exact Nat.le_refl _
  intro w2 hownB hgrow
  have hb2 : Below w1.heap.size w1 w2 := (Below.refl _ _).grown hgrow (Nat.le_refl _) (by simp)
  have hRw : Rows 3 w2 w1.heap.size w1.heap.size P.length (fun _ => .slice none 0 0) (fun _ => []) := by
    rw [toList_madeCells_one] at hownB
    exact Rows.made hownB (Nat.le_refl _) ((World.ownsRow.lt hownB) _ rfl).2
  clear hownB hgrow
  go_wp2
  go_loopw [25] (fun i wr => ∃ k : Nat, ∃ V, k ≤ P.length ∧ i = .int .i64 k ∧ Rows 3 wr w1.heap.size w1.heap.size P.length V (bhL P S k) ∧ Below w1.heap.size w1 wr) (fun i _ => P.length - (intOf i).toNat)
  case atStart => exact ⟨0, _, Nat.zero_le _, rfl, hRw.congr (fun i _ => (bhL_zero P S i).symm), hb2⟩
  case round =>
    obtain ⟨k, V, hk, rfl, hrow, hbl⟩ := hrel
    clear hRw hb2
    obtain ⟨wo, rfl⟩ : ∃ wo : World, wo = wr := ⟨_, rfl⟩
    have hb1s := hb1.size
    by_cases hlt : k < P.length
    · have hki : (k : Int) < (P.length : Int) := by omega
      obtain ⟨ur, hur, hru⟩ := hrc k hlt
      rw [prox_row hlt] at hru
      have du : wo.cell? ⟨b, off + k, none⟩ = some ur := by rw [hbl.cell (p := ⟨b, off + k, none⟩) (by simp; omega), hb1.cell (p := ⟨b, off + k, none⟩) hrb]; exact hur
      have hrl := (hex.out.rowlen k (by rw [prox_len]; exact hlt))
      have hrw := Lib.hid (hex.out.row k (by rw [prox_len]; exact hlt))
      rw [prox_row hlt] at hrl hrw
      obtain ⟨ar, kr, rfl, hr1, hr2, hrr⟩ := hru
      clear hur
      go_wp2_with fail
      go_loopw [32] (fun i wr => ∃ m : Nat, ∃ V, m ≤ (proxOf P S k).length ∧ i = .int .i64 m ∧ Rows 3 wr w1.heap.size w1.heap.size P.length V (bhI P S k m) ∧ Below w1.heap.size w1 wr) (fun i _ => (proxOf P S k).length - (intOf i).toNat)
      case atStart => exact ⟨0, _, Nat.zero_le _, rfl, hrow.congr (fun i _ => (bhI_zero P S k i).symm), hbl⟩
      case round =>
        obtain ⟨m, V2, hm, rfl, hrow2, hbl2⟩ := hrel
        clear hrow hbl du
        obtain ⟨wo2, rfl⟩ : ∃ wo : World, wo = wr := ⟨_, rfl⟩
        by_cases hmt : m < (proxOf P S k).length
        · obtain ⟨b2, off2, rfl, hrb2, hcs2⟩ := hrr (ne_of_lt_len hmt)
          have hc2 : wo2.cell? ⟨b2, off2 + m, none⟩ = some (.int .i64 (gI (proxOf P S k) m)) := by rw [hbl2.cell (p := ⟨b2, off2 + m, none⟩) (by simp; omega), hb1.cell (p := ⟨b2, off2 + m, none⟩) hrb2]; exact hcs2 m hmt
          have hxr := hrw.out m hmt
          rw [hl] at hxr
          obtain ⟨x, hx⟩ := Int.eq_ofNat_of_zero_le hxr.1
          have hxP : x < P.length := by omega
          have HX := Lib.hid hx
          have hmi : (m : Int) < ((proxOf P S k).length : Int) := by omega
          rw [hx] at hc2
          have hO := hrow2.row x hxP
          rw [bhI_at HC.out hlt hmt hx] at hO
          have hOl := bhL_le P S x k
          have dV := hrow2.cell x hxP
          have dF := hrow2.free x
          have hsf := hrow2.self x hxP
          have hgl := hrow2.lt
          have hgo := hrow2.lo
          have hxi : (x : Int) < (P.length : Int) := by omega
          have hx0 : (0 : Int) ≤ (x : Int) := Int.natCast_nonneg _
          have HROW := Lib.hid hrow2
          clear hcs2 hxr hx hrow2
          go_wp2_with (at_builtin; refine wpList_pushL rfl (.tmp 41) (.tmp 43) 117 rfl w1.heap.size 3 i0 Try.underlying117 ii iz0 iz1 iz2 (V2 x) (bhL P S k x) (k : Int) rfl hO rfl (by omega) (by omega) ?_; intro g2 c2 w3 hown3 hkp hlies; have d3 := (hkp.cell (p := ⟨w1.heap.size, x, none⟩) hgl hsf).trans dV; have f3 := (hkp.frozen (p := ⟨w1.heap.size, x, none⟩) hgl hsf).trans dF)
          have hput := HROW.out.put hxP hown3 hkp hlies
          have hbl3 := hbl2.trans (((hkp.mono (M' := fun q => w1.heap.size ≤ q) (fun q hq => (hO.block q hq).1)).setCell (p := ⟨w1.heap.size, x, none⟩) (Nat.le_refl _) (.slice (some ⟨g2, 0, none⟩) ((bhL P S k x).length + 1) c2)).below hbl2.size (fun q hq => hq))
          go_roundw
          case rel => exact ⟨m + 1, _, by omega, by go_num, hput.congr (fun i _ => by rw [bhI_step hmt HX.out]; unfold upd; rfl), hbl3⟩
          case measure => simp [intOf]; omega
        · have hm' : m = (proxOf P S k).length := by omega
          subst hm'
          have hr' := hrow2.congr (fun i _ => bhI_all HC.out hlt i)
          go_wp2
          go_roundw
          case rel => exact ⟨k + 1, _, by omega, by go_num, hr', hbl2⟩
          case measure => simp [intOf]; omega
    · have hk' : k = P.length := by omega
      subst hk'
      have h2 := (h.below hb1 (Nat.le_refl _)).below hbl (Nat.le_refl _)
      have hown2 := hown.below hbl (Nat.le_refl _)
      go_wp2_with fail
      refine (excessesOf_c _ _ (proxL P S) W0 _ h2 hown2.rd hex.out hp).mono ?_
      rintro e w4 ⟨ae, ke, rfl, howE, hb4⟩
      have hEl : (exTo (proxL P S) W0 (proxL P S).length).length = P.length := by rw [exTo_len]; exact hl
      obtain ⟨gE, kE, hge, hE0, hE1, hE2, hE3⟩ := Own.pos howE (by rw [hEl]; exact hP0)
      injection hge with hge1 hge2 hge3
      subst hge1 hge3
      have hEx : exTo (proxL P S) W0 (proxL P S).length = exL P S W0 := by rw [prox_len]; rfl
      rw [hEl] at howE ⊢
      rw [hEx] at howE
      have hrow4 := hrow.below hb4
      have hgB := hrow.lt
      have hown4 := hown2.below hb4 (Nat.le_refl _)
      have hbls := hbl.size
      have howE4 := howE.base_le (base' := w.heap.size) (by omega)
      have hbw := below_step (below_step hb1 hbl) hb4
      have hgne : gO ≠ gE := by omega
      have hgB1 : ¬ (w1.heap.size = gO ∨ w1.heap.size = gE) := by omega
      have hcB : ∀ wr, Keeps (fun q => q = gO ∨ q = gE) w4 wr → ∀ i, i < P.length → wr.cell? ⟨w1.heap.size, i, none⟩ = some (V i) := fun wr hk i hi => (hk.cell (p := ⟨w1.heap.size, i, none⟩) hrow4.lt hgB1).trans (hrow4.cell i hi)
      have hrB : ∀ wr, Keeps (fun q => q = gO ∨ q = gE) w4 wr → ∀ i, i < P.length → Own 3 wr w1.heap.size (V i) (bhL P S P.length i) := fun wr hk i hi => (hrow4.row i hi).keeps hk (fun q h1 h2 => by have := (hrow.row i hi).block q h1; omega)
      have HCB := Lib.hid hcB
      have HRB := Lib.hid hrB
      clear hge2 hEx hEl hcB hrB hrow hrow4 hbl hown2 hown h2 howE hb4
      go_wp2_with fail
      go_loopw [12] (fun _ wr => ∃ L, OwnI wr w.heap.size (.slice (some ⟨gO, 0, none⟩) P.length ko) L ∧ OwnI wr w.heap.size (.slice (some ⟨gE, 0, none⟩) P.length ke) (exL P S L) ∧ OnWay P S W0 L ∧ Keeps (fun q => q = gO ∨ q = gE) w4 wr ∧ Below w.heap.size w wr) (fun _ wr => measN P S fun i => gI (rdL wr (.slice (some ⟨gO, 0, none⟩) P.length ko) P.length) i)
      case atStart => exact ⟨W0, hown4, howE4, hway0, Keeps.refl _ _, hbw⟩
      case round =>
        obtain ⟨L, hoO, hoE, hway, hkp, hbw⟩ := hrel
        clear hown4 howE4 hway0
        obtain ⟨wq, rfl⟩ : ∃ wo : World, wo = wr := ⟨_, rfl⟩
        have hmeq := Lib.hid (rdL_eq hoO.rd hway.1)
        go_wp2_with fail
        go_loopw [12, 53] (fun dv iv wr => ∃ i : Nat, ∃ L2 d, i ≤ P.length ∧ iv = .int .i64 i ∧ dv = .bool d ∧ OwnI wr w.heap.size (.slice (some ⟨gO, 0, none⟩) P.length ko) L2 ∧ OwnI wr w.heap.size (.slice (some ⟨gE, 0, none⟩) P.length ke) (exL P S L2) ∧ OnWay P S W0 L2 ∧ Keeps (fun q => q = gO ∨ q = gE) w4 wr ∧ Below w.heap.size w wr ∧ SwOk P S L L2 d i) (fun _ iv _ => P.length - (intOf iv).toNat)
        case atStart => exact ⟨0, L, true, Nat.zero_le _, rfl, rfl, hoO, hoE, hway, hkp, hbw, .inl ⟨rfl, rfl, fun t ht => absurd ht (by omega)⟩⟩
        case round =>
          obtain ⟨i, L2, d, hi, rfl, rfl, hoO2, hoE2, hway2, hkp2, hbw2, hsw⟩ := hrel
          clear hoO hoE hkp hbw
          obtain ⟨wp, rfl⟩ : ∃ wo : World, wo = wr := ⟨_, rfl⟩
          by_cases hit : i < P.length
          · have hii : (i : Int) < (P.length : Int) := by omega
            have hi0 : (0 : Int) ≤ (i : Int) := Int.natCast_nonneg _
            have hEO : OwnI wp w.heap.size (.slice (some ⟨gE, 0, none⟩) (exL P S L2).length ke) (exL P S L2) := by rw [exL_len, hway2.1]; exact hoE2
            have dE := hEO.cell i (by rw [exL_len, hway2.1]; exact hit)
            clear hEO
            by_cases hneg : gI (exL P S L2) i < 0
            · have hE := exF_bd (P := P) (S := S) (A := fun i => gI L2 i) (b := 333849600000) h24 (fun i hi => hway2.small HC.out HU.out hi) hit
              rw [← exL_at HC.out hway2.1 hit] at hE
              have hh := hB_bd P S i h24
              have hbn := bhL_len P S i P.length
              have hbn : ((bhL P S P.length i).length : Int) = hB P S i := hbn
              have hle := bhL_le P S i P.length
              have hstb := Lib.hid (step_behind HC.out hway2.1 hit)
              have hsh := Lib.hid (exL_shift HC.out hway2.1 hit (upS (gI (exL P S L2) i) (hB P S i)))
              have hstep := Lib.hid (hway2.step HC.out hit hneg)
              have hfell := Lib.hid (hsw.fell HC.out HU.out hway2 hit hneg)
              have hll := Lib.hid hway2.1
              have hsm := Lib.hid (show ∀ k, -333849600000 ≤ gI L2 k ∧ gI L2 k ≤ 333849600000 from num_all (fun k hk => hway2.small HC.out HU.out (by have := hway2.1; omega)) (by omega) (by omega))
              have hsmE := Lib.hid (show ∀ k, -100000000000000000 ≤ gI (exL P S L2) k ∧ gI (exL P S L2) k ≤ 100000000000000000 from num_all (fun k hk => by
                have hk' : k < P.length := by rw [exL_len, hway2.1] at hk; exact hk
                have := exF_bd (P := P) (S := S) (A := fun i => gI L2 i) (b := 333849600000) h24 (fun i hi => hway2.small HC.out HU.out hi) hk'
                rw [← exL_at HC.out hway2.1 hk'] at this
                omega) (by omega) (by omega))
              have dB := HCB.out _ hkp2 i hit
              obtain ⟨av, kv, hVe⟩ := Own.form (HRB.out _ hkp2 i hit)
              rw [hVe] at dB
              have HVE := Lib.hid hVe
              clear hway2 hsw hVe
              rw [← hbn] at hh hstb hsh
              obtain ⟨q, hq⟩ : ∃ q, q = (bhL P S P.length i).length := ⟨_, rfl⟩
              rw [← hq] at dB hbn hh hstb hsh hle
              have HTD := Lib.hid (upS_tdiv hneg hh.1)
              have hub := upS_bd hneg hh.1
              have HQ := Lib.hid hq
              have HBN := Lib.hid hbn
              clear hq hbn
              obtain ⟨hE1, hE2⟩ := hE
              obtain ⟨hh1, hh2⟩ := hh
              obtain ⟨u1, u2⟩ := hub
              have hrowP : ∀ t, t < P.length → (∀ m, m < (gR (proxL P S) t).length → 0 ≤ gI (gR (proxL P S) t) m ∧ gI (gR (proxL P S) t) m < (P.length : Int)) ∧ (gR (proxL P S) t).length ≤ 400 := fun t ht => ⟨fun m hm => by have := hex.out.row t (by rw [prox_len]; exact ht) m hm; rw [hl] at this; exact this, hex.out.rowlen t (by rw [prox_len]; exact ht)⟩
              have HRP := Lib.hid hrowP
              clear hrowP
              generalize gI (exL P S L2) i = ex at dE hneg hE1 hE2 HTD u1 u2 hstb hsh
              have w1' : IntKind.i64.wrap (-ex) = -ex := IntWalk.i64_in _ (by omega)
              have w2' : IntKind.i64.wrap (1 + (q : Int)) = 1 + (q : Int) := IntWalk.i64_in _ (by omega)
              have w3' : IntKind.i64.wrap (-ex + (1 + (q : Int))) = -ex + (1 + (q : Int)) := IntWalk.i64_in _ (by omega)
              have w4' : IntKind.i64.wrap (-ex + (1 + (q : Int)) - 1) = -ex + (q : Int) := by
                have e : -ex + (1 + (q : Int)) - 1 = -ex + (q : Int) := by omega
                rw [e]
                exact IntWalk.i64_in _ (by omega)
              have w5' : ¬ (1 + (q : Int)) = 0 := by omega
              have w6' : IntKind.i64.wrap (Int.tdiv (-ex + (q : Int)) (1 + (q : Int))) = upS ex (q : Int) := by rw [HTD.out]; exact IntWalk.i64_in _ (by omega)
              clear HTD
              generalize upS ex (q : Int) = sv at u1 u2 w6' hstb hsh
              have s1 : sv ≤ 20000000000000 := by omega
              clear u2
              have w7' : IntKind.i64.wrap (-sv) = -sv := IntWalk.i64_in _ (by omega)
              have h1b := Lib.hid (show ∀ k, -30000000000000 ≤ gI (inc L2 (i : Int) sv) k ∧ gI (inc L2 (i : Int) sv) k ≤ 30000000000000 from fun k => by
                have := hsm.out k
                rw [gI_inc]
                split <;> omega)
              have h1l := Lib.hid (show (inc L2 (i : Int) sv).length = P.length by rw [inc_len]; exact hll.out)
              go_wp2_with fail
              refine (shift_c w _ (proxL P S) L2 (exL P S L2) gO ko gE ke P.length i sv _ h hbw2 hoO2 hoE2 hgne hll.out (by rw [exL_len]; exact hll.out) (prox_len _ _) (by omega) hit (HRP.out i hit).1 (HRP.out i hit).2 (by omega) (fun k => by have := hsm.out k; omega) hsmE.out).mono ?_
              rintro e w5 ⟨rfl, ho5, he5, hk5, hb5⟩
              rw [prox_row hit, hsh.out] at he5
              have hkp5 := hkp2.trans hk5
              clear hoO2 hoE2 hkp2 hbw2 dE dB hsh hk5
              have dB : w5.cell? ⟨w1.heap.size, i, none⟩ = some (.slice av q kv) := by rw [HCB.out _ hkp5 i hit, HVE.out, HQ.out]
              generalize inc L2 (i : Int) sv = L1 at ho5 he5 hstb h1b h1l
              go_wp2_with fail
              go_loopw [88] (fun mv wr => ∃ m : Nat, m ≤ q ∧ mv = .int .i64 m ∧ OwnI wr w.heap.size (.slice (some ⟨gO, 0, none⟩) P.length ko) (incTo (bhL P S P.length i) (-sv) L1 m) ∧ OwnI wr w.heap.size (.slice (some ⟨gE, 0, none⟩) P.length ke) (exL P S (incTo (bhL P S P.length i) (-sv) L1 m)) ∧ Keeps (fun q => q = gO ∨ q = gE) w4 wr ∧ Below w.heap.size w wr) (fun mv _ => q - (intOf mv).toNat)
              case atStart => exact ⟨0, Nat.zero_le _, rfl, ho5, he5, hkp5, hb5⟩
              case round =>
                obtain ⟨m, hm, rfl, ho6, he6, hkp6, hb6⟩ := hrel
                clear ho5 he5 hkp5 hb5 dB
                obtain ⟨ws, rfl⟩ : ∃ wo : World, wo = wr := ⟨_, rfl⟩
                by_cases hmq : m < q
                · have hmqi : (m : Int) < (q : Int) := by omega
                  have hB6 := HRB.out _ hkp6 i hit
                  rw [HVE.out] at hB6
                  obtain ⟨j, hj, hjP⟩ := bhL_mem P S i P.length m (by rw [← HQ.out]; exact hmq)
                  obtain ⟨gb, kb, hgb, hgb0, hgb1, hgb2, hgb3⟩ := Own.pos hB6 (by rw [← HQ.out]; omega)
                  injection hgb with hgba hgbb hgbc
                  subst hgba hgbc
                  have dm := hB6.cell m (by rw [← HQ.out]; exact hmq)
                  rw [hj] at dm
                  have HJ := Lib.hid hj
                  have hsq := Lib.hid (behind_small (P := P) (S := S) (i := i) (L := L1) (x := -sv) (b := 30000000000000) (by omega) h1b.out m)
                  have hlq : (incTo (bhL P S P.length i) (-sv) L1 m).length = P.length := by rw [incTo_len]; exact h1l.out
                  have HLQ := Lib.hid hlq
                  have hm24 : (m : Int) ≤ 24 := by omega
                  have hseq := Lib.hid (show ∀ k, -100000000000000000 ≤ gI (exL P S (incTo (bhL P S P.length i) (-sv) L1 m)) k ∧ gI (exL P S (incTo (bhL P S P.length i) (-sv) L1 m)) k ≤ 100000000000000000 from num_all (fun k hk => by
                    have hk' : k < P.length := by rw [exL_len, hlq] at hk; exact hk
                    have := exF_bd (P := P) (S := S) (A := fun t => gI (incTo (bhL P S P.length i) (-sv) L1 m) t) (b := 1000000000000000) h24 (fun t _ => by have := hsq.out t; omega) hk'
                    rw [← exL_at HC.out hlq hk'] at this
                    omega) (by omega) (by omega))
                  clear hgbb hB6 hj hlq
                  go_wp2_with fail
                  refine (shift_c w _ (proxL P S) _ _ gO ko gE ke P.length j (-sv) _ h hb6 ho6 he6 hgne HLQ.out (by rw [exL_len]; exact HLQ.out) (prox_len _ _) (by omega) hjP (HRP.out j hjP).1 (HRP.out j hjP).2 (by omega) (fun k => by have := hsq.out k; omega) hseq.out).mono ?_
                  rintro e w7 ⟨rfl, ho7, he7, hk7, hb7⟩
                  rw [prox_row hjP, exL_shift HC.out HLQ.out hjP] at he7
                  have e7 : inc (incTo (bhL P S P.length i) (-sv) L1 m) (j : Int) (-sv) = incTo (bhL P S P.length i) (-sv) L1 (m + 1) := by rw [incTo_succ, HJ.out]
                  rw [e7] at ho7 he7
                  have hkp7 := hkp6.trans hk7
                  clear ho6 he6 hkp6 hb6 dm e7 hk7
                  go_wp2
                  go_roundw
                  case rel => exact ⟨m + 1, by omega, by go_num, ho7, he7, hkp7, hb7⟩
                  case measure => simp [intOf]; omega
                · have hm' : m = q := by omega
                  subst hm'
                  rw [hstb.out] at ho6 he6
                  go_wp2
                  go_roundw
                  case rel => exact ⟨i + 1, _, false, by omega, by go_num, rfl, ho6, he6, hstep.out, hkp6, hb6, hfell.out⟩
                  case measure => simp [intOf]; omega
            · go_wp2
              go_roundw
              case rel => exact ⟨i + 1, L2, d, by omega, by go_num, rfl, hoO2, hoE2, hway2, hkp2, hbw2, hsw.next (by omega)⟩
              case measure => simp [intOf]; omega
          · have hi' : i = P.length := by omega
            subst hi'
            have HSW := Lib.hid hsw
            have HWAY := Lib.hid hway2
            clear hsw hway2 hway
            cases d
            · go_wp2
              go_roundw
              case rel => exact ⟨L2, hoO2, hoE2, HWAY.out, hkp2, hbw2⟩
              case measure =>
                rcases HSW.out with ⟨h1, _⟩ | ⟨_, h1⟩
                · cases h1
                · have e1 := rdL_eq hoO2.rd HWAY.out.1
                  show measN P S (fun i => gI (rdL wp (.slice (some ⟨gO, 0, none⟩) P.length ko) P.length) i) < measN P S (fun i => gI (rdL wq (.slice (some ⟨gO, 0, none⟩) P.length ko) P.length) i)
                  rw [e1, hmeq.out]
                  exact h1
            · go_wp2
              go_ret
              rcases HSW.out with ⟨_, h1, h2⟩ | ⟨h1, _⟩
              · subst h1
                rw [HWAY.out.done HC.out HU.out HL.out h2] at hoO2
                exact ⟨_, _, rfl, hoO2, hbw2⟩
              · cases h1
end Go.Proofs.Ythpnmkghjnipoaa

/- Contracts: UnloadCluster, the program and the reference. -/
namespace Go.Proofs.Ythpnmkghjnipoaa
open Go.RowKit

/-- Do the weights of the unloaded cluster stay in their range? -/
def uwB (P S W : List Int) : Bool := allIn (unlL P S W) (-100000) 100000
def ucB (P S W : List Int) : Bool := cluB P S W && uwB P S W
def ucC (P S W : List Int) : Int := if cluB P S W then okC (uwB P S W) 3 else 1
theorem ucB_1 {P S W : List Int} (h : cluB P S W = false) : ucB P S W = false ∧ ucC P S W = 1 := by simp [ucB, ucC, h]
theorem ucB_2 {P S W : List Int} (h : cluB P S W = true) : ucB P S W = uwB P S W ∧ ucC P S W = okC (uwB P S W) 3 := by simp [ucB, ucC, h]
theorem clu_unlOk {P S W : List Int} (h : CluOk P S W) : W.length = P.length ∧ UnlOk P S (fun i => gI W i) := ⟨h.1.2.2.2, unlOk_of h fun i hi => h.2.1 i (by have := h.1.2.2.2; omega)⟩
theorem unlL_len {P S W : List Int} (h : CluOk P S W) : (unlL P S W).length = P.length := (unlL_ok h (clu_unlOk h).2 (clu_unlOk h).1).1.1
theorem l01OwnN_c (n : Nat) (v : Value) (xs : List Int) (w : World) (h : Rd w v xs) (hp : 0 < n) (hn : n ≤ 1000000) (hl : xs.length = n) : Calls Try.prog 145 #[v] w (RetL n w xs) :=
  (l01Own_c v xs w h (by omega) (by omega)).mono fun e w' h2 => retL_of h2 hl
theorem checkedU_c (p s q : Value) (a4 : Option Addr) (k4 : Nat) (P S W : List Int) (base : Nat) (w : World) (hp : Rd w p P) (hs : Rd w s S) (hc : CluOk P S W) (hL : OwnI w base (.slice a4 P.length k4) (unlL P S W)) (hB : base ≤ w.heap.size) :
    Calls Try.prog 121 #[.agg #[p, s, q], .slice a4 P.length k4] w (RetCX base w (okL (uwB P S W) P) (okL (uwB P S W) S) (okL (uwB P S W) (unlL P S W)) (okC (uwB P S W) 3)) :=
  checkedWeightsN_c P.length p s q a4 k4 P S W (unlL P S W) base w hp hs hc hL hB (unlL_len hc)

end Go.Proofs.Ythpnmkghjnipoaa

/- UnloadCluster: the size of what is handed back. -/
namespace Go.Proofs.Ythpnmkghjnipoaa
open Go.RowKit
theorem ucB_clu {P S W : List Int} (h : ucB P S W = true) : CluOk P S W := cluB_iff.1 (by simp [ucB] at h; exact h.1)
theorem uc_len (P S W : List Int) : (okL (ucB P S W) (unlL P S W)).length ≤ 1048576 := okL_len fun h => by
  have hc := ucB_clu h
  rw [unlL_len hc]
  have := hc.1.2.1
  omega
end Go.Proofs.Ythpnmkghjnipoaa

/- Contracts: slices.IndexFunc for a negative number, slices.Index, slices.Contains. -/
namespace Go.Proofs.Ythpnmkghjnipoaa
open Go.RowKit

/-- The first place before k at which x stands, or -1. -/
def idxTo (xs : List Int) (x : Int) : Nat → Int
  | 0 => -1
  | k + 1 => if 0 ≤ idxTo xs x k then idxTo xs x k else if gI xs k = x then k else -1
theorem idxTo_none {xs : List Int} {x : Int} {k : Nat} : (∀ i, i < k → gI xs i ≠ x) → idxTo xs x k = -1 := by
  induction k with
  | zero => intro _; rfl
  | succ k ih => intro h; unfold idxTo; rw [ih (fun i hi => h i (by omega)), if_neg (by omega), if_neg (h k (by omega))]
theorem idxTo_at {xs : List Int} {x : Int} {j k : Nat} (hj : j < k) (h1 : gI xs j = x) (h2 : ∀ i, i < j → gI xs i ≠ x) : idxTo xs x k = j := by
  induction k with
  | zero => omega
  | succ k ih =>
    unfold idxTo
    by_cases e : j = k
    · subst e; rw [idxTo_none h2, if_neg (by omega), if_pos h1]
    · rw [ih (by omega), if_pos (by omega)]

set_option maxHeartbeats 1000000 in
theorem slicesIndex_c (v : Value) (xs : List Int) (x : Int) (w : World) (h : Rd w v xs) (_ : xs.length ≤ 1000000) :
    Calls Try.prog 162 #[v, .int .i64 x] w fun e w' => e = .returned (.int .i64 (idxTo xs x xs.length)) ∧ w = w' := by
  obtain ⟨a, cap, rfl, h1, h2, hrd⟩ := h
  go_enter Try.func162, Try.ntmps162
  go_wp2
  go_loop [5, 8] (fun _ i => ∃ j : Nat, j ≤ xs.length ∧ i = .int .i64 j ∧ ∀ t, t < j → gI xs t ≠ x) (fun _ i => xs.length - (intOf i).toNat)
  case atStart => exact ⟨0, Nat.zero_le _, rfl, fun t ht => absurd ht (by omega)⟩
  case round =>
    obtain ⟨j, hj, rfl, hg⟩ := hrel
    by_cases hlt : j < xs.length
    · obtain ⟨b, off, rfl, hb, hcs⟩ := hrd (ne_of_lt_len hlt)
      have hc := hcs j hlt
      have HR := Lib.hid (@idxTo_at xs x j xs.length hlt)
      have hji : (j : Int) < (xs.length : Int) := by omega
      by_cases he : gI xs j = x
      · have HF := Lib.hid (HR.out he hg)
        rw [he] at hc
        have hbt : (x == x) = true := by simp
        clear hg hcs hrd HR he
        go_wp2
        go_ret
        exact ⟨ret_int HF.out.symm, rfl⟩
      · have HF : Hid (∀ t, t < j + 1 → gI xs t ≠ x) := Lib.hid (fun t ht => by
          by_cases e : t = j
          · subst e; exact he
          · exact hg t (by omega))
        have hbf : (x == gI xs j) = false := beq_false_of_ne (fun e => he e.symm)
        clear hg hcs hrd HR
        generalize gI xs j = y at hc hbf he
        go_wp2
        go_round
        case rel => exact ⟨j + 1, by omega, by go_num, HF.out⟩
        case measure => simp [intOf]; omega
    · have hj' : j = xs.length := by omega
      subst hj'
      have HF := Lib.hid (idxTo_none hg)
      clear hg
      go_wp2
      go_ret
      exact ⟨ret_int HF.out.symm, rfl⟩

end Go.Proofs.Ythpnmkghjnipoaa

/- Contracts: UnloadStep, the program and the reference. -/
namespace Go.Proofs.Ythpnmkghjnipoaa
open Go.RowKit

theorem idxTo_yes {xs : List Int} {x : Int} : ∀ {k : Nat}, 0 ≤ idxTo xs x k → ∃ i, i < k ∧ gI xs i = x := by
  intro k
  induction k with
  | zero => intro h; simp [idxTo] at h
  | succ k ih =>
    intro h
    by_cases h1 : 0 ≤ idxTo xs x k
    · obtain ⟨i, h2, h3⟩ := ih h1
      exact ⟨i, by omega, h3⟩
    · unfold idxTo at h
      rw [if_neg h1] at h
      by_cases h2 : gI xs k = x
      · exact ⟨k, by omega, h2⟩
      · rw [if_neg h2] at h; omega
theorem idxTo_iff {xs : List Int} {x : Int} : 0 ≤ idxTo xs x xs.length ↔ x ∈ xs := by
  constructor
  · intro h
    obtain ⟨i, h1, h2⟩ := idxTo_yes h
    rw [← h2]; exact gI_mem h1
  · intro h
    apply Int.le_of_not_gt
    intro hlt
    obtain ⟨i, h1, h2⟩ := List.getElem_of_mem h
    have key : ∀ k, i < k → 0 ≤ idxTo xs x k := by
      intro k
      induction k with
      | zero => intro hk; omega
      | succ k ih =>
        intro hk
        unfold idxTo
        by_cases h3 : 0 ≤ idxTo xs x k
        · rw [if_pos h3]; exact h3
        · rw [if_neg h3]
          have : i = k := by
            apply Classical.byContradiction
            intro hne
            exact h3 (ih (by omega))
          subst this
          rw [if_pos (by rw [gI_lt h1, h2])]; omega
    have := key _ h1
    omega
theorem contains_near {P S W : List Int} (hc : CluOk P S W) {j : Nat} (hj : j < P.length) (t : Nat) : decide (0 ≤ idxTo (proxOf P S j) (t : Int) (proxOf P S j).length) = nearB P S j (t : Int) := by
  cases h : nearB P S j (t : Int)
  · rw [decide_eq_false_iff_not, idxTo_iff, prox_mem hc hj, h]; simp
  · rw [decide_eq_true_iff, idxTo_iff, prox_mem hc hj, h]

/-- The weights while the points before k are lowered. -/
def sqTo (P S L : List Int) (p : Nat) (s : Int) (k : Nat) : List Int := lF P.length fun i => gI L i - (if i < k then nB P S i p * s else 0)
@[simp] theorem sqTo_len (P S L : List Int) (p : Nat) (s : Int) (k : Nat) : (sqTo P S L p s k).length = P.length := by simp [sqTo]
theorem gI_sqTo {P S L : List Int} {p : Nat} {s : Int} {k i : Nat} (h : i < P.length) : gI (sqTo P S L p s k) i = gI L i - (if i < k then nB P S i p * s else 0) := gI_lF h
theorem sqTo_zero {P S L : List Int} {p : Nat} {s : Int} (hl : L.length = P.length) : sqTo P S L p s 0 = L := by
  apply gI_ext (by simp [hl])
  intro i hi
  rw [gI_sqTo (by simpa using hi), if_neg (by omega), Int.sub_zero]
theorem sqTo_yes {P S L : List Int} {p : Nat} {s : Int} {t : Nat} (ht : t < P.length) (hn : nearB P S t (p : Int) = true) : (sqTo P S L p s t).set t (gI L t - s) = sqTo P S L p s (t + 1) := by
  have h1 : nB P S t p = 1 := by unfold nB; rw [if_pos hn]
  apply gI_ext (by simp)
  intro i hi
  have hi' : i < P.length := by simpa using hi
  rw [gI_set, gI_sqTo hi', gI_sqTo hi', sqTo_len]
  by_cases e : t = i
  · subst e; rw [if_pos ⟨rfl, ht⟩, if_pos (show t < t + 1 by omega), h1]; omega
  · rw [if_neg (fun h => e h.1)]
    by_cases e2 : i < t
    · rw [if_pos e2, if_pos (show i < t + 1 by omega)]
    · rw [if_neg e2, if_neg (show ¬ i < t + 1 by omega)]
theorem sqTo_no {P S L : List Int} {p : Nat} {s : Int} {t : Nat} (hn : nearB P S t (p : Int) = false) : sqTo P S L p s t = sqTo P S L p s (t + 1) := by
  have h1 : nB P S t p = 0 := by unfold nB; rw [if_neg (by simp [hn])]
  apply gI_ext (by simp)
  intro i hi
  have hi' : i < P.length := by simpa using hi
  rw [gI_sqTo hi', gI_sqTo hi']
  by_cases e : t = i
  · subst e; rw [if_neg (show ¬ t < t by omega), if_pos (show t < t + 1 by omega), h1]; omega
  · by_cases e2 : i < t
    · rw [if_pos e2, if_pos (show i < t + 1 by omega)]
    · rw [if_neg e2, if_neg (show ¬ i < t + 1 by omega)]
theorem sqTo_end {P S W L : List Int} (hc : CluOk P S W) (_ : L.length = P.length) {p : Nat} (hp : p < P.length) : (sqTo P S L p (upS (gI (exL P S L) p) (hB P S p)) P.length).set p (gI L p + upS (gI (exL P S L) p) (hB P S p)) = stL P S L p := by
  apply gI_ext (by simp)
  intro i hi
  have hi' : i < P.length := by simpa using hi
  unfold stL
  rw [gI_lF hi', gI_set, gI_sqTo hi', sqTo_len, if_pos hi']
  unfold stF
  by_cases e : p = i
  · subst e
    rw [if_pos ⟨rfl, hp⟩, nB_ge hc hp (Nat.le_refl _)]
    show _ = gI L p + (if p = p then _ else 0) - _
    rw [if_pos rfl]; omega
  · rw [if_neg (fun h => e h.1)]
    show _ = gI L i + (if i = p then _ else 0) - _
    rw [if_neg (fun h => e h.symm)]; omega

/-- The least point with a negative excess, and what its unloading leads to. -/
def usN (P S W : List Int) : Int := leastTo (exL P S W) P.length
def usL (P S W : List Int) : List Int := stL P S W (usN P S W).toNat
def usB (P S W : List Int) : Bool := cluB P S W && (decide (0 ≤ usN P S W) && allIn (usL P S W) (-100000) 100000)
def usC (P S W : List Int) : Int := if cluB P S W then (if 0 ≤ usN P S W then okC (allIn (usL P S W) (-100000) 100000) 3 else 4) else 1
theorem usB_1 {P S W : List Int} (h : cluB P S W = false) : usB P S W = false ∧ usC P S W = 1 := by simp [usB, usC, h]
theorem usB_2 {P S W : List Int} (h : cluB P S W = true) (h2 : ¬ 0 ≤ usN P S W) : usB P S W = false ∧ usC P S W = 4 := by simp [usB, usC, h, h2]
theorem usB_3 {P S W : List Int} (h : cluB P S W = true) (h2 : 0 ≤ usN P S W) : usB P S W = allIn (usL P S W) (-100000) 100000 ∧ usC P S W = okC (allIn (usL P S W) (-100000) 100000) 3 := by simp [usB, usC, h, h2]
theorem usL_len (P S W : List Int) : (usL P S W).length = P.length := by simp [usL]
theorem us_len (P S W : List Int) : (okL (usB P S W) (usL P S W)).length ≤ 1048576 := okL_len fun h => by
  have h1 : cluB P S W = true := by simp [usB] at h; exact h.1
  have := (cluB_iff.1 h1).1.2.1
  rw [usL_len]; omega

end Go.Proofs.Ythpnmkghjnipoaa

/- One number put behind an owned slice, at a step of a region; what was read of the slice stays to be read. No program in sight. -/
namespace Go.Proofs.Ythpnmkghjnipoaa
open Go.RowKit

theorem step_pushS {P : Program} {w : World} {ops : Array Oper} {o : Oper} {a : Act} {K : Act → World → Prop} {Q : Exit → Act → World → Prop} {E : Prop} (hgd : o.guard = none) (s x : Operand) (t : TypeId)
    (ho : o.op = .call { callee := .builtin .append, args := #[s, x], argTypes := #[t, t] })
    (base : Nat) (e : TypeId) (i : TypeInfo) (ht : P.underlying t = some (.slice e)) (hi : P.info? e = some i) (hz : i.zero = some (.int .i64 0)) (hsize : i.size = 1) (hby : i.bytes = 8)
    (g n cap : Nat) (xs : List Int) (y : Int) (h : Nat) (hn : xs.length = n) (hs : a.eval s = .slice (some ⟨g, 0, none⟩) n cap) (hown : Own e w base (.slice (some ⟨g, 0, none⟩) n cap) xs) (hx : a.eval x = .slice (some ⟨h, 0, none⟩) 1 1) (hblk : Blk w h e #[.int .i64 y])
    (hlen : n ≤ 1000000000000) (hbase : base ≤ w.heap.size)
    (hK : ∀ g2 cap2 w', Own e w' base (.slice (some ⟨g2, 0, none⟩) (n + 1) cap2) (xs ++ [y]) → Keeps (fun k => k = g) w w' → (g = g2 ∨ g2 = w.heap.size) → g2 < w'.heap.size → (∀ i, i < n → w'.cell? ⟨g, i, none⟩ = some (.int .i64 (gI xs i))) → K (a.put o.dst (.slice (some ⟨g2, 0, none⟩) (n + 1) cap2)) w') :
    if Region.wanted o (yielded ops a.tmps) = true then Oper.wp P o a w K Q else E := by
  subst hn
  have hw : Region.wanted o (yielded ops a.tmps) = true := by simp [Region.wanted, hgd]
  rw [if_pos hw]
  have hnews : ∀ j u, ([Value.int .i64 y])[j]? = some u → w.cell? ((⟨h, 0, none⟩ : Addr).add j) = some u := World.news_of_block (cs := #[.int .i64 y]) (t := e) (fr := (0, 0)) hblk
  have h1c : ∀ u ∈ [Value.int .i64 y], u.oneCell' = true := by intro u hu; simp at hu; subst hu; rfl
  have h63 : xs.length + 1 ≤ maxLen := by unfold maxLen; omega
  obtain ⟨g2, cap2, w', hr, h2, h3, h4, h5⟩ := run_append_lies (P := P) w t o.type base e i (.int .i64 0) 1 8 ht hi hz hsize hby rfl (by decide) (.slice (some ⟨g, 0, none⟩) xs.length cap) xs.length (xs.map (Value.int .i64)) hown ⟨h, 0, none⟩ 1 1 [.int .i64 y] rfl hnews h1c (by omega) h63 (by omega) hbase w.heap.size rfl
  have hO := own_append h2
  have hkeep : Keeps (fun k => k = g) w w' := (Keeps.of_grown h3).mono (fun k hk => by simp [Value.ownBlock] at hk; omega)
  have hlies : g = g2 ∨ g2 = w.heap.size := h4.imp (fun h => by simpa [Value.ownBlock] using h) id
  have hgl : g < w.heap.size := (hown.block g rfl).2
  have hcells : ∀ i, i < xs.length → w'.cell? ⟨g, i, none⟩ = some (.int .i64 (gI xs i)) := by
    intro k hk
    have hwc := hown.cell k hk
    by_cases hroom : xs.length + 1 ≤ cap
    · rcases hlies with rfl | hnew
      · have := Own.cell (xs := xs ++ [y]) (w := w') (by rw [List.length_append]; exact hO) k (by simp; omega)
        rw [this, gI_app_lt hk]
      · exfalso
        rcases hown.2 with ⟨hv, _⟩ | ⟨g', cap', cur, hv, _, hcur, hle, _, hsz, _⟩
        · cases hv
        · injection hv with hv1 _ hv3
          injection hv1 with hv1
          injection hv1 with hv1
          subst hv1
          subst hv3
          have hrr := run_append_room (P := P) (w := w) t o.type e i ht hi g xs.length cap cur hcur ⟨h, 0, none⟩ 1 1 [.int .i64 y] (by rw [hsize]; rfl) hnews h1c hroom (by rw [hsize]; simp; omega)
          rw [hrr] at hr
          injection hr with hr1 _
          injection hr1 with hr1 _ _
          injection hr1 with hr1
          injection hr1 with hr1
          omega
    · obtain ⟨v'', w'', hr2, _, hgr⟩ := run_append_arg_grows (P := P) (w := w) t o.type e i (.int .i64 0) 1 8 ht hi hz hsize hby rfl (by decide) ⟨g, 0, none⟩ xs.length cap (xs.map (Value.int .i64)) (by simp) (fun j u hj => by
        have hjl : j < xs.length := by
          have := (List.getElem?_eq_some_iff.1 hj).1
          simpa using this
        rw [Addr.add_lit, Nat.zero_add, hown.cell j hjl]
        rw [List.getElem?_map, gI_some hjl] at hj
        simpa using hj) ⟨h, 0, none⟩ 1 1 [.int .i64 y] rfl hnews (by omega) h63 (by omega)
      rw [hr2] at hr
      injection hr with _ hr1
      subst hr1
      have := (Keeps.of_grown hgr).cell (p := ⟨g, k, none⟩) hgl (by simp)
      rw [this, hwc]
  unfold Oper.wp
  simp [execOp, ho, resolve, invoke, builtin, hs, hx, hr, Result.andThen]
  exact hK g2 cap2 w' hO hkeep hlies h5 hcells
end Go.Proofs.Ythpnmkghjnipoaa

/- Contracts: MultiplierCluster, the program. -/
namespace Go.Proofs.Ythpnmkghjnipoaa
open Go.RowKit

set_option maxRecDepth 100000 in
set_option maxHeartbeats 2000000 in
theorem implMu_1a (p s q : Value) (P S W : List Int) (t b : Int) (w : World) (hp : Rd w p P) (hs : Rd w s S) (hq : Rd w q W) (hc : cluB P S W = false) :
    Calls Try.prog 70 #[.agg #[p, s, q], .agg #[.int .i64 t, .int .i64 b]] w (RetCC w [] [] [] 1) := by
  obtain ⟨a1, k1, rfl⟩ := hp.len0
  obtain ⟨a2, k2, rfl⟩ := hs.len0
  obtain ⟨a3, k3, rfl⟩ := hq.len0
  have hqq := hq
  have hx := Boxed.start w 47 #[.slice a1 P.length k1, .slice a2 S.length k2, .slice a3 W.length k3]
  have hxa := (hx.alloc (.cells #[.int .i64 t, .int .i64 b] 62)).alloc (.cells #[.slice none 0 0, .slice none 0 0, .slice none 0 0] 47)
  have FF := (Blk.new' (w := w.alloc (.cells #[.slice a1 P.length k1, .slice a2 S.length k2, .slice a3 W.length k3] 47)) (t := 62) (cs := #[.int .i64 t, .int .i64 b]) (g := w.heap.size + 1) (by simp)).alloc (.cells #[.slice none 0 0, .slice none 0 0, .slice none 0 0] 47)
  have D := Blk.new' (w := (w.alloc (.cells #[.slice a1 P.length k1, .slice a2 S.length k2, .slice a3 W.length k3] 47)).alloc (.cells #[.int .i64 t, .int .i64 b] 62)) (t := 47) (cs := #[.slice none 0 0, .slice none 0 0, .slice none 0 0]) (g := w.heap.size + 2) (by simp)
  have c0 := hxa.cell 0
  have c1 := hxa.cell 1
  have c2 := hxa.cell 2
  have t0 := FF.cell 0
  have t1 := FF.cell 1
  go_enter Try.func70, Try.ntmps70
  go_wp2_with fail
  refine (implIsCluster_c _ _ _ P S W _ (hxa.rd hp) (hxa.rd hs) (hxa.rd hqq)).mono ?_
  rintro e w1 ⟨rfl, hb1⟩
  rw [hc]
  have hx1 := hxa.trans hb1
  have FF1 := FF.stays hb1
  have D1 := D.stays hb1
  have hsz1 := hb1.size
  clear c0 c1 c2 t0 t1
  have c0 := hx1.cell 0
  have c1 := hx1.cell 1
  have c2 := hx1.cell 2
  have t0 := FF1.cell 0
  have t1 := FF1.cell 1
  have f0 := D1.free 0
  have f1 := D1.free 1
  have f2 := D1.free 2
  have e0 := D1.cell 0
  have e1 := D1.cell 1
  have e2 := D1.cell 2
  go_wp2
  have q0 := ((((D1).set 0 (.slice none 0 0)).set 1 (.slice none 0 0)).set 2 (.slice none 0 0)).cell 0
  have q1 := ((((D1).set 0 (.slice none 0 0)).set 1 (.slice none 0 0)).set 2 (.slice none 0 0)).cell 1
  have q2 := ((((D1).set 0 (.slice none 0 0)).set 1 (.slice none 0 0)).set 2 (.slice none 0 0)).cell 2
  refine bodyPost_ret (v := .tuple #[.agg #[.slice none 0 0, .slice none 0 0, .slice none 0 0], .int .i64 1]) (by simp [results, Try.results70, go_sem, q0, q1, q2]) rfl ⟨none, 0, none, 0, none, 0, rfl, own3_nil _ _ _, ?_⟩
  exact ((hx1.below.setCell (p := ⟨w.heap.size + 2, 0, none⟩) (by show w.heap.size ≤ w.heap.size + 2; omega) _).setCell (p := ⟨w.heap.size + 2, 1, none⟩) (by show w.heap.size ≤ w.heap.size + 2; omega) _).setCell (p := ⟨w.heap.size + 2, 2, none⟩) (by show w.heap.size ≤ w.heap.size + 2; omega) _

set_option maxRecDepth 100000 in
set_option maxHeartbeats 2000000 in
theorem implMu_1b (p s q : Value) (P S W : List Int) (t b : Int) (w : World) (hp : Rd w p P) (hs : Rd w s S) (hq : Rd w q W) (hc : cluB P S W = true) (hf : fracB t b = false) :
    Calls Try.prog 70 #[.agg #[p, s, q], .agg #[.int .i64 t, .int .i64 b]] w (RetCC w [] [] [] 1) := by
  obtain ⟨a1, k1, rfl⟩ := hp.len0
  obtain ⟨a2, k2, rfl⟩ := hs.len0
  obtain ⟨a3, k3, rfl⟩ := hq.len0
  have hqq := hq
  have hx := Boxed.start w 47 #[.slice a1 P.length k1, .slice a2 S.length k2, .slice a3 W.length k3]
  have hxa := (hx.alloc (.cells #[.int .i64 t, .int .i64 b] 62)).alloc (.cells #[.slice none 0 0, .slice none 0 0, .slice none 0 0] 47)
  have FF := (Blk.new' (w := w.alloc (.cells #[.slice a1 P.length k1, .slice a2 S.length k2, .slice a3 W.length k3] 47)) (t := 62) (cs := #[.int .i64 t, .int .i64 b]) (g := w.heap.size + 1) (by simp)).alloc (.cells #[.slice none 0 0, .slice none 0 0, .slice none 0 0] 47)
  have D := Blk.new' (w := (w.alloc (.cells #[.slice a1 P.length k1, .slice a2 S.length k2, .slice a3 W.length k3] 47)).alloc (.cells #[.int .i64 t, .int .i64 b] 62)) (t := 47) (cs := #[.slice none 0 0, .slice none 0 0, .slice none 0 0]) (g := w.heap.size + 2) (by simp)
  have c0 := hxa.cell 0
  have c1 := hxa.cell 1
  have c2 := hxa.cell 2
  have t0 := FF.cell 0
  have t1 := FF.cell 1
  go_enter Try.func70, Try.ntmps70
  go_wp2_with fail
  refine (implIsCluster_c _ _ _ P S W _ (hxa.rd hp) (hxa.rd hs) (hxa.rd hqq)).mono ?_
  rintro e w1 ⟨rfl, hb1⟩
  rw [hc]
  have hx1 := hxa.trans hb1
  have FF1 := FF.stays hb1
  have D1 := D.stays hb1
  have hsz1 := hb1.size
  clear c0 c1 c2 t0 t1
  have c0 := hx1.cell 0
  have c1 := hx1.cell 1
  have c2 := hx1.cell 2
  have t0 := FF1.cell 0
  have t1 := FF1.cell 1
  go_wp2_with fail
  refine (isFraction_c t b _).mono ?_
  rintro e w2 ⟨rfl, hb2⟩
  rw [hf]
  have hx2 := hx1.trans hb2
  have FF2 := FF1.stays hb2
  have D2 := D1.stays hb2
  have hsz2 := hb2.size
  clear c0 c1 c2 t0 t1
  have c0 := hx2.cell 0
  have c1 := hx2.cell 1
  have c2 := hx2.cell 2
  have t0 := FF2.cell 0
  have t1 := FF2.cell 1
  have f0 := D2.free 0
  have f1 := D2.free 1
  have f2 := D2.free 2
  have e0 := D2.cell 0
  have e1 := D2.cell 1
  have e2 := D2.cell 2
  go_wp2
  have q0 := ((((D2).set 0 (.slice none 0 0)).set 1 (.slice none 0 0)).set 2 (.slice none 0 0)).cell 0
  have q1 := ((((D2).set 0 (.slice none 0 0)).set 1 (.slice none 0 0)).set 2 (.slice none 0 0)).cell 1
  have q2 := ((((D2).set 0 (.slice none 0 0)).set 1 (.slice none 0 0)).set 2 (.slice none 0 0)).cell 2
  refine bodyPost_ret (v := .tuple #[.agg #[.slice none 0 0, .slice none 0 0, .slice none 0 0], .int .i64 1]) (by simp [results, Try.results70, go_sem, q0, q1, q2]) rfl ⟨none, 0, none, 0, none, 0, rfl, own3_nil _ _ _, ?_⟩
  exact ((hx2.below.setCell (p := ⟨w.heap.size + 2, 0, none⟩) (by show w.heap.size ≤ w.heap.size + 2; omega) _).setCell (p := ⟨w.heap.size + 2, 1, none⟩) (by show w.heap.size ≤ w.heap.size + 2; omega) _).setCell (p := ⟨w.heap.size + 2, 2, none⟩) (by show w.heap.size ≤ w.heap.size + 2; omega) _

theorem maxTo_ge (L : List Int) : ∀ k, 0 < k → gI L 0 ≤ maxTo L k := by
  intro k
  induction k with
  | zero => intro h; omega
  | succ k ih =>
    intro _
    rw [maxTo_succ]
    by_cases h0 : k = 0
    · subst h0; show gI L 0 ≤ if gI L 0 < gI L 0 then gI L 0 else gI L 0; split <;> omega
    · have := ih (by omega)
      split <;> omega
theorem maxTo_le_zero {L : List Int} {b : Int} (h : maxTo L L.length ≤ b) (hp : 0 < L.length) : gI L 0 ≤ b := Int.le_trans (maxTo_ge L L.length hp) h

set_option maxRecDepth 100000 in
set_option maxHeartbeats 2000000 in
theorem implMu_2 (p s q : Value) (P S W : List Int) (t b : Int) (w : World) (hp : Rd w p P) (hs : Rd w s S) (hq : Rd w q W) (hc : cluB P S W = true) (hf : fracB t b = true) (hr : muR W t b = false) :
    Calls Try.prog 70 #[.agg #[p, s, q], .agg #[.int .i64 t, .int .i64 b]] w (RetCC w [] [] [] 2) := by
  obtain ⟨a1, k1, rfl⟩ := hp.len0
  obtain ⟨a2, k2, rfl⟩ := hs.len0
  obtain ⟨a3, k3, rfl⟩ := hq.len0
  have hqq := hq
  have hcl := cluB_iff.1 hc
  have hW0 : 0 < W.length := by have := hcl.1; omega
  have hWn : W.length ≤ 1000000 := by have := hcl.1; omega
  have hb0 : 1 ≤ b ∧ b ≤ 1000000000 ∧ -1000000000 ≤ t ∧ t ≤ 1000000000 := by
    unfold fracB at hf
    simp only [Bool.and_eq_true] at hf
    have h1 := inB_iff.1 hf.1
    have h2 := inB_iff.1 hf.2.1
    omega
  obtain ⟨hb1, hb2, ht1, ht2⟩ := hb0
  have w10 : IntKind.i64.wrap (10 * b) = 10 * b := IntWalk.i64_in _ (by omega)
  have hR : maxTo W W.length ≤ 1000 → b ≤ 1000 → 0 ≤ t → ¬ t ≤ 10 * b := by
    intro h1 h2 h3 h4
    have h5 := (maxTo_le ((maxTo_le_zero h1 hW0)) W.length).1 h1
    unfold muR at hr
    rw [decide_eq_true h5, decide_eq_true h2, decide_eq_true h3, decide_eq_true h4] at hr
    cases hr
  have HR := Lib.hid hR
  clear hR hr hcl
  have hx := Boxed.start w 47 #[.slice a1 P.length k1, .slice a2 S.length k2, .slice a3 W.length k3]
  have hxa := (hx.alloc (.cells #[.int .i64 t, .int .i64 b] 62)).alloc (.cells #[.slice none 0 0, .slice none 0 0, .slice none 0 0] 47)
  have FF := (Blk.new' (w := w.alloc (.cells #[.slice a1 P.length k1, .slice a2 S.length k2, .slice a3 W.length k3] 47)) (t := 62) (cs := #[.int .i64 t, .int .i64 b]) (g := w.heap.size + 1) (by simp)).alloc (.cells #[.slice none 0 0, .slice none 0 0, .slice none 0 0] 47)
  have D := Blk.new' (w := (w.alloc (.cells #[.slice a1 P.length k1, .slice a2 S.length k2, .slice a3 W.length k3] 47)).alloc (.cells #[.int .i64 t, .int .i64 b] 62)) (t := 47) (cs := #[.slice none 0 0, .slice none 0 0, .slice none 0 0]) (g := w.heap.size + 2) (by simp)
  have c0 := hxa.cell 0
  have c1 := hxa.cell 1
  have c2 := hxa.cell 2
  have t0 := FF.cell 0
  have t1 := FF.cell 1
  go_enter Try.func70, Try.ntmps70
  go_wp2_with fail
  refine (implIsCluster_c _ _ _ P S W _ (hxa.rd hp) (hxa.rd hs) (hxa.rd hqq)).mono ?_
  rintro e w1 ⟨rfl, hb1⟩
  rw [hc]
  have hx1 := hxa.trans hb1
  have FF1 := FF.stays hb1
  have D1 := D.stays hb1
  have hsz1 := hb1.size
  clear c0 c1 c2 t0 t1
  have c0 := hx1.cell 0
  have c1 := hx1.cell 1
  have c2 := hx1.cell 2
  have t0 := FF1.cell 0
  have t1 := FF1.cell 1
  go_wp2_with fail
  refine (isFraction_c t b _).mono ?_
  rintro e w2 ⟨rfl, hb2⟩
  rw [hf]
  have hx2 := hx1.trans hb2
  have FF2 := FF1.stays hb2
  have D2 := D1.stays hb2
  have hsz2 := hb2.size
  clear c0 c1 c2 t0 t1
  have c0 := hx2.cell 0
  have c1 := hx2.cell 1
  have c2 := hx2.cell 2
  have t0 := FF2.cell 0
  have t1 := FF2.cell 1
  go_wp2_with fail
  refine (max_c _ W _ (hx2.rd hqq) hW0 hWn).mono ?_
  rintro e wm ⟨rfl, rfl⟩
  have HM := Lib.hid HR.out
  clear HR
  generalize maxTo W W.length = mx at HM ⊢
  by_cases g1 : mx > 1000
  · skip
    have f0 := D2.free 0
    have f1 := D2.free 1
    have f2 := D2.free 2
    have e0 := D2.cell 0
    have e1 := D2.cell 1
    have e2 := D2.cell 2
    go_wp2
    have q0 := ((((D2).set 0 (.slice none 0 0)).set 1 (.slice none 0 0)).set 2 (.slice none 0 0)).cell 0
    have q1 := ((((D2).set 0 (.slice none 0 0)).set 1 (.slice none 0 0)).set 2 (.slice none 0 0)).cell 1
    have q2 := ((((D2).set 0 (.slice none 0 0)).set 1 (.slice none 0 0)).set 2 (.slice none 0 0)).cell 2
    refine bodyPost_ret (v := .tuple #[.agg #[.slice none 0 0, .slice none 0 0, .slice none 0 0], .int .i64 2]) (by simp [results, Try.results70, go_sem, q0, q1, q2]) rfl ⟨none, 0, none, 0, none, 0, rfl, own3_nil _ _ _, ?_⟩
    exact ((hx2.below.setCell (p := ⟨w.heap.size + 2, 0, none⟩) (by show w.heap.size ≤ w.heap.size + 2; omega) _).setCell (p := ⟨w.heap.size + 2, 1, none⟩) (by show w.heap.size ≤ w.heap.size + 2; omega) _).setCell (p := ⟨w.heap.size + 2, 2, none⟩) (by show w.heap.size ≤ w.heap.size + 2; omega) _
  · by_cases g2 : b > 1000
    · skip
      have f0 := D2.free 0
      have f1 := D2.free 1
      have f2 := D2.free 2
      have e0 := D2.cell 0
      have e1 := D2.cell 1
      have e2 := D2.cell 2
      go_wp2
      have q0 := ((((D2).set 0 (.slice none 0 0)).set 1 (.slice none 0 0)).set 2 (.slice none 0 0)).cell 0
      have q1 := ((((D2).set 0 (.slice none 0 0)).set 1 (.slice none 0 0)).set 2 (.slice none 0 0)).cell 1
      have q2 := ((((D2).set 0 (.slice none 0 0)).set 1 (.slice none 0 0)).set 2 (.slice none 0 0)).cell 2
      refine bodyPost_ret (v := .tuple #[.agg #[.slice none 0 0, .slice none 0 0, .slice none 0 0], .int .i64 2]) (by simp [results, Try.results70, go_sem, q0, q1, q2]) rfl ⟨none, 0, none, 0, none, 0, rfl, own3_nil _ _ _, ?_⟩
      exact ((hx2.below.setCell (p := ⟨w.heap.size + 2, 0, none⟩) (by show w.heap.size ≤ w.heap.size + 2; omega) _).setCell (p := ⟨w.heap.size + 2, 1, none⟩) (by show w.heap.size ≤ w.heap.size + 2; omega) _).setCell (p := ⟨w.heap.size + 2, 2, none⟩) (by show w.heap.size ≤ w.heap.size + 2; omega) _
    · by_cases g3 : t < 0
      · skip
        have f0 := D2.free 0
        have f1 := D2.free 1
        have f2 := D2.free 2
        have e0 := D2.cell 0
        have e1 := D2.cell 1
        have e2 := D2.cell 2
        go_wp2
        have q0 := ((((D2).set 0 (.slice none 0 0)).set 1 (.slice none 0 0)).set 2 (.slice none 0 0)).cell 0
        have q1 := ((((D2).set 0 (.slice none 0 0)).set 1 (.slice none 0 0)).set 2 (.slice none 0 0)).cell 1
        have q2 := ((((D2).set 0 (.slice none 0 0)).set 1 (.slice none 0 0)).set 2 (.slice none 0 0)).cell 2
        refine bodyPost_ret (v := .tuple #[.agg #[.slice none 0 0, .slice none 0 0, .slice none 0 0], .int .i64 2]) (by simp [results, Try.results70, go_sem, q0, q1, q2]) rfl ⟨none, 0, none, 0, none, 0, rfl, own3_nil _ _ _, ?_⟩
        exact ((hx2.below.setCell (p := ⟨w.heap.size + 2, 0, none⟩) (by show w.heap.size ≤ w.heap.size + 2; omega) _).setCell (p := ⟨w.heap.size + 2, 1, none⟩) (by show w.heap.size ≤ w.heap.size + 2; omega) _).setCell (p := ⟨w.heap.size + 2, 2, none⟩) (by show w.heap.size ≤ w.heap.size + 2; omega) _
      · have g4 : t > 10 * b := by have := HM.out (by omega) (by omega) (by omega); omega
        have f0 := D2.free 0
        have f1 := D2.free 1
        have f2 := D2.free 2
        have e0 := D2.cell 0
        have e1 := D2.cell 1
        have e2 := D2.cell 2
        go_wp2
        have q0 := ((((D2).set 0 (.slice none 0 0)).set 1 (.slice none 0 0)).set 2 (.slice none 0 0)).cell 0
        have q1 := ((((D2).set 0 (.slice none 0 0)).set 1 (.slice none 0 0)).set 2 (.slice none 0 0)).cell 1
        have q2 := ((((D2).set 0 (.slice none 0 0)).set 1 (.slice none 0 0)).set 2 (.slice none 0 0)).cell 2
        refine bodyPost_ret (v := .tuple #[.agg #[.slice none 0 0, .slice none 0 0, .slice none 0 0], .int .i64 2]) (by simp [results, Try.results70, go_sem, q0, q1, q2]) rfl ⟨none, 0, none, 0, none, 0, rfl, own3_nil _ _ _, ?_⟩
        exact ((hx2.below.setCell (p := ⟨w.heap.size + 2, 0, none⟩) (by show w.heap.size ≤ w.heap.size + 2; omega) _).setCell (p := ⟨w.heap.size + 2, 1, none⟩) (by show w.heap.size ≤ w.heap.size + 2; omega) _).setCell (p := ⟨w.heap.size + 2, 2, none⟩) (by show w.heap.size ≤ w.heap.size + 2; omega) _

set_option maxRecDepth 100000 in
set_option maxHeartbeats 2000000 in
theorem implMu_3 (p s q : Value) (P S W : List Int) (t b : Int) (w : World) (hp : Rd w p P) (hs : Rd w s S) (hq : Rd w q W) (hc : cluB P S W = true) (hf : fracB t b = true) (hr : muR W t b = true) (hn : nonNeg (exTo (proxL P S) W P.length) = false) :
    Calls Try.prog 70 #[.agg #[p, s, q], .agg #[.int .i64 t, .int .i64 b]] w (RetCC w [] [] [] 5) := by
  obtain ⟨a1, k1, rfl⟩ := hp.len0
  obtain ⟨a2, k2, rfl⟩ := hs.len0
  obtain ⟨a3, k3, rfl⟩ := hq.len0
  have hqq := hq
  have hcl := cluB_iff.1 hc
  have hW0 : 0 < W.length := by have := hcl.1; omega
  have hWn : W.length ≤ 1000000 := by have := hcl.1; omega
  have hb0 : 1 ≤ b ∧ b ≤ 1000000000 ∧ -1000000000 ≤ t ∧ t ≤ 1000000000 := by
    unfold fracB at hf
    simp only [Bool.and_eq_true] at hf
    have h1 := inB_iff.1 hf.1
    have h2 := inB_iff.1 hf.2.1
    omega
  obtain ⟨hb1, hb2, ht1, ht2⟩ := hb0
  have w10 : IntKind.i64.wrap (10 * b) = 10 * b := IntWalk.i64_in _ (by omega)
  have hr1 : (∀ i, i < W.length → gI W i ≤ 1000) ∧ b ≤ 1000 ∧ 0 ≤ t ∧ t ≤ 10 * b := by
    unfold muR at hr
    simpa only [Bool.and_eq_true, decide_eq_true_eq] using hr
  obtain ⟨hm1, hm2, hm3, hm4⟩ := hr1
  have hmx : ¬ maxTo W W.length > 1000 := by
    have := (maxTo_le (hm1 0 hW0) W.length).2 hm1
    omega
  have hn2 : ¬ b > 1000 := by omega
  have hn3 : ¬ t < 0 := by omega
  have hn4 : ¬ t > 10 * b := by omega
  have HCL := Lib.hid hcl
  clear hcl hr hm1
  have hx := Boxed.start w 47 #[.slice a1 P.length k1, .slice a2 S.length k2, .slice a3 W.length k3]
  have hxa := (hx.alloc (.cells #[.int .i64 t, .int .i64 b] 62)).alloc (.cells #[.slice none 0 0, .slice none 0 0, .slice none 0 0] 47)
  have FF := (Blk.new' (w := w.alloc (.cells #[.slice a1 P.length k1, .slice a2 S.length k2, .slice a3 W.length k3] 47)) (t := 62) (cs := #[.int .i64 t, .int .i64 b]) (g := w.heap.size + 1) (by simp)).alloc (.cells #[.slice none 0 0, .slice none 0 0, .slice none 0 0] 47)
  have D := Blk.new' (w := (w.alloc (.cells #[.slice a1 P.length k1, .slice a2 S.length k2, .slice a3 W.length k3] 47)).alloc (.cells #[.int .i64 t, .int .i64 b] 62)) (t := 47) (cs := #[.slice none 0 0, .slice none 0 0, .slice none 0 0]) (g := w.heap.size + 2) (by simp)
  have c0 := hxa.cell 0
  have c1 := hxa.cell 1
  have c2 := hxa.cell 2
  have t0 := FF.cell 0
  have t1 := FF.cell 1
  go_enter Try.func70, Try.ntmps70
  go_wp2_with fail
  refine (implIsCluster_c _ _ _ P S W _ (hxa.rd hp) (hxa.rd hs) (hxa.rd hqq)).mono ?_
  rintro e w1 ⟨rfl, hb1⟩
  rw [hc]
  have hx1 := hxa.trans hb1
  have FF1 := FF.stays hb1
  have D1 := D.stays hb1
  have hsz1 := hb1.size
  clear c0 c1 c2 t0 t1
  have c0 := hx1.cell 0
  have c1 := hx1.cell 1
  have c2 := hx1.cell 2
  have t0 := FF1.cell 0
  have t1 := FF1.cell 1
  go_wp2_with fail
  refine (isFraction_c t b _).mono ?_
  rintro e w2 ⟨rfl, hb2⟩
  rw [hf]
  have hx2 := hx1.trans hb2
  have FF2 := FF1.stays hb2
  have D2 := D1.stays hb2
  have hsz2 := hb2.size
  clear c0 c1 c2 t0 t1
  have c0 := hx2.cell 0
  have c1 := hx2.cell 1
  have c2 := hx2.cell 2
  have t0 := FF2.cell 0
  have t1 := FF2.cell 1
  go_wp2_with fail
  refine (max_c _ W _ (hx2.rd hqq) hW0 hWn).mono ?_
  rintro e wm ⟨rfl, rfl⟩
  generalize maxTo W W.length = mx at hmx ⊢
  go_wp2_with fail
  refine (consistent_c _ _ _ P S W _ (hx2.rd hp) (hx2.rd hs) (hx2.rd hqq) HCL.out).mono ?_
  rintro e w3 ⟨rfl, hb3⟩
  rw [hn]
  have hx3 := hx2.trans hb3
  have FF3 := FF2.stays hb3
  have D3 := D2.stays hb3
  have hsz3 := hb3.size
  clear c0 c1 c2 t0 t1
  have c0 := hx3.cell 0
  have c1 := hx3.cell 1
  have c2 := hx3.cell 2
  have t0 := FF3.cell 0
  have t1 := FF3.cell 1
  have f0 := D3.free 0
  have f1 := D3.free 1
  have f2 := D3.free 2
  have e0 := D3.cell 0
  have e1 := D3.cell 1
  have e2 := D3.cell 2
  go_wp2
  have q0 := ((((D3).set 0 (.slice none 0 0)).set 1 (.slice none 0 0)).set 2 (.slice none 0 0)).cell 0
  have q1 := ((((D3).set 0 (.slice none 0 0)).set 1 (.slice none 0 0)).set 2 (.slice none 0 0)).cell 1
  have q2 := ((((D3).set 0 (.slice none 0 0)).set 1 (.slice none 0 0)).set 2 (.slice none 0 0)).cell 2
  refine bodyPost_ret (v := .tuple #[.agg #[.slice none 0 0, .slice none 0 0, .slice none 0 0], .int .i64 5]) (by simp [results, Try.results70, go_sem, q0, q1, q2]) rfl ⟨none, 0, none, 0, none, 0, rfl, own3_nil _ _ _, ?_⟩
  exact ((hx3.below.setCell (p := ⟨w.heap.size + 2, 0, none⟩) (by show w.heap.size ≤ w.heap.size + 2; omega) _).setCell (p := ⟨w.heap.size + 2, 1, none⟩) (by show w.heap.size ≤ w.heap.size + 2; omega) _).setCell (p := ⟨w.heap.size + 2, 2, none⟩) (by show w.heap.size ≤ w.heap.size + 2; omega) _

end Go.Proofs.Ythpnmkghjnipoaa

/- Contracts: MultiplierCluster, the reference: the error cases. -/
namespace Go.Proofs.Ythpnmkghjnipoaa
open Go.RowKit

set_option maxRecDepth 100000 in
set_option maxHeartbeats 2000000 in
theorem specMu_1a (p s q : Value) (P S W : List Int) (t b : Int) (w : World) (hp : Rd w p P) (hs : Rd w s S) (hq : Rd w q W) (hc : cluB P S W = false) :
    Calls Try.prog 67 #[.agg #[p, s, q], .agg #[.int .i64 t, .int .i64 b]] w (RetCC w [] [] [] 1) := by
  obtain ⟨a1, k1, rfl⟩ := hp.len0
  obtain ⟨a2, k2, rfl⟩ := hs.len0
  obtain ⟨a3, k3, rfl⟩ := hq.len0
  have hqq := hq
  have hx := Boxed.start w 47 #[.slice a1 P.length k1, .slice a2 S.length k2, .slice a3 W.length k3]
  have hxa := (hx.alloc (.cells #[.int .i64 t, .int .i64 b] 62)).alloc (.cells #[.slice none 0 0, .slice none 0 0, .slice none 0 0] 47)
  have FF := (Blk.new' (w := w.alloc (.cells #[.slice a1 P.length k1, .slice a2 S.length k2, .slice a3 W.length k3] 47)) (t := 62) (cs := #[.int .i64 t, .int .i64 b]) (g := w.heap.size + 1) (by simp)).alloc (.cells #[.slice none 0 0, .slice none 0 0, .slice none 0 0] 47)
  have D := Blk.new' (w := (w.alloc (.cells #[.slice a1 P.length k1, .slice a2 S.length k2, .slice a3 W.length k3] 47)).alloc (.cells #[.int .i64 t, .int .i64 b] 62)) (t := 47) (cs := #[.slice none 0 0, .slice none 0 0, .slice none 0 0]) (g := w.heap.size + 2) (by simp)
  have c0 := hxa.cell 0
  have c1 := hxa.cell 1
  have c2 := hxa.cell 2
  have t0 := FF.cell 0
  have t1 := FF.cell 1
  go_enter Try.func67, Try.ntmps67
  go_wp2_with fail
  refine (l07Is_c _ _ _ P S W _ (hxa.rd hp) (hxa.rd hs) (hxa.rd hqq)).mono ?_
  rintro e w1 ⟨rfl, hb1⟩
  rw [hc]
  have hx1 := hxa.trans hb1
  have FF1 := FF.stays hb1
  have D1 := D.stays hb1
  have hsz1 := hb1.size
  clear c0 c1 c2 t0 t1
  have c0 := hx1.cell 0
  have c1 := hx1.cell 1
  have c2 := hx1.cell 2
  have t0 := FF1.cell 0
  have t1 := FF1.cell 1
  have f0 := D1.free 0
  have f1 := D1.free 1
  have f2 := D1.free 2
  have e0 := D1.cell 0
  have e1 := D1.cell 1
  have e2 := D1.cell 2
  go_wp2
  have q0 := ((((D1).set 0 (.slice none 0 0)).set 1 (.slice none 0 0)).set 2 (.slice none 0 0)).cell 0
  have q1 := ((((D1).set 0 (.slice none 0 0)).set 1 (.slice none 0 0)).set 2 (.slice none 0 0)).cell 1
  have q2 := ((((D1).set 0 (.slice none 0 0)).set 1 (.slice none 0 0)).set 2 (.slice none 0 0)).cell 2
  refine bodyPost_ret (v := .tuple #[.agg #[.slice none 0 0, .slice none 0 0, .slice none 0 0], .int .i64 1]) (by simp [results, Try.results67, go_sem, q0, q1, q2]) rfl ⟨none, 0, none, 0, none, 0, rfl, own3_nil _ _ _, ?_⟩
  exact ((hx1.below.setCell (p := ⟨w.heap.size + 2, 0, none⟩) (by show w.heap.size ≤ w.heap.size + 2; omega) _).setCell (p := ⟨w.heap.size + 2, 1, none⟩) (by show w.heap.size ≤ w.heap.size + 2; omega) _).setCell (p := ⟨w.heap.size + 2, 2, none⟩) (by show w.heap.size ≤ w.heap.size + 2; omega) _

set_option maxRecDepth 100000 in
set_option maxHeartbeats 2000000 in
theorem specMu_1b (p s q : Value) (P S W : List Int) (t b : Int) (w : World) (hp : Rd w p P) (hs : Rd w s S) (hq : Rd w q W) (hc : cluB P S W = true) (hf : fracB t b = false) :
    Calls Try.prog 67 #[.agg #[p, s, q], .agg #[.int .i64 t, .int .i64 b]] w (RetCC w [] [] [] 1) := by
  obtain ⟨a1, k1, rfl⟩ := hp.len0
  obtain ⟨a2, k2, rfl⟩ := hs.len0
  obtain ⟨a3, k3, rfl⟩ := hq.len0
  have hqq := hq
  have hx := Boxed.start w 47 #[.slice a1 P.length k1, .slice a2 S.length k2, .slice a3 W.length k3]
  have hxa := (hx.alloc (.cells #[.int .i64 t, .int .i64 b] 62)).alloc (.cells #[.slice none 0 0, .slice none 0 0, .slice none 0 0] 47)
  have FF := (Blk.new' (w := w.alloc (.cells #[.slice a1 P.length k1, .slice a2 S.length k2, .slice a3 W.length k3] 47)) (t := 62) (cs := #[.int .i64 t, .int .i64 b]) (g := w.heap.size + 1) (by simp)).alloc (.cells #[.slice none 0 0, .slice none 0 0, .slice none 0 0] 47)
  have D := Blk.new' (w := (w.alloc (.cells #[.slice a1 P.length k1, .slice a2 S.length k2, .slice a3 W.length k3] 47)).alloc (.cells #[.int .i64 t, .int .i64 b] 62)) (t := 47) (cs := #[.slice none 0 0, .slice none 0 0, .slice none 0 0]) (g := w.heap.size + 2) (by simp)
  have c0 := hxa.cell 0
  have c1 := hxa.cell 1
  have c2 := hxa.cell 2
  have t0 := FF.cell 0
  have t1 := FF.cell 1
  go_enter Try.func67, Try.ntmps67
  go_wp2_with fail
  refine (l07Is_c _ _ _ P S W _ (hxa.rd hp) (hxa.rd hs) (hxa.rd hqq)).mono ?_
  rintro e w1 ⟨rfl, hb1⟩
  rw [hc]
  have hx1 := hxa.trans hb1
  have FF1 := FF.stays hb1
  have D1 := D.stays hb1
  have hsz1 := hb1.size
  clear c0 c1 c2 t0 t1
  have c0 := hx1.cell 0
  have c1 := hx1.cell 1
  have c2 := hx1.cell 2
  have t0 := FF1.cell 0
  have t1 := FF1.cell 1
  go_wp2_with fail
  refine (l01FractionA_c t b _).mono ?_
  rintro e w2 ⟨rfl, hb2⟩
  rw [hf]
  have hx2 := hx1.trans hb2
  have FF2 := FF1.stays hb2
  have D2 := D1.stays hb2
  have hsz2 := hb2.size
  clear c0 c1 c2 t0 t1
  have c0 := hx2.cell 0
  have c1 := hx2.cell 1
  have c2 := hx2.cell 2
  have t0 := FF2.cell 0
  have t1 := FF2.cell 1
  have f0 := D2.free 0
  have f1 := D2.free 1
  have f2 := D2.free 2
  have e0 := D2.cell 0
  have e1 := D2.cell 1
  have e2 := D2.cell 2
  go_wp2
  have q0 := ((((D2).set 0 (.slice none 0 0)).set 1 (.slice none 0 0)).set 2 (.slice none 0 0)).cell 0
  have q1 := ((((D2).set 0 (.slice none 0 0)).set 1 (.slice none 0 0)).set 2 (.slice none 0 0)).cell 1
  have q2 := ((((D2).set 0 (.slice none 0 0)).set 1 (.slice none 0 0)).set 2 (.slice none 0 0)).cell 2
  refine bodyPost_ret (v := .tuple #[.agg #[.slice none 0 0, .slice none 0 0, .slice none 0 0], .int .i64 1]) (by simp [results, Try.results67, go_sem, q0, q1, q2]) rfl ⟨none, 0, none, 0, none, 0, rfl, own3_nil _ _ _, ?_⟩
  exact ((hx2.below.setCell (p := ⟨w.heap.size + 2, 0, none⟩) (by show w.heap.size ≤ w.heap.size + 2; omega) _).setCell (p := ⟨w.heap.size + 2, 1, none⟩) (by show w.heap.size ≤ w.heap.size + 2; omega) _).setCell (p := ⟨w.heap.size + 2, 2, none⟩) (by show w.heap.size ≤ w.heap.size + 2; omega) _

set_option maxRecDepth 100000 in
set_option maxHeartbeats 2000000 in
theorem specMu_2 (p s q : Value) (P S W : List Int) (t b : Int) (w : World) (hp : Rd w p P) (hs : Rd w s S) (hq : Rd w q W) (hc : cluB P S W = true) (hf : fracB t b = true) (hr : muR W t b = false) :
    Calls Try.prog 67 #[.agg #[p, s, q], .agg #[.int .i64 t, .int .i64 b]] w (RetCC w [] [] [] 2) := by
  obtain ⟨a1, k1, rfl⟩ := hp.len0
  obtain ⟨a2, k2, rfl⟩ := hs.len0
  have hqq := hq
  have hcl := cluB_iff.1 hc
  have hW0 : 0 < W.length := by have := hcl.1; omega
  have hWn : W.length ≤ 1000000 := by have := hcl.1; omega
  have hb0 : 1 ≤ b ∧ b ≤ 1000000000 ∧ -1000000000 ≤ t ∧ t ≤ 1000000000 := by
    unfold fracB at hf
    simp only [Bool.and_eq_true] at hf
    have h1 := inB_iff.1 hf.1
    have h2 := inB_iff.1 hf.2.1
    omega
  obtain ⟨hb1, hb2, ht1, ht2⟩ := hb0
  have w10 : IntKind.i64.wrap (10 * b) = 10 * b := IntWalk.i64_in _ (by omega)
  obtain ⟨bw3, ow3, k3, rfl, hq1, hq2, hb3, hc3⟩ := hq.cells hW0
  have hR : 0 ≤ t → b ≤ 1000 → t ≤ 10 * b → ¬ ∀ i, i < W.length → gI W i ≤ 1000 := by
    intro h3 h2 h4 h5
    unfold muR at hr
    rw [decide_eq_true h5, decide_eq_true h2, decide_eq_true h3, decide_eq_true h4] at hr
    cases hr
  have HR := Lib.hid hR
  clear hR hr hcl
  have hx := Boxed.start w 47 #[.slice a1 P.length k1, .slice a2 S.length k2, .slice (some ⟨bw3, ow3, none⟩) W.length k3]
  have hxa := (hx.alloc (.cells #[.int .i64 t, .int .i64 b] 62)).alloc (.cells #[.slice none 0 0, .slice none 0 0, .slice none 0 0] 47)
  have FF := (Blk.new' (w := w.alloc (.cells #[.slice a1 P.length k1, .slice a2 S.length k2, .slice (some ⟨bw3, ow3, none⟩) W.length k3] 47)) (t := 62) (cs := #[.int .i64 t, .int .i64 b]) (g := w.heap.size + 1) (by simp)).alloc (.cells #[.slice none 0 0, .slice none 0 0, .slice none 0 0] 47)
  have D := Blk.new' (w := (w.alloc (.cells #[.slice a1 P.length k1, .slice a2 S.length k2, .slice (some ⟨bw3, ow3, none⟩) W.length k3] 47)).alloc (.cells #[.int .i64 t, .int .i64 b] 62)) (t := 47) (cs := #[.slice none 0 0, .slice none 0 0, .slice none 0 0]) (g := w.heap.size + 2) (by simp)
  have c0 := hxa.cell 0
  have c1 := hxa.cell 1
  have c2 := hxa.cell 2
  have t0 := FF.cell 0
  have t1 := FF.cell 1
  go_enter Try.func67, Try.ntmps67
  go_wp2_with fail
  refine (l07Is_c _ _ _ P S W _ (hxa.rd hp) (hxa.rd hs) (hxa.rd hqq)).mono ?_
  rintro e w1 ⟨rfl, hb1⟩
  rw [hc]
  have hx1 := hxa.trans hb1
  have FF1 := FF.stays hb1
  have D1 := D.stays hb1
  have hsz1 := hb1.size
  clear c0 c1 c2 t0 t1
  have c0 := hx1.cell 0
  have c1 := hx1.cell 1
  have c2 := hx1.cell 2
  have t0 := FF1.cell 0
  have t1 := FF1.cell 1
  go_wp2_with fail
  refine (l01FractionA_c t b _).mono ?_
  rintro e w2 ⟨rfl, hb2⟩
  rw [hf]
  have hx2 := hx1.trans hb2
  have FF2 := FF1.stays hb2
  have D2 := D1.stays hb2
  have hsz2 := hb2.size
  clear c0 c1 c2 t0 t1
  have c0 := hx2.cell 0
  have c1 := hx2.cell 1
  have c2 := hx2.cell 2
  have t0 := FF2.cell 0
  have t1 := FF2.cell 1
  by_cases g3 : t < 0
  · skip
    have f0 := D2.free 0
    have f1 := D2.free 1
    have f2 := D2.free 2
    have e0 := D2.cell 0
    have e1 := D2.cell 1
    have e2 := D2.cell 2
    go_wp2
    have q0 := ((((D2).set 0 (.slice none 0 0)).set 1 (.slice none 0 0)).set 2 (.slice none 0 0)).cell 0
    have q1 := ((((D2).set 0 (.slice none 0 0)).set 1 (.slice none 0 0)).set 2 (.slice none 0 0)).cell 1
    have q2 := ((((D2).set 0 (.slice none 0 0)).set 1 (.slice none 0 0)).set 2 (.slice none 0 0)).cell 2
    refine bodyPost_ret (v := .tuple #[.agg #[.slice none 0 0, .slice none 0 0, .slice none 0 0], .int .i64 2]) (by simp [results, Try.results67, go_sem, q0, q1, q2]) rfl ⟨none, 0, none, 0, none, 0, rfl, own3_nil _ _ _, ?_⟩
    exact ((hx2.below.setCell (p := ⟨w.heap.size + 2, 0, none⟩) (by show w.heap.size ≤ w.heap.size + 2; omega) _).setCell (p := ⟨w.heap.size + 2, 1, none⟩) (by show w.heap.size ≤ w.heap.size + 2; omega) _).setCell (p := ⟨w.heap.size + 2, 2, none⟩) (by show w.heap.size ≤ w.heap.size + 2; omega) _
  · by_cases g2 : b > 1000
    · skip
      have f0 := D2.free 0
      have f1 := D2.free 1
      have f2 := D2.free 2
      have e0 := D2.cell 0
      have e1 := D2.cell 1
      have e2 := D2.cell 2
      go_wp2
      have q0 := ((((D2).set 0 (.slice none 0 0)).set 1 (.slice none 0 0)).set 2 (.slice none 0 0)).cell 0
      have q1 := ((((D2).set 0 (.slice none 0 0)).set 1 (.slice none 0 0)).set 2 (.slice none 0 0)).cell 1
      have q2 := ((((D2).set 0 (.slice none 0 0)).set 1 (.slice none 0 0)).set 2 (.slice none 0 0)).cell 2
      refine bodyPost_ret (v := .tuple #[.agg #[.slice none 0 0, .slice none 0 0, .slice none 0 0], .int .i64 2]) (by simp [results, Try.results67, go_sem, q0, q1, q2]) rfl ⟨none, 0, none, 0, none, 0, rfl, own3_nil _ _ _, ?_⟩
      exact ((hx2.below.setCell (p := ⟨w.heap.size + 2, 0, none⟩) (by show w.heap.size ≤ w.heap.size + 2; omega) _).setCell (p := ⟨w.heap.size + 2, 1, none⟩) (by show w.heap.size ≤ w.heap.size + 2; omega) _).setCell (p := ⟨w.heap.size + 2, 2, none⟩) (by show w.heap.size ≤ w.heap.size + 2; omega) _
    · by_cases g4 : t > 10 * b
      · skip
        have f0 := D2.free 0
        have f1 := D2.free 1
        have f2 := D2.free 2
        have e0 := D2.cell 0
        have e1 := D2.cell 1
        have e2 := D2.cell 2
        go_wp2
        have q0 := ((((D2).set 0 (.slice none 0 0)).set 1 (.slice none 0 0)).set 2 (.slice none 0 0)).cell 0
        have q1 := ((((D2).set 0 (.slice none 0 0)).set 1 (.slice none 0 0)).set 2 (.slice none 0 0)).cell 1
        have q2 := ((((D2).set 0 (.slice none 0 0)).set 1 (.slice none 0 0)).set 2 (.slice none 0 0)).cell 2
        refine bodyPost_ret (v := .tuple #[.agg #[.slice none 0 0, .slice none 0 0, .slice none 0 0], .int .i64 2]) (by simp [results, Try.results67, go_sem, q0, q1, q2]) rfl ⟨none, 0, none, 0, none, 0, rfl, own3_nil _ _ _, ?_⟩
        exact ((hx2.below.setCell (p := ⟨w.heap.size + 2, 0, none⟩) (by show w.heap.size ≤ w.heap.size + 2; omega) _).setCell (p := ⟨w.heap.size + 2, 1, none⟩) (by show w.heap.size ≤ w.heap.size + 2; omega) _).setCell (p := ⟨w.heap.size + 2, 2, none⟩) (by show w.heap.size ≤ w.heap.size + 2; omega) _
      · have HM := Lib.hid (HR.out (by omega) (by omega) (by omega))
        clear HR
        go_wp2
        go_loop [6] (fun i => ∃ k : Nat, k ≤ W.length ∧ i = .int .i64 k ∧ ∀ j, j < k → gI W j ≤ 1000) (fun i => W.length - (intOf i).toNat)
        case atStart => exact ⟨0, Nat.zero_le _, rfl, fun j hj => absurd hj (by omega)⟩
        case round =>
          obtain ⟨k, hk, rfl, hmk⟩ := hrel
          have k00 : (0 : Int) ≤ (k : Int) := Int.natCast_nonneg _
          by_cases hlt : k < W.length
          · have hki : (k : Int) < (W.length : Int) := by omega
            have cw : w2.cell? ⟨bw3, ow3 + k, none⟩ = some (.int .i64 (gI W k)) := by rw [hx2.below.cell (p := ⟨bw3, ow3 + k, none⟩) hb3]; exact hc3 k hlt
            have hnx : gI W k ≤ 1000 → ∀ j, j < k + 1 → gI W j ≤ 1000 := fun h j hj => by
              by_cases e : j = k
              · rw [e]; exact h
              · exact hmk j (by omega)
            have HNX := Lib.hid hnx
            clear hnx hmk
            generalize gI W k = x at cw HNX
            by_cases hgt : x > 1000
            · skip
              have f0 := D2.free 0
              have f1 := D2.free 1
              have f2 := D2.free 2
              have e0 := D2.cell 0
              have e1 := D2.cell 1
              have e2 := D2.cell 2
              go_wp2
              have q0 := ((((D2).set 0 (.slice none 0 0)).set 1 (.slice none 0 0)).set 2 (.slice none 0 0)).cell 0
              have q1 := ((((D2).set 0 (.slice none 0 0)).set 1 (.slice none 0 0)).set 2 (.slice none 0 0)).cell 1
              have q2 := ((((D2).set 0 (.slice none 0 0)).set 1 (.slice none 0 0)).set 2 (.slice none 0 0)).cell 2
              refine bodyPost_ret (v := .tuple #[.agg #[.slice none 0 0, .slice none 0 0, .slice none 0 0], .int .i64 2]) (by simp [results, Try.results67, go_sem, q0, q1, q2]) rfl ⟨none, 0, none, 0, none, 0, rfl, own3_nil _ _ _, ?_⟩
              exact ((hx2.below.setCell (p := ⟨w.heap.size + 2, 0, none⟩) (by show w.heap.size ≤ w.heap.size + 2; omega) _).setCell (p := ⟨w.heap.size + 2, 1, none⟩) (by show w.heap.size ≤ w.heap.size + 2; omega) _).setCell (p := ⟨w.heap.size + 2, 2, none⟩) (by show w.heap.size ≤ w.heap.size + 2; omega) _
            · have hx1 := Lib.hid (HNX.out (by omega))
              clear HNX
              go_wp2
              go_round
              case rel => exact ⟨k + 1, by omega, by go_num, hx1.out⟩
              case measure => simp [intOf]; omega
          · have hk' : k = W.length := by omega
            subst hk'
            exact absurd hmk (HM.out)

set_option maxRecDepth 100000 in
set_option maxHeartbeats 2000000 in
theorem specMu_3 (p s q : Value) (P S W : List Int) (t b : Int) (w : World) (hp : Rd w p P) (hs : Rd w s S) (hq : Rd w q W) (hc : cluB P S W = true) (hf : fracB t b = true) (hr : muR W t b = true) (hn : nonNeg (exTo (proxL P S) W P.length) = false) :
    Calls Try.prog 67 #[.agg #[p, s, q], .agg #[.int .i64 t, .int .i64 b]] w (RetCC w [] [] [] 5) := by
  obtain ⟨a1, k1, rfl⟩ := hp.len0
  obtain ⟨a2, k2, rfl⟩ := hs.len0
  have hqq := hq
  have hcl := cluB_iff.1 hc
  have hW0 : 0 < W.length := by have := hcl.1; omega
  have hWn : W.length ≤ 1000000 := by have := hcl.1; omega
  have hb0 : 1 ≤ b ∧ b ≤ 1000000000 ∧ -1000000000 ≤ t ∧ t ≤ 1000000000 := by
    unfold fracB at hf
    simp only [Bool.and_eq_true] at hf
    have h1 := inB_iff.1 hf.1
    have h2 := inB_iff.1 hf.2.1
    omega
  obtain ⟨hb1, hb2, ht1, ht2⟩ := hb0
  have w10 : IntKind.i64.wrap (10 * b) = 10 * b := IntWalk.i64_in _ (by omega)
  obtain ⟨bw3, ow3, k3, rfl, hq1, hq2, hb3, hc3⟩ := hq.cells hW0
  have hr1 : (∀ i, i < W.length → gI W i ≤ 1000) ∧ b ≤ 1000 ∧ 0 ≤ t ∧ t ≤ 10 * b := by
    unfold muR at hr
    simpa only [Bool.and_eq_true, decide_eq_true_eq] using hr
  obtain ⟨hm1, hm2, hm3, hm4⟩ := hr1
  have HM1 := Lib.hid hm1
  have hn2 : ¬ b > 1000 := by omega
  have hn3 : ¬ t < 0 := by omega
  have hn4 : ¬ t > 10 * b := by omega
  have HCL := Lib.hid hcl
  clear hcl hr hm1
  have hx := Boxed.start w 47 #[.slice a1 P.length k1, .slice a2 S.length k2, .slice (some ⟨bw3, ow3, none⟩) W.length k3]
  have hxa := (hx.alloc (.cells #[.int .i64 t, .int .i64 b] 62)).alloc (.cells #[.slice none 0 0, .slice none 0 0, .slice none 0 0] 47)
  have FF := (Blk.new' (w := w.alloc (.cells #[.slice a1 P.length k1, .slice a2 S.length k2, .slice (some ⟨bw3, ow3, none⟩) W.length k3] 47)) (t := 62) (cs := #[.int .i64 t, .int .i64 b]) (g := w.heap.size + 1) (by simp)).alloc (.cells #[.slice none 0 0, .slice none 0 0, .slice none 0 0] 47)
  have D := Blk.new' (w := (w.alloc (.cells #[.slice a1 P.length k1, .slice a2 S.length k2, .slice (some ⟨bw3, ow3, none⟩) W.length k3] 47)).alloc (.cells #[.int .i64 t, .int .i64 b] 62)) (t := 47) (cs := #[.slice none 0 0, .slice none 0 0, .slice none 0 0]) (g := w.heap.size + 2) (by simp)
  have c0 := hxa.cell 0
  have c1 := hxa.cell 1
  have c2 := hxa.cell 2
  have t0 := FF.cell 0
  have t1 := FF.cell 1
  go_enter Try.func67, Try.ntmps67
  go_wp2_with fail
  refine (l07Is_c _ _ _ P S W _ (hxa.rd hp) (hxa.rd hs) (hxa.rd hqq)).mono ?_
  rintro e w1 ⟨rfl, hb1⟩
  rw [hc]
  have hx1 := hxa.trans hb1
  have FF1 := FF.stays hb1
  have D1 := D.stays hb1
  have hsz1 := hb1.size
  clear c0 c1 c2 t0 t1
  have c0 := hx1.cell 0
  have c1 := hx1.cell 1
  have c2 := hx1.cell 2
  have t0 := FF1.cell 0
  have t1 := FF1.cell 1
  go_wp2_with fail
  refine (l01FractionA_c t b _).mono ?_
  rintro e w2 ⟨rfl, hb2⟩
  rw [hf]
  have hx2 := hx1.trans hb2
  have FF2 := FF1.stays hb2
  have D2 := D1.stays hb2
  have hsz2 := hb2.size
  clear c0 c1 c2 t0 t1
  have c0 := hx2.cell 0
  have c1 := hx2.cell 1
  have c2 := hx2.cell 2
  have t0 := FF2.cell 0
  have t1 := FF2.cell 1
  go_wp2
  go_loop [6] (fun i => ∃ k : Nat, k ≤ W.length ∧ i = .int .i64 k ∧ ∀ j, j < k → gI W j ≤ 1000) (fun i => W.length - (intOf i).toNat)
  case atStart => exact ⟨0, Nat.zero_le _, rfl, fun j hj => absurd hj (by omega)⟩
  case round =>
    obtain ⟨k, hk, rfl, hmk⟩ := hrel
    have k00 : (0 : Int) ≤ (k : Int) := Int.natCast_nonneg _
    by_cases hlt : k < W.length
    · have hki : (k : Int) < (W.length : Int) := by omega
      have cw : w2.cell? ⟨bw3, ow3 + k, none⟩ = some (.int .i64 (gI W k)) := by rw [hx2.below.cell (p := ⟨bw3, ow3 + k, none⟩) hb3]; exact hc3 k hlt
      have hnx : gI W k ≤ 1000 → ∀ j, j < k + 1 → gI W j ≤ 1000 := fun h j hj => by
        by_cases e : j = k
        · rw [e]; exact h
        · exact hmk j (by omega)
      have HNX := Lib.hid hnx
      clear hnx hmk
      have hxk := HM1.out k hlt
      generalize gI W k = x at cw HNX hxk
      by_cases hgt : x > 1000
      · skip
        exact absurd hgt (by omega)
      · have hx1 := Lib.hid (HNX.out (by omega))
        clear HNX
        go_wp2
        go_round
        case rel => exact ⟨k + 1, by omega, by go_num, hx1.out⟩
        case measure => simp [intOf]; omega
    · have hk' : k = W.length := by omega
      subst hk'
      go_wp2_with fail
      refine (l07Consistent_c _ _ _ P S W _ (hx2.rd hp) (hx2.rd hs) (hx2.rd hqq) HCL.out).mono ?_
      rintro e w3 ⟨rfl, hb3⟩
      rw [hn]
      have hx3 := hx2.trans hb3
      have FF3 := FF2.stays hb3
      have D3 := D2.stays hb3
      have hsz3 := hb3.size
      clear c0 c1 c2 t0 t1
      have c0 := hx3.cell 0
      have c1 := hx3.cell 1
      have c2 := hx3.cell 2
      have t0 := FF3.cell 0
      have t1 := FF3.cell 1
      have f0 := D3.free 0
      have f1 := D3.free 1
      have f2 := D3.free 2
      have e0 := D3.cell 0
      have e1 := D3.cell 1
      have e2 := D3.cell 2
      go_wp2
      have q0 := ((((D3).set 0 (.slice none 0 0)).set 1 (.slice none 0 0)).set 2 (.slice none 0 0)).cell 0
      have q1 := ((((D3).set 0 (.slice none 0 0)).set 1 (.slice none 0 0)).set 2 (.slice none 0 0)).cell 1
      have q2 := ((((D3).set 0 (.slice none 0 0)).set 1 (.slice none 0 0)).set 2 (.slice none 0 0)).cell 2
      refine bodyPost_ret (v := .tuple #[.agg #[.slice none 0 0, .slice none 0 0, .slice none 0 0], .int .i64 5]) (by simp [results, Try.results67, go_sem, q0, q1, q2]) rfl ⟨none, 0, none, 0, none, 0, rfl, own3_nil _ _ _, ?_⟩
      exact ((hx3.below.setCell (p := ⟨w.heap.size + 2, 0, none⟩) (by show w.heap.size ≤ w.heap.size + 2; omega) _).setCell (p := ⟨w.heap.size + 2, 1, none⟩) (by show w.heap.size ≤ w.heap.size + 2; omega) _).setCell (p := ⟨w.heap.size + 2, 2, none⟩) (by show w.heap.size ≤ w.heap.size + 2; omega) _

end Go.Proofs.Ythpnmkghjnipoaa

/- Contracts: spec.l08OfOrders. -/
namespace Go.Proofs.Ythpnmkghjnipoaa
open Go.RowKit

theorem wo_row {P S : List Int} {j : Nat} (hj : j < P.length) : gR (proxL P S) j = proxOf P S j := prox_row hj
theorem woTo_one {P S W : List Int} (L : List Int) (hc : CluOk P S W) : woTo (proxL P S) L 1 = L := by
  apply gI_ext (by simp)
  intro i hi
  have hi' : i < L.length := by simpa using hi
  rw [gI_woTo hi']
  split
  · rename_i h
    have h0 : i = 0 := by omega
    subst h0
    rw [wo_row hc.1.1]
    simp [proxOf, sumTo]
  · rfl
theorem woTo_step {P S W L : List Int} (_ : CluOk P S W) {j : Nat} (hj : j < P.length) (h0 : 0 < j) (hl : j < L.length) : (woTo (proxL P S) L j).set j (gI L j - sumTo (fun x => gI L (gI (secL S j ++ [gI P j]) x).toNat) (secL S j ++ [gI P j]).length) = woTo (proxL P S) L (j + 1) := by
  rw [← woIn_all hl]
  unfold woIn
  have e : gR (proxL P S) j = secL S j ++ [gI P j] := by rw [wo_row hj]; unfold proxOf; rw [if_neg (by omega)]
  rw [e]
theorem woTo_yes {P S W L : List Int} (hc : CluOk P S W) {j : Nat} (hj : j < P.length) (h0 : 0 < j) (hs : 0 ≤ gI S j) (hl : j < L.length) : (woTo (proxL P S) L j).set j (gI L j - gI L (gI P j).toNat - gI L (gI S j).toNat) = woTo (proxL P S) L (j + 1) := by
  rw [← woTo_step hc hj h0 hl, secL_yes hs]
  congr 1
  simp [sumTo, gI]
  omega
theorem woTo_no {P S W L : List Int} (hc : CluOk P S W) {j : Nat} (hj : j < P.length) (h0 : 0 < j) (hs : ¬ 0 ≤ gI S j) (hl : j < L.length) : (woTo (proxL P S) L j).set j (gI L j - gI L (gI P j).toNat) = woTo (proxL P S) L (j + 1) := by
  rw [← woTo_step hc hj h0 hl, secL_no hs]
  congr 1
  simp [sumTo, gI]

set_option maxRecDepth 100000 in
set_option maxHeartbeats 4000000 in
theorem l08OfOrders_c (p s q v : Value) (P S W L : List Int) (w : World) (hp : Rd w p P) (hs : Rd w s S) (hv : Rd w v L) (hc : CluOk P S W) (hl : L.length = P.length) (hL : ∀ i, i < L.length → -1000000000000 ≤ gI L i ∧ gI L i ≤ 1000000000000) :
    Calls Try.prog 148 #[.agg #[p, s, q], v] w (RetI w (woTo (proxL P S) L P.length)) := by
  have hx := Boxed.start w 47 #[p, s, q]
  have hok := exOk_clu hc hl hL
  have hnum := hok.num
  obtain ⟨bp, op, kp, rfl, hpc1, hpc2, hpb, hpc⟩ := hp.cells hc.1.1
  obtain ⟨bs, os, ks, rfl, hsc1, hsc2, hsb, hsc⟩ := hs.cells (by have := hc.1; omega)
  obtain ⟨bv, ov, kv, rfl, hvc1, hvc2, hvb, hvc⟩ := hv.cells (by have := hc.1; omega)
  have hS := hc.1.2.2.1
  have h24 := hc.1.2.1
  have hp0 := hc.1.1
  have hl1 : P.length ≤ S.length := by omega
  have hl2 : L.length ≤ P.length := by omega
  have hl3 : P.length ≤ L.length := by omega
  have hl4 : S.length ≤ P.length := by omega
  have HL := Lib.hid hl
  clear hl hS
  go_enter Try.func148, Try.ntmps148
  go_wp2_with fail
  refine (l01Own_c _ L _ (hv.below hx.below (Nat.le_refl _)) (by omega) (by omega)).mono ?_
  rintro e w1 ⟨g, k, rfl, hown, hb⟩
  have hx1 := hx.trans hb
  obtain ⟨g', gc, hge, hg0, hg1, hg2, hg3⟩ := Own.pos hown (by omega)
  injection hge with hge1 hge2 hge3
  subst hge1 hge3
  have hg0' : w.heap.size + 1 ≤ g' := Nat.le_trans (Nat.le_of_eq (by simp)) hg0
  have hown0 := hown.base_le (base' := w.heap.size + 1) (Nat.le_of_eq (by simp))
  clear hge2
  go_wp2_with fail
  go_loopw [6] (fun i wr => ∃ j : Nat, 1 ≤ j ∧ j ≤ P.length ∧ i = .int .i64 j ∧ OwnI wr (w.heap.size + 1) (.slice (some ⟨g', 0, none⟩) L.length k) (woTo (proxL P S) L j) ∧ Boxed w wr 47 #[.slice (some ⟨bp, op, none⟩) P.length kp, .slice (some ⟨bs, os, none⟩) S.length ks, q]) (fun i _ => P.length - (intOf i).toNat)
  case atStart => exact ⟨1, Nat.le_refl _, hp0, rfl, by rw [woTo_one L hc]; exact hown0, hx1⟩
  case round =>
    obtain ⟨j, hj1, hj, rfl, hown2, hbx⟩ := hrel
    clear hown0 hown hx1 hx hb
    obtain ⟨wo, rfl⟩ : ∃ wo : World, wo = wr := ⟨_, rfl⟩
    by_cases hlt : j < P.length
    · have hjL : (j : Int) < (L.length : Int) := by omega
      have hjL' : j < L.length := by omega
      have hjS : (j : Int) < (S.length : Int) := by omega
      have hjP : (j : Int) < (P.length : Int) := by omega
      have c0 := hbx.cell 0
      have c1 := hbx.cell 1
      obtain ⟨hp1, hp2, hp3⟩ := clu_place hc hlt (by omega)
      have dS : wo.cell? ⟨bs, os + j, none⟩ = some (.int .i64 (gI S j)) := by rw [hbx.below.cell (p := ⟨bs, os + j, none⟩) hsb]; exact hsc j (by omega)
      have dP : wo.cell? ⟨bp, op + j, none⟩ = some (.int .i64 (gI P j)) := by rw [hbx.below.cell (p := ⟨bp, op + j, none⟩) hpb]; exact hpc j hlt
      have dL : wo.cell? ⟨bv, ov + (gI P j).toNat, none⟩ = some (.int .i64 (gI L (gI P j).toNat)) := by rw [hbx.below.cell (p := ⟨bv, ov + (gI P j).toNat, none⟩) hvb]; exact hvc _ (by omega)
      have hn := hnum j
      have hnP := hnum (gI P j).toNat
      have hlen : (woTo (proxL P S) L j).length = L.length := woTo_len _ _ _
      have hO : OwnI wo (w.heap.size + 1) (.slice (some ⟨g', 0, none⟩) (woTo (proxL P S) L j).length k) (woTo (proxL P S) L j) := by rw [hlen]; exact hown2
      have hcell := hO.cell j (by rw [hlen]; omega)
      rw [gI_woTo hjL', if_neg (by omega)] at hcell
      have hfree := hO.free j
      have hset := hO.set j (gI L j - gI L (gI P j).toNat)
      rw [hlen] at hset
      have hbx4 := hbx.wrote ((Keeps.refl (fun k => w.heap.size + 1 ≤ k) wo).setCell (p := ⟨g', j, none⟩) hg0' (.int .i64 (gI L j - gI L (gI P j).toNat)))
      have hxP : gI P j < (L.length : Int) := by omega
      by_cases hs : 0 ≤ gI S j
      · have HZ := Lib.hid (woTo_yes (L := L) hc hlt (by omega) hs (by omega))
        have hxS : gI S j < (L.length : Int) := by omega
        have hnS := hnum (gI S j).toNat
        have hO2 : OwnI (wo.setCell ⟨g', j, none⟩ (.int .i64 (gI L j - gI L (gI P j).toNat))) (w.heap.size + 1) (.slice (some ⟨g', 0, none⟩) ((woTo (proxL P S) L j).set j (gI L j - gI L (gI P j).toNat)).length k) ((woTo (proxL P S) L j).set j (gI L j - gI L (gI P j).toNat)) := by rw [List.length_set, hlen]; exact hset
        have hcell2 := hO2.cell j (by rw [List.length_set, hlen]; exact hjL')
        rw [gI_set_at (by rw [hlen]; exact hjL')] at hcell2
        have hfree2 := hO2.free j
        have hset2 := hO2.set j (gI L j - gI L (gI P j).toNat - gI L (gI S j).toNat)
        rw [List.length_set, hlen, List.set_set, HZ.out] at hset2
        have hbx5 := hbx4.wrote ((Keeps.refl (fun k => w.heap.size + 1 ≤ k) _).setCell (p := ⟨g', j, none⟩) hg0' (.int .i64 (gI L j - gI L (gI P j).toNat - gI L (gI S j).toNat)))
        have f0 := hbx4.cell 0
        have f1 := hbx4.cell 1
        have e0 : (wo.setCell ⟨g', j, none⟩ (.int .i64 (gI L j - gI L (gI P j).toNat))).cell? ⟨bv, ov + (gI S j).toNat, none⟩ = some (.int .i64 (gI L (gI S j).toNat)) := by rw [hbx4.below.cell (p := ⟨bv, ov + (gI S j).toNat, none⟩) hvb]; exact hvc _ (by omega)
        have e1 : (wo.setCell ⟨g', j, none⟩ (.int .i64 (gI L j - gI L (gI P j).toNat))).cell? ⟨bs, os + j, none⟩ = some (.int .i64 (gI S j)) := by rw [hbx4.below.cell (p := ⟨bs, os + j, none⟩) hsb]; exact hsc j (by omega)
        have HS := Lib.hid hset2
        have HB := Lib.hid hbx5
        clear hset hset2 hO hO2 hown2 hlen hbx hbx4 hbx5 HZ
        generalize gI L (gI S j).toNat = z2 at hnS e0 HS HB
        generalize gI L (gI P j).toNat = z at dL hnP HS HB hcell2 hfree2 e0 e1 f0 f1
        generalize gI L j = y at hn hcell HS HB hcell2 hfree2 e0 e1 f0 f1
        generalize gI P j = x at dP dL hxP hp1 hp2
        generalize gI S j = x' at dS hs hxS hp3 e0 e1
        obtain ⟨hs0, hs1⟩ := hn
        obtain ⟨hs2, hs3⟩ := hnP
        obtain ⟨hs4, hs5⟩ := hnS
        go_wp2_with fail
        go_still_tail 16, (by kernel_rfl)
        change wpList _ _ _ _ _ wo.drew
        go_wp2_with fail
        clear c0 c1 dL dS dP hcell hfree
        obtain ⟨wq, hW⟩ : ∃ wq : World, wq = (wo.setCell ⟨g', j, none⟩ (.int .i64 (y - z))).drew := ⟨_, rfl⟩
        replace f1 : wq.cell? ⟨w.heap.size, 1, none⟩ = some (.slice (some ⟨bs, os, none⟩) S.length ks) := by rw [hW]; exact f1
        replace e0 : wq.cell? ⟨bv, ov + x'.toNat, none⟩ = some (.int .i64 z2) := by rw [hW]; exact e0
        replace e1 : wq.cell? ⟨bs, os + j, none⟩ = some (.int .i64 x') := by rw [hW]; exact e1
        replace hcell2 : wq.cell? ⟨g', j, none⟩ = some (.int .i64 (y - z)) := by rw [hW]; exact hcell2
        replace hfree2 : wq.frozen? ⟨g', j, none⟩ = false := by rw [hW]; exact hfree2
        replace HS : Hid (OwnI (wq.setCell ⟨g', j, none⟩ (.int .i64 (y - z - z2))) (w.heap.size + 1) (.slice (some ⟨g', 0, none⟩) L.length k) (woTo (proxL P S) L (j + 1))) := by rw [hW]; exact HS
        replace HB : Hid (Boxed w (wq.setCell ⟨g', j, none⟩ (.int .i64 (y - z - z2))) 47 #[.slice (some ⟨bp, op, none⟩) P.length kp, .slice (some ⟨bs, os, none⟩) S.length ks, q]) := by rw [hW]; exact Lib.hid (HB.out.trans (Below.refl _ _).drew)
        rw [← hW]
        clear f0 hW
        go_still_tail 16, (by kernel_rfl)
        change wpList _ _ _ _ _ wq.drew
        go_wp2
        go_roundw
        case rel => exact ⟨j + 1, by omega, by omega, by go_num, HS.out, HB.out.trans (Below.refl _ _).drew⟩
        case measure => simp [intOf]; omega
      · have HZ := Lib.hid (woTo_no (L := L) hc hlt (by omega) hs (by omega))
        have hset3 := hset
        rw [HZ.out] at hset3
        have e1 : (wo.setCell ⟨g', j, none⟩ (.int .i64 (gI L j - gI L (gI P j).toNat))).cell? ⟨bs, os + j, none⟩ = some (.int .i64 (gI S j)) := by rw [hbx4.below.cell (p := ⟨bs, os + j, none⟩) hsb]; exact hsc j (by omega)
        have f1 := hbx4.cell 1
        have HS := Lib.hid hset3
        have HB := Lib.hid hbx4
        clear hset hset3 hO hown2 hlen hbx hbx4 HZ
        generalize gI L (gI P j).toNat = z at dL hnP HS HB e1 f1
        generalize gI L j = y at hn hcell HS HB e1 f1
        generalize gI P j = x at dP dL hxP hp1 hp2
        generalize gI S j = x' at dS hs e1 hp3
        obtain ⟨hs0, hs1⟩ := hn
        obtain ⟨hs2, hs3⟩ := hnP
        go_wp2_with fail
        go_still_tail 16, (by kernel_rfl)
        change wpList _ _ _ _ _ wo.drew
        go_wp2
        go_roundw
        case rel => exact ⟨j + 1, by omega, by omega, by go_num, HS.out, HB.out.trans (Below.refl _ _).drew⟩
        case measure => simp [intOf]; omega
    · go_wp2
      have hj' : j = P.length := by omega
      subst hj'
      go_ret
      exact retI_mk (hown2.base_le (by omega)) hbx.below
end Go.Proofs.Ythpnmkghjnipoaa

/- Contracts: ClusterOfOrders. -/
namespace Go.Proofs.Ythpnmkghjnipoaa
open Go.RowKit

/-- May O be the orders of points? -/
def ordB (P O : List Int) : Bool := decide (O.length = P.length) && allIn O (-100000) 100000
/-- Are there a cluster and orders that lead to weights? -/
def ooB (P S W O : List Int) : Bool := cluB P S W && (ordB P O && allIn (woTo (proxL P S) O P.length) (-100000) 100000)
def ooC (P S W O : List Int) : Int := if cluB P S W then (if ordB P O then okC (allIn (woTo (proxL P S) O P.length) (-100000) 100000) 3 else 2) else 1
theorem ooB_1 {P S W O : List Int} (h : cluB P S W = false) : ooB P S W O = false ∧ ooC P S W O = 1 := by simp [ooB, ooC, h]
theorem ooB_2 {P S W O : List Int} (h : cluB P S W = true) (h2 : ordB P O = false) : ooB P S W O = false ∧ ooC P S W O = 2 := by simp [ooB, ooC, h, h2]
theorem ooB_3 {P S W O : List Int} (h : cluB P S W = true) (h2 : ordB P O = true) : ooB P S W O = allIn (woTo (proxL P S) O P.length) (-100000) 100000 ∧ ooC P S W O = okC (allIn (woTo (proxL P S) O P.length) (-100000) 100000) 3 := by simp [ooB, ooC, h, h2]
theorem weightsOfOrders_l (v u : Value) (P S W O : List Int) (w : World) (h : RdR w v (proxL P S)) (hu : Rd w u O) (hc : CluOk P S W) (hok : ExOk (proxL P S) O) (hp : 0 < O.length) :
    Calls Try.prog 123 #[v, u] w (RetL O.length w (woTo (proxL P S) O P.length)) := by
  have h1 := weightsOfOrders_c v u (proxL P S) O w h hu hok hp
  rw [prox_len] at h1
  have _ := hc
  exact h1.mono fun e w' h2 => retL_of h2 (by simp)
theorem l08OfOrders_l (p s q v : Value) (P S W L : List Int) (w : World) (hp : Rd w p P) (hs : Rd w s S) (hv : Rd w v L) (hc : CluOk P S W) (hl : L.length = P.length) (hL : ∀ i, i < L.length → -1000000000000 ≤ gI L i ∧ gI L i ≤ 1000000000000) :
    Calls Try.prog 148 #[.agg #[p, s, q], v] w (RetL L.length w (woTo (proxL P S) L P.length)) :=
  (l08OfOrders_c p s q v P S W L w hp hs hv hc hl hL).mono fun e w' h2 => retL_of h2 (by simp)

end Go.Proofs.Ythpnmkghjnipoaa

/- Contracts: PointDiscrepancies. -/
namespace Go.Proofs.Ythpnmkghjnipoaa
open Go.RowKit

theorem ord_own_congr_to {own own' : Nat → Int} {P S : List Int} {n : Nat} (h : ∀ j, j < n → own j = own' j) (k : Nat) (hk : k ≤ n) : ordTo own P S k = ordTo own' P S k := by
  induction k with
  | zero => rfl
  | succ k ih => rw [ordTo_succ, ordTo_succ, ih (by omega), h k (by omega)]
theorem ord_own_congr {own own' : Nat → Int} {P S : List Int} {n : Nat} (h : ∀ j, j < n → own j = own' j) : ordTo own P S n = ordTo own' P S n := ord_own_congr_to h n (Nat.le_refl _)

end Go.Proofs.Ythpnmkghjnipoaa

/- Contracts: MultiplierCluster, the program: the answered case. -/
namespace Go.Proofs.Ythpnmkghjnipoaa
open Go.RowKit

theorem mu_mul {a b A B : Int} (h1 : 0 ≤ a) (h2 : a ≤ A) (h3 : 0 ≤ b) (h4 : b ≤ B) : 0 ≤ a * b ∧ a * b ≤ A * B := ⟨Int.mul_nonneg h1 h3, Int.mul_le_mul h2 h4 h3 (by omega)⟩
theorem RetL.cells {n : Nat} {w w' : World} {xs : List Int} {e : Ending} (h : RetL n w xs e w') (hl : xs.length = n) (hn : 0 < n) : ∃ g k, e = .returned (.slice (some ⟨g, 0, none⟩) n k) ∧ w.heap.size ≤ g ∧ g < w'.heap.size ∧ (∀ i, i < n → w'.cell? ⟨g, i, none⟩ = some (.int .i64 (gI xs i))) ∧ Below w.heap.size w w' := by
  obtain ⟨a, k, rfl, ho, hb⟩ := h
  subst hl
  obtain ⟨g, c, hge, hg0, hg1, hg2, hg3⟩ := Own.pos ho hn
  injection hge with hge1 hge2 hge3
  subst hge1 hge3
  exact ⟨g, k, rfl, hg0, hg1, fun i hi => Own.cell ho i hi, hb⟩
theorem woM_c (v u : Value) (P S W O : List Int) (w : World) (h : RdR w v (proxL P S)) (hu : Rd w u O) (hc : CluOk P S W) (hl : O.length = P.length) (hO : ∀ i, i < O.length → -1000000000000 ≤ gI O i ∧ gI O i ≤ 1000000000000) :
    Calls Try.prog 123 #[v, u] w (RetL P.length w (woTo (proxL P S) O P.length)) := by
  have h1 := weightsOfOrders_c v u (proxL P S) O w h hu (exOk_clu hc hl hO) (by have := hc.1.1; omega)
  rw [prox_len] at h1
  exact h1.mono fun e w' h2 => retL_of h2 (by simp [hl])

set_option maxRecDepth 100000 in
set_option maxHeartbeats 2000000 in
theorem implMu_4 (p s q : Value) (P S W : List Int) (t b : Int) (w : World) (hp : Rd w p P) (hs : Rd w s S) (hq : Rd w q W) (hc : cluB P S W = true) (hf : fracB t b = true) (hr : muR W t b = true) (hn : nonNeg (exTo (proxL P S) W P.length) = true) (V N : List Int) (hV : ordTo (fun j => gI W j) P S P.length = V) (hD : discTo P S P.length = N) (hVD : ∀ i, i < P.length → 0 ≤ gI V i ∧ gI V i ≤ 10000000000000 ∧ 0 ≤ gI N i ∧ gI N i ≤ 10000000000000) (hsm : ∀ i, i < (muTo V N t b P.length).length → -1000000000000 ≤ gI (muTo V N t b P.length) i ∧ gI (muTo V N t b P.length) i ≤ 1000000000000) (hul : UnlOk P S fun i => gI (woTo (proxL P S) (muTo V N t b P.length) P.length) i) :
    Calls Try.prog 70 #[.agg #[p, s, q], .agg #[.int .i64 t, .int .i64 b]] w (RetCC w (okL (allIn (unlL P S (woTo (proxL P S) (muTo V N t b P.length) P.length)) (-100000) 100000) P) (okL (allIn (unlL P S (woTo (proxL P S) (muTo V N t b P.length) P.length)) (-100000) 100000) S) (okL (allIn (unlL P S (woTo (proxL P S) (muTo V N t b P.length) P.length)) (-100000) 100000) (unlL P S (woTo (proxL P S) (muTo V N t b P.length) P.length))) (okC (allIn (unlL P S (woTo (proxL P S) (muTo V N t b P.length) P.length)) (-100000) 100000) 3)) := by
  obtain ⟨a1, k1, rfl⟩ := hp.len0
  obtain ⟨a2, k2, rfl⟩ := hs.len0
  obtain ⟨a3, k3, rfl⟩ := hq.len0
  have hqq := hq
  have hcl := cluB_iff.1 hc
  have hW0 : 0 < W.length := by have := hcl.1; omega
  have hWn : W.length ≤ 1000000 := by have := hcl.1; omega
  have hb0 : 1 ≤ b ∧ b ≤ 1000000000 ∧ -1000000000 ≤ t ∧ t ≤ 1000000000 := by
    unfold fracB at hf
    simp only [Bool.and_eq_true] at hf
    have h1 := inB_iff.1 hf.1
    have h2 := inB_iff.1 hf.2.1
    omega
  obtain ⟨hb1, hb2, ht1, ht2⟩ := hb0
  have w10 : IntKind.i64.wrap (10 * b) = 10 * b := IntWalk.i64_in _ (by omega)
  have hr1 : (∀ i, i < W.length → gI W i ≤ 1000) ∧ b ≤ 1000 ∧ 0 ≤ t ∧ t ≤ 10 * b := by
    unfold muR at hr
    simpa only [Bool.and_eq_true, decide_eq_true_eq] using hr
  obtain ⟨hm1, hm2, hm3, hm4⟩ := hr1
  have hmx : ¬ maxTo W W.length > 1000 := by
    have := (maxTo_le (hm1 0 hW0) W.length).2 hm1
    omega
  have hn2 : ¬ b > 1000 := by omega
  have hn3 : ¬ t < 0 := by omega
  have hn4 : ¬ t > 10 * b := by omega
  obtain ⟨i0, hi, hz0, hz1, hz2⟩ := info_parts Try.infoI
  have hp1 : 0 < P.length := hcl.1.1
  have hp2 : P.length ≤ 24 := hcl.1.2.1
  have hp3 : P.length ≤ 9223372036854775807 := by omega
  have hp4 := Lib.hid (show S.length = P.length from hcl.1.2.2.1)
  have hVl : V.length = P.length := by rw [← hV]; exact ordTo_len _ _ _ _
  have hDl : N.length = P.length := by rw [← hD]; exact discTo_len _ _ _
  have HSM := Lib.hid hsm
  have HUL := Lib.hid hul
  have HVD := Lib.hid hVD
  have HCL := Lib.hid hcl
  have HVl := Lib.hid hVl
  have HDl := Lib.hid hDl
  have HV := Lib.hid hV
  have HD0 := Lib.hid hD
  clear hcl hr hm1 hV hD hVD hsm hul hVl hDl
  have hx := Boxed.start w 47 #[.slice a1 P.length k1, .slice a2 S.length k2, .slice a3 W.length k3]
  have hxa := (hx.alloc (.cells #[.int .i64 t, .int .i64 b] 62)).alloc (.cells #[.slice none 0 0, .slice none 0 0, .slice none 0 0] 47)
  have FF := (Blk.new' (w := w.alloc (.cells #[.slice a1 P.length k1, .slice a2 S.length k2, .slice a3 W.length k3] 47)) (t := 62) (cs := #[.int .i64 t, .int .i64 b]) (g := w.heap.size + 1) (by simp)).alloc (.cells #[.slice none 0 0, .slice none 0 0, .slice none 0 0] 47)
  have D := Blk.new' (w := (w.alloc (.cells #[.slice a1 P.length k1, .slice a2 S.length k2, .slice a3 W.length k3] 47)).alloc (.cells #[.int .i64 t, .int .i64 b] 62)) (t := 47) (cs := #[.slice none 0 0, .slice none 0 0, .slice none 0 0]) (g := w.heap.size + 2) (by simp)
  have c0 := hxa.cell 0
  have c1 := hxa.cell 1
  have c2 := hxa.cell 2
  have t0 := FF.cell 0
  have t1 := FF.cell 1
  go_enter Try.func70, Try.ntmps70
  go_wp2_with fail
  refine (implIsCluster_c _ _ _ P S W _ (hxa.rd hp) (hxa.rd hs) (hxa.rd hqq)).mono ?_
  rintro e w1 ⟨rfl, hb1⟩
  rw [hc]
  have hx1 := hxa.trans hb1
  have FF1 := FF.stays hb1
  have D1 := D.stays hb1
  have hsz1 := hb1.size
  clear c0 c1 c2 t0 t1
  have c0 := hx1.cell 0
  have c1 := hx1.cell 1
  have c2 := hx1.cell 2
  have t0 := FF1.cell 0
  have t1 := FF1.cell 1
  go_wp2_with fail
  refine (isFraction_c t b _).mono ?_
  rintro e w2 ⟨rfl, hb2⟩
  rw [hf]
  have hx2 := hx1.trans hb2
  have FF2 := FF1.stays hb2
  have D2 := D1.stays hb2
  have hsz2 := hb2.size
  clear c0 c1 c2 t0 t1
  have c0 := hx2.cell 0
  have c1 := hx2.cell 1
  have c2 := hx2.cell 2
  have t0 := FF2.cell 0
  have t1 := FF2.cell 1
  go_wp2_with fail
  refine (max_c _ W _ (hx2.rd hqq) hW0 hWn).mono ?_
  rintro e wm ⟨rfl, rfl⟩
  generalize maxTo W W.length = mx at hmx ⊢
  go_wp2_with fail
  refine (consistent_c _ _ _ P S W _ (hx2.rd hp) (hx2.rd hs) (hx2.rd hqq) HCL.out).mono ?_
  rintro e w3 ⟨rfl, hb3⟩
  rw [hn]
  have hx3 := hx2.trans hb3
  have FF3 := FF2.stays hb3
  have D3 := D2.stays hb3
  have hsz3 := hb3.size
  clear c0 c1 c2 t0 t1
  have c0 := hx3.cell 0
  have c1 := hx3.cell 1
  have c2 := hx3.cell 2
  have t0 := FF3.cell 0
  have t1 := FF3.cell 1
  go_wp2_with fail
  refine (clusterProximates_c _ _ _ P S W _ (hx3.rd hp) (hx3.rd hs) (hx3.rd hqq) hp4.out hp1 hp2).mono ?_
  rintro e w4 ⟨gr, VR, rfl, hrow, hb4⟩
  have hrd4 : RdR w4 (.slice (some ⟨gr, 0, none⟩) P.length P.length) (proxL P S) := hrow.rd (cap := P.length) (Nat.le_refl _) hp3
  have hx4 := hx3.trans hb4
  have FF4 := FF3.stays hb4
  have D4 := D3.stays hb4
  clear hrow
  clear c0 c1 c2 t0 t1
  have c0 := hx4.cell 0
  have c1 := hx4.cell 1
  have c2 := hx4.cell 2
  have t0 := FF4.cell 0
  have t1 := FF4.cell 1
  go_wp2_with fail
  refine (discrepancies_c _ _ _ P S W _ (hx4.rd hp) (hx4.rd hs) (hx4.rd hqq) HCL.out).mono ?_
  rintro e w5 hret
  rw [HD0.out] at hret
  obtain ⟨gd, kd, rfl, hgd0, hgd1, hdc, hb5⟩ := (retL_of hret HDl.out).cells HDl.out hp1
  have hx5 := hx4.trans hb5
  have FF5 := FF4.stays hb5
  have D5 := D4.stays hb5
  have hrd5 := hrd4.below hb5 (Nat.le_refl _)
  clear hret hrd4
  clear c0 c1 c2 t0 t1
  have g0 := own_empty_at w5 w5.heap.size w5.heap.size rfl (Nat.le_refl _)
  have hb6 : Below w5.heap.size w5 (w5.alloc (.cells #[] 2)) := (Below.refl _ _).alloc (Nat.le_refl _) _
  have hx6 := hx5.trans hb6
  have FF6 := FF5.stays hb6
  have D6 := D5.stays hb6
  have c0 := hx6.cell 0
  have c1 := hx6.cell 1
  have c2 := hx6.cell 2
  have t0 := FF6.cell 0
  have t1 := FF6.cell 1
  go_wp2_with fail
  refine (clusterOrders_c _ _ _ P S W _ (hx6.rd hp) (hx6.rd hs) (hx6.rd hqq) HCL.out).mono ?_
  rintro e w7 hret
  rw [HV.out] at hret
  obtain ⟨gv, kv, rfl, hgv0, hgv1, hvc, hb7⟩ := (retL_of hret HVl.out).cells HVl.out hp1
  have g7 := g0.below hb7 (Nat.le_refl _)
  have hgv2 : w5.heap.size + 1 ≤ gv := by simpa using hgv0
  have hb57 : Below w5.heap.size w5 w7 := below_step hb6 hb7
  have hw5s : w.heap.size + 3 ≤ w5.heap.size := D5.lt
  clear hret g0 hgv0
  clear c0 c1 c2 t0 t1
  go_wp2
  go_loopw [8, 9, 10, 55] (fun v _ _ i wr => ∃ k : Nat, ∃ g c : Nat, k ≤ P.length ∧ i = .int .i64 k ∧ v = .slice (some ⟨g, 0, none⟩) k c ∧ OwnI wr w5.heap.size (.slice (some ⟨g, 0, none⟩) k c) (muTo V N t b k) ∧ Below w5.heap.size w5 wr ∧ gv ≠ g ∧ gv < wr.heap.size ∧ ∀ i, i < P.length → wr.cell? ⟨gv, i, none⟩ = some (.int .i64 (gI V i))) (fun _ _ _ i _ => P.length - (intOf i).toNat)
  case atStart => exact ⟨0, _, _, Nat.zero_le _, rfl, rfl, g7, hb57, by omega, hgv1, hvc⟩
  case round =>
    obtain ⟨k, g, c, hk, rfl, rfl, ho, hbr, hne, hgl, hvr⟩ := hrel
    clear g7 hb57 hvc hgv1 hb7 hb6 D6 FF6 hx6
    obtain ⟨wo, rfl⟩ : ∃ wo : World, wo = wr := ⟨_, rfl⟩
    have hx8 := hx5.trans hbr
    have F8 := FF5.stays hbr
    have D8 := D5.stays hbr
    have hrd8 := hrd5.below hbr (Nat.le_refl _)
    by_cases hlt : k < P.length
    · have hkP : (k : Int) < (P.length : Int) := by omega
      have k00 : (0 : Int) ≤ (k : Int) := Int.natCast_nonneg _
      have hgb := ho.block g rfl
      have dv := hvr k hlt
      have dd : wo.cell? ⟨gd, k, none⟩ = some (.int .i64 (gI N k)) := by rw [hbr.cell (p := ⟨gd, k, none⟩) hgd1]; exact hdc k hlt
      have n1 := HVD.out k hlt
      have HY := Lib.hid (muTo_succ V N t b k)
      have HX := Lib.hid (show ∀ Y : World, Below w5.heap.size w5 Y → Y.cell? ⟨w.heap.size + 1, 0, none⟩ = some (.int .i64 t) ∧ Y.cell? ⟨w.heap.size + 1, 1, none⟩ = some (.int .i64 b) ∧ Y.cell? ⟨gd, k, none⟩ = some (.int .i64 (gI N k)) from fun Y hY => ⟨(FF5.stays hY).cell 0, (FF5.stays hY).cell 1, by rw [hY.cell (p := ⟨gd, k, none⟩) hgd1]; exact hdc k hlt⟩)
      have HVR := Lib.hid hvr
      clear hvr
      generalize gI V k = x at dv n1 HY
      generalize gI N k = y at dd n1 HY HX
      obtain ⟨x1, x2, y1, y2⟩ := n1
      have m1 := mu_mul (a := t) (A := 10000) (b := x) (B := 10000000000000) (by omega) (by omega) x1 x2
      have m2 : t * x / b ≤ t * x := Int.ediv_le_self _ m1.1
      have m3 : 0 ≤ t * x / b := Int.ediv_nonneg m1.1 (by omega)
      have e1 : IntKind.i64.wrap (t * x) = t * x := IntWalk.i64_in _ (by omega)
      have e2 : ¬ b = 0 := by omega
      have e3 : Int.tdiv (t * x) b = t * x / b := Int.tdiv_eq_ediv_of_nonneg m1.1
      have e4 : IntKind.i64.wrap (t * x / b) = t * x / b := IntWalk.i64_in _ (by omega)
      have e5 : IntKind.i64.wrap (t * x / b - y) = t * x / b - y := IntWalk.i64_in _ (by omega)
      have hal : Below wo.heap.size wo ((wo.alloc (.cells #[.int .i64 (t * x / b - y)] 2)).drew) := ((Below.refl _ _).alloc (Nat.le_refl _) _).drew
      have hO := ho.below hal (Nat.le_refl _)
      have hb9 := below_step hbr hal
      have cv9 : ∀ i, ((wo.alloc (.cells #[.int .i64 (t * x / b - y)] 2)).drew).cell? ⟨gv, i, none⟩ = wo.cell? ⟨gv, i, none⟩ := fun i => hal.cell (p := ⟨gv, i, none⟩) hgl
      go_wp2_with fail
      have HS0 : wo.drew.cell? ⟨w.heap.size + 1, 0, none⟩ = some (.int .i64 t) ∧ wo.drew.cell? ⟨w.heap.size + 1, 1, none⟩ = some (.int .i64 b) ∧ wo.drew.cell? ⟨gd, k, none⟩ = some (.int .i64 y) := HX.out _ (below_step hbr (Below.refl _ _).drew)
      have HS1 : ((wo.alloc (.cells #[.int .i64 (t * x / b - y)] 2)).drew).cell? ⟨w.heap.size + 1, 0, none⟩ = some (.int .i64 t) ∧ ((wo.alloc (.cells #[.int .i64 (t * x / b - y)] 2)).drew).cell? ⟨w.heap.size + 1, 1, none⟩ = some (.int .i64 b) ∧ ((wo.alloc (.cells #[.int .i64 (t * x / b - y)] 2)).drew).cell? ⟨gd, k, none⟩ = some (.int .i64 y) := HX.out _ hb9
      clear dv dd
      go_region_held3 (fun w' => w'.cell? ⟨w.heap.size + 1, 0, none⟩ = some (.int .i64 t) ∧ w'.cell? ⟨w.heap.size + 1, 1, none⟩ = some (.int .i64 b) ∧ w'.cell? ⟨gd, k, none⟩ = some (.int .i64 y))
        (first | assumption | exact HS2 | exact HS1 | exact HS0)
        (first | (refine step_pushS rfl (.tmp 60) (.tmp 73) 22 rfl w5.heap.size 2 i0 Try.underlying22 hi hz0 hz1 hz2 g k c (muTo V N t b k) (t * x / b - y) wo.heap.size (muTo_len _ _ _ _ _) rfl hO rfl (Blk.new wo _ _) (by omega) (by have := hbr.size; simp; omega) ?_; intro g2 c2 w2 h1 h2 h3 h4 h5; have hbf : Below w5.heap.size w5 w2 := hb9.trans (h2.below (by have := Below.size hb9; omega) (fun b hb => by omega)); have HS2 : w2.cell? ⟨w.heap.size + 1, 0, none⟩ = some (.int .i64 t) ∧ w2.cell? ⟨w.heap.size + 1, 1, none⟩ = some (.int .i64 b) ∧ w2.cell? ⟨gd, k, none⟩ = some (.int .i64 y) := HX.out _ hbf))
      all_goals
        rw [← HY.out] at h1
        have hsz2 := h2.size
        simp at hsz2
        have hnw : gv ≠ g2 := by
          rcases h3 with h3 | h3
          · omega
          · rw [h3]; simp; omega
        have hcv : ∀ i, i < P.length → w2.cell? ⟨gv, i, none⟩ = some (.int .i64 (gI V i)) := fun i hi => by rw [h2.cell (p := ⟨gv, i, none⟩) (by simp; omega) hne, cv9]; exact HVR.out i hi
        clear h2 h3 h4 h5 hO HS0 HS1 HS2
        go_wp2
        go_roundw
        case rel => exact ⟨k + 1, g2, c2, by omega, by go_num, rfl, h1, hbf, hnw, by omega, hcv⟩
        case measure => simp [intOf]; omega
    · have hk' : k = P.length := by omega
      subst hk'
      have hls := ho.rd
      have hzo : w5.heap.size ≤ wo.heap.size := hbr.size
      clear hvr
      go_wp2_with fail
      have hx0 := hx8.trans (Below.refl _ _).drew
      have D0 := D8.stays (Below.refl _ _).drew
      have HD : wo.drew.cell? ⟨w.heap.size, 0, none⟩ = some (.slice a1 P.length k1) ∧ wo.drew.cell? ⟨w.heap.size, 1, none⟩ = some (.slice a2 S.length k2) ∧ wo.drew.cell? ⟨w.heap.size, 2, none⟩ = some (.slice a3 W.length k3) := ⟨hx0.cell 0, hx0.cell 1, hx0.cell 2⟩
      have hrdA : RdR wo.drew (.slice (some ⟨gr, 0, none⟩) P.length P.length) (proxL P S) := hrd8.below (Below.refl _ _).drew (Nat.le_refl _)
      have hlsA := hls.below (show Below wo.heap.size wo wo.drew from (Below.refl _ _).drew) (Nat.le_refl _)
      have HLL := Lib.hid (show ((unlL P S (woTo (proxL P S) (muTo V N t b P.length) P.length))).length = P.length from (unlL_ok HCL.out HUL.out (by rw [woTo_len]; exact muTo_len _ _ _ _ _)).1.1)
      go_region_held3 (fun w' => w'.cell? ⟨w.heap.size, 0, none⟩ = some (.slice a1 P.length k1) ∧ w'.cell? ⟨w.heap.size, 1, none⟩ = some (.slice a2 S.length k2) ∧ w'.cell? ⟨w.heap.size, 2, none⟩ = some (.slice a3 W.length k3))
        (first | assumption | exact HD | exact HE _ _ _)
        (first
          | (go_at_call 123; (with_reducible refine (woM_c _ _ P S W (muTo V N t b P.length) _ hrdA hlsA HCL.out (muTo_len _ _ _ _ _) HSM.out).mono ?_); rintro e v1 ⟨a, k', rfl, ho1, hq⟩; have hy1 := hx0.trans hq; have G1 := D0.stays hq; have hrdB := hrdA.below hq (Nat.le_refl _); have hz5 : wo.heap.size ≤ v1.heap.size := hq.size; have HD : v1.cell? ⟨w.heap.size, 0, none⟩ = some (.slice a1 P.length k1) ∧ v1.cell? ⟨w.heap.size, 1, none⟩ = some (.slice a2 S.length k2) ∧ v1.cell? ⟨w.heap.size, 2, none⟩ = some (.slice a3 W.length k3) := ⟨hy1.cell 0, hy1.cell 1, hy1.cell 2⟩)
          | (go_at_call 121; (with_reducible refine (checkedWeightsN_c P.length _ _ _ _ _ P S W (unlL P S (woTo (proxL P S) (muTo V N t b P.length) P.length)) v1.heap.size _ (hy2.rd hp) (hy2.rd hs) HCL.out ho2 hz6 HLL.out).mono ?_); rintro e v3 ⟨b1, j1, b2, j2, b3, j3, rfl, ho3, hq⟩; have hy3 := hy2.trans hq; have G3 := G2.stays hq; have HD : v3.cell? ⟨w.heap.size, 0, none⟩ = some (.slice a1 P.length k1) ∧ v3.cell? ⟨w.heap.size, 1, none⟩ = some (.slice a2 S.length k2) ∧ v3.cell? ⟨w.heap.size, 2, none⟩ = some (.slice a3 W.length k3) := ⟨hy3.cell 0, hy3.cell 1, hy3.cell 2⟩; have f0 := G3.free 0; have f1 := G3.free 1; have f2 := G3.free 2; have e0 := G3.cell 0; have e1 := G3.cell 1; have e2 := G3.cell 2; have HE : ∀ u0 u1 u2 : Value, (((v3.setCell ⟨w.heap.size + 2, 0, none⟩ u0).setCell ⟨w.heap.size + 2, 1, none⟩ u1).setCell ⟨w.heap.size + 2, 2, none⟩ u2).cell? ⟨w.heap.size, 0, none⟩ = some (.slice a1 P.length k1) ∧ (((v3.setCell ⟨w.heap.size + 2, 0, none⟩ u0).setCell ⟨w.heap.size + 2, 1, none⟩ u1).setCell ⟨w.heap.size + 2, 2, none⟩ u2).cell? ⟨w.heap.size, 1, none⟩ = some (.slice a2 S.length k2) ∧ (((v3.setCell ⟨w.heap.size + 2, 0, none⟩ u0).setCell ⟨w.heap.size + 2, 1, none⟩ u1).setCell ⟨w.heap.size + 2, 2, none⟩ u2).cell? ⟨w.heap.size, 2, none⟩ = some (.slice a3 W.length k3) := fun u0 u1 u2 => have h := hy3.wrote ((((Keeps.refl (fun k => w.heap.size + 1 ≤ k) v3).setCell (p := ⟨w.heap.size + 2, 0, none⟩) (Nat.le_succ _) u0).setCell (p := ⟨w.heap.size + 2, 1, none⟩) (Nat.le_succ _) u1).setCell (p := ⟨w.heap.size + 2, 2, none⟩) (Nat.le_succ _) u2); ⟨h.cell 0, h.cell 1, h.cell 2⟩)
          | (go_at_call 122; (with_reducible refine (unloaded_c _ _ P S W (woTo (proxL P S) (muTo V N t b P.length) P.length) _ hrdB ho1.rd HCL.out (by rw [woTo_len]; exact muTo_len _ _ _ _ _) HUL.out).mono ?_); rintro e v2 ⟨a', k'', rfl, ho2, hq⟩; have hy2 := hy1.trans hq; have G2 := G1.stays hq; have hz6 : v1.heap.size ≤ v2.heap.size := hq.size; have HD : v2.cell? ⟨w.heap.size, 0, none⟩ = some (.slice a1 P.length k1) ∧ v2.cell? ⟨w.heap.size, 1, none⟩ = some (.slice a2 S.length k2) ∧ v2.cell? ⟨w.heap.size, 2, none⟩ = some (.slice a3 W.length k3) := ⟨hy2.cell 0, hy2.cell 1, hy2.cell 2⟩))
      go_wp2
      have F := ((G3.set 0 (.slice b1 (okL (allIn (unlL P S (woTo (proxL P S) (muTo V N t b P.length) P.length)) (-100000) 100000) P).length j1)).set 1 (.slice b2 (okL (allIn (unlL P S (woTo (proxL P S) (muTo V N t b P.length) P.length)) (-100000) 100000) S).length j2)).set 2 (.slice b3 (okL (allIn (unlL P S (woTo (proxL P S) (muTo V N t b P.length) P.length)) (-100000) 100000) (unlL P S (woTo (proxL P S) (muTo V N t b P.length) P.length))).length j3)
      have q0 := F.cell 0
      have q1 := F.cell 1
      have q2 := F.cell 2
      have hK : Keeps (fun k => k = w.heap.size + 2) v3 (((v3.setCell ⟨w.heap.size + 2, 0, none⟩ (.slice b1 (okL (allIn (unlL P S (woTo (proxL P S) (muTo V N t b P.length) P.length)) (-100000) 100000) P).length j1)).setCell ⟨w.heap.size + 2, 1, none⟩ (.slice b2 (okL (allIn (unlL P S (woTo (proxL P S) (muTo V N t b P.length) P.length)) (-100000) 100000) S).length j2)).setCell ⟨w.heap.size + 2, 2, none⟩ (.slice b3 (okL (allIn (unlL P S (woTo (proxL P S) (muTo V N t b P.length) P.length)) (-100000) 100000) (unlL P S (woTo (proxL P S) (muTo V N t b P.length) P.length))).length j3)) := ((((Keeps.refl (fun k => k = w.heap.size + 2) v3).setCell (p := ⟨w.heap.size + 2, 0, none⟩) rfl _).setCell (p := ⟨w.heap.size + 2, 1, none⟩) rfl _).setCell (p := ⟨w.heap.size + 2, 2, none⟩) rfl _)
      refine bodyPost_ret (v := .tuple #[.agg #[.slice b1 (okL (allIn (unlL P S (woTo (proxL P S) (muTo V N t b P.length) P.length)) (-100000) 100000) P).length j1, .slice b2 (okL (allIn (unlL P S (woTo (proxL P S) (muTo V N t b P.length) P.length)) (-100000) 100000) S).length j2, .slice b3 (okL (allIn (unlL P S (woTo (proxL P S) (muTo V N t b P.length) P.length)) (-100000) 100000) (unlL P S (woTo (proxL P S) (muTo V N t b P.length) P.length))).length j3], .int .i64 (okC (allIn (unlL P S (woTo (proxL P S) (muTo V N t b P.length) P.length)) (-100000) 100000) 3)]) (by simp [results, Try.results70, go_sem, q0, q1, q2]) rfl ⟨_, _, _, _, _, _, rfl, ?_, ?_⟩
      · exact (ho3.keeps hK (fun k hk e => by have := (ho3.block k hk).1; omega)).base_le (by omega)
      · exact hy3.below.trans (hK.below (by have := hy3.size; omega) (fun k hk => by omega))

end Go.Proofs.Ythpnmkghjnipoaa

/- Contracts: the reference's multiplier (spec.l08Multiplier). -/
namespace Go.Proofs.Ythpnmkghjnipoaa
open Go.RowKit

theorem own_cellsL {n base k : Nat} {w : World} {a : Option Addr} {xs : List Int} (h : OwnI w base (.slice a n k) xs) (hl : xs.length = n) (hn : 0 < n) : ∃ g, a = some ⟨g, 0, none⟩ ∧ base ≤ g ∧ g < w.heap.size ∧ ∀ i, i < n → w.cell? ⟨g, i, none⟩ = some (.int .i64 (gI xs i)) := by
  subst hl
  obtain ⟨g, c, hge, hg0, hg1, hg2, hg3⟩ := Own.pos h hn
  injection hge with hge1 hge2 hge3
  subst hge1 hge3
  exact ⟨g, rfl, hg0, hg1, fun i hi => Own.cell h i hi⟩
theorem ooM_c (p s q v : Value) (P S W O : List Int) (w : World) (hp : Rd w p P) (hs : Rd w s S) (hv : Rd w v O) (hc : CluOk P S W) (hl : O.length = P.length) (hO : ∀ i, i < O.length → -1000000000000 ≤ gI O i ∧ gI O i ≤ 1000000000000) :
    Calls Try.prog 148 #[.agg #[p, s, q], v] w (RetL P.length w (woTo (proxL P S) O P.length)) := by
  have h1 := l08OfOrders_l p s q v P S W O w hp hs hv hc hl hO
  rwa [hl] at h1

set_option maxRecDepth 100000 in
set_option maxHeartbeats 4000000 in
theorem l08Mult_c (p s q : Value) (P S W : List Int) (t b : Int) (w : World) (hp : Rd w p P) (hs : Rd w s S) (hq : Rd w q W) (hc : CluOk P S W) (hb1 : 1 ≤ b) (hb2 : b ≤ 1000) (ht1 : 0 ≤ t) (ht2 : t ≤ 10000) (V N : List Int) (hV : ordTo (fun j => gI W j) P S P.length = V) (hD : discTo P S P.length = N) (hVD : ∀ i, i < P.length → 0 ≤ gI V i ∧ gI V i ≤ 10000000000000 ∧ 0 ≤ gI N i ∧ gI N i ≤ 10000000000000) (hsm : ∀ i, i < (muTo V N t b P.length).length → -1000000000000 ≤ gI (muTo V N t b P.length) i ∧ gI (muTo V N t b P.length) i ≤ 1000000000000) (hul : UnlOk P S fun i => gI (woTo (proxL P S) (muTo V N t b P.length) P.length) i) :
    Calls Try.prog 113 #[.agg #[p, s, q], .agg #[.int .i64 t, .int .i64 b]] w (RetL P.length w (unlL P S (woTo (proxL P S) (muTo V N t b P.length) P.length))) := by
  obtain ⟨a1, k1, rfl⟩ := hp.len0
  obtain ⟨a2, k2, rfl⟩ := hs.len0
  obtain ⟨a3, k3, rfl⟩ := hq.len0
  have hqq := hq
  obtain ⟨i0, hi, hz0, hz1, hz2⟩ := info_parts Try.infoI
  have hp1 : 0 < P.length := hc.1.1
  have hp2 : P.length ≤ 24 := hc.1.2.1
  have hp3 : P.length ≤ 100000 := by omega
  have hp4 : P.length ≤ 1000000 := by omega
  have HWl := Lib.hid (show W.length = P.length from hc.1.2.2.2)
  have HVl := Lib.hid (show V.length = P.length by rw [← hV]; exact ordTo_len _ _ _ _)
  have HDl := Lib.hid (show N.length = P.length by rw [← hD]; exact discTo_len _ _ _)
  have KA := Lib.hid (fun (u : World) (h1 : Rd u (.slice a1 P.length k1) P) (h2 : Rd u (.slice a2 S.length k2) S) (h3 : Rd u (.slice a3 W.length k3) W) => show Calls Try.prog 146 #[.agg #[.slice a1 P.length k1, .slice a2 S.length k2, .slice a3 W.length k3], .slice a3 W.length k3] u (RetL P.length u V) by have := l07OrdersL_c _ _ (.slice a3 W.length k3) _ P S W u h1 h2 h3 hc; rwa [hV] at this)
  have KC := Lib.hid (fun (u : World) (v : Value) (h1 : Rd u (.slice a1 P.length k1) P) (h2 : Rd u (.slice a2 S.length k2) S) (h3 : Rd u v (onesTo P.length)) => show Calls Try.prog 146 #[.agg #[.slice a1 P.length k1, .slice a2 S.length k2, .slice a3 W.length k3], v] u (RetL P.length u N) by have := l07Ones_c _ _ (.slice a3 W.length k3) v P S W u h1 h2 h3 hc; rwa [hD] at this)
  have HSM := Lib.hid hsm
  have HUL := Lib.hid hul
  have HVD := Lib.hid hVD
  have HCL := Lib.hid hc
  have HLL := Lib.hid (show ((unlL P S (woTo (proxL P S) (muTo V N t b P.length) P.length))).length = P.length from (unlL_ok HCL.out HUL.out (by rw [woTo_len]; exact muTo_len _ _ _ _ _)).1.1)
  clear hV hD hVD hsm hul hc
  have hx := Boxed.start w 47 #[.slice a1 P.length k1, .slice a2 S.length k2, .slice a3 W.length k3]
  have hxa := hx.alloc (.cells #[.int .i64 t, .int .i64 b] 62)
  have FF := Blk.new' (w := w.alloc (.cells #[.slice a1 P.length k1, .slice a2 S.length k2, .slice a3 W.length k3] 47)) (t := 62) (cs := #[.int .i64 t, .int .i64 b]) (g := w.heap.size + 1) (by simp)
  have hzs : w.heap.size + 2 ≤ ((w.alloc (.cells #[.slice a1 P.length k1, .slice a2 S.length k2, .slice a3 W.length k3] 47)).alloc (.cells #[.int .i64 t, .int .i64 b] 62)).heap.size := by simp
  go_enter Try.func113, Try.ntmps113
  go_wp2_with fail
  go_cut [5, 6] from 9 to 18 (fun s5 s6 wc => ∃ gV kV gD kD : Nat, s5 = .slice (some ⟨gV, 0, none⟩) P.length kV ∧ s6 = .slice (some ⟨gD, 0, none⟩) P.length kD ∧ (∀ i, i < P.length → wc.cell? ⟨gV, i, none⟩ = some (.int .i64 (gI V i))) ∧ (∀ i, i < P.length → wc.cell? ⟨gD, i, none⟩ = some (.int .i64 (gI N i))) ∧ gV < wc.heap.size ∧ gD < wc.heap.size ∧ Boxed w wc 47 #[.slice a1 P.length k1, .slice a2 S.length k2, .slice a3 W.length k3] ∧ Blk wc (w.heap.size + 1) 62 #[.int .i64 t, .int .i64 b])
  case first =>
    have hxd := hxa.trans (show Below ((w.alloc (.cells #[.slice a1 P.length k1, .slice a2 S.length k2, .slice a3 W.length k3] 47)).alloc (.cells #[.int .i64 t, .int .i64 b] 62)).heap.size ((w.alloc (.cells #[.slice a1 P.length k1, .slice a2 S.length k2, .slice a3 W.length k3] 47)).alloc (.cells #[.int .i64 t, .int .i64 b] 62)) ((w.alloc (.cells #[.slice a1 P.length k1, .slice a2 S.length k2, .slice a3 W.length k3] 47)).alloc (.cells #[.int .i64 t, .int .i64 b] 62)).drew from (Below.refl _ _).drew)
    have FFd := FF.stays (show Below ((w.alloc (.cells #[.slice a1 P.length k1, .slice a2 S.length k2, .slice a3 W.length k3] 47)).alloc (.cells #[.int .i64 t, .int .i64 b] 62)).heap.size ((w.alloc (.cells #[.slice a1 P.length k1, .slice a2 S.length k2, .slice a3 W.length k3] 47)).alloc (.cells #[.int .i64 t, .int .i64 b] 62)) ((w.alloc (.cells #[.slice a1 P.length k1, .slice a2 S.length k2, .slice a3 W.length k3] 47)).alloc (.cells #[.int .i64 t, .int .i64 b] 62)).drew from (Below.refl _ _).drew)
    have HC : ((w.alloc (.cells #[.slice a1 P.length k1, .slice a2 S.length k2, .slice a3 W.length k3] 47)).alloc (.cells #[.int .i64 t, .int .i64 b] 62)).drew.cell? ⟨w.heap.size, 0, none⟩ = some (.slice a1 P.length k1) ∧ ((w.alloc (.cells #[.slice a1 P.length k1, .slice a2 S.length k2, .slice a3 W.length k3] 47)).alloc (.cells #[.int .i64 t, .int .i64 b] 62)).drew.cell? ⟨w.heap.size, 1, none⟩ = some (.slice a2 S.length k2) ∧ ((w.alloc (.cells #[.slice a1 P.length k1, .slice a2 S.length k2, .slice a3 W.length k3] 47)).alloc (.cells #[.int .i64 t, .int .i64 b] 62)).drew.cell? ⟨w.heap.size, 2, none⟩ = some (.slice a3 W.length k3) := ⟨hxd.cell 0, hxd.cell 1, hxd.cell 2⟩
    go_region_held3 (fun w' => w'.cell? ⟨w.heap.size, 0, none⟩ = some (.slice a1 P.length k1) ∧ w'.cell? ⟨w.heap.size, 1, none⟩ = some (.slice a2 S.length k2) ∧ w'.cell? ⟨w.heap.size, 2, none⟩ = some (.slice a3 W.length k3))
      (first | assumption | exact HC)
      (first
        | (go_at_call 146; (with_reducible refine (KC.out _ _ (hxA.rd hp) (hxA.rd hs) oB.rd).mono ?_); rintro e wC ⟨gC, kC, rfl, oC, hq⟩; have hxC := hxA.trans hq; have FC := FA.stays hq; have oA := oA.below hq (Nat.le_refl _); have oB := oB.below hq (Nat.le_refl _); have HC : wC.cell? ⟨w.heap.size, 0, none⟩ = some (.slice a1 P.length k1) ∧ wC.cell? ⟨w.heap.size, 1, none⟩ = some (.slice a2 S.length k2) ∧ wC.cell? ⟨w.heap.size, 2, none⟩ = some (.slice a3 W.length k3) := ⟨hxC.cell 0, hxC.cell 1, hxC.cell 2⟩)
        | (go_at_call 146; (with_reducible refine (KA.out _ (hxC.rd hp) (hxC.rd hs) (hxC.rd hqq)).mono ?_); rintro e wA ⟨gA, kA, rfl, oA, hq⟩; have hxA := hxC.trans hq; have FA := FC.stays hq; have oB := oB.below hq (Nat.le_refl _); have oC := oC.below hq (Nat.le_refl _); have HC : wA.cell? ⟨w.heap.size, 0, none⟩ = some (.slice a1 P.length k1) ∧ wA.cell? ⟨w.heap.size, 1, none⟩ = some (.slice a2 S.length k2) ∧ wA.cell? ⟨w.heap.size, 2, none⟩ = some (.slice a3 W.length k3) := ⟨hxA.cell 0, hxA.cell 1, hxA.cell 2⟩)
        | (go_at_call 146; (with_reducible refine (KC.out _ _ (hxB.rd hp) (hxB.rd hs) oB.rd).mono ?_); rintro e wC ⟨gC, kC, rfl, oC, hq⟩; have hxC := hxB.trans hq; have FC := FB.stays hq; have oA := oA.below hq (Nat.le_refl _); have oB := oB.below hq (Nat.le_refl _); have HC : wC.cell? ⟨w.heap.size, 0, none⟩ = some (.slice a1 P.length k1) ∧ wC.cell? ⟨w.heap.size, 1, none⟩ = some (.slice a2 S.length k2) ∧ wC.cell? ⟨w.heap.size, 2, none⟩ = some (.slice a3 W.length k3) := ⟨hxC.cell 0, hxC.cell 1, hxC.cell 2⟩)
        | (go_at_call 146; (with_reducible refine (KC.out _ _ (hxB.rd hp) (hxB.rd hs) oB.rd).mono ?_); rintro e wC ⟨gC, kC, rfl, oC, hq⟩; have hxC := hxB.trans hq; have FC := FB.stays hq; have oB := oB.below hq (Nat.le_refl _); have HC : wC.cell? ⟨w.heap.size, 0, none⟩ = some (.slice a1 P.length k1) ∧ wC.cell? ⟨w.heap.size, 1, none⟩ = some (.slice a2 S.length k2) ∧ wC.cell? ⟨w.heap.size, 2, none⟩ = some (.slice a3 W.length k3) := ⟨hxC.cell 0, hxC.cell 1, hxC.cell 2⟩)
        | (go_at_call 146; (with_reducible refine (KA.out _ (hxB.rd hp) (hxB.rd hs) (hxB.rd hqq)).mono ?_); rintro e wA ⟨gA, kA, rfl, oA, hq⟩; have hxA := hxB.trans hq; have FA := FB.stays hq; have oB := oB.below hq (Nat.le_refl _); have HC : wA.cell? ⟨w.heap.size, 0, none⟩ = some (.slice a1 P.length k1) ∧ wA.cell? ⟨w.heap.size, 1, none⟩ = some (.slice a2 S.length k2) ∧ wA.cell? ⟨w.heap.size, 2, none⟩ = some (.slice a3 W.length k3) := ⟨hxA.cell 0, hxA.cell 1, hxA.cell 2⟩)
        | (go_at_call 102; (with_reducible refine (l06OnesL_c P.length _ hp3).mono ?_); rintro e wB ⟨gB, kB, rfl, oB, hq⟩; have hxB := hxA.trans hq; have FB := FA.stays hq; have oA := oA.below hq (Nat.le_refl _); have HC : wB.cell? ⟨w.heap.size, 0, none⟩ = some (.slice a1 P.length k1) ∧ wB.cell? ⟨w.heap.size, 1, none⟩ = some (.slice a2 S.length k2) ∧ wB.cell? ⟨w.heap.size, 2, none⟩ = some (.slice a3 W.length k3) := ⟨hxB.cell 0, hxB.cell 1, hxB.cell 2⟩)
        | (go_at_call 146; (with_reducible refine (KA.out _ (hxd.rd hp) (hxd.rd hs) (hxd.rd hqq)).mono ?_); rintro e wA ⟨gA, kA, rfl, oA, hq⟩; have hxA := hxd.trans hq; have FA := FFd.stays hq; have HC : wA.cell? ⟨w.heap.size, 0, none⟩ = some (.slice a1 P.length k1) ∧ wA.cell? ⟨w.heap.size, 1, none⟩ = some (.slice a2 S.length k2) ∧ wA.cell? ⟨w.heap.size, 2, none⟩ = some (.slice a3 W.length k3) := ⟨hxA.cell 0, hxA.cell 1, hxA.cell 2⟩)
        | (go_at_call 102; (with_reducible refine (l06OnesL_c P.length _ hp3).mono ?_); rintro e wB ⟨gB, kB, rfl, oB, hq⟩; have hxB := hxd.trans hq; have FB := FFd.stays hq; have HC : wB.cell? ⟨w.heap.size, 0, none⟩ = some (.slice a1 P.length k1) ∧ wB.cell? ⟨w.heap.size, 1, none⟩ = some (.slice a2 S.length k2) ∧ wB.cell? ⟨w.heap.size, 2, none⟩ = some (.slice a3 W.length k3) := ⟨hxB.cell 0, hxB.cell 1, hxB.cell 2⟩))
    all_goals
      obtain ⟨ea, rfl, _, ra, va⟩ := own_cellsL oA HVl.out hp1
      obtain ⟨eb, rfl, _, rb, vb⟩ := own_cellsL oC HDl.out hp1
      clear HC
      go_wp2
      go_meet
      first
        | exact ⟨ea, _, eb, _, rfl, rfl, va, vb, ra, rb, hxC, FC⟩
        | exact ⟨ea, _, eb, _, rfl, rfl, va, vb, ra, rb, hxA, FA⟩
  case rest =>
    obtain ⟨gv, kV, gd, kD, rfl, rfl, hvc, hdc, hgv1, hgd1, hx5, FF5⟩ := hcut
    clear FF hxa hx hzs
    obtain ⟨w5, rfl⟩ : ∃ wo : World, wo = wc := ⟨_, rfl⟩
    have hw5s : w.heap.size + 2 ≤ w5.heap.size := FF5.lt
    have g0 := own_empty_at w5 w5.heap.size w5.heap.size rfl (Nat.le_refl _)
    have hb6 : Below w5.heap.size w5 (w5.alloc (.cells #[] 2)) := (Below.refl _ _).alloc (Nat.le_refl _) _
    go_wp2
    go_loopw [7, 8] (fun v i wr => ∃ k : Nat, ∃ g c : Nat, k ≤ P.length ∧ i = .int .i64 k ∧ v = .slice (some ⟨g, 0, none⟩) k c ∧ OwnI wr w5.heap.size (.slice (some ⟨g, 0, none⟩) k c) (muTo V N t b k) ∧ Below w5.heap.size w5 wr) (fun _ i _ => P.length - (intOf i).toNat)
    case atStart => exact ⟨0, _, _, Nat.zero_le _, rfl, rfl, g0, hb6⟩
    case round =>
      obtain ⟨k, g, c, hk, rfl, rfl, ho, hbr⟩ := hrel
      clear g0 hb6
      obtain ⟨wo, rfl⟩ : ∃ wo : World, wo = wr := ⟨_, rfl⟩
      by_cases hlt : k < P.length
      · have hkP : (k : Int) < (P.length : Int) := by omega
        have k00 : (0 : Int) ≤ (k : Int) := Int.natCast_nonneg _
        have hgb := ho.block g rfl
        have n1 := HVD.out k hlt
        have HY := Lib.hid (muTo_succ V N t b k)
        have HX := Lib.hid (show ∀ Y : World, Below w5.heap.size w5 Y → Y.cell? ⟨w.heap.size + 1, 0, none⟩ = some (.int .i64 t) ∧ Y.cell? ⟨w.heap.size + 1, 1, none⟩ = some (.int .i64 b) ∧ Y.cell? ⟨gv, k, none⟩ = some (.int .i64 (gI V k)) ∧ Y.cell? ⟨gd, k, none⟩ = some (.int .i64 (gI N k)) from fun Y hY => ⟨(FF5.stays hY).cell 0, (FF5.stays hY).cell 1, by rw [hY.cell (p := ⟨gv, k, none⟩) hgv1]; exact hvc k hlt, by rw [hY.cell (p := ⟨gd, k, none⟩) hgd1]; exact hdc k hlt⟩)
        generalize gI V k = x at n1 HY HX
        generalize gI N k = y at n1 HY HX
        obtain ⟨x1, x2, y1, y2⟩ := n1
        have m1 := mu_mul (a := x) (A := 10000000000000) (b := t) (B := 10000) x1 x2 (by omega) (by omega)
        have m2 : x * t / b ≤ x * t := Int.ediv_le_self _ m1.1
        have m3 : 0 ≤ x * t / b := Int.ediv_nonneg m1.1 (by omega)
        have e1 : IntKind.i64.wrap (x * t) = x * t := IntWalk.i64_in _ (by omega)
        have e2 : ¬ b = 0 := by omega
        have e3 : Int.tdiv (x * t) b = x * t / b := Int.tdiv_eq_ediv_of_nonneg m1.1
        have e4 : IntKind.i64.wrap (x * t / b) = x * t / b := IntWalk.i64_in _ (by omega)
        have e5 : IntKind.i64.wrap (x * t / b - y) = x * t / b - y := IntWalk.i64_in _ (by omega)
        have HY := Lib.hid (HY.out.trans (by rw [Int.mul_comm t x]))
        have hal : Below wo.heap.size wo ((wo.alloc (.cells #[.int .i64 (x * t / b - y)] 2)).drew) := ((Below.refl _ _).alloc (Nat.le_refl _) _).drew
        have hO := ho.below hal (Nat.le_refl _)
        have hb9 := below_step hbr hal
        go_wp2_with fail
        have HS0 : wo.drew.cell? ⟨w.heap.size + 1, 0, none⟩ = some (.int .i64 t) ∧ wo.drew.cell? ⟨w.heap.size + 1, 1, none⟩ = some (.int .i64 b) ∧ wo.drew.cell? ⟨gv, k, none⟩ = some (.int .i64 x) ∧ wo.drew.cell? ⟨gd, k, none⟩ = some (.int .i64 y) := HX.out _ (below_step hbr (Below.refl _ _).drew)
        have HS1 : ((wo.alloc (.cells #[.int .i64 (x * t / b - y)] 2)).drew).cell? ⟨w.heap.size + 1, 0, none⟩ = some (.int .i64 t) ∧ ((wo.alloc (.cells #[.int .i64 (x * t / b - y)] 2)).drew).cell? ⟨w.heap.size + 1, 1, none⟩ = some (.int .i64 b) ∧ ((wo.alloc (.cells #[.int .i64 (x * t / b - y)] 2)).drew).cell? ⟨gv, k, none⟩ = some (.int .i64 x) ∧ ((wo.alloc (.cells #[.int .i64 (x * t / b - y)] 2)).drew).cell? ⟨gd, k, none⟩ = some (.int .i64 y) := HX.out _ hb9
        go_region_held3 (fun w' => w'.cell? ⟨w.heap.size + 1, 0, none⟩ = some (.int .i64 t) ∧ w'.cell? ⟨w.heap.size + 1, 1, none⟩ = some (.int .i64 b) ∧ w'.cell? ⟨gv, k, none⟩ = some (.int .i64 x) ∧ w'.cell? ⟨gd, k, none⟩ = some (.int .i64 y))
          (first | assumption | exact HS2 | exact HS1 | exact HS0)
          (first | (refine step_pushS rfl (.tmp 26) (.tmp 42) 22 rfl w5.heap.size 2 i0 Try.underlying22 hi hz0 hz1 hz2 g k c (muTo V N t b k) (x * t / b - y) wo.heap.size (muTo_len _ _ _ _ _) rfl hO rfl (Blk.new wo _ _) (by omega) (by have := hbr.size; simp; omega) ?_; intro g2 c2 w2 h1 h2 h3 h4 h5; have hbf : Below w5.heap.size w5 w2 := hb9.trans (h2.below (by have := Below.size hb9; omega) (fun b hb => by omega)); have HS2 : w2.cell? ⟨w.heap.size + 1, 0, none⟩ = some (.int .i64 t) ∧ w2.cell? ⟨w.heap.size + 1, 1, none⟩ = some (.int .i64 b) ∧ w2.cell? ⟨gv, k, none⟩ = some (.int .i64 x) ∧ w2.cell? ⟨gd, k, none⟩ = some (.int .i64 y) := HX.out _ hbf))
        all_goals
          rw [← HY.out] at h1
          clear h2 h3 h4 h5 hO HS0 HS1 HS2
          go_wp2
          go_roundw
          case rel => exact ⟨k + 1, g2, c2, by omega, by go_num, rfl, h1, hbf⟩
          case measure => simp [intOf]; omega
      · have hk' : k = P.length := by omega
        subst hk'
        have hls := ho.rd
        have hx8 := hx5.trans hbr
        have D8 := FF5.stays hbr
        have hzo : w5.heap.size ≤ wo.heap.size := hbr.size
        clear hvc hdc
        go_wp2_with fail
        have hx0 := hx8.trans (Below.refl _ _).drew
        have D0 := D8.stays (Below.refl _ _).drew
        have HD : wo.drew.cell? ⟨w.heap.size, 0, none⟩ = some (.slice a1 P.length k1) ∧ wo.drew.cell? ⟨w.heap.size, 1, none⟩ = some (.slice a2 S.length k2) ∧ wo.drew.cell? ⟨w.heap.size, 2, none⟩ = some (.slice a3 W.length k3) := ⟨hx0.cell 0, hx0.cell 1, hx0.cell 2⟩
        have hlsA := hls.below (show Below wo.heap.size wo wo.drew from (Below.refl _ _).drew) (Nat.le_refl _)
        go_region_held3 (fun w' => w'.cell? ⟨w.heap.size, 0, none⟩ = some (.slice a1 P.length k1) ∧ w'.cell? ⟨w.heap.size, 1, none⟩ = some (.slice a2 S.length k2) ∧ w'.cell? ⟨w.heap.size, 2, none⟩ = some (.slice a3 W.length k3))
          (first | assumption | exact HD | exact HE _ _ _)
          (first
            | (go_at_call 148; (with_reducible refine (ooM_c _ _ _ _ P S W (muTo V N t b P.length) _ (hx0.rd hp) (hx0.rd hs) hlsA HCL.out (muTo_len _ _ _ _ _) HSM.out).mono ?_); rintro e v1 ⟨a, k', rfl, ho1, hq⟩; have hy1 := hx0.trans hq; have G1 := D0.stays hq; have hz5 : wo.heap.size ≤ v1.heap.size := hq.size; have HD : v1.cell? ⟨w.heap.size, 0, none⟩ = some (.slice a1 P.length k1) ∧ v1.cell? ⟨w.heap.size, 1, none⟩ = some (.slice a2 S.length k2) ∧ v1.cell? ⟨w.heap.size, 2, none⟩ = some (.slice a3 W.length k3) := ⟨hy1.cell 0, hy1.cell 1, hy1.cell 2⟩)
            | (go_at_call 145; (with_reducible refine (l01OwnN_c P.length _ (unlL P S (woTo (proxL P S) (muTo V N t b P.length) P.length)) _ hr2 hp1 hp4 HLL.out).mono ?_); rintro e v3 ⟨b1, j1, rfl, ho3, hq⟩; have hy3 := hy2.trans hq; have G3 := G2.stays hq; have HD : v3.cell? ⟨w.heap.size, 0, none⟩ = some (.slice a1 P.length k1) ∧ v3.cell? ⟨w.heap.size, 1, none⟩ = some (.slice a2 S.length k2) ∧ v3.cell? ⟨w.heap.size, 2, none⟩ = some (.slice a3 W.length k3) := ⟨hy3.cell 0, hy3.cell 1, hy3.cell 2⟩)
            | (go_at_call 147; (with_reducible refine (l08Unload_c _ _ _ _ _ _ _ P S W (woTo (proxL P S) (muTo V N t b P.length) P.length) _ (hy1.rd hp) (hy1.rd hs) rfl ho1.rd HCL.out (by rw [woTo_len]; exact muTo_len _ _ _ _ _) HUL.out).mono ?_); rintro e v2 ⟨a', k'', rfl, hr2, hq⟩; have hy2 := hy1.trans hq; have G2 := G1.stays hq; have hz6 : v1.heap.size ≤ v2.heap.size := hq.size; have HD : v2.cell? ⟨w.heap.size, 0, none⟩ = some (.slice a1 P.length k1) ∧ v2.cell? ⟨w.heap.size, 1, none⟩ = some (.slice a2 S.length k2) ∧ v2.cell? ⟨w.heap.size, 2, none⟩ = some (.slice a3 W.length k3) := ⟨hy2.cell 0, hy2.cell 1, hy2.cell 2⟩))
        go_wp2
        go_ret
        exact ⟨_, _, rfl, ho3.base_le (by omega), hy3.below⟩
end Go.Proofs.Ythpnmkghjnipoaa

/- Contracts: MultiplierCluster, the reference: the answered case. -/
namespace Go.Proofs.Ythpnmkghjnipoaa
open Go.RowKit

/-- Both arguments' boxes. -/
def MuBox (w wr : World) (cs : Array Value) (t b : Int) : Prop := Boxed (w.alloc (.cells cs 47)) wr 62 #[.int .i64 t, .int .i64 b]
theorem MuBox.trans {w wr w' : World} {cs : Array Value} {t b : Int} (h : MuBox w wr cs t b) (h' : Below wr.heap.size wr w') : MuBox w w' cs t b := Boxed.trans h h'
theorem MuBox.alloc {w wr : World} {cs : Array Value} {t b : Int} (h : MuBox w wr cs t b) (o : Obj) : MuBox w (wr.alloc o) cs t b := Boxed.alloc h o
theorem MuBox.base {w wr : World} {cs : Array Value} {t b : Int} (h : MuBox w wr cs t b) : Boxed w wr 47 cs := (Boxed.start w _ cs).trans (Boxed.below h)
theorem MuBox.cell {w wr : World} {cs : Array Value} {t b : Int} (h : MuBox w wr cs t b) (i : Nat) : wr.cell? ⟨w.heap.size, i, none⟩ = cs[i]? := h.base.cell i
theorem MuBox.f0 {w wr : World} {cs : Array Value} {t b : Int} (h : MuBox w wr cs t b) : wr.cell? ⟨w.heap.size + 1, 0, none⟩ = some (.int .i64 t) := by have := Boxed.cell h 0; simpa using this
theorem MuBox.f1 {w wr : World} {cs : Array Value} {t b : Int} (h : MuBox w wr cs t b) : wr.cell? ⟨w.heap.size + 1, 1, none⟩ = some (.int .i64 b) := by have := Boxed.cell h 1; simpa using this
theorem MuBox.below {w wr : World} {cs : Array Value} {t b : Int} (h : MuBox w wr cs t b) : Below w.heap.size w wr := h.base.below
theorem MuBox.size {w wr : World} {cs : Array Value} {t b : Int} (h : MuBox w wr cs t b) : w.heap.size < wr.heap.size := h.base.size
theorem MuBox.rd {w wr : World} {cs : Array Value} {t b : Int} {v : Value} {xs : List Int} (h : MuBox w wr cs t b) (hr : Rd w v xs) : Rd wr v xs := h.base.rd hr
theorem muSTORE {w w4 : World} {t : TypeId} {cs zs ys : Array Value} {x y : Int} {g gd : Nat} (E : Blk w4 g t zs) (D : Blk w4 gd t ys) (hx : MuBox w w4 cs x y) (hne : gd ≠ g) (hg : w.heap.size + 2 ≤ g) (v0 v1 v2 : Value) :
    Blk (((w4.setCell ⟨g, 0, none⟩ v0).setCell ⟨g, 1, none⟩ v1).setCell ⟨g, 2, none⟩ v2) g t (((zs.setIfInBounds 0 v0).setIfInBounds 1 v1).setIfInBounds 2 v2) ∧
    Blk (((w4.setCell ⟨g, 0, none⟩ v0).setCell ⟨g, 1, none⟩ v1).setCell ⟨g, 2, none⟩ v2) gd t ys ∧
    MuBox w (((w4.setCell ⟨g, 0, none⟩ v0).setCell ⟨g, 1, none⟩ v1).setCell ⟨g, 2, none⟩ v2) cs x y ∧
    Keeps (fun k => k = g) w4 (((w4.setCell ⟨g, 0, none⟩ v0).setCell ⟨g, 1, none⟩ v1).setCell ⟨g, 2, none⟩ v2) := by
  have hg' : (w.alloc (.cells cs 47)).heap.size + 1 ≤ g := by simp; omega
  exact ⟨((E.set 0 v0).set 1 v1).set 2 v2, ((D.other hne 0 v0).other hne 1 v1).other hne 2 v2,
    Boxed.wrote hx ((((Keeps.refl (fun k => (w.alloc (.cells cs 47)).heap.size + 1 ≤ k) w4).setCell (p := ⟨g, 0, none⟩) hg' v0).setCell (p := ⟨g, 1, none⟩) hg' v1).setCell (p := ⟨g, 2, none⟩) hg' v2),
    (((Keeps.refl (fun k => k = g) w4).setCell (p := ⟨g, 0, none⟩) rfl v0).setCell (p := ⟨g, 1, none⟩) rfl v1).setCell (p := ⟨g, 2, none⟩) rfl v2⟩

set_option maxRecDepth 100000 in
set_option maxHeartbeats 6000000 in
theorem specMu_4 (p s q : Value) (P S W : List Int) (t b : Int) (w : World) (hp : Rd w p P) (hs : Rd w s S) (hq : Rd w q W) (fb : Bool) (hc : cluB P S W = true) (hf : fracB t b = true) (hr : muR W t b = true) (hn : nonNeg (exTo (proxL P S) W P.length) = true) (V N : List Int) (hV : ordTo (fun j => gI W j) P S P.length = V) (hD : discTo P S P.length = N) (hVD : ∀ i, i < P.length → 0 ≤ gI V i ∧ gI V i ≤ 10000000000000 ∧ 0 ≤ gI N i ∧ gI N i ≤ 10000000000000) (hsm : ∀ i, i < (muTo V N t b P.length).length → -1000000000000 ≤ gI (muTo V N t b P.length) i ∧ gI (muTo V N t b P.length) i ≤ 1000000000000) (hul : UnlOk P S fun i => gI (woTo (proxL P S) (muTo V N t b P.length) P.length) i) (hfb : cluB P S (unlL P S (woTo (proxL P S) (muTo V N t b P.length) P.length)) = fb) :
    Calls Try.prog 67 #[.agg #[p, s, q], .agg #[.int .i64 t, .int .i64 b]] w (RetCC w (okL fb P) (okL fb S) (okL fb (unlL P S (woTo (proxL P S) (muTo V N t b P.length) P.length))) (okC fb 3)) := by
  obtain ⟨a1, k1, rfl⟩ := hp.len0
  obtain ⟨a2, k2, rfl⟩ := hs.len0
  have hqq := hq
  have hcl := cluB_iff.1 hc
  have hW0 : 0 < W.length := by have := hcl.1; omega
  have hWn : W.length ≤ 1000000 := by have := hcl.1; omega
  have hb0 : 1 ≤ b ∧ b ≤ 1000000000 ∧ -1000000000 ≤ t ∧ t ≤ 1000000000 := by
    unfold fracB at hf
    simp only [Bool.and_eq_true] at hf
    have h1 := inB_iff.1 hf.1
    have h2 := inB_iff.1 hf.2.1
    omega
  obtain ⟨hbb1, hbb2, ht1, ht2⟩ := hb0
  have w10 : IntKind.i64.wrap (10 * b) = 10 * b := IntWalk.i64_in _ (by omega)
  obtain ⟨bw3, ow3, k3, rfl, hq1, hq2, hb3, hc3⟩ := hq.cells hW0
  have hr1 : (∀ i, i < W.length → gI W i ≤ 1000) ∧ b ≤ 1000 ∧ 0 ≤ t ∧ t ≤ 10 * b := by
    unfold muR at hr
    simpa only [Bool.and_eq_true, decide_eq_true_eq] using hr
  obtain ⟨hm1, hm2, hm3, hm4⟩ := hr1
  have HM1 := Lib.hid hm1
  have hn2 : ¬ b > 1000 := by omega
  have hn3 : ¬ t < 0 := by omega
  have hn4 : ¬ t > 10 * b := by omega
  have HCL := Lib.hid hcl
  clear hcl hr hm1
  have HSM := Lib.hid hsm
  have HUL := Lib.hid hul
  have HVD := Lib.hid hVD
  have HV := Lib.hid hV
  have HD0 := Lib.hid hD
  have HFB := Lib.hid hfb
  have ht10 : t ≤ 10000 := by omega
  have HLL := Lib.hid (show ((unlL P S (woTo (proxL P S) (muTo V N t b P.length) P.length))).length = P.length from (unlL_ok HCL.out HUL.out (by rw [woTo_len]; exact muTo_len _ _ _ _ _)).1.1)
  clear hV hD hVD hsm hul hfb
  have hx := Boxed.start w 47 #[.slice a1 P.length k1, .slice a2 S.length k2, .slice (some ⟨bw3, ow3, none⟩) W.length k3]
  have hxa := (hx.alloc (.cells #[.int .i64 t, .int .i64 b] 62)).alloc (.cells #[.slice none 0 0, .slice none 0 0, .slice none 0 0] 47)
  have FF := (Blk.new' (w := w.alloc (.cells #[.slice a1 P.length k1, .slice a2 S.length k2, .slice (some ⟨bw3, ow3, none⟩) W.length k3] 47)) (t := 62) (cs := #[.int .i64 t, .int .i64 b]) (g := w.heap.size + 1) (by simp)).alloc (.cells #[.slice none 0 0, .slice none 0 0, .slice none 0 0] 47)
  have D := Blk.new' (w := (w.alloc (.cells #[.slice a1 P.length k1, .slice a2 S.length k2, .slice (some ⟨bw3, ow3, none⟩) W.length k3] 47)).alloc (.cells #[.int .i64 t, .int .i64 b] 62)) (t := 47) (cs := #[.slice none 0 0, .slice none 0 0, .slice none 0 0]) (g := w.heap.size + 2) (by simp)
  have c0 := hxa.cell 0
  have c1 := hxa.cell 1
  have c2 := hxa.cell 2
  have t0 := FF.cell 0
  have t1 := FF.cell 1
  have M0 : MuBox w (((w.alloc (.cells #[.slice a1 P.length k1, .slice a2 S.length k2, .slice (some ⟨bw3, ow3, none⟩) W.length k3] 47)).alloc (.cells #[.int .i64 t, .int .i64 b] 62)).alloc (.cells #[.slice none 0 0, .slice none 0 0, .slice none 0 0] 47)) #[.slice a1 P.length k1, .slice a2 S.length k2, .slice (some ⟨bw3, ow3, none⟩) W.length k3] t b := Boxed.alloc (Boxed.start (w.alloc (.cells #[.slice a1 P.length k1, .slice a2 S.length k2, .slice (some ⟨bw3, ow3, none⟩) W.length k3] 47)) 62 #[.int .i64 t, .int .i64 b]) _
  go_enter Try.func67, Try.ntmps67
  go_wp2_with fail
  refine (l07Is_c _ _ _ P S W _ (hxa.rd hp) (hxa.rd hs) (hxa.rd hqq)).mono ?_
  rintro e w1 ⟨rfl, hb1⟩
  rw [hc]
  have hx1 := hxa.trans hb1
  have FF1 := FF.stays hb1
  have D1 := D.stays hb1
  have hsz1 := hb1.size
  clear c0 c1 c2 t0 t1
  have c0 := hx1.cell 0
  have c1 := hx1.cell 1
  have c2 := hx1.cell 2
  have t0 := FF1.cell 0
  have t1 := FF1.cell 1
  go_wp2_with fail
  refine (l01FractionA_c t b _).mono ?_
  rintro e w2 ⟨rfl, hb2⟩
  rw [hf]
  have hx2 := hx1.trans hb2
  have FF2 := FF1.stays hb2
  have D2 := D1.stays hb2
  have hsz2 := hb2.size
  clear c0 c1 c2 t0 t1
  have c0 := hx2.cell 0
  have c1 := hx2.cell 1
  have c2 := hx2.cell 2
  have t0 := FF2.cell 0
  have t1 := FF2.cell 1
  go_wp2
  go_loop [6] (fun i => ∃ k : Nat, k ≤ W.length ∧ i = .int .i64 k ∧ ∀ j, j < k → gI W j ≤ 1000) (fun i => W.length - (intOf i).toNat)
  case atStart => exact ⟨0, Nat.zero_le _, rfl, fun j hj => absurd hj (by omega)⟩
  case round =>
    obtain ⟨k, hk, rfl, hmk⟩ := hrel
    have k00 : (0 : Int) ≤ (k : Int) := Int.natCast_nonneg _
    by_cases hlt : k < W.length
    · have hki : (k : Int) < (W.length : Int) := by omega
      have cw : w2.cell? ⟨bw3, ow3 + k, none⟩ = some (.int .i64 (gI W k)) := by rw [hx2.below.cell (p := ⟨bw3, ow3 + k, none⟩) hb3]; exact hc3 k hlt
      have hnx : gI W k ≤ 1000 → ∀ j, j < k + 1 → gI W j ≤ 1000 := fun h j hj => by
        by_cases e : j = k
        · rw [e]; exact h
        · exact hmk j (by omega)
      have HNX := Lib.hid hnx
      clear hnx hmk
      have hxk := HM1.out k hlt
      generalize gI W k = x at cw HNX hxk
      by_cases hgt : x > 1000
      · skip
        exact absurd hgt (by omega)
      · have hx1 := Lib.hid (HNX.out (by omega))
        clear HNX
        go_wp2
        go_round
        case rel => exact ⟨k + 1, by omega, by go_num, hx1.out⟩
        case measure => simp [intOf]; omega
    · have hk' : k = W.length := by omega
      subst hk'
      go_wp2_with fail
      refine (l07Consistent_c _ _ _ P S W _ (hx2.rd hp) (hx2.rd hs) (hx2.rd hqq) HCL.out).mono ?_
      rintro e w3 ⟨rfl, hb3⟩
      rw [hn]
      have hx3 := hx2.trans hb3
      have FF3 := FF2.stays hb3
      have D3 := D2.stays hb3
      have hsz3 := hb3.size
      clear c0 c1 c2 t0 t1
      have c0 := hx3.cell 0
      have c1 := hx3.cell 1
      have c2 := hx3.cell 2
      have t0 := FF3.cell 0
      have t1 := FF3.cell 1
      go_wp2_with fail
      clear c0 c1 c2 t0 t1
      have M3 : MuBox w w3 #[.slice a1 P.length k1, .slice a2 S.length k2, .slice (some ⟨bw3, ow3, none⟩) W.length k3] t b := ((M0.trans hb1).trans hb2).trans hb3
      have hz1 : w.heap.size + 3 ≤ w3.heap.size := D3.lt
      have hx0 := M3.trans (Below.refl _ _).drew
      have D0 := D3.stays (Below.refl _ _).drew
      obtain ⟨wd, hwd⟩ : ∃ wd : World, wd = w3.drew := ⟨_, rfl⟩
      have hzd : w.heap.size + 3 ≤ wd.heap.size := by rw [hwd]; exact hz1
      have hxd : MuBox w wd #[.slice a1 P.length k1, .slice a2 S.length k2, .slice (some ⟨bw3, ow3, none⟩) W.length k3] t b := by rw [hwd]; exact hx0
      have Dd : Blk wd (w.heap.size + 2) 47 #[.slice none 0 0, .slice none 0 0, .slice none 0 0] := by rw [hwd]; exact D0
      subst hwd
      have HD : w3.drew.cell? ⟨w.heap.size, 0, none⟩ = some (.slice a1 P.length k1) ∧ w3.drew.cell? ⟨w.heap.size, 1, none⟩ = some (.slice a2 S.length k2) ∧ w3.drew.cell? ⟨w.heap.size, 2, none⟩ = some (.slice (some ⟨bw3, ow3, none⟩) W.length k3) ∧ w3.drew.cell? ⟨w.heap.size + 1, 0, none⟩ = some (.int .i64 t) ∧ w3.drew.cell? ⟨w.heap.size + 1, 1, none⟩ = some (.int .i64 b) := ⟨hx0.cell 0, hx0.cell 1, hx0.cell 2, hx0.f0, hx0.f1⟩; have HA : ∀ u0 u1 u2 : Value, (w3.drew.alloc (.cells #[u0, u1, u2] 47)).cell? ⟨w.heap.size, 0, none⟩ = some (.slice a1 P.length k1) ∧ (w3.drew.alloc (.cells #[u0, u1, u2] 47)).cell? ⟨w.heap.size, 1, none⟩ = some (.slice a2 S.length k2) ∧ (w3.drew.alloc (.cells #[u0, u1, u2] 47)).cell? ⟨w.heap.size, 2, none⟩ = some (.slice (some ⟨bw3, ow3, none⟩) W.length k3) ∧ (w3.drew.alloc (.cells #[u0, u1, u2] 47)).cell? ⟨w.heap.size + 1, 0, none⟩ = some (.int .i64 t) ∧ (w3.drew.alloc (.cells #[u0, u1, u2] 47)).cell? ⟨w.heap.size + 1, 1, none⟩ = some (.int .i64 b) := fun u0 u1 u2 => have h := hx0.alloc (.cells #[u0, u1, u2] 47); ⟨h.cell 0, h.cell 1, h.cell 2, h.f0, h.f1⟩
      go_region_held3 (fun w' => w'.cell? ⟨w.heap.size, 0, none⟩ = some (.slice a1 P.length k1) ∧ w'.cell? ⟨w.heap.size, 1, none⟩ = some (.slice a2 S.length k2) ∧ w'.cell? ⟨w.heap.size, 2, none⟩ = some (.slice (some ⟨bw3, ow3, none⟩) W.length k3) ∧ w'.cell? ⟨w.heap.size + 1, 0, none⟩ = some (.int .i64 t) ∧ w'.cell? ⟨w.heap.size + 1, 1, none⟩ = some (.int .i64 b))
        (first | assumption | exact HD | exact HA _ _ _ | exact HE _ _ _)
        (first
          | (go_at_call 113; have hst : Below w3.drew.heap.size w3.drew w3.drew := Below.refl _ _; have hsa : w3.drew.heap.size = w3.drew.heap.size := rfl; (with_reducible refine (l08Mult_c _ _ _ P S W t b _ (hx0.rd hp) (hx0.rd hs) (hx0.rd hqq) HCL.out hbb1 hm2 hm3 ht10 V N HV.out HD0.out HVD.out HSM.out HUL.out).mono ?_); rintro e v1 ⟨a, k, rfl, ho, hq⟩; have hy1 := hx0.trans hq; have G1 := (D0).stays hq; have hz2 := hq.size; (try have E := Blk.stays E hq); have pL := ho.block; have HD : v1.cell? ⟨w.heap.size, 0, none⟩ = some (.slice a1 P.length k1) ∧ v1.cell? ⟨w.heap.size, 1, none⟩ = some (.slice a2 S.length k2) ∧ v1.cell? ⟨w.heap.size, 2, none⟩ = some (.slice (some ⟨bw3, ow3, none⟩) W.length k3) ∧ v1.cell? ⟨w.heap.size + 1, 0, none⟩ = some (.int .i64 t) ∧ v1.cell? ⟨w.heap.size + 1, 1, none⟩ = some (.int .i64 b) := ⟨hy1.cell 0, hy1.cell 1, hy1.cell 2, hy1.f0, hy1.f1⟩; have HA : ∀ u0 u1 u2 : Value, (v1.alloc (.cells #[u0, u1, u2] 47)).cell? ⟨w.heap.size, 0, none⟩ = some (.slice a1 P.length k1) ∧ (v1.alloc (.cells #[u0, u1, u2] 47)).cell? ⟨w.heap.size, 1, none⟩ = some (.slice a2 S.length k2) ∧ (v1.alloc (.cells #[u0, u1, u2] 47)).cell? ⟨w.heap.size, 2, none⟩ = some (.slice (some ⟨bw3, ow3, none⟩) W.length k3) ∧ (v1.alloc (.cells #[u0, u1, u2] 47)).cell? ⟨w.heap.size + 1, 0, none⟩ = some (.int .i64 t) ∧ (v1.alloc (.cells #[u0, u1, u2] 47)).cell? ⟨w.heap.size + 1, 1, none⟩ = some (.int .i64 b) := fun u0 u1 u2 => have h := hy1.alloc (.cells #[u0, u1, u2] 47); ⟨h.cell 0, h.cell 1, h.cell 2, h.f0, h.f1⟩)
          | (go_at_call 112; have hst : Below v1.heap.size v1 v1 := Below.refl _ _; have hsa : v1.heap.size = v1.heap.size := rfl; (with_reducible refine (l07With_c _ _ _ _ _ _ P S W _ (hy1.rd hp) (hy1.rd hs) HCL.out).mono ?_); rintro e v2 ⟨b1, j1, b2, j2, rfl, o1, o2, ap, hq⟩; have hy2 := hy1.trans hq; have G2 := (G1).stays hq; have hz3 := hq.size; (try have E := Blk.stays E hq); have pP := o1.block; have pS := o2.block; have o3 := (ho.below hst (Nat.le_refl _)).below hq (Nat.le_refl _); have HD : v2.cell? ⟨w.heap.size, 0, none⟩ = some (.slice a1 P.length k1) ∧ v2.cell? ⟨w.heap.size, 1, none⟩ = some (.slice a2 S.length k2) ∧ v2.cell? ⟨w.heap.size, 2, none⟩ = some (.slice (some ⟨bw3, ow3, none⟩) W.length k3) ∧ v2.cell? ⟨w.heap.size + 1, 0, none⟩ = some (.int .i64 t) ∧ v2.cell? ⟨w.heap.size + 1, 1, none⟩ = some (.int .i64 b) := ⟨hy2.cell 0, hy2.cell 1, hy2.cell 2, hy2.f0, hy2.f1⟩; have HA : ∀ u0 u1 u2 : Value, (v2.alloc (.cells #[u0, u1, u2] 47)).cell? ⟨w.heap.size, 0, none⟩ = some (.slice a1 P.length k1) ∧ (v2.alloc (.cells #[u0, u1, u2] 47)).cell? ⟨w.heap.size, 1, none⟩ = some (.slice a2 S.length k2) ∧ (v2.alloc (.cells #[u0, u1, u2] 47)).cell? ⟨w.heap.size, 2, none⟩ = some (.slice (some ⟨bw3, ow3, none⟩) W.length k3) ∧ (v2.alloc (.cells #[u0, u1, u2] 47)).cell? ⟨w.heap.size + 1, 0, none⟩ = some (.int .i64 t) ∧ (v2.alloc (.cells #[u0, u1, u2] 47)).cell? ⟨w.heap.size + 1, 1, none⟩ = some (.int .i64 b) := fun u0 u1 u2 => have h := hy2.alloc (.cells #[u0, u1, u2] 47); ⟨h.cell 0, h.cell 1, h.cell 2, h.f0, h.f1⟩)
          | (go_at_call 112; have hst : Below v1.heap.size v1 (v1.alloc (.cells #[.slice none 0 0, .slice none 0 0, .slice none 0 0] 47)) := (Below.refl _ _).alloc (Nat.le_refl _) _; have hsa : (v1.alloc (.cells #[.slice none 0 0, .slice none 0 0, .slice none 0 0] 47)).heap.size = v1.heap.size + 1 := (by simp); (with_reducible refine (l07With_c _ _ _ _ _ _ P S W _ ((hy1.alloc (.cells #[.slice none 0 0, .slice none 0 0, .slice none 0 0] 47)).rd hp) ((hy1.alloc (.cells #[.slice none 0 0, .slice none 0 0, .slice none 0 0] 47)).rd hs) HCL.out).mono ?_); rintro e v2 ⟨b1, j1, b2, j2, rfl, o1, o2, ap, hq⟩; have hy2 := (hy1.alloc (.cells #[.slice none 0 0, .slice none 0 0, .slice none 0 0] 47)).trans hq; have G2 := (G1.alloc (.cells #[.slice none 0 0, .slice none 0 0, .slice none 0 0] 47)).stays hq; have hz3 := hq.size; have hN : w.heap.size + 3 ≤ v1.heap.size := (by (first | exact hz1 | omega)); have E := (Blk.new v1 47 #[.slice none 0 0, .slice none 0 0, .slice none 0 0]).stays hq; have pP := o1.block; have pS := o2.block; have o3 := (ho.below hst (Nat.le_refl _)).below hq (Nat.le_refl _); have HD : v2.cell? ⟨w.heap.size, 0, none⟩ = some (.slice a1 P.length k1) ∧ v2.cell? ⟨w.heap.size, 1, none⟩ = some (.slice a2 S.length k2) ∧ v2.cell? ⟨w.heap.size, 2, none⟩ = some (.slice (some ⟨bw3, ow3, none⟩) W.length k3) ∧ v2.cell? ⟨w.heap.size + 1, 0, none⟩ = some (.int .i64 t) ∧ v2.cell? ⟨w.heap.size + 1, 1, none⟩ = some (.int .i64 b) := ⟨hy2.cell 0, hy2.cell 1, hy2.cell 2, hy2.f0, hy2.f1⟩; have HA : ∀ u0 u1 u2 : Value, (v2.alloc (.cells #[u0, u1, u2] 47)).cell? ⟨w.heap.size, 0, none⟩ = some (.slice a1 P.length k1) ∧ (v2.alloc (.cells #[u0, u1, u2] 47)).cell? ⟨w.heap.size, 1, none⟩ = some (.slice a2 S.length k2) ∧ (v2.alloc (.cells #[u0, u1, u2] 47)).cell? ⟨w.heap.size, 2, none⟩ = some (.slice (some ⟨bw3, ow3, none⟩) W.length k3) ∧ (v2.alloc (.cells #[u0, u1, u2] 47)).cell? ⟨w.heap.size + 1, 0, none⟩ = some (.int .i64 t) ∧ (v2.alloc (.cells #[u0, u1, u2] 47)).cell? ⟨w.heap.size + 1, 1, none⟩ = some (.int .i64 b) := fun u0 u1 u2 => have h := hy2.alloc (.cells #[u0, u1, u2] 47); ⟨h.cell 0, h.cell 1, h.cell 2, h.f0, h.f1⟩)
          | (go_at_call 111; have hst : Below v2.heap.size v2 v2 := Below.refl _ _; have hsa : v2.heap.size = v2.heap.size := rfl; (with_reducible refine (l07Fit_v fb _ _ _ _ _ _ _ P S (unlL P S (woTo (proxL P S) (muTo V N t b P.length) P.length)) _ (o1.rd.below hst (Nat.le_refl _)) (o2.rd.below hst (Nat.le_refl _)) (o3.rd.below hst (Nat.le_refl _)) HLL.out HFB.out).mono ?_); rintro e v3 ⟨rfl, hq⟩; have hy3 := hy2.trans hq; have G3 := (G2).stays hq; have hz4 := hq.size; (try have E := Blk.stays E hq); have o4 := (o1.below hst (Nat.le_refl _)).below hq (Nat.le_refl _); have o5 := (o2.below hst (Nat.le_refl _)).below hq (Nat.le_refl _); have o6 := (o3.below hst (Nat.le_refl _)).below hq (Nat.le_refl _); have HD : v3.cell? ⟨w.heap.size, 0, none⟩ = some (.slice a1 P.length k1) ∧ v3.cell? ⟨w.heap.size, 1, none⟩ = some (.slice a2 S.length k2) ∧ v3.cell? ⟨w.heap.size, 2, none⟩ = some (.slice (some ⟨bw3, ow3, none⟩) W.length k3) ∧ v3.cell? ⟨w.heap.size + 1, 0, none⟩ = some (.int .i64 t) ∧ v3.cell? ⟨w.heap.size + 1, 1, none⟩ = some (.int .i64 b) := ⟨hy3.cell 0, hy3.cell 1, hy3.cell 2, hy3.f0, hy3.f1⟩; have HA : ∀ u0 u1 u2 : Value, (v3.alloc (.cells #[u0, u1, u2] 47)).cell? ⟨w.heap.size, 0, none⟩ = some (.slice a1 P.length k1) ∧ (v3.alloc (.cells #[u0, u1, u2] 47)).cell? ⟨w.heap.size, 1, none⟩ = some (.slice a2 S.length k2) ∧ (v3.alloc (.cells #[u0, u1, u2] 47)).cell? ⟨w.heap.size, 2, none⟩ = some (.slice (some ⟨bw3, ow3, none⟩) W.length k3) ∧ (v3.alloc (.cells #[u0, u1, u2] 47)).cell? ⟨w.heap.size + 1, 0, none⟩ = some (.int .i64 t) ∧ (v3.alloc (.cells #[u0, u1, u2] 47)).cell? ⟨w.heap.size + 1, 1, none⟩ = some (.int .i64 b) := fun u0 u1 u2 => have h := hy3.alloc (.cells #[u0, u1, u2] 47); ⟨h.cell 0, h.cell 1, h.cell 2, h.f0, h.f1⟩; (try have HE := fun u0 u1 u2 => have h := (muSTORE E G3 hy3 (by omega) (by omega) u0 u1 u2).2.2.1; And.intro (h.cell 0) (And.intro (h.cell 1) (And.intro (h.cell 2) (And.intro h.f0 h.f1)))); (try have r0 := Blk.free E 0); (try have r1 := Blk.free E 1); (try have r2 := Blk.free E 2); (try have s0 := Blk.cell E 0); (try have s1 := Blk.cell E 1); (try have s2 := Blk.cell E 2))
          | (go_at_call 111; have hst : Below v2.heap.size v2 (v2.alloc (.cells #[.slice none 0 0, .slice none 0 0, .slice none 0 0] 47)) := (Below.refl _ _).alloc (Nat.le_refl _) _; have hsa : (v2.alloc (.cells #[.slice none 0 0, .slice none 0 0, .slice none 0 0] 47)).heap.size = v2.heap.size + 1 := (by simp); (with_reducible refine (l07Fit_v fb _ _ _ _ _ _ _ P S (unlL P S (woTo (proxL P S) (muTo V N t b P.length) P.length)) _ (o1.rd.below hst (Nat.le_refl _)) (o2.rd.below hst (Nat.le_refl _)) (o3.rd.below hst (Nat.le_refl _)) HLL.out HFB.out).mono ?_); rintro e v3 ⟨rfl, hq⟩; have hy3 := (hy2.alloc (.cells #[.slice none 0 0, .slice none 0 0, .slice none 0 0] 47)).trans hq; have G3 := (G2.alloc (.cells #[.slice none 0 0, .slice none 0 0, .slice none 0 0] 47)).stays hq; have hz4 := hq.size; have hN : w.heap.size + 3 ≤ v2.heap.size := (by (first | exact hz1 | omega)); have E := (Blk.new v2 47 #[.slice none 0 0, .slice none 0 0, .slice none 0 0]).stays hq; have o4 := (o1.below hst (Nat.le_refl _)).below hq (Nat.le_refl _); have o5 := (o2.below hst (Nat.le_refl _)).below hq (Nat.le_refl _); have o6 := (o3.below hst (Nat.le_refl _)).below hq (Nat.le_refl _); have HD : v3.cell? ⟨w.heap.size, 0, none⟩ = some (.slice a1 P.length k1) ∧ v3.cell? ⟨w.heap.size, 1, none⟩ = some (.slice a2 S.length k2) ∧ v3.cell? ⟨w.heap.size, 2, none⟩ = some (.slice (some ⟨bw3, ow3, none⟩) W.length k3) ∧ v3.cell? ⟨w.heap.size + 1, 0, none⟩ = some (.int .i64 t) ∧ v3.cell? ⟨w.heap.size + 1, 1, none⟩ = some (.int .i64 b) := ⟨hy3.cell 0, hy3.cell 1, hy3.cell 2, hy3.f0, hy3.f1⟩; have HA : ∀ u0 u1 u2 : Value, (v3.alloc (.cells #[u0, u1, u2] 47)).cell? ⟨w.heap.size, 0, none⟩ = some (.slice a1 P.length k1) ∧ (v3.alloc (.cells #[u0, u1, u2] 47)).cell? ⟨w.heap.size, 1, none⟩ = some (.slice a2 S.length k2) ∧ (v3.alloc (.cells #[u0, u1, u2] 47)).cell? ⟨w.heap.size, 2, none⟩ = some (.slice (some ⟨bw3, ow3, none⟩) W.length k3) ∧ (v3.alloc (.cells #[u0, u1, u2] 47)).cell? ⟨w.heap.size + 1, 0, none⟩ = some (.int .i64 t) ∧ (v3.alloc (.cells #[u0, u1, u2] 47)).cell? ⟨w.heap.size + 1, 1, none⟩ = some (.int .i64 b) := fun u0 u1 u2 => have h := hy3.alloc (.cells #[u0, u1, u2] 47); ⟨h.cell 0, h.cell 1, h.cell 2, h.f0, h.f1⟩; (try have HE := fun u0 u1 u2 => have h := (muSTORE E G3 hy3 (by omega) (by omega) u0 u1 u2).2.2.1; And.intro (h.cell 0) (And.intro (h.cell 1) (And.intro (h.cell 2) (And.intro h.f0 h.f1)))); (try have r0 := Blk.free E 0); (try have r1 := Blk.free E 1); (try have r2 := Blk.free E 2); (try have s0 := Blk.cell E 0); (try have s1 := Blk.cell E 1); (try have s2 := Blk.cell E 2))
          | (go_at_call 113; have hsa : (w3.alloc (.cells #[.slice none 0 0, .slice none 0 0, .slice none 0 0] 47)).drew.heap.size = w3.drew.heap.size + 1 := (by simp); (with_reducible refine (l08Mult_c _ _ _ P S W t b _ (((M3.alloc (.cells #[.slice none 0 0, .slice none 0 0, .slice none 0 0] 47)).trans (show Below (w3.alloc (.cells #[.slice none 0 0, .slice none 0 0, .slice none 0 0] 47)).heap.size (w3.alloc (.cells #[.slice none 0 0, .slice none 0 0, .slice none 0 0] 47)) (w3.alloc (.cells #[.slice none 0 0, .slice none 0 0, .slice none 0 0] 47)).drew from (Below.refl _ _).drew)).rd hp) (((M3.alloc (.cells #[.slice none 0 0, .slice none 0 0, .slice none 0 0] 47)).trans (show Below (w3.alloc (.cells #[.slice none 0 0, .slice none 0 0, .slice none 0 0] 47)).heap.size (w3.alloc (.cells #[.slice none 0 0, .slice none 0 0, .slice none 0 0] 47)) (w3.alloc (.cells #[.slice none 0 0, .slice none 0 0, .slice none 0 0] 47)).drew from (Below.refl _ _).drew)).rd hs) (((M3.alloc (.cells #[.slice none 0 0, .slice none 0 0, .slice none 0 0] 47)).trans (show Below (w3.alloc (.cells #[.slice none 0 0, .slice none 0 0, .slice none 0 0] 47)).heap.size (w3.alloc (.cells #[.slice none 0 0, .slice none 0 0, .slice none 0 0] 47)) (w3.alloc (.cells #[.slice none 0 0, .slice none 0 0, .slice none 0 0] 47)).drew from (Below.refl _ _).drew)).rd hqq) HCL.out hbb1 hm2 hm3 ht10 V N HV.out HD0.out HVD.out HSM.out HUL.out).mono ?_); rintro e v1 ⟨a, k, rfl, ho, hq⟩; have hy1 := ((M3.alloc (.cells #[.slice none 0 0, .slice none 0 0, .slice none 0 0] 47)).trans (show Below (w3.alloc (.cells #[.slice none 0 0, .slice none 0 0, .slice none 0 0] 47)).heap.size (w3.alloc (.cells #[.slice none 0 0, .slice none 0 0, .slice none 0 0] 47)) (w3.alloc (.cells #[.slice none 0 0, .slice none 0 0, .slice none 0 0] 47)).drew from (Below.refl _ _).drew)).trans hq; have G1 := ((D3.alloc (.cells #[.slice none 0 0, .slice none 0 0, .slice none 0 0] 47)).stays (show Below (w3.alloc (.cells #[.slice none 0 0, .slice none 0 0, .slice none 0 0] 47)).heap.size (w3.alloc (.cells #[.slice none 0 0, .slice none 0 0, .slice none 0 0] 47)) (w3.alloc (.cells #[.slice none 0 0, .slice none 0 0, .slice none 0 0] 47)).drew from (Below.refl _ _).drew)).stays hq; have hz2 := hq.size; have hN : w.heap.size + 3 ≤ w3.drew.heap.size := (by (first | exact hz1 | omega)); have E := ((Blk.new w3 47 #[.slice none 0 0, .slice none 0 0, .slice none 0 0]).stays (show Below (w3.alloc (.cells #[.slice none 0 0, .slice none 0 0, .slice none 0 0] 47)).heap.size (w3.alloc (.cells #[.slice none 0 0, .slice none 0 0, .slice none 0 0] 47)) (w3.alloc (.cells #[.slice none 0 0, .slice none 0 0, .slice none 0 0] 47)).drew from (Below.refl _ _).drew)).stays hq; have pL := ho.block; have HD : v1.cell? ⟨w.heap.size, 0, none⟩ = some (.slice a1 P.length k1) ∧ v1.cell? ⟨w.heap.size, 1, none⟩ = some (.slice a2 S.length k2) ∧ v1.cell? ⟨w.heap.size, 2, none⟩ = some (.slice (some ⟨bw3, ow3, none⟩) W.length k3) ∧ v1.cell? ⟨w.heap.size + 1, 0, none⟩ = some (.int .i64 t) ∧ v1.cell? ⟨w.heap.size + 1, 1, none⟩ = some (.int .i64 b) := ⟨hy1.cell 0, hy1.cell 1, hy1.cell 2, hy1.f0, hy1.f1⟩; have HA : ∀ u0 u1 u2 : Value, (v1.alloc (.cells #[u0, u1, u2] 47)).cell? ⟨w.heap.size, 0, none⟩ = some (.slice a1 P.length k1) ∧ (v1.alloc (.cells #[u0, u1, u2] 47)).cell? ⟨w.heap.size, 1, none⟩ = some (.slice a2 S.length k2) ∧ (v1.alloc (.cells #[u0, u1, u2] 47)).cell? ⟨w.heap.size, 2, none⟩ = some (.slice (some ⟨bw3, ow3, none⟩) W.length k3) ∧ (v1.alloc (.cells #[u0, u1, u2] 47)).cell? ⟨w.heap.size + 1, 0, none⟩ = some (.int .i64 t) ∧ (v1.alloc (.cells #[u0, u1, u2] 47)).cell? ⟨w.heap.size + 1, 1, none⟩ = some (.int .i64 b) := fun u0 u1 u2 => have h := hy1.alloc (.cells #[u0, u1, u2] 47); ⟨h.cell 0, h.cell 1, h.cell 2, h.f0, h.f1⟩))
      · have hdr : w3.drew.heap.size = w3.heap.size := rfl
        have E5 := Blk.new v3 47 #[.slice (oA fb b1) (oN fb P.length) (oN fb j1), .slice (oA fb b2) (oN fb S.length) (oN fb j2), .slice (oA fb a) (oN fb P.length) (oN fb k)]
        have D5 := G3.alloc (.cells #[.slice (oA fb b1) (oN fb P.length) (oN fb j1), .slice (oA fb b2) (oN fb S.length) (oN fb j2), .slice (oA fb a) (oN fb P.length) (oN fb k)] 47)
        have hx5 := hy3.alloc (.cells #[.slice (oA fb b1) (oN fb P.length) (oN fb j1), .slice (oA fb b2) (oN fb S.length) (oN fb j2), .slice (oA fb a) (oN fb P.length) (oN fb k)] 47)
        have hk5 : Keeps (fun k => k = v3.heap.size) v3 (v3.alloc (.cells #[.slice (oA fb b1) (oN fb P.length) (oN fb j1), .slice (oA fb b2) (oN fb S.length) (oN fb j2), .slice (oA fb a) (oN fb P.length) (oN fb k)] 47)) := Keeps.of_below ((Below.refl _ _).alloc (Nat.le_refl _) _)
        have o7 := o4.below (show Below v3.heap.size v3 (v3.alloc (.cells #[.slice (oA fb b1) (oN fb P.length) (oN fb j1), .slice (oA fb b2) (oN fb S.length) (oN fb j2), .slice (oA fb a) (oN fb P.length) (oN fb k)] 47)) from (Below.refl _ _).alloc (Nat.le_refl _) _) (Nat.le_refl _)
        have o8 := o5.below (show Below v3.heap.size v3 (v3.alloc (.cells #[.slice (oA fb b1) (oN fb P.length) (oN fb j1), .slice (oA fb b2) (oN fb S.length) (oN fb j2), .slice (oA fb a) (oN fb P.length) (oN fb k)] 47)) from (Below.refl _ _).alloc (Nat.le_refl _) _) (Nat.le_refl _)
        have o9 := o6.below (show Below v3.heap.size v3 (v3.alloc (.cells #[.slice (oA fb b1) (oN fb P.length) (oN fb j1), .slice (oA fb b2) (oN fb S.length) (oN fb j2), .slice (oA fb a) (oN fb P.length) (oN fb k)] 47)) from (Below.refl _ _).alloc (Nat.le_refl _) _) (Nat.le_refl _)
        generalize hw5 : (v3.alloc (.cells #[.slice (oA fb b1) (oN fb P.length) (oN fb j1), .slice (oA fb b2) (oN fb S.length) (oN fb j2), .slice (oA fb a) (oN fb P.length) (oN fb k)] 47)) = w5 at E5 D5 hx5 hk5 o7 o8 o9 ⊢
        clear hw5
        have ho5 : Own3 2 w5 w3.heap.size (.slice (oA fb b1) (oN fb P.length) (oN fb j1)) (.slice (oA fb b2) (oN fb S.length) (oN fb j2)) (.slice (oA fb a) (oN fb P.length) (oN fb k)) (okL fb P) (okL fb S) (okL fb (unlL P S (woTo (proxL P S) (muTo V N t b P.length) P.length))) := own3_fit fb ⟨o7.base_le (by omega), o8.base_le (by omega), o9.base_le (by omega), ap, fun k h1 h2 => by have := pP k h1; have := pL k h2; omega, fun k h1 h2 => by have := pS k h1; have := pL k h2; omega⟩
        have g0 : w5.cell? ⟨v3.heap.size, 0, none⟩ = some (.slice (oA fb b1) (oN fb P.length) (oN fb j1)) := by have := E5.cell 0; simpa using this
        have g1 : w5.cell? ⟨v3.heap.size, 1, none⟩ = some (.slice (oA fb b2) (oN fb S.length) (oN fb j2)) := by have := E5.cell 1; simpa using this
        have g2 : w5.cell? ⟨v3.heap.size, 2, none⟩ = some (.slice (oA fb a) (oN fb P.length) (oN fb k)) := by have := E5.cell 2; simpa using this
        have f0 := D5.free 0
        have f1 := D5.free 1
        have f2 := D5.free 2
        have e0 := D5.cell 0
        have e1 := D5.cell 1
        have e2 := D5.cell 2
        go_wp2
        have F := ((D5.set 0 (.slice (oA fb b1) (oN fb P.length) (oN fb j1))).set 1 (.slice (oA fb b2) (oN fb S.length) (oN fb j2))).set 2 (.slice (oA fb a) (oN fb P.length) (oN fb k))
        have q0 := F.cell 0
        have q1 := F.cell 1
        have q2 := F.cell 2
        have hK : Keeps (fun k => k = w.heap.size + 2) w5 (((w5.setCell ⟨w.heap.size + 2, 0, none⟩ (.slice (oA fb b1) (oN fb P.length) (oN fb j1))).setCell ⟨w.heap.size + 2, 1, none⟩ (.slice (oA fb b2) (oN fb S.length) (oN fb j2))).setCell ⟨w.heap.size + 2, 2, none⟩ (.slice (oA fb a) (oN fb P.length) (oN fb k))) := ((((Keeps.refl (fun k => k = w.heap.size + 2) w5).setCell (p := ⟨w.heap.size + 2, 0, none⟩) rfl _).setCell (p := ⟨w.heap.size + 2, 1, none⟩) rfl _).setCell (p := ⟨w.heap.size + 2, 2, none⟩) rfl _)
        refine bodyPost_ret (v := .tuple #[.agg #[.slice (oA fb b1) (oN fb P.length) (oN fb j1), .slice (oA fb b2) (oN fb S.length) (oN fb j2), .slice (oA fb a) (oN fb P.length) (oN fb k)], .int .i64 (okC fb 3)]) (by simp [results, Try.results67, go_sem, q0, q1, q2]) rfl (retCC_fit (HLL.out) ?_ ?_)
        · exact (ho5.keeps hK (fun k hk e => by have := (ho5.block k hk).1; omega)).base_le (by omega)
        · exact hx5.below.trans (hK.below (by have := hx5.size; omega) (fun k hk => by omega))
      · have hdr : w3.drew.heap.size = w3.heap.size := rfl
        obtain ⟨E5, D5, hx5, hk5⟩ := muSTORE E G3 hy3 (by omega) (by omega) (.slice (oA fb b1) (oN fb P.length) (oN fb j1)) (.slice (oA fb b2) (oN fb S.length) (oN fb j2)) (.slice (oA fb a) (oN fb P.length) (oN fb k))
        have o7 := o4.keeps hk5 (fun k hk e => by have := pP k hk; omega)
        have o8 := o5.keeps hk5 (fun k hk e => by have := pS k hk; omega)
        have o9 := o6.keeps hk5 (fun k hk e => by have := pL k hk; omega)
        generalize hw5 : (((v3.setCell ⟨v2.heap.size, 0, none⟩ (.slice (oA fb b1) (oN fb P.length) (oN fb j1))).setCell ⟨v2.heap.size, 1, none⟩ (.slice (oA fb b2) (oN fb S.length) (oN fb j2))).setCell ⟨v2.heap.size, 2, none⟩ (.slice (oA fb a) (oN fb P.length) (oN fb k))) = w5 at E5 D5 hx5 hk5 o7 o8 o9 ⊢
        clear hw5
        have ho5 : Own3 2 w5 w3.heap.size (.slice (oA fb b1) (oN fb P.length) (oN fb j1)) (.slice (oA fb b2) (oN fb S.length) (oN fb j2)) (.slice (oA fb a) (oN fb P.length) (oN fb k)) (okL fb P) (okL fb S) (okL fb (unlL P S (woTo (proxL P S) (muTo V N t b P.length) P.length))) := own3_fit fb ⟨o7.base_le (by omega), o8.base_le (by omega), o9.base_le (by omega), ap, fun k h1 h2 => by have := pP k h1; have := pL k h2; omega, fun k h1 h2 => by have := pS k h1; have := pL k h2; omega⟩
        have g0 : w5.cell? ⟨v2.heap.size, 0, none⟩ = some (.slice (oA fb b1) (oN fb P.length) (oN fb j1)) := by have := E5.cell 0; simpa using this
        have g1 : w5.cell? ⟨v2.heap.size, 1, none⟩ = some (.slice (oA fb b2) (oN fb S.length) (oN fb j2)) := by have := E5.cell 1; simpa using this
        have g2 : w5.cell? ⟨v2.heap.size, 2, none⟩ = some (.slice (oA fb a) (oN fb P.length) (oN fb k)) := by have := E5.cell 2; simpa using this
        have f0 := D5.free 0
        have f1 := D5.free 1
        have f2 := D5.free 2
        have e0 := D5.cell 0
        have e1 := D5.cell 1
        have e2 := D5.cell 2
        go_wp2
        have F := ((D5.set 0 (.slice (oA fb b1) (oN fb P.length) (oN fb j1))).set 1 (.slice (oA fb b2) (oN fb S.length) (oN fb j2))).set 2 (.slice (oA fb a) (oN fb P.length) (oN fb k))
        have q0 := F.cell 0
        have q1 := F.cell 1
        have q2 := F.cell 2
        have hK : Keeps (fun k => k = w.heap.size + 2) w5 (((w5.setCell ⟨w.heap.size + 2, 0, none⟩ (.slice (oA fb b1) (oN fb P.length) (oN fb j1))).setCell ⟨w.heap.size + 2, 1, none⟩ (.slice (oA fb b2) (oN fb S.length) (oN fb j2))).setCell ⟨w.heap.size + 2, 2, none⟩ (.slice (oA fb a) (oN fb P.length) (oN fb k))) := ((((Keeps.refl (fun k => k = w.heap.size + 2) w5).setCell (p := ⟨w.heap.size + 2, 0, none⟩) rfl _).setCell (p := ⟨w.heap.size + 2, 1, none⟩) rfl _).setCell (p := ⟨w.heap.size + 2, 2, none⟩) rfl _)
        refine bodyPost_ret (v := .tuple #[.agg #[.slice (oA fb b1) (oN fb P.length) (oN fb j1), .slice (oA fb b2) (oN fb S.length) (oN fb j2), .slice (oA fb a) (oN fb P.length) (oN fb k)], .int .i64 (okC fb 3)]) (by simp [results, Try.results67, go_sem, q0, q1, q2]) rfl (retCC_fit (HLL.out) ?_ ?_)
        · exact (ho5.keeps hK (fun k hk e => by have := (ho5.block k hk).1; omega)).base_le (by omega)
        · exact hx5.below.trans (hK.below (by have := hx5.size; omega) (fun k hk => by omega))
      · have hdr : w3.drew.heap.size = w3.heap.size := rfl
        obtain ⟨E5, D5, hx5, hk5⟩ := muSTORE E G3 hy3 (by omega) (by omega) (.slice (oA fb b1) (oN fb P.length) (oN fb j1)) (.slice (oA fb b2) (oN fb S.length) (oN fb j2)) (.slice (oA fb a) (oN fb P.length) (oN fb k))
        have o7 := o4.keeps hk5 (fun k hk e => by have := pP k hk; omega)
        have o8 := o5.keeps hk5 (fun k hk e => by have := pS k hk; omega)
        have o9 := o6.keeps hk5 (fun k hk e => by have := pL k hk; omega)
        generalize hw5 : (((v3.setCell ⟨v1.heap.size, 0, none⟩ (.slice (oA fb b1) (oN fb P.length) (oN fb j1))).setCell ⟨v1.heap.size, 1, none⟩ (.slice (oA fb b2) (oN fb S.length) (oN fb j2))).setCell ⟨v1.heap.size, 2, none⟩ (.slice (oA fb a) (oN fb P.length) (oN fb k))) = w5 at E5 D5 hx5 hk5 o7 o8 o9 ⊢
        clear hw5
        have ho5 : Own3 2 w5 w3.heap.size (.slice (oA fb b1) (oN fb P.length) (oN fb j1)) (.slice (oA fb b2) (oN fb S.length) (oN fb j2)) (.slice (oA fb a) (oN fb P.length) (oN fb k)) (okL fb P) (okL fb S) (okL fb (unlL P S (woTo (proxL P S) (muTo V N t b P.length) P.length))) := own3_fit fb ⟨o7.base_le (by omega), o8.base_le (by omega), o9.base_le (by omega), ap, fun k h1 h2 => by have := pP k h1; have := pL k h2; omega, fun k h1 h2 => by have := pS k h1; have := pL k h2; omega⟩
        have g0 : w5.cell? ⟨v1.heap.size, 0, none⟩ = some (.slice (oA fb b1) (oN fb P.length) (oN fb j1)) := by have := E5.cell 0; simpa using this
        have g1 : w5.cell? ⟨v1.heap.size, 1, none⟩ = some (.slice (oA fb b2) (oN fb S.length) (oN fb j2)) := by have := E5.cell 1; simpa using this
        have g2 : w5.cell? ⟨v1.heap.size, 2, none⟩ = some (.slice (oA fb a) (oN fb P.length) (oN fb k)) := by have := E5.cell 2; simpa using this
        have f0 := D5.free 0
        have f1 := D5.free 1
        have f2 := D5.free 2
        have e0 := D5.cell 0
        have e1 := D5.cell 1
        have e2 := D5.cell 2
        go_wp2
        have F := ((D5.set 0 (.slice (oA fb b1) (oN fb P.length) (oN fb j1))).set 1 (.slice (oA fb b2) (oN fb S.length) (oN fb j2))).set 2 (.slice (oA fb a) (oN fb P.length) (oN fb k))
        have q0 := F.cell 0
        have q1 := F.cell 1
        have q2 := F.cell 2
        have hK : Keeps (fun k => k = w.heap.size + 2) w5 (((w5.setCell ⟨w.heap.size + 2, 0, none⟩ (.slice (oA fb b1) (oN fb P.length) (oN fb j1))).setCell ⟨w.heap.size + 2, 1, none⟩ (.slice (oA fb b2) (oN fb S.length) (oN fb j2))).setCell ⟨w.heap.size + 2, 2, none⟩ (.slice (oA fb a) (oN fb P.length) (oN fb k))) := ((((Keeps.refl (fun k => k = w.heap.size + 2) w5).setCell (p := ⟨w.heap.size + 2, 0, none⟩) rfl _).setCell (p := ⟨w.heap.size + 2, 1, none⟩) rfl _).setCell (p := ⟨w.heap.size + 2, 2, none⟩) rfl _)
        refine bodyPost_ret (v := .tuple #[.agg #[.slice (oA fb b1) (oN fb P.length) (oN fb j1), .slice (oA fb b2) (oN fb S.length) (oN fb j2), .slice (oA fb a) (oN fb P.length) (oN fb k)], .int .i64 (okC fb 3)]) (by simp [results, Try.results67, go_sem, q0, q1, q2]) rfl (retCC_fit (HLL.out) ?_ ?_)
        · exact (ho5.keeps hK (fun k hk e => by have := (ho5.block k hk).1; omega)).base_le (by omega)
        · exact hx5.below.trans (hK.below (by have := hx5.size; omega) (fun k hk => by omega))
      · have hdr : w3.drew.heap.size = w3.heap.size := rfl
        obtain ⟨E5, D5, hx5, hk5⟩ := muSTORE E G3 hy3 (by omega) (by omega) (.slice (oA fb b1) (oN fb P.length) (oN fb j1)) (.slice (oA fb b2) (oN fb S.length) (oN fb j2)) (.slice (oA fb a) (oN fb P.length) (oN fb k))
        have o7 := o4.keeps hk5 (fun k hk e => by have := pP k hk; omega)
        have o8 := o5.keeps hk5 (fun k hk e => by have := pS k hk; omega)
        have o9 := o6.keeps hk5 (fun k hk e => by have := pL k hk; omega)
        generalize hw5 : (((v3.setCell ⟨w3.heap.size, 0, none⟩ (.slice (oA fb b1) (oN fb P.length) (oN fb j1))).setCell ⟨w3.heap.size, 1, none⟩ (.slice (oA fb b2) (oN fb S.length) (oN fb j2))).setCell ⟨w3.heap.size, 2, none⟩ (.slice (oA fb a) (oN fb P.length) (oN fb k))) = w5 at E5 D5 hx5 hk5 o7 o8 o9 ⊢
        clear hw5
        have ho5 : Own3 2 w5 w3.heap.size (.slice (oA fb b1) (oN fb P.length) (oN fb j1)) (.slice (oA fb b2) (oN fb S.length) (oN fb j2)) (.slice (oA fb a) (oN fb P.length) (oN fb k)) (okL fb P) (okL fb S) (okL fb (unlL P S (woTo (proxL P S) (muTo V N t b P.length) P.length))) := own3_fit fb ⟨o7.base_le (by omega), o8.base_le (by omega), o9.base_le (by omega), ap, fun k h1 h2 => by have := pP k h1; have := pL k h2; omega, fun k h1 h2 => by have := pS k h1; have := pL k h2; omega⟩
        have g0 : w5.cell? ⟨w3.heap.size, 0, none⟩ = some (.slice (oA fb b1) (oN fb P.length) (oN fb j1)) := by have := E5.cell 0; simpa using this
        have g1 : w5.cell? ⟨w3.heap.size, 1, none⟩ = some (.slice (oA fb b2) (oN fb S.length) (oN fb j2)) := by have := E5.cell 1; simpa using this
        have g2 : w5.cell? ⟨w3.heap.size, 2, none⟩ = some (.slice (oA fb a) (oN fb P.length) (oN fb k)) := by have := E5.cell 2; simpa using this
        have f0 := D5.free 0
        have f1 := D5.free 1
        have f2 := D5.free 2
        have e0 := D5.cell 0
        have e1 := D5.cell 1
        have e2 := D5.cell 2
        go_wp2
        have F := ((D5.set 0 (.slice (oA fb b1) (oN fb P.length) (oN fb j1))).set 1 (.slice (oA fb b2) (oN fb S.length) (oN fb j2))).set 2 (.slice (oA fb a) (oN fb P.length) (oN fb k))
        have q0 := F.cell 0
        have q1 := F.cell 1
        have q2 := F.cell 2
        have hK : Keeps (fun k => k = w.heap.size + 2) w5 (((w5.setCell ⟨w.heap.size + 2, 0, none⟩ (.slice (oA fb b1) (oN fb P.length) (oN fb j1))).setCell ⟨w.heap.size + 2, 1, none⟩ (.slice (oA fb b2) (oN fb S.length) (oN fb j2))).setCell ⟨w.heap.size + 2, 2, none⟩ (.slice (oA fb a) (oN fb P.length) (oN fb k))) := ((((Keeps.refl (fun k => k = w.heap.size + 2) w5).setCell (p := ⟨w.heap.size + 2, 0, none⟩) rfl _).setCell (p := ⟨w.heap.size + 2, 1, none⟩) rfl _).setCell (p := ⟨w.heap.size + 2, 2, none⟩) rfl _)
        refine bodyPost_ret (v := .tuple #[.agg #[.slice (oA fb b1) (oN fb P.length) (oN fb j1), .slice (oA fb b2) (oN fb S.length) (oN fb j2), .slice (oA fb a) (oN fb P.length) (oN fb k)], .int .i64 (okC fb 3)]) (by simp [results, Try.results67, go_sem, q0, q1, q2]) rfl (retCC_fit (HLL.out) ?_ ?_)
        · exact (ho5.keeps hK (fun k hk e => by have := (ho5.block k hk).1; omega)).base_le (by omega)
        · exact hx5.below.trans (hK.below (by have := hx5.size; omega) (fun k hk => by omega))

end Go.Proofs.Ythpnmkghjnipoaa

/- laws.toFraction. -/
namespace Go.Proofs.Ythpnmkghjnipoaa
open Go.RowKit

set_option maxHeartbeats 1000000 in
/-- A fraction is carried over. -/
theorem toFraction_c (x y : Int) (w : World) : Calls Try.prog 69 #[.agg #[.int .i64 x, .int .i64 y]] w fun e w' => e = .returned (.agg #[.int .i64 x, .int .i64 y]) ∧ Below w.heap.size w w' := by
  go_enter Try.func69, Try.ntmps69
  go_wp2
  refine bodyPost_ret (v := .agg #[.int .i64 x, .int .i64 y]) (by simp [results, Try.results69, go_sem]) rfl ⟨rfl, ?_⟩
  exact (((Below.refl _ _).alloc (Nat.le_refl _) _).alloc (by simp) _).alloc (by simp; omega) _
end Go.Proofs.Ythpnmkghjnipoaa

/- Contracts: MultiplierCluster, the program and the reference, joined. -/
namespace Go.Proofs.Ythpnmkghjnipoaa
open Go.RowKit

theorem mu_rng {W : List Int} {t b : Int} (h : muR W t b = true) : (∀ i, i < W.length → gI W i ≤ 1000) ∧ b ≤ 1000 ∧ 0 ≤ t ∧ t ≤ 10 * b := by
  unfold muR at h
  simpa only [Bool.and_eq_true, decide_eq_true_eq] using h
theorem mu_frac {t b : Int} (hf : fracB t b = true) : 1 ≤ b := by
  unfold fracB at hf
  simp only [Bool.and_eq_true] at hf
  have h1 := inB_iff.1 hf.2.1
  omega
theorem mu_join {P S W : List Int} {t b : Int} (hc : CluOk P S W) (hf : fracB t b = true) (hr : muR W t b = true) (hn : nonNeg (exTo (proxL P S) W P.length) = true) :
    (∀ i, i < P.length → 0 ≤ gI (ordTo (fun j => gI W j) P S P.length) i ∧ gI (ordTo (fun j => gI W j) P S P.length) i ≤ 10000000000000 ∧ 0 ≤ gI (discTo P S P.length) i ∧ gI (discTo P S P.length) i ≤ 10000000000000) ∧
    (∀ i, i < (muTo (ordTo (fun j => gI W j) P S P.length) (discTo P S P.length) t b P.length).length → -1000000000000 ≤ gI (muTo (ordTo (fun j => gI W j) P S P.length) (discTo P S P.length) t b P.length) i ∧ gI (muTo (ordTo (fun j => gI W j) P S P.length) (discTo P S P.length) t b P.length) i ≤ 1000000000000) ∧
    UnlOk P S fun i => gI (woTo (proxL P S) (muTo (ordTo (fun j => gI W j) P S P.length) (discTo P S P.length) t b P.length) P.length) i := by
  obtain ⟨h1, h2, h3, h4⟩ := mu_rng hr
  have hm : ∀ i, i < P.length → gI W i ≤ 1000 := fun i hi => h1 i (by have := hc.1.2.2.2; omega)
  have hb := mu_frac hf
  refine ⟨fun i hi => ?_, mu_small hc hn hm hb ⟨h3, h4⟩, mu_unlOk hc hn hm hb ⟨h3, h4⟩⟩
  obtain ⟨g1, g2⟩ := mu_num hc hn hm
  have := g1 i hi
  have := g2 i hi
  have := m0_bd hc hi
  omega
theorem muL_len {P S W : List Int} {t b : Int} (hc : CluOk P S W) (hf : fracB t b = true) (hr : muR W t b = true) (hn : nonNeg (exTo (proxL P S) W P.length) = true) : (muL P S W t b).length = P.length :=
  (unlL_ok hc (mu_join hc hf hr hn).2.2 (by rw [woTo_len]; exact muTo_len _ _ _ _ _)).1.1
theorem muB_len {P S W : List Int} {t b : Int} (h : muB P S W t b = true) : (muL P S W t b).length = P.length := by
  unfold muB muG at h
  simp only [Bool.and_eq_true] at h
  exact muL_len (cluB_iff.1 h.1.1.1) h.1.1.2 h.1.2.1 h.1.2.2
theorem implMu_c (p s q : Value) (P S W : List Int) (t b : Int) (w : World) (hp : Rd w p P) (hs : Rd w s S) (hq : Rd w q W) :
    Calls Try.prog 70 #[.agg #[p, s, q], .agg #[.int .i64 t, .int .i64 b]] w (RetCC w (okL (muB P S W t b) P) (okL (muB P S W t b) S) (okL (muB P S W t b) (muL P S W t b)) (muC P S W t b)) := by
  cases h1 : cluB P S W
  · obtain ⟨e1, e2⟩ := mu_1 (show (cluB P S W && fracB t b) = false by simp [h1])
    rw [e1, e2]; exact implMu_1a p s q P S W t b w hp hs hq h1
  · cases h2 : fracB t b
    · obtain ⟨e1, e2⟩ := mu_1 (show (cluB P S W && fracB t b) = false by simp [h2])
      rw [e1, e2]; exact implMu_1b p s q P S W t b w hp hs hq h1 h2
    · have h12 : (cluB P S W && fracB t b) = true := by simp [h1, h2]
      cases h3 : muR W t b
      · obtain ⟨e1, e2⟩ := mu_2 h12 h3
        rw [e1, e2]; exact implMu_2 p s q P S W t b w hp hs hq h1 h2 h3
      · cases h4 : nonNeg (exTo (proxL P S) W P.length)
        · obtain ⟨e1, e2⟩ := mu_3 h12 h3 h4
          rw [e1, e2]; exact implMu_3 p s q P S W t b w hp hs hq h1 h2 h3 h4
        · obtain ⟨e1, e2⟩ := mu_4 h12 h3 h4
          obtain ⟨j1, j2, j3⟩ := mu_join (cluB_iff.1 h1) h2 h3 h4
          rw [e1, e2]; exact implMu_4 p s q P S W t b w hp hs hq h1 h2 h3 h4 _ _ rfl rfl j1 j2 j3
theorem specMu_c (p s q : Value) (P S W : List Int) (t b : Int) (w : World) (hp : Rd w p P) (hs : Rd w s S) (hq : Rd w q W) :
    Calls Try.prog 67 #[.agg #[p, s, q], .agg #[.int .i64 t, .int .i64 b]] w (RetCC w (okL (muB P S W t b) P) (okL (muB P S W t b) S) (okL (muB P S W t b) (muL P S W t b)) (muC P S W t b)) := by
  cases h1 : cluB P S W
  · obtain ⟨e1, e2⟩ := mu_1 (show (cluB P S W && fracB t b) = false by simp [h1])
    rw [e1, e2]; exact specMu_1a p s q P S W t b w hp hs hq h1
  · cases h2 : fracB t b
    · obtain ⟨e1, e2⟩ := mu_1 (show (cluB P S W && fracB t b) = false by simp [h2])
      rw [e1, e2]; exact specMu_1b p s q P S W t b w hp hs hq h1 h2
    · have h12 : (cluB P S W && fracB t b) = true := by simp [h1, h2]
      cases h3 : muR W t b
      · obtain ⟨e1, e2⟩ := mu_2 h12 h3
        rw [e1, e2]; exact specMu_2 p s q P S W t b w hp hs hq h1 h2 h3
      · cases h4 : nonNeg (exTo (proxL P S) W P.length)
        · obtain ⟨e1, e2⟩ := mu_3 h12 h3 h4
          rw [e1, e2]; exact specMu_3 p s q P S W t b w hp hs hq h1 h2 h3 h4
        · obtain ⟨e1, e2⟩ := mu_4 h12 h3 h4
          have hcl := cluB_iff.1 h1
          obtain ⟨j1, j2, j3⟩ := mu_join hcl h2 h3 h4
          rw [e1, e2]; exact specMu_4 p s q P S W t b w hp hs hq _ h1 h2 h3 h4 _ _ rfl rfl j1 j2 j3 (cluB_with hcl (muL_len hcl h2 h3 h4))
theorem implMuW_c (p s q : Value) (P S W : List Int) (t b : Int) (w : World) (hp : Rd w p P) (hs : Rd w s S) (hq : Rd w q W) (_ : (Lit.int .i64 t).wf = true) (_ : (Lit.int .i64 b).wf = true) :
    Calls Try.prog 70 #[.agg #[p, s, q], .agg #[.int .i64 t, .int .i64 b]] w (RetCC w (okL (muB P S W t b) P) (okL (muB P S W t b) S) (okL (muB P S W t b) (muL P S W t b)) (muC P S W t b)) := implMu_c p s q P S W t b w hp hs hq
theorem specMuW_c (p s q : Value) (P S W : List Int) (t b : Int) (w : World) (hp : Rd w p P) (hs : Rd w s S) (hq : Rd w q W) (_ : (Lit.int .i64 t).wf = true) (_ : (Lit.int .i64 b).wf = true) :
    Calls Try.prog 67 #[.agg #[p, s, q], .agg #[.int .i64 t, .int .i64 b]] w (RetCC w (okL (muB P S W t b) P) (okL (muB P S W t b) S) (okL (muB P S W t b) (muL P S W t b)) (muC P S W t b)) := specMu_c p s q P S W t b w hp hs hq
end Go.Proofs.Ythpnmkghjnipoaa

/- Contracts of the laws' own helpers on clusters: marks that are still there. -/
namespace Go.Proofs.Ythpnmkghjnipoaa
open Go.RowKit

theorem heldCluster_c (p s q : Value) (n m l : Nat) (k : Int) (w : World) (hp : Rd w p (iotaI k n)) (hs : Rd w s (iotaI (k + n) m)) (hq : Rd w q (iotaI (k + n + m) l)) (h0 : 0 ≤ k) (h1 : k ≤ 1000000) (hn : n ≤ 1048576 ∧ m ≤ 1048576 ∧ l ≤ 1048576) :
    Calls Try.prog 57 #[.agg #[p, s, q], .int .i64 k] w fun e w' => e = .returned (.int .i64 (k + n + m + l)) ∧ Below w.heap.size w w' := by
  have hl1 := hp.len0
  have hl2 := hs.len0
  have hl3 := hq.len0
  rw [iotaI_length] at hl1 hl2 hl3
  obtain ⟨a1, k1, rfl⟩ := hl1
  obtain ⟨a2, k2, rfl⟩ := hl2
  obtain ⟨a3, k3, rfl⟩ := hl3
  have hx := Boxed.start w 47 #[.slice a1 n k1, .slice a2 m k2, .slice a3 l k3]
  have c0 := hx.cell 0
  have c1 := hx.cell 1
  have c2 := hx.cell 2
  have n1 : ¬ (k + (n : Int)) < 0 := by omega
  have n2 : ¬ (k + (n : Int) + (m : Int)) < 0 := by omega
  have n3 : ¬ (k + (n : Int) + (m : Int) + (l : Int)) < 0 := by omega
  go_enter Try.func57, Try.ntmps57
  go_wp2_with fail
  refine (held_c _ n _ _ (hx.rd hp) h0 (by omega) (by omega)).mono ?_
  rintro e w1 ⟨rfl, rfl⟩
  go_wp2_with fail
  refine (held_c _ m _ _ (hx.rd hs) (by omega) (by omega) (by omega)).mono ?_
  rintro e w1 ⟨rfl, rfl⟩
  go_wp2_with fail
  refine (held_c _ l _ _ (hx.rd hq) (by omega) (by omega) (by omega)).mono ?_
  rintro e w1 ⟨rfl, rfl⟩
  go_wp2
  go_ret
  exact ⟨rfl, hx.below⟩
end Go.Proofs.Ythpnmkghjnipoaa
