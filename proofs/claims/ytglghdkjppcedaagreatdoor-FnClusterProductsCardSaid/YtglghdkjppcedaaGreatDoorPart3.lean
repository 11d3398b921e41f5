/- The inverse of the proximity matrix: rows by recursion from the front, and lists led back from the last point. No program in sight. -/
import Derived.Test.YtglghdkjppcedaaGreatDoorPart2
import Derived.Test.YtglghdkjppcedaaGreatDoorPart0
import Derived.Test.YtglghdkjppcedaaGreatDoorPart1
namespace Go.Proofs.YtglghdkjppcedaaGreatDoor

/-- x added to the number at i. -/
def inc (L : List Int) (i x : Int) : List Int := L.set i.toNat (gI L i.toNat + x)
@[simp] theorem inc_len (L : List Int) (i x : Int) : (inc L i x).length = L.length := by simp [inc]
theorem gI_inc {L : List Int} {i x : Int} {j : Nat} : gI (inc L i x) j = if i.toNat = j ∧ i.toNat < L.length then gI L j + x else gI L j := by
  unfold inc
  rw [gI_set]
  by_cases h : i.toNat = j ∧ i.toNat < L.length
  · rw [if_pos h, if_pos h, h.1]
  · rw [if_neg h, if_neg h]
theorem inc_comm (L : List Int) (i j x : Int) : inc (inc L i x) j x = inc (inc L j x) i x := by
  apply gI_ext (by simp)
  intro k _
  rw [gI_inc, gI_inc, gI_inc, gI_inc]
  simp only [inc_len]
  split <;> split <;> rfl

/-- x added to the numbers at the first m places of a row. -/
def incTo (row : List Int) (x : Int) (L : List Int) : Nat → List Int
  | 0 => L
  | m + 1 => inc (incTo row x L m) (gI row m) x
theorem incTo_succ (row : List Int) (x : Int) (L : List Int) (m : Nat) : incTo row x L (m + 1) = inc (incTo row x L m) (gI row m) x := rfl
theorem incTo_len (row : List Int) (x : Int) (L : List Int) (m : Nat) : (incTo row x L m).length = L.length := by
  induction m with
  | zero => rfl
  | succ m ih => rw [incTo_succ, inc_len, ih]
theorem inc_bd {L : List Int} {i x A X : Int} (hx : -X ≤ x ∧ x ≤ X) (hX : 0 ≤ X) (hL : ∀ k, -A ≤ gI L k ∧ gI L k ≤ A) (k : Nat) : -(A + X) ≤ gI (inc L i x) k ∧ gI (inc L i x) k ≤ A + X := by
  rw [gI_inc]
  have := hL k
  split <;> omega
theorem incTo_other {row : List Int} {x : Int} {L : List Int} {m : Nat} {j : Nat} (h : ∀ i, i < m → (gI row i).toNat ≠ j) : gI (incTo row x L m) j = gI L j := by
  induction m with
  | zero => rfl
  | succ m ih =>
    rw [incTo_succ, gI_inc, if_neg (fun e => h m (by omega) e.1)]
    exact ih (fun i hi => h i (by omega))
theorem incTo_bd {row : List Int} {x : Int} {L : List Int} {A X : Int} (hx : -X ≤ x ∧ x ≤ X) (hX : 0 ≤ X) (hL : ∀ k, -A ≤ gI L k ∧ gI L k ≤ A) {m : Nat} (hm : m ≤ 2) (k : Nat) : -(A + 2 * X) ≤ gI (incTo row x L m) k ∧ gI (incTo row x L m) k ≤ A + 2 * X := by
  match m, hm with
  | 0, _ => have := hL k; simp only [incTo]; omega
  | 1, _ => have := inc_bd (i := gI row 0) hx hX hL k; simp only [incTo]; omega
  | 2, _ => have := inc_bd (i := gI row 1) hx hX (inc_bd (i := gI row 0) hx hX hL) k; simp only [incTo]; omega

/-- The point j handed on to those to which it is proximate. -/
def bStep (P S L : List Int) (j : Nat) : List Int := if 0 ≤ gI S j then inc (inc L (gI P j) (gI L j)) (gI S j) (gI L j) else inc L (gI P j) (gI L j)
@[simp] theorem bStep_len (P S L : List Int) (j : Nat) : (bStep P S L j).length = L.length := by unfold bStep; split <;> simp
/-- The points t, .., 1 handed on, in this order. -/
def backTo (P S : List Int) : Nat → List Int → List Int
  | 0, L => L
  | t + 1, L => backTo P S t (bStep P S L (t + 1))
theorem backTo_succ (P S : List Int) (t : Nat) (L : List Int) : backTo P S (t + 1) L = backTo P S t (bStep P S L (t + 1)) := rfl
theorem backTo_len (P S : List Int) (t : Nat) (L : List Int) : (backTo P S t L).length = L.length := by
  induction t generalizing L with
  | zero => rfl
  | succ t ih => rw [backTo_succ, ih, bStep_len]
theorem bStep_row {P S L : List Int} {j : Nat} (h0 : 0 < j) : bStep P S L j = incTo (proxOf P S j) (gI L j) L (proxOf P S j).length := by
  have e : proxOf P S j = secL S j ++ [gI P j] := by unfold proxOf; rw [if_neg (by omega)]
  rw [e]
  unfold bStep
  by_cases hs : 0 ≤ gI S j
  · rw [secL_yes hs, if_pos hs]
    show _ = inc (inc L (gI S j) (gI L j)) (gI P j) (gI L j)
    exact inc_comm _ _ _ _
  · rw [secL_no hs, if_neg hs]; rfl
theorem bStep_bd {P S L : List Int} {j : Nat} {A : Int} (hL : ∀ k, -A ≤ gI L k ∧ gI L k ≤ A) (k : Nat) : -(3 * A) ≤ gI (bStep P S L j) k ∧ gI (bStep P S L j) k ≤ 3 * A := by
  have hA : 0 ≤ A := by have := hL 0; omega
  unfold bStep
  split
  · have := inc_bd (i := gI S j) (hL j) hA (inc_bd (i := gI P j) (hL j) hA hL) k; omega
  · have := inc_bd (i := gI P j) (hL j) hA hL k; omega

/-- The number k of the row i of the inverse. -/
def mI (P S : List Int) (i k : Nat) : Int := gI (ordTo (fun j => if j = k then 1 else 0) P S P.length) i
theorem mI_at {P S : List Int} {i : Nat} (k : Nat) (h : i < P.length) :
    mI P S i k = (if i = k then 1 else 0) + (if i = 0 then 0 else gI (ordTo (fun j => if j = k then 1 else 0) P S i) (gI P i).toNat) + (if 0 ≤ gI S i then gI (ordTo (fun j => if j = k then 1 else 0) P S i) (gI S i).toNat else 0) :=
  ordTo_at _ P S h
theorem ordTo_same (own : Nat → Int) (P S : List Int) {i k n : Nat} (h : i < k) (h' : i < n) : gI (ordTo own P S k) i = gI (ordTo own P S n) i := by
  rw [ordTo_old own P S h, ordTo_old own P S h']
theorem mI_step {P S W : List Int} (hc : CluOk P S W) {i : Nat} (k : Nat) (h : i < P.length) (h0 : 0 < i) :
    mI P S i k = (if i = k then 1 else 0) + mI P S (gI P i).toNat k + (if 0 ≤ gI S i then mI P S (gI S i).toNat k else 0) := by
  obtain ⟨h1, h2, h3⟩ := clu_place hc h h0
  rw [mI_at k h, if_neg (show ¬ i = 0 by omega), ordTo_same _ P S (show (gI P i).toNat < i by omega) (show (gI P i).toNat < P.length by omega)]
  congr 1
  split
  · rename_i hs
    rw [ordTo_same _ P S (show (gI S i).toNat < i by omega) (show (gI S i).toNat < P.length by omega)]; rfl
  · rfl
theorem mI_zero {P S W : List Int} (hc : CluOk P S W) (k : Nat) : mI P S 0 k = if 0 = k then 1 else 0 := by
  have := (clu_zero hc).2
  rw [mI_at k hc.1.1, if_pos rfl, if_neg (show ¬ 0 ≤ gI S 0 by omega)]
  omega
theorem mI_gt {P S W : List Int} (hc : CluOk P S W) (k : Nat) (i : Nat) : i < k → i < P.length → mI P S i k = 0 := by
  induction i using Nat.strongRecOn with
  | _ i ih =>
    intro hk hi
    by_cases h0 : i = 0
    · subst h0; rw [mI_zero hc, if_neg (by omega)]
    · obtain ⟨h1, h2, h3⟩ := clu_place hc hi (by omega)
      rw [mI_step hc k hi (by omega), if_neg (by omega), ih _ (by omega) (by omega) (by omega)]
      split
      · rw [ih _ (by omega) (by omega) (by omega)]; rfl
      · rfl
theorem mI_self {P S W : List Int} (hc : CluOk P S W) {i : Nat} (hi : i < P.length) : mI P S i i = 1 := by
  by_cases h0 : i = 0
  · subst h0; rw [mI_zero hc, if_pos rfl]
  · obtain ⟨h1, h2, h3⟩ := clu_place hc hi (by omega)
    rw [mI_step hc i hi (by omega), if_pos rfl, mI_gt hc i _ (by omega) (by omega)]
    split
    · rw [mI_gt hc i _ (by omega) (by omega)]; rfl
    · rfl
theorem mI_bd {P S W : List Int} (hc : CluOk P S W) {i : Nat} (k : Nat) (hi : i < P.length) : -1677721500000 ≤ mI P S i k ∧ mI P S i k ≤ 1677721500000 :=
  ord_small hc (fun j _ => by split <;> omega) hi hi

theorem sumTo_inc {L : List Int} {i x : Int} {f : Nat → Int} {n : Nat} (h0 : i.toNat < n) (h1 : i.toNat < L.length) : sumTo (fun k => gI (inc L i x) k * f k) n = sumTo (fun k => gI L k * f k) n + x * f i.toNat := by
  induction n with
  | zero => omega
  | succ n ih =>
    rw [sumTo_succ, sumTo_succ]
    by_cases e : i.toNat = n
    · have : sumTo (fun k => gI (inc L i x) k * f k) n = sumTo (fun k => gI L k * f k) n := sumTo_congr (fun k hk => by rw [gI_inc, if_neg (by omega)])
      rw [this, gI_inc, if_pos ⟨e, h1⟩, e, Int.add_mul]; omega
    · rw [ih (by omega), gI_inc, if_neg (by omega)]; omega

/-- What the points 0, .., t will hand to the point k. -/
def phiS (P S L : List Int) (t k : Nat) : Int := sumTo (fun x => gI L x * mI P S x k) (t + 1) + if t < k then gI L k else 0
theorem phi_step {P S W L : List Int} (hc : CluOk P S W) (hl : L.length = P.length) {t : Nat} (ht : t + 1 < P.length) (k : Nat) : phiS P S (bStep P S L (t + 1)) t k = phiS P S L (t + 1) k := by
  obtain ⟨h1, h2, h3⟩ := clu_place hc ht (by omega)
  unfold phiS bStep
  have e0 : sumTo (fun x => gI L x * mI P S x k) (t + 1 + 1) = sumTo (fun x => gI L x * mI P S x k) (t + 1) + gI L (t + 1) * mI P S (t + 1) k := sumTo_succ _ _
  rw [e0, mI_step hc k ht (by omega), Int.mul_add, Int.mul_add]
  have e1 : gI L (t + 1) * (if t + 1 = k then 1 else 0) + (if t + 1 < k then gI L k else 0) = if t < k then gI L k else 0 := by
    by_cases a : t + 1 = k
    · subst a; simp
    · rw [if_neg a]
      by_cases b : t < k
      · rw [if_pos b, if_pos (by omega)]; omega
      · rw [if_neg b, if_neg (by omega)]; omega
  by_cases hs : 0 ≤ gI S (t + 1)
  · rw [if_pos hs, if_pos hs, sumTo_inc (by omega) (by simp; omega), sumTo_inc (by omega) (by omega)]
    have e2 : (if t < k then gI (inc (inc L (gI P (t + 1)) (gI L (t + 1))) (gI S (t + 1)) (gI L (t + 1))) k else 0) = if t < k then gI L k else 0 := by
      split
      · rw [gI_inc, if_neg (by omega), gI_inc, if_neg (by omega)]
      · rfl
    rw [e2]
    omega
  · rw [if_neg hs, if_neg hs, sumTo_inc (by omega) (by omega)]
    have e2 : (if t < k then gI (inc L (gI P (t + 1)) (gI L (t + 1))) k else 0) = if t < k then gI L k else 0 := by
      split
      · rw [gI_inc, if_neg (by omega)]
      · rfl
    rw [e2, Int.mul_zero]
    omega
theorem back_phi {P S W : List Int} (hc : CluOk P S W) (t : Nat) : ∀ L : List Int, L.length = P.length → t < P.length → ∀ k, gI (backTo P S t L) k = phiS P S L t k := by
  induction t with
  | zero =>
    intro L hl ht k
    show gI L k = phiS P S L 0 k
    unfold phiS
    show _ = sumTo (fun x => gI L x * mI P S x k) 0 + gI L 0 * mI P S 0 k + _
    rw [mI_zero hc, sumTo_zero]
    by_cases e : 0 = k
    · subst e; simp
    · rw [if_neg e, if_pos (by omega)]; omega
  | succ t ih =>
    intro L hl ht k
    rw [backTo_succ, ih _ (by simp; omega) (by omega), phi_step hc hl ht]

/-- The row i of the inverse. -/
def mRow (P S : List Int) (i : Nat) : List Int := (List.range P.length).map (mI P S i)
@[simp] theorem mRow_len (P S : List Int) (i : Nat) : (mRow P S i).length = P.length := by simp [mRow]
theorem gI_mRow {P S : List Int} {i k : Nat} (h : k < P.length) : gI (mRow P S i) k = mI P S i k := by rw [gI_lt (by simpa using h)]; simp [mRow]
/-- The list that has 1 at i alone. -/
def unitL (n i : Nat) : List Int := (List.replicate n 0).set i 1
@[simp] theorem unitL_len (n i : Nat) : (unitL n i).length = n := by simp [unitL]
theorem gI_unit {n i k : Nat} (hi : i < n) : gI (unitL n i) k = if k = i then 1 else 0 := by
  unfold unitL
  rw [gI_set]
  by_cases e : i = k
  · rw [if_pos ⟨e, by simpa using hi⟩, if_pos e.symm]
  · rw [if_neg (fun h => e h.1), if_neg (fun h => e h.symm)]
    by_cases h : k < n
    · exact gI_rep h
    · simp [gI, List.getD, List.getElem?_eq_none (show (List.replicate n (0 : Int)).length ≤ k by simp; omega)]
theorem sumTo_unit {i : Nat} {f : Nat → Int} (n : Nat) : sumTo (fun x => (if x = i then 1 else 0) * f x) n = if i < n then f i else 0 := by
  induction n with
  | zero => simp [sumTo]
  | succ n ih =>
    rw [sumTo_succ, ih]
    by_cases e : n = i
    · subst e; rw [if_pos rfl, if_neg (by omega), if_pos (by omega)]; omega
    · rw [if_neg e]
      by_cases h : i < n
      · rw [if_pos h, if_pos (by omega)]; omega
      · rw [if_neg h, if_neg (by omega)]; omega
theorem back_unit {P S W : List Int} (hc : CluOk P S W) {i : Nat} (hi : i < P.length) : backTo P S i (unitL P.length i) = mRow P S i := by
  apply gI_ext (by rw [backTo_len]; simp)
  intro k hk
  have hk' : k < P.length := by rw [backTo_len] at hk; simpa using hk
  rw [back_phi hc i _ (by simp) hi, gI_mRow hk']
  unfold phiS
  rw [sumTo_congr (g := fun x => (if x = i then 1 else 0) * mI P S x k) (fun x _ => by rw [gI_unit hi]), sumTo_unit, if_pos (by omega), gI_unit hi]
  split
  · rw [if_neg (by omega)]; omega
  · omega

/-- The weights with the excesses E. -/
def linTo (P S E : List Int) (m : Nat) : List Int := (List.range P.length).map fun k => sumTo (fun x => gI E x * mI P S x k) m
@[simp] theorem linTo_len (P S E : List Int) (m : Nat) : (linTo P S E m).length = P.length := by simp [linTo]
theorem gI_linTo {P S E : List Int} {m k : Nat} (h : k < P.length) : gI (linTo P S E m) k = sumTo (fun x => gI E x * mI P S x k) m := by rw [gI_lt (by simpa using h)]; simp [linTo]
theorem back_lin {P S W E : List Int} (hc : CluOk P S W) (hl : E.length = P.length) : backTo P S (P.length - 1) E = linTo P S E P.length := by
  have h0 := hc.1.1
  apply gI_ext (by rw [backTo_len]; simp [hl])
  intro k hk
  have hk' : k < P.length := by rw [backTo_len] at hk; omega
  rw [back_phi hc _ _ hl (by omega), gI_linTo hk']
  unfold phiS
  rw [show P.length - 1 + 1 = P.length by omega, if_neg (by omega)]
  omega
end Go.Proofs.YtglghdkjppcedaaGreatDoor

/- Contracts: impl.isPlace, impl.within, spec.l07Near. -/
namespace Go.Proofs.YtglghdkjppcedaaGreatDoor
open Go.RowKit

set_option maxHeartbeats 400000 in
theorem isPlace_c (p s q : Value) (P S : List Int) (i : Nat) (w : World) (hp : Rd w p P) (hs : Rd w s S) (hl : S.length = P.length) (hi : i < P.length) (h24 : P.length ≤ 24) :
    Calls Tryz.prog 64 #[.agg #[p, s, q], .int .i64 i] w fun e w' => e = .returned (.bool (placeB P S i)) ∧ Below w.heap.size w w' := by
  obtain ⟨bp, op, kp, rfl, hpc1, hpc2, hpb, hpc⟩ := hp.cells (by omega)
  obtain ⟨bs, os, ks, rfl, hsc1, hsc2, hsb, hsc⟩ := hs.cells (by omega)
  have hP := hpc i hi
  have hS := hsc i (by omega)
  have hPP : 0 ≤ gI P i → gI P i < (i : Int) → w.cell? ⟨bp, op + (gI P i).toNat, none⟩ = some (.int .i64 (gI P (gI P i).toNat)) := fun _ _ => hpc _ (by omega)
  have hSP : 0 ≤ gI P i → gI P i < (i : Int) → w.cell? ⟨bs, os + (gI P i).toNat, none⟩ = some (.int .i64 (gI S (gI P i).toNat)) := fun _ _ => hsc _ (by omega)
  have HY := Lib.hid (@placeB_yes P S i)
  have HN := Lib.hid (@placeB_no P S i)
  have hl1 : (i : Int) < S.length := by omega
  have hl2 : (i : Int) < P.length := by omega
  clear hpc hsc hl
  unfold placeOk at HY HN
  generalize gI P (gI P i).toNat = pp at hPP HY HN
  generalize gI S (gI P i).toNat = sp at hSP HY HN
  generalize gI P i = p at hP hPP hSP HY HN
  generalize gI S i = s at hS HY HN
  by_cases h0 : ((i : Int) == 0) = true
  · go_enter Tryz.func64, Tryz.ntmps64
    go_wp2
    go_quiet (fail)
    go_wp2
    all_goals (go_ret; refine ⟨ret_bool ?_, below_drewN ((Below.refl _ _).alloc (Nat.le_refl _) _) _⟩)
    · by_cases hs1 : s = -1
      · rw [HY.out (.inl ⟨by simpa using h0, by assumption, hs1⟩)]; simp [hs1]
      · rw [HN.out (by simp at h0; omega)]; simp [hs1]
    · rw [HN.out (by simp at h0; omega)]
  · have h0' : ((i : Int) == 0) = false := by simpa using h0
    have h0'' : 0 < i := by simp at h0'; omega
    clear h0
    by_cases hin : inB p 0 ((i : Int) - 1) = true
    · have hin' := inB_iff.1 hin
      have hPP' := hPP hin'.1 (by omega)
      have hSP' := hSP hin'.1 (by omega)
      have hp0 : 0 ≤ p := hin'.1
      have hp1 : p < P.length := by omega
      have hp2 : p < S.length := by omega
      have hp3 : p < (i : Int) := by omega
      clear hPP hSP hin'
      go_enter Tryz.func64, Tryz.ntmps64
      go_wp2
      go_quiet (fail)
      go_wp2_with (go_at_call 65; refine (inRange_c _ _ _ _).mono ?_; rintro e w' ⟨rfl, rfl⟩)
      all_goals (go_ret; refine ⟨ret_bool ?_, below_drewN ((Below.refl _ _).alloc (Nat.le_refl _) _) _⟩)
      · rw [HY.out (by omega)]
      · rw [HY.out (by omega)]
      · by_cases hsp : s = sp
        · rw [HY.out (by omega)]; simp [hsp]
        · rw [HN.out (by omega)]; simp [hsp]; omega
      · rw [HN.out (by omega)]; simp; omega
    · have hin' : inB p 0 ((i : Int) - 1) = false := by simpa using hin
      clear hin hPP hSP
      go_enter Tryz.func64, Tryz.ntmps64
      go_wp2
      go_quiet (fail)
      go_wp2_with (go_at_call 65; refine (inRange_c _ _ _ _).mono ?_; rintro e w' ⟨rfl, rfl⟩)
      go_ret
      refine ⟨ret_bool ?_, below_drewN ((Below.refl _ _).alloc (Nat.le_refl _) _) _⟩
      have := inB_not.1 hin'
      rw [HN.out (by omega)]
/-- Do all numbers of xs lie from a to b? -/
def allIn (xs : List Int) (a b : Int) : Bool := decide (∀ i, i < xs.length → a ≤ gI xs i ∧ gI xs i ≤ b)
theorem allIn_iff {xs : List Int} {a b : Int} : allIn xs a b = true ↔ ∀ i, i < xs.length → a ≤ gI xs i ∧ gI xs i ≤ b := by simp only [allIn, decide_eq_true_eq]
theorem allIn_no {xs : List Int} {a b : Int} {k : Nat} (hk : k < xs.length) (h : inB (gI xs k) a b = false) : allIn xs a b = false := by
  simp only [allIn, decide_eq_false_iff_not]; intro h'; exact inB_not.1 h (h' k hk)

set_option maxHeartbeats 400000 in
theorem within_c (v : Value) (xs : List Int) (a b : Int) (w : World) (h : Rd w v xs) :
    Calls Tryz.prog 33 #[v, .int .i64 a, .int .i64 b] w fun e w' => e = .returned (.bool (allIn xs a b)) ∧ w = w' := by
  obtain ⟨ad, cap, rfl, hcap1, hcap2, hrd⟩ := h
  go_enter Tryz.func33, Tryz.ntmps33
  go_wp2
  go_loop [8, 11] (fun _ i => ∃ k : Nat, k ≤ xs.length ∧ i = .int .i64 k ∧ ∀ j, j < k → a ≤ gI xs j ∧ gI xs j ≤ b) (fun _ i => xs.length - (intOf i).toNat)
  case atStart => exact ⟨0, Nat.zero_le _, rfl, fun j hj => absurd hj (by omega)⟩
  case round =>
    obtain ⟨k, hk, rfl, hg⟩ := hrel
    by_cases hlt : k < xs.length
    · obtain ⟨ba, off, rfl, hbl, hcs⟩ := hrd (ne_of_lt_len hlt)
      have hc := hcs k hlt
      have HB := Lib.hid (@allIn_no xs a b k hlt)
      have HG : Hid (inB (gI xs k) a b = true → ∀ j, j < k + 1 → a ≤ gI xs j ∧ gI xs j ≤ b) := Lib.hid (by
        intro hb j hj
        by_cases e : j = k
        · rw [e]; exact inB_iff.1 hb
        · exact hg j (by omega))
      clear hg hcs hrd
      generalize gI xs k = c at hc HG HB
      by_cases hin : inB c a b = true
      · have HG' := Lib.hid (HG.out hin)
        clear HG HB
        go_wp2_with (go_at_call 65; refine (inRange_c _ _ _ _).mono ?_; rintro e w' ⟨rfl, rfl⟩)
        go_round
        case rel => exact ⟨k + 1, by omega, by go_num, HG'.out⟩
        case measure => simp [intOf]; omega
      · have hin' : inB c a b = false := by simpa using hin
        have HB' := Lib.hid (HB.out hin')
        clear HG HB hin
        go_wp2_with (go_at_call 65; refine (inRange_c _ _ _ _).mono ?_; rintro e w' ⟨rfl, rfl⟩)
        go_ret
        exact ⟨ret_bool HB'.out.symm, rfl⟩
    · go_wp2
      have hk' : k = xs.length := by omega
      subst hk'
      go_ret
      exact ⟨ret_bool (allIn_iff.2 hg).symm, rfl⟩
end Go.Proofs.YtglghdkjppcedaaGreatDoor

/- Branches: divisors, and when a list of terms is a branch. No program in sight. -/
namespace Go.Proofs.YtglghdkjppcedaaGreatDoor

theorem gcdI_nn (a b : Int) : 0 ≤ gcdI a b := by unfold gcdI; omega
theorem gcdI_pos {a b : Int} (h : 0 < a) : 0 < gcdI a b := by
  unfold gcdI
  have := Nat.gcd_pos_of_pos_left b.natAbs (by omega : 0 < a.natAbs)
  omega
theorem gcdI_le_left {a b : Int} (h : 0 < a) : gcdI a b ≤ a := by
  unfold gcdI
  have := Nat.gcd_le_left b.natAbs (by omega : 0 < a.natAbs)
  omega
theorem gcdI_dvd_left (a b : Int) : gcdI a b ∣ a := by
  unfold gcdI
  exact Int.dvd_natAbs.1 (Int.natCast_dvd_natCast.2 (Nat.gcd_dvd_left _ _))
theorem gcdI_dvd_right (a b : Int) : gcdI a b ∣ b := by
  unfold gcdI
  exact Int.dvd_natAbs.1 (Int.natCast_dvd_natCast.2 (Nat.gcd_dvd_right _ _))
/-- The divisor after the term k. -/
def eI (T : List Int) : Nat → Int
  | 0 => gI T 0
  | k + 1 => gcdI (eI T k) (gI T (k + 1))
theorem eI_succ (T : List Int) (k : Nat) : eI T (k + 1) = gcdI (eI T k) (gI T (k + 1)) := rfl
/-- The divisors after the first k terms. -/
def eTo (T : List Int) (k : Nat) : List Int := (List.range k).map (eI T)
@[simp] theorem eTo_len (T : List Int) (k : Nat) : (eTo T k).length = k := by simp [eTo]
theorem eTo_succ (T : List Int) (k : Nat) : eTo T (k + 1) = eTo T k ++ [eI T k] := by simp [eTo, List.range_succ]
theorem gI_eTo {T : List Int} {k i : Nat} (h : i < k) : gI (eTo T k) i = eI T i := by rw [gI_lt (by simpa using h)]; simp [eTo]

theorem eI_pos {T : List Int} (h : 0 < gI T 0) (k : Nat) : 0 < eI T k := by
  induction k with
  | zero => exact h
  | succ k ih => rw [eI_succ]; exact gcdI_pos ih
theorem eI_step_le {T : List Int} (h : 0 < gI T 0) (k : Nat) : eI T (k + 1) ≤ eI T k := by rw [eI_succ]; exact gcdI_le_left (eI_pos h k)
theorem eI_le {T : List Int} (h : 0 < gI T 0) {i k : Nat} (hk : i ≤ k) : eI T k ≤ eI T i := by
  induction k with
  | zero => have : i = 0 := by omega
            subst this; exact Int.le_refl _
  | succ k ih =>
    by_cases e : i = k + 1
    · subst e; exact Int.le_refl _
    · exact Int.le_trans (eI_step_le h k) (ih (by omega))
theorem eI_le0 {T : List Int} (h : 0 < gI T 0) (k : Nat) : eI T k ≤ gI T 0 := eI_le h (Nat.zero_le k)
theorem eI_dvd_step (T : List Int) (k : Nat) : eI T (k + 1) ∣ eI T k := gcdI_dvd_left _ _
theorem eI_dvd_term (T : List Int) (k : Nat) : eI T k ∣ gI T k := by
  cases k with
  | zero => exact Int.dvd_refl _
  | succ k => exact gcdI_dvd_right _ _

/-- The terms rise. -/
def ascB (T : List Int) : Bool := decide (∀ i, i < T.length - 1 → gI T i < gI T (i + 1))
/-- The divisors fall to 1. -/
def fallB (T : List Int) : Bool := decide ((∀ i, i < T.length - 1 → eI T (i + 1) < eI T i) ∧ eI T (T.length - 1) = 1)
/-- T are the terms of a branch. -/
def braB (T : List Int) : Bool := decide (0 < T.length) && (inB (gI T 0) 1 64 && (ascB T && (allIn T 1 2000 && fallB T)))
structure BraOk (T : List Int) : Prop where
  len : 0 < T.length
  first : 1 ≤ gI T 0 ∧ gI T 0 ≤ 64
  asc : ∀ i, i + 1 < T.length → gI T i < gI T (i + 1)
  num : ∀ i, i < T.length → 1 ≤ gI T i ∧ gI T i ≤ 2000
  fall : ∀ i, i + 1 < T.length → eI T (i + 1) < eI T i
  last : eI T (T.length - 1) = 1
theorem ascB_iff {T : List Int} : ascB T = true ↔ ∀ i, i + 1 < T.length → gI T i < gI T (i + 1) := by
  simp only [ascB, decide_eq_true_eq]
  exact ⟨fun h i hi => h i (by omega), fun h i hi => h i (by omega)⟩
theorem fallB_iff {T : List Int} : fallB T = true ↔ (∀ i, i + 1 < T.length → eI T (i + 1) < eI T i) ∧ eI T (T.length - 1) = 1 := by
  simp only [fallB, decide_eq_true_eq]
  exact ⟨fun h => ⟨fun i hi => h.1 i (by omega), h.2⟩, fun h => ⟨fun i hi => h.1 i (by omega), h.2⟩⟩
theorem braB_iff {T : List Int} : braB T = true ↔ BraOk T := by
  unfold braB
  simp only [Bool.and_eq_true, decide_eq_true_eq, inB_iff, ascB_iff, allIn_iff, fallB_iff]
  exact ⟨fun ⟨h1, h2, h3, h4, h5, h6⟩ => ⟨h1, h2, h3, h4, h5, h6⟩, fun h => ⟨h.len, h.first, h.asc, h.num, h.fall, h.last⟩⟩

theorem eI_half {T : List Int} (h : BraOk T) {k : Nat} (hk : k + 1 < T.length) : 2 * eI T (k + 1) ≤ eI T k := by
  have h0 : 0 < gI T 0 := by have := h.first; omega
  obtain ⟨c, hc⟩ := eI_dvd_step T k
  have h1 := h.fall k hk
  have h2 := eI_pos h0 (k + 1)
  have h3 := eI_pos h0 k
  have : 1 < c := by
    apply Int.lt_of_not_ge
    intro hle
    have := Int.mul_le_mul_of_nonneg_left hle (Int.le_of_lt h2)
    omega
  have := Int.mul_le_mul_of_nonneg_left (show 2 ≤ c by omega) (Int.le_of_lt h2)
  omega
theorem eI_pow {T : List Int} (h : BraOk T) (k : Nat) (hk : k < T.length) : 2 ^ k * eI T k ≤ 64 := by
  induction k with
  | zero => have := h.first; simp [eI]; omega
  | succ k ih =>
    have h1 := eI_half h hk
    have h2 := ih (by omega)
    have h3 : (2 : Int) ^ k * (2 * eI T (k + 1)) ≤ 2 ^ k * eI T k := Int.mul_le_mul_of_nonneg_left h1 (Int.le_of_lt (Int.pow_pos (by omega)))
    rw [Int.pow_succ, Int.mul_assoc]
    omega
/-- A branch has at most 7 terms. -/
theorem bra_len {T : List Int} (h : BraOk T) : T.length ≤ 7 := by
  apply Nat.le_of_not_lt
  intro hlt
  have h1 := eI_pow h 7 hlt
  have h2 := eI_pos (by have := h.first; omega : 0 < gI T 0) 7
  have : (2 : Int) ^ 7 = 128 := by decide
  rw [this] at h1
  omega
/-- The divisors but the last are at least 2, and all at most 64. -/
theorem eI_bd {T : List Int} (h : BraOk T) (k : Nat) : 1 ≤ eI T k ∧ eI T k ≤ 64 := by
  have h0 : 0 < gI T 0 := by have := h.first; omega
  have h1 := eI_pos h0 k
  have h2 := eI_le0 h0 k
  have := h.first
  omega
end Go.Proofs.YtglghdkjppcedaaGreatDoor

/- Contracts: impl.IsCluster and spec.l07Is: both tell whether three lists are a cluster. -/
namespace Go.Proofs.YtglghdkjppcedaaGreatDoor
open Go.RowKit

theorem freshOk_step {P S : List Int} {i j : Nat} (h : ∀ x, x < j → ¬ (0 ≤ gI S i ∧ gI S i = gI S x ∧ gI P i = gI P x)) (hj : ¬ (0 ≤ gI S i ∧ gI S i = gI S j ∧ gI P i = gI P j)) :
    ∀ x, x < j + 1 → ¬ (0 ≤ gI S i ∧ gI S i = gI S x ∧ gI P i = gI P x) := by
  intro x hx
  by_cases e : x = j
  · rw [e]; exact hj
  · exact h x (by omega)

theorem goodClu_step {P S : List Int} {i : Nat} (h : ∀ x, x < i → placeOk P S x ∧ freshOk P S x) (h1 : placeB P S i = true) (h2 : freshOk P S i) : ∀ x, x < i + 1 → placeOk P S x ∧ freshOk P S x := by
  intro x hx
  by_cases e : x = i
  · rw [e]; exact ⟨by simpa [placeB] using h1, h2⟩
  · exact h x (by omega)

set_option maxHeartbeats 1000000 in
theorem implIsCluster_c (p s q : Value) (P S W : List Int) (w : World) (hp : Rd w p P) (hs : Rd w s S) (hq : Rd w q W) :
    Calls Tryz.prog 32 #[.agg #[p, s, q]] w fun e w' => e = .returned (.bool (cluB P S W)) ∧ Below w.heap.size w w' := by
  by_cases hsh : 0 < P.length ∧ P.length ≤ 24 ∧ S.length = P.length ∧ W.length = P.length
  · obtain ⟨hk0, hk24, hS, hW⟩ := hsh
    have e1 : ((S.length : Int) != (P.length : Int)) = false := by simp; omega
    have e2 : ((W.length : Int) != (P.length : Int)) = false := by simp; omega
    have HS := Lib.hid hS
    have HW := Lib.hid hW
    have hS1 : P.length ≤ S.length := by omega
    have hS2 : S.length ≤ P.length := by omega
    clear hS hW
    have HP := Lib.hid hp
    have HSr := Lib.hid hs
    have HQ := Lib.hid hq
    obtain ⟨bp, op, kp, rfl, hpc1, hpc2, hpb, hpc⟩ := hp.cells hk0
    obtain ⟨bs, os, ks, rfl, hsc1, hsc2, hsb, hsc⟩ := hs.cells (by omega)
    obtain ⟨aq, kq, rfl⟩ := hq.len0
    clear hp hs hq
    by_cases hwi : allIn W (-100000) 100000 = true
    · go_enter Tryz.func32, Tryz.ntmps32
      go_wp2_with fail
      refine (within_c _ W _ _ _ (HQ.out.below (Boxed.start _ _ _).below (Nat.le_refl _))).mono ?_
      rintro e w' ⟨rfl, rfl⟩
      go_wp2_with fail
      go_loopw [4, 5, 34, 42] (fun _ _ i _ wr => ∃ k : Nat, k ≤ P.length ∧ i = .int .i64 k ∧ (∀ x, x < k → placeOk P S x ∧ freshOk P S x) ∧ Boxed w wr 26 #[.slice (some ⟨bp, op, none⟩) P.length kp, .slice (some ⟨bs, os, none⟩) S.length ks, .slice aq W.length kq]) (fun _ _ i _ _ => P.length - (intOf i).toNat)
      case atStart => exact ⟨0, Nat.zero_le _, rfl, fun x hx => absurd hx (by omega), Boxed.start _ _ _⟩
      case round =>
        obtain ⟨k, hk, rfl, hg, hbx⟩ := hrel
        obtain ⟨wo, rfl⟩ : ∃ wo : World, wo = wr := ⟨_, rfl⟩
        by_cases hlt : k < P.length
        · have HG := Lib.hid hg
          clear hg
          have c0 := hbx.cell 0
          have c1 := hbx.cell 1
          have c2 := hbx.cell 2
          by_cases hpl : placeB P S k = true
          · go_wp2_with fail
            refine (isPlace_c _ _ _ P S k _ (hbx.rd HP.out) (hbx.rd HSr.out) HS.out hlt hk24).mono ?_
            rintro e w2 ⟨rfl, hb2⟩
            have hbx2 := hbx.trans hb2
            clear hbx hb2 c0 c1 c2
            go_wp2_with fail
            go_loopw [5, 42] (fun _ j w3 => ∃ m : Nat, m ≤ k ∧ j = .int .i64 m ∧ (∀ x, x < m → ¬ (0 ≤ gI S k ∧ gI S k = gI S x ∧ gI P k = gI P x)) ∧ Boxed w w3 26 #[.slice (some ⟨bp, op, none⟩) P.length kp, .slice (some ⟨bs, os, none⟩) S.length ks, .slice aq W.length kq]) (fun _ j _ => k - (intOf j).toNat)
            case atStart => exact ⟨0, Nat.zero_le _, rfl, fun x hx => absurd hx (by omega), hbx2⟩
            case round =>
              obtain ⟨m, hm, rfl, hf, hbx⟩ := hrel
              clear hbx2
              obtain ⟨w4, rfl⟩ : ∃ wo : World, wo = wr := ⟨_, rfl⟩
              by_cases hmk : m < k
              · have c0 := hbx.cell 0
                have c1 := hbx.cell 1
                have dPk : w4.cell? ⟨bp, op + k, none⟩ = some (.int .i64 (gI P k)) := by rw [hbx.below.cell (p := ⟨bp, op + k, none⟩) hpb]; exact hpc k hlt
                have dPm : w4.cell? ⟨bp, op + m, none⟩ = some (.int .i64 (gI P m)) := by rw [hbx.below.cell (p := ⟨bp, op + m, none⟩) hpb]; exact hpc m (by omega)
                have dSk : w4.cell? ⟨bs, os + k, none⟩ = some (.int .i64 (gI S k)) := by rw [hbx.below.cell (p := ⟨bs, os + k, none⟩) hsb]; exact hsc k (by omega)
                have dSm : w4.cell? ⟨bs, os + m, none⟩ = some (.int .i64 (gI S m)) := by rw [hbx.below.cell (p := ⟨bs, os + m, none⟩) hsb]; exact hsc m (by omega)
                have HF := Lib.hid (@freshOk_step P S k m hf)
                have HBad : Hid ((0 ≤ gI S k ∧ gI S k = gI S m ∧ gI P k = gI P m) → cluB P S W = false) := Lib.hid (fun hbad => cluB_no (fun h => (h.2.2 k hlt).2 m hmk hbad))
                have HX := Lib.hid hbx
                have HPC := Lib.hid hpc
                have HSC := Lib.hid hsc
                clear hf hbx hpc hsc
                generalize gI S k = sk at dSk HF HBad
                generalize gI S m = sm at dSm HF HBad
                generalize gI P k = pk at dPk HF HBad
                generalize gI P m = pm at dPm HF HBad
                by_cases h1 : 0 ≤ sk
                · have h1' : decide (0 ≤ sk) = true := by simpa using h1
                  by_cases h2 : (sk == sm) = true
                  · by_cases h3 : (pk == pm) = true
                    · have hbad := Lib.hid (HBad.out ⟨h1, by simpa using h2, by simpa using h3⟩)
                      clear HF HBad
                      go_wp2
                      go_quiet (fail)
                      go_wp2
                      go_ret
                      exact ⟨ret_bool hbad.out.symm, (HX.out.drewN _).below⟩
                    · have h3' : (pk == pm) = false := by simpa using h3
                      have HF' := Lib.hid (HF.out (by intro h; simp [h.2.2] at h3'))
                      clear HF HBad h3
                      go_wp2
                      go_quiet (fail)
                      go_wp2
                      go_roundw
                      case rel => exact ⟨m + 1, by omega, by go_num, HF'.out, HX.out.drewN _⟩
                      case measure => simp [intOf]; omega
                  · have h2' : (sk == sm) = false := by simpa using h2
                    have HF' := Lib.hid (HF.out (by intro h; simp [h.2.1] at h2'))
                    clear HF HBad h2
                    go_wp2
                    go_quiet (fail)
                    go_wp2
                    go_roundw
                    case rel => exact ⟨m + 1, by omega, by go_num, HF'.out, HX.out.drewN _⟩
                    case measure => simp [intOf]; omega
                · have h1' : decide (0 ≤ sk) = false := by simpa using h1
                  have HF' := Lib.hid (HF.out (by intro h; exact h1 h.1))
                  clear HF HBad h1
                  go_wp2
                  go_quiet (fail)
                  go_wp2
                  go_roundw
                  case rel => exact ⟨m + 1, by omega, by go_num, HF'.out, HX.out.drewN _⟩
                  case measure => simp [intOf]; omega
              · have hmk' : m = k := by omega
                have HF := Lib.hid (goodClu_step HG.out hpl (fun x hx => hf x (by omega)))
                clear hf hmk'
                go_wp2
                go_roundw
                case rel => exact ⟨k + 1, by omega, by go_num, HF.out, hbx⟩
                case measure => simp [intOf]; omega
          · have hpl' : placeB P S k = false := by simpa using hpl
            clear hpl
            have HF := Lib.hid (cluB_no (P := P) (S := S) (W := W) (fun h => by have := (h.2.2 k hlt).1; rw [placeB_yes this] at hpl'; cases hpl'))
            go_wp2_with fail
            refine (isPlace_c _ _ _ P S k _ (hbx.rd HP.out) (hbx.rd HSr.out) HS.out hlt hk24).mono ?_
            rintro e w2 ⟨rfl, hb2⟩
            go_wp2
            go_ret
            exact ⟨ret_bool HF.out.symm, (hbx.trans hb2).below⟩
        · go_wp2
          have hk' : k = P.length := by omega
          subst hk'
          go_ret
          exact ⟨ret_bool (cluB_iff.2 ⟨⟨hk0, hk24, HS.out, HW.out⟩, allIn_iff.1 hwi, hg⟩).symm, hbx.below⟩
    · have hwi' : allIn W (-100000) 100000 = false := by simpa using hwi
      have HF := Lib.hid (cluB_no (P := P) (S := S) (W := W) (fun h => by rw [allIn_iff.2 h.2.1] at hwi'; cases hwi'))
      clear hwi
      go_enter Tryz.func32, Tryz.ntmps32
      go_wp2_with fail
      refine (within_c _ W _ _ _ (HQ.out.below (Boxed.start _ _ _).below (Nat.le_refl _))).mono ?_
      rintro e w' ⟨rfl, rfl⟩
      go_wp2
      go_ret
      exact ⟨ret_bool HF.out.symm, (Boxed.start _ _ _).below⟩
  · have HF := Lib.hid (cluB_no (P := P) (S := S) (W := W) (fun h => hsh h.1))
    obtain ⟨ap, kp, rfl⟩ := hp.len0
    obtain ⟨a', ks, rfl⟩ := hs.len0
    obtain ⟨aq, kq, rfl⟩ := hq.len0
    have hsh' : ¬ (0 < P.length) ∨ ¬ (P.length ≤ 24) ∨ ((0 < P.length ∧ P.length ≤ 24) ∧ ((S.length : Int) != (P.length : Int)) = true) ∨ ((0 < P.length ∧ P.length ≤ 24) ∧ ((S.length : Int) != (P.length : Int)) = false ∧ ((W.length : Int) != (P.length : Int)) = true) := by
      by_cases a1 : 0 < P.length
      · by_cases a2 : P.length ≤ 24
        · by_cases a3 : S.length = P.length
          · exact .inr (.inr (.inr ⟨⟨a1, a2⟩, by simp [a3], by simp; intro e; exact hsh ⟨a1, a2, a3, by omega⟩⟩))
          · exact .inr (.inr (.inl ⟨⟨a1, a2⟩, by simp; omega⟩))
        · exact .inr (.inl a2)
      · exact .inl a1
    clear hsh hp hs hq
    rcases hsh' with h | h | h | h
    all_goals
      go_enter Tryz.func32, Tryz.ntmps32
      go_wp2
      go_ret
      exact ⟨ret_bool HF.out.symm, (Boxed.start _ _ _).below⟩
end Go.Proofs.YtglghdkjppcedaaGreatDoor
