/- The texts of branches: what is written, what the reference reads, what the program reads. No program in sight. -/
import Derived.Test.YtglghdkjppcedaaDoorPart2
import Derived.Lib.QuietBelow
import Derived.Test.YtglghdkjppcedaaDoorPart1
import Derived.Test.YtglghdkjppcedaaDoorPart0
import Derived.Lib.SliceRun
import Derived.Laws.AppendOwnNone
import Derived.ArgAppend
namespace Go.Proofs.YtglghdkjppcedaaDoor
open Go.RowKit

/-- A number in decimal. -/
def dL (x : Int) : List UInt8 := decL x.toNat
/-- Numbers with commas. -/
def numsL (L : List Int) : List UInt8 := joinL 44 (L.map dL)
/-- What stands between the brackets. -/
def inL (T : List Int) : List UInt8 := dL (gI T 0) ++ (if 1 < T.length then 59 :: numsL (T.drop 1) else [])
/-- The text of a branch. -/
def btL (T : List Int) : List UInt8 := 40 :: (inL T ++ [41])
/-- The text behind k terms. -/
def btK (T : List Int) : Nat → List UInt8
  | 0 => [40]
  | 1 => 40 :: dL (gI T 0)
  | k + 2 => btK T (k + 1) ++ (if k = 0 then 59 else 44) :: dL (gI T (k + 1))
theorem btK_one (T : List Int) : btK T 1 = 40 :: dL (gI T 0) := rfl
theorem btK_two (T : List Int) : btK T 2 = btK T 1 ++ 59 :: dL (gI T 1) := rfl
theorem btK_more (T : List Int) {k : Nat} (h : 2 ≤ k) : btK T (k + 1) = btK T k ++ 44 :: dL (gI T k) := by
  obtain ⟨j, rfl⟩ : ∃ j, k = j + 2 := ⟨k - 2, by omega⟩
  show btK T (j + 2) ++ (if j + 1 = 0 then 59 else 44) :: dL (gI T (j + 2)) = _
  rw [if_neg (by omega)]
theorem drop_take_one (T : List Int) {k : Nat} (hk : k + 1 < T.length) : (T.drop 1).take (k + 1) = (T.drop 1).take k ++ [gI T (k + 1)] := by
  have hl : k < (T.drop 1).length := by simp; omega
  rw [List.take_succ_eq_append_getElem hl]
  congr 2
  rw [gI_lt hk]
  simp
theorem btK_form (T : List Int) : ∀ k, 1 ≤ k → k < T.length → btK T (k + 1) = 40 :: (dL (gI T 0) ++ 59 :: numsL ((T.drop 1).take k)) := by
  intro k
  induction k with
  | zero => intro h; omega
  | succ k ih =>
    intro _ hk
    rw [drop_take_one T hk]
    by_cases h : k = 0
    · subst h
      rw [btK_two, btK_one]
      simp [numsL, joinL]
    · rw [btK_more T (by omega), ih (by omega) (by omega)]
      unfold numsL
      rw [List.map_append, List.map_singleton, join_snoc]
      · simp
      · intro e
        have := congrArg List.length e
        simp at this
        omega
theorem btK_all (T : List Int) (h : 0 < T.length) : btK T T.length ++ [41] = btL T := by
  unfold btL inL
  by_cases h1 : 1 < T.length
  · obtain ⟨k, hk⟩ : ∃ k, T.length = k + 1 := ⟨T.length - 1, by omega⟩
    rw [if_pos h1, hk, btK_form T k (by omega) (by omega), List.take_of_length_le (by simp; omega)]
    simp
  · have e : T.length = 1 := by omega
    rw [if_neg h1, e, btK_one]
    simp

theorem dL_no {c : UInt8} (x : Int) (hc : c.toNat < 48 ∨ 57 < c.toNat) : c ∉ dL x := dec_no _ hc
theorem join_no {c d : UInt8} (hcd : d ≠ c) : ∀ (ws : List (List UInt8)), (∀ x ∈ ws, d ∉ x) → d ∉ joinL c ws := by
  intro ws
  induction ws with
  | nil => intro _ h; simp [joinL] at h
  | cons x r ih =>
    intro hn
    by_cases e : r = []
    · subst e; exact hn x (by simp)
    · rw [join_cons e]
      simp only [List.mem_append, List.mem_cons, not_or]
      exact ⟨hn x (by simp), hcd, ih (fun y hy => hn y (List.mem_cons_of_mem _ hy))⟩
theorem numsL_no (L : List Int) : (59 : UInt8) ∉ numsL L := by
  refine join_no (by decide) _ fun x hx => ?_
  obtain ⟨n, _, rfl⟩ := List.mem_map.1 hx
  exact dL_no n (.inr (by decide))
theorem spl_nums {L : List Int} (h : L ≠ []) : splitL 44 (numsL L) = L.map dL := by
  refine spl_join (fun e => h ?_) (fun x hx => ?_)
  · exact List.map_eq_nil_iff.1 e
  · obtain ⟨n, _, rfl⟩ := List.mem_map.1 hx
    exact dL_no n (.inl (by decide))
theorem in_one {T : List Int} (h : ¬ 1 < T.length) : inL T = dL (gI T 0) := by unfold inL; rw [if_neg h]; simp
theorem in_two {T : List Int} (h : 1 < T.length) : inL T = dL (gI T 0) ++ 59 :: numsL (T.drop 1) := by unfold inL; rw [if_pos h]
theorem list_head {T : List Int} (h : 0 < T.length) : gI T 0 :: T.drop 1 = T := by
  cases T with
  | nil => simp at h
  | cons x r => rfl
/-- The reference's terms. -/
def spT (u : List UInt8) : List Int := valI (gT (splitL 59 u) 0) :: (if (splitL 59 u).length = 2 then (splitL 44 (gT (splitL 59 u) 1)).map valI else [])
theorem bra_num {T : List Int} (h : BraOk T) {x : Int} (hx : x ∈ T) : 0 ≤ x ∧ x ≤ 2000 := by
  obtain ⟨i, hi, rfl⟩ := List.getElem_of_mem hx
  have := h.num i hi
  rw [gI_lt hi] at this
  omega
theorem map_dec {L : List Int} {f : List UInt8 → Int} (hf : ∀ n : Nat, n < 1000000000 → f (decL n) = n) (h : ∀ x ∈ L, 0 ≤ x ∧ x ≤ 2000) : (L.map dL).map f = L := by
  rw [List.map_map]
  conv => rhs; rw [← List.map_id L]
  refine List.map_congr_left fun x hx => ?_
  have := h x hx
  show f (decL x.toNat) = x
  rw [hf _ (by omega)]
  omega
theorem drop_mem {T : List Int} {x : Int} (h : x ∈ T.drop 1) : x ∈ T := List.mem_of_mem_drop h
theorem sp_in {T : List Int} (h : BraOk T) : spT (inL T) = T ∧ (splitL 59 (inL T)).length ≤ 2 := by
  have h0 := h.first
  have hv : valI (dL (gI T 0)) = gI T 0 := by unfold dL; rw [valI_dec (by omega)]; omega
  have hn : (59 : UInt8) ∉ dL (gI T 0) := dL_no _ (.inr (by decide))
  by_cases h1 : 1 < T.length
  · have e : splitL 59 (inL T) = [dL (gI T 0), numsL (T.drop 1)] := by rw [in_two h1, spl_at hn, spl_no (numsL_no _)]
    unfold spT
    rw [e]
    refine ⟨?_, by simp⟩
    show valI (dL (gI T 0)) :: (if 2 = 2 then (splitL 44 (numsL (T.drop 1))).map valI else []) = T
    rw [if_pos rfl, hv, spl_nums (by intro e; have := congrArg List.length e; simp at this; omega), map_dec (fun n hn => valI_dec hn) (fun x hx => bra_num h (drop_mem hx)), list_head h.len]
  · have e : splitL 59 (inL T) = [dL (gI T 0)] := by rw [in_one h1, spl_no hn]
    unfold spT
    rw [e]
    refine ⟨?_, by simp⟩
    show valI (dL (gI T 0)) :: (if 1 = 2 then _ else []) = T
    rw [if_neg (by decide), hv]
    have := list_head h.len
    rw [show T.drop 1 = [] from List.drop_of_length_le (by omega)] at this
    exact this
/-- The program's terms; are they read? -/
def imT (u : List UInt8) : List Int := (valN (bef 59 u) : Int) :: (if hasC 59 u then (splitL 44 (aft 59 u)).map (fun x => (valN x : Int)) else [])
def imO (u : List UInt8) : Bool := numB (bef 59 u) && (!hasC 59 u || (splitL 44 (aft 59 u)).all numB)
theorem im_in {T : List Int} (h : BraOk T) : imO (inL T) = true ∧ imT (inL T) = T := by
  have h0 := h.first
  have hv : ((valN (dL (gI T 0)) : Nat) : Int) = gI T 0 := by unfold dL; rw [decL_val]; omega
  have hn : (59 : UInt8) ∉ dL (gI T 0) := dL_no _ (.inr (by decide))
  have hb : numB (dL (gI T 0)) = true := num_dec (by omega)
  unfold imO imT
  by_cases h1 : 1 < T.length
  · obtain ⟨e1, e2, e3⟩ := hasC_at (r := numsL (T.drop 1)) hn
    rw [in_two h1, e1, e2, e3, spl_nums (by intro e; have := congrArg List.length e; simp at this; omega), hb]
    refine ⟨?_, ?_⟩
    · simp only [Bool.true_and, Bool.not_true, Bool.false_or, List.all_eq_true, List.mem_map]
      rintro x ⟨n, hn, rfl⟩
      have := bra_num h (drop_mem hn)
      exact num_dec (by omega)
    · rw [if_pos rfl, hv, map_dec (fun n _ => by rw [decL_val]) (fun x hx => bra_num h (drop_mem hx)), list_head h.len]
  · obtain ⟨e1, e2, e3⟩ := hasC_no hn
    rw [in_one h1, e1, e2, hb]
    refine ⟨rfl, ?_⟩
    rw [if_neg (by decide), hv]
    have := list_head h.len
    rw [show T.drop 1 = [] from List.drop_of_length_le (by omega)] at this
    exact this
theorem dL_val {x : List UInt8} (h : numB x = true) : dL (valN x : Int) = x := by
  unfold dL
  rw [Int.toNat_natCast, can_dec x (numB_iff.1 h).1]
theorem in_im {u : List UInt8} (h : imO u = true) : inL (imT u) = u := by
  unfold imO at h
  simp only [Bool.and_eq_true, Bool.or_eq_true, Bool.not_eq_true'] at h
  obtain ⟨h1, h2⟩ := h
  unfold imT
  cases hc : hasC 59 u
  · rw [if_neg (by decide), in_one (by simp)]
    show dL (valN (bef 59 u) : Int) = u
    rw [dL_val h1]
    rcases cut_first 59 u with e | ⟨a, r, rfl, ha⟩
    · exact (hasC_no e).2.1
    · rw [(hasC_at ha).1] at hc; cases hc
  · have h3 : (splitL 44 (aft 59 u)).all numB = true := by
      rcases h2 with h2 | h2
      · rw [hc] at h2; cases h2
      · exact h2
    have hne := spl_ne 44 (aft 59 u)
    have hl : 1 < ((valN (bef 59 u) : Int) :: (splitL 44 (aft 59 u)).map (fun x => (valN x : Int))).length := by
      have : 0 < (splitL 44 (aft 59 u)).length := List.length_pos_iff.2 hne
      simp; omega
    rw [if_pos rfl, in_two hl]
    show dL (valN (bef 59 u) : Int) ++ 59 :: numsL ((splitL 44 (aft 59 u)).map (fun x => (valN x : Int))) = u
    have e : ((splitL 44 (aft 59 u)).map (fun x => (valN x : Int))).map dL = splitL 44 (aft 59 u) := by
      rw [List.map_map]
      conv => rhs; rw [← List.map_id (splitL 44 (aft 59 u))]
      exact List.map_congr_left fun x hx => dL_val (List.all_eq_true.1 h3 x hx)
    unfold numsL
    rw [e, join_spl 44 _ _ (Nat.le_refl _), dL_val h1]
    exact (has_cut hc).symm

/-- What ParseBranch hands back. -/
def PbR (t : List UInt8) (T : List Int) (c : Int) : Prop := (BraOk T ∧ btL T = t ∧ c = 0) ∨ ((∀ T', BraOk T' → btL T' ≠ t) ∧ T = [] ∧ c = 6)
theorem pbR_ex (t : List UInt8) : ∃ T c, PbR t T c := by
  by_cases h : ∃ T, BraOk T ∧ btL T = t
  · obtain ⟨T, h1, h2⟩ := h
    exact ⟨T, 0, .inl ⟨h1, h2, rfl⟩⟩
  · exact ⟨[], 6, .inr ⟨fun T h1 h2 => h ⟨T, h1, h2⟩, rfl, rfl⟩⟩
theorem fr_inj {u v : List UInt8} (h : (40 : UInt8) :: (u ++ [41]) = 40 :: (v ++ [41])) : u = v := by
  injection h with _ h
  exact List.append_cancel_right h
theorem bt_inj {T T' : List Int} (h : BraOk T) (h' : BraOk T') (e : btL T = btL T') : T = T' := by
  have := fr_inj e
  rw [← (sp_in h).1, ← (sp_in h').1, this]
theorem pb_uniq {t : List UInt8} {T T' : List Int} {c : Int} (h : PbR t T c) (hb : BraOk T') (ht : btL T' = t) : T = T' ∧ c = 0 := by
  rcases h with ⟨h1, h2, h3⟩ | ⟨h1, _⟩
  · exact ⟨bt_inj h1 hb (by rw [h2, ht]), h3⟩
  · exact absurd ht (h1 _ hb)
/-- The text has no brackets. -/
theorem pb_fr {t : List UInt8} {T : List Int} {c : Int} (h : PbR t T c) (hn : ∀ u, t ≠ 40 :: (u ++ [41])) : T = [] ∧ c = 6 := by
  rcases h with ⟨_, h2, _⟩ | ⟨_, h⟩
  · exact absurd h2.symm (hn _)
  · exact h
/-- The reference takes the text, or not. -/
theorem pb_no {t u : List UInt8} {T : List Int} {c : Int} (h : PbR t T c) (hf : t = 40 :: (u ++ [41])) (hn : ¬ ((splitL 59 u).length ≤ 2 ∧ braB (spT u) = true ∧ btL (spT u) = t)) : T = [] ∧ c = 6 := by
  rcases h with ⟨h1, h2, _⟩ | ⟨_, h⟩
  · exfalso
    apply hn
    have e : inL T = u := fr_inj (h2.trans hf)
    obtain ⟨a1, a2⟩ := sp_in h1
    rw [e] at a1 a2
    rw [a1]
    exact ⟨a2, braB_iff.2 h1, h2⟩
  · exact h
/-- The program takes the text, or not. -/
theorem pbi_yes {t u : List UInt8} {T : List Int} {c : Int} (h : PbR t T c) (hf : t = 40 :: (u ++ [41])) (ho : imO u = true) (hb : braB (imT u) = true) : T = imT u ∧ c = 0 :=
  pb_uniq h (braB_iff.1 hb) (by unfold btL; rw [in_im ho, hf])
theorem pbi_no {t u : List UInt8} {T : List Int} {c : Int} (h : PbR t T c) (hf : t = 40 :: (u ++ [41])) (hn : ¬ (imO u = true ∧ braB (imT u) = true)) : T = [] ∧ c = 6 := by
  rcases h with ⟨h1, h2, _⟩ | ⟨_, h⟩
  · exfalso
    apply hn
    have e : inL T = u := fr_inj (h2.trans hf)
    obtain ⟨a1, a2⟩ := im_in h1
    rw [e] at a1 a2
    rw [a2]
    exact ⟨a1, braB_iff.2 h1⟩
  · exact h
/-- Texts with brackets. -/
theorem fr_mid {t : List UInt8} (hl : 2 ≤ t.length) (h0 : t[0]'(by omega) = 40) (h1 : t[t.length - 1]'(by omega) = 41) : t = 40 :: ((t.drop 1).take (t.length - 1 - 1) ++ [41]) := by
  cases t with
  | nil => simp at hl
  | cons x r =>
    simp only [List.getElem_cons_zero] at h0
    have hr : r ≠ [] := by intro e; subst e; simp at hl
    have hrl : 0 < r.length := List.length_pos_iff.2 hr
    subst h0
    congr 1
    have e1 : (40 :: r)[(40 :: r).length - 1]'(by simp) = r[r.length - 1]'(by omega) := by
      rw [List.getElem_cons]
      simp [show ¬ r.length = 0 by omega]
    rw [e1] at h1
    simp only [List.drop_succ_cons, List.drop_zero, List.length_cons, Nat.add_sub_cancel]
    rw [← h1, ← List.take_succ_eq_append_getElem (by omega)]
    rw [List.take_of_length_le (by omega)]
theorem fr_no {t : List UInt8} (h : ∀ (hl : 2 ≤ t.length), ¬ (t[0]'(by omega) = 40 ∧ t[t.length - 1]'(by omega) = 41)) : ∀ u, t ≠ 40 :: (u ++ [41]) := by
  rintro u rfl
  refine h (by simp) ⟨rfl, ?_⟩
  rw [List.getElem_cons]
  simp
end Go.Proofs.YtglghdkjppcedaaDoor

/- Contracts: impl.IsCluster and spec.l07Is: both tell whether three lists are a cluster. -/
namespace Go.Proofs.YtglghdkjppcedaaDoor
open Go.RowKit

end Go.Proofs.YtglghdkjppcedaaDoor

/- Contracts: spec.l07Near and spec.l07Is. -/
namespace Go.Proofs.YtglghdkjppcedaaDoor
open Go.RowKit Go.Sort

/-- Is the point i proximate to j? -/
def nearB (P S : List Int) (i : Nat) (j : Int) : Bool := decide (0 ≤ j ∧ (gI P i = j ∨ gI S i = j))
/-- What the loop of spec.l07Is has seen. -/
def seenClu (P S W : List Int) (k : Nat) : Prop := ∀ x, x < k → (-100000 ≤ gI W x ∧ gI W x ≤ 100000) ∧ placeOk P S x ∧ freshOk P S x
end Go.Proofs.YtglghdkjppcedaaDoor

/- Contracts of the laws' own helpers on slices, branches and clusters: sizes, copies, comparisons, marks. -/
namespace Go.Proofs.YtglghdkjppcedaaDoor
open Go.RowKit

/-- What is left of l places behind n. -/
def szI (l : Int) (n : Nat) : Int := if l < n then -1 else l - n
end Go.Proofs.YtglghdkjppcedaaDoor

/- Contracts of the laws' own helpers on clusters: sizes, copies, comparisons, marks. -/
namespace Go.Proofs.YtglghdkjppcedaaDoor
open Go.RowKit

/-- A new cluster is returned. -/
def RetC (w : World) (P S W : List Int) (e : Ending) (w' : World) : Prop :=
  ∃ a i b j c k, e = .returned (.agg #[.slice a P.length i, .slice b S.length j, .slice c W.length k]) ∧ Own3 2 w' w.heap.size (.slice a P.length i) (.slice b S.length j) (.slice c W.length k) P S W ∧ Below w.heap.size w w'

end Go.Proofs.YtglghdkjppcedaaDoor

/- Contracts of the laws' own helpers on branches: sizes, copies, comparisons. -/
namespace Go.Proofs.YtglghdkjppcedaaDoor
open Go.RowKit

/-- A new branch is returned. -/
def RetB (w : World) (P : List Int) (e : Ending) (w' : World) : Prop :=
  ∃ a i, e = .returned (.agg #[.slice a P.length i]) ∧ OwnI w' w.heap.size (.slice a P.length i) P ∧ Below w.heap.size w w'

end Go.Proofs.YtglghdkjppcedaaDoor

/- Contracts of the laws' own helpers on branches: marks. -/
namespace Go.Proofs.YtglghdkjppcedaaDoor
open Go.RowKit

end Go.Proofs.YtglghdkjppcedaaDoor

/- Excesses: the reference's and the program's order of subtractions give the same, and all numbers stay small. No program in sight. -/
namespace Go.Proofs.YtglghdkjppcedaaDoor

theorem gI_set {L : List Int} {i j : Nat} {y : Int} : gI (L.set i y) j = if i = j ∧ i < L.length then y else gI L j := by
  by_cases h : i = j
  · subst h
    by_cases h2 : i < L.length
    · rw [gI_set_at h2, if_pos ⟨rfl, h2⟩]
    · rw [if_neg (fun h => h2 h.2), List.set_eq_of_length_le (by omega)]
  · rw [gI_set_ne h, if_neg (fun e => h e.1)]

/-- x taken from the number at i. -/
def dec (L : List Int) (i x : Int) : List Int := L.set i.toNat (gI L i.toNat - x)
@[simp] theorem dec_len (L : List Int) (i x : Int) : (dec L i x).length = L.length := by simp [dec]
/-- x taken from the numbers at the first m places of a row. -/
def decTo (row : List Int) (x : Int) (L : List Int) : Nat → List Int
  | 0 => L
  | m + 1 => dec (decTo row x L m) (gI row m) x
/-- The numbers after k rounds. -/
def exTo (R : List (List Int)) (W : List Int) : Nat → List Int
  | 0 => W
  | k + 1 => decTo (gR R k) (gI W k) (exTo R W k) (gR R k).length
/-- Rows that point into the list, and numbers that are not too large. -/
structure ExOk (R : List (List Int)) (W : List Int) : Prop where
  len : R.length ≤ W.length
  lim : W.length ≤ 400
  rowlen : ∀ k, k < R.length → (gR R k).length ≤ 400
  row : ∀ k, k < R.length → ∀ m, m < (gR R k).length → 0 ≤ gI (gR R k) m ∧ gI (gR R k) m < (W.length : Int)
  num : ∀ i, -1000000000000 ≤ gI W i ∧ gI W i ≤ 1000000000000

/-- A round of the reference. -/
def exStep (P S W L : List Int) (k : Nat) : List Int := if 0 ≤ gI S k then dec (dec L (gI P k) (gI W k)) (gI S k) (gI W k) else dec L (gI P k) (gI W k)
/-- All numbers are not negative. -/
def nonNeg (L : List Int) : Bool := decide (∀ i, i < L.length → 0 ≤ gI L i)
/-- The least of the first k numbers. -/
def minTo (L : List Int) : Nat → Int
  | 0 => gI L 0
  | k + 1 => if gI L k < minTo L k then gI L k else minTo L k
end Go.Proofs.YtglghdkjppcedaaDoor

/- Contracts: slices.Clone, spec.l01Own: a copy of a slice of integers that is not empty. -/
namespace Go.Proofs.YtglghdkjppcedaaDoor
open Go.RowKit

/-- 'append(s, t...)' on a slice that the call owns, t not empty. -/
theorem wpList_extend {P : Program} {w : World} {ops : Array Oper} {rest : List Oper} {o : Oper} {a : Act} {Q : Exit → Act → World → Prop} (hgd : o.guard = none) (s x : Operand) (t : TypeId)
    (ho : o.op = .call { callee := .builtin .append, args := #[s, x], argTypes := #[t, t] })
    (base : Nat) (e : TypeId) (i : TypeInfo) (ht : P.underlying t = some (.slice e)) (hi : P.info? e = some i) (hz : i.zero = some (.int .i64 0)) (hsize : i.size = 1) (hby : i.bytes = 8)
    (v u : Value) (xs ys : List Int) (hs : a.eval s = v) (hown : Own e w base v xs) (hx : a.eval x = u) (hu : Rd w u ys) (hp : 0 < ys.length)
    (hlen : xs.length + ys.length ≤ 1000000000000) (hbase : base ≤ w.heap.size)
    (h : ∀ v' w', Own e w' base v' (xs ++ ys) → Keeps (fun k => v.ownBlock = some k) w w' → wpList P ops Q rest (a.put o.dst v') w') :
    wpList P ops Q (o :: rest) a w := by
  obtain ⟨b, off, c, rfl, h1, h2, hb, hc⟩ := hu.cells hp
  refine wpList_append_own _ hgd s x t ho base e i (.int .i64 0) 1 8 ht hi hz hsize hby rfl (by decide) v xs.length (xs.map (Value.int .i64)) hs hown ⟨b, off, none⟩ ys.length c (ys.map (Value.int .i64)) hx (by simp) ?_ ?_ ?_ ?_ hbase ?_
  · intro j y hj
    have hjl : j < ys.length := by
      have := (List.getElem?_eq_some_iff.1 hj).1
      simpa using this
    have hy : y = .int .i64 (gI ys j) := by
      rw [List.getElem?_map, gI_some hjl] at hj
      simpa using hj.symm
    rw [Addr.add_lit, hc j hjl, hy]
  · intro y hy; simp at hy; obtain ⟨n, _, rfl⟩ := hy; rfl
  · unfold maxLen; omega
  · omega
  · intro v' w' ho' hg _
    refine h v' w' ?_ (Keeps.of_grown hg)
    unfold Own
    rw [List.length_append, List.map_append]
    exact ho'

theorem own_of_nil_app {e : TypeId} {w : World} {base : Nat} {v : Value} {xs : List Int} (h : Own e w base v ([] ++ xs)) : Own e w base v xs := h

theorem l01Own_c (v : Value) (xs : List Int) (w : World) (h : Rd w v xs) (hp : 0 < xs.length) (hn : xs.length ≤ 1000000) :
    Calls Tryd.prog 42 #[v] w (RetI w xs) := by
  obtain ⟨i0, hi, hz0, hz1, hz2⟩ := info_parts Tryd.infoI
  have hal : Below w.heap.size w (w.alloc (.cells #[] 2)) := (Below.refl _ _).alloc (Nat.le_refl _) _
  have hr := h.below hal (Nat.le_refl _)
  obtain ⟨ad, cap, rfl⟩ := h.len0
  go_enter Tryd.func42, Tryd.ntmps42
  go_wp2_with (at_builtin; refine wpList_extend rfl (.tmp 3) (.tmp 4) 24 rfl w.heap.size 2 i0 Tryd.underlying24 hi hz0 hz1 hz2 (.slice (some ⟨w.heap.size, 0, none⟩) 0 0) (.slice ad xs.length cap) [] xs rfl (own_empty w _ (Nat.le_refl _)) rfl hr hp (by simp; omega) (by simp) ?_; intro v' w2 hown' hkp)
  have hb := hal.trans (hkp.below (B := w.heap.size) (by simp) (fun g hg => by simp [Value.ownBlock] at hg; omega))
  go_ret
  exact retI_mk (own_of_nil_app hown') hb

end Go.Proofs.YtglghdkjppcedaaDoor

/- Contract: slices.Reverse of an owned slice of integers. -/
namespace Go.Proofs.YtglghdkjppcedaaDoor
open Go.RowKit

/-- The list after k exchanges. -/
def revTo (xs : List Int) (k : Nat) : List Int := (List.range xs.length).map fun i => if i < k ∨ xs.length ≤ i + k then gI xs (xs.length - 1 - i) else gI xs i
@[simp] theorem revTo_len (xs : List Int) (k : Nat) : (revTo xs k).length = xs.length := by simp [revTo]
end Go.Proofs.YtglghdkjppcedaaDoor

/- Contracts of the two programs' functions on one cluster: IsCluster. -/
namespace Go.Proofs.YtglghdkjppcedaaDoor
open Go.RowKit

end Go.Proofs.YtglghdkjppcedaaDoor

/- Contracts: PathOf. -/
namespace Go.Proofs.YtglghdkjppcedaaDoor
open Go.RowKit

/-- A literal of one number, the call's own. -/
theorem own_one {e : TypeId} (w : World) (base : Nat) (hb : base ≤ w.heap.size) (x : Int) : Own e (w.alloc (.cells #[.int .i64 x] e)) base (.slice (some ⟨w.heap.size, 0, none⟩) 1 1) [x] :=
  World.ownsRow_lit w #[.int .i64 x] 1 hb (by unfold maxLen; omega) rfl

/-- The points from the root to the point i; f bounds their number. -/
def pathUp (P : List Int) : Nat → Int → List Int
  | 0, _ => []
  | f + 1, i => if i < 0 then [] else pathUp P f (gI P i.toNat) ++ [i]
def pathTo (P : List Int) (i : Int) : List Int := pathUp P (P.length + 1) i

/-- The point is one of the cluster. -/
def ptB (P S W : List Int) (n : Int) : Bool := cluB P S W && inB n 0 ((P.length : Int) - 1)
/-- The code of a cluster and a point. -/
def ptC (P S W : List Int) (n : Int) : Int := if cluB P S W then (if inB n 0 ((P.length : Int) - 1) then 0 else 2) else 1
end Go.Proofs.YtglghdkjppcedaaDoor

/- One number put behind an owned slice, and where the result lies. No program in sight. -/
namespace Go.Proofs.YtglghdkjppcedaaDoor
open Go.RowKit

theorem wpList_pushL {P : Program} {w : World} {ops : Array Oper} {rest : List Oper} {o : Oper} {a : Act} {Q : Exit → Act → World → Prop} (hgd : o.guard = none) (s x : Operand) (t : TypeId)
    (ho : o.op = .call { callee := .builtin .append, args := #[s, x], argTypes := #[t, t] })
    (base : Nat) (e : TypeId) (i : TypeInfo) (ht : P.underlying t = some (.slice e)) (hi : P.info? e = some i) (hz : i.zero = some (.int .i64 0)) (hsize : i.size = 1) (hby : i.bytes = 8)
    (v : Value) (xs : List Int) (y : Int) (hs : a.eval s = v) (hown : Own e w base v xs) (hx : a.eval x = .slice (some ⟨w.heap.size, 0, none⟩) 1 1)
    (hlen : xs.length ≤ 1000000000000) (hbase : base ≤ w.heap.size)
    (h : ∀ g cap w', Own e w' base (.slice (some ⟨g, 0, none⟩) (xs.length + 1) cap) (xs ++ [y]) → Keeps (fun k => v.ownBlock = some k) w w' → (v.ownBlock = some g ∨ w.heap.size ≤ g) → wpList P ops Q rest (a.put o.dst (.slice (some ⟨g, 0, none⟩) (xs.length + 1) cap)) w') :
    wpList P ops Q (o :: rest) a (w.alloc (.cells #[.int .i64 y] e)) := by
  refine wpList_append_lies _ hgd s x t ho base e i (.int .i64 0) 1 8 ht hi hz hsize hby rfl (by decide) v xs.length (xs.map (Value.int .i64)) hs (World.ownsRow.alloc hown _) ⟨w.heap.size, 0, none⟩ 1 1 [.int .i64 y] hx rfl (cell_one_new _ _ _) ?_ (by omega) ?_ ?_ ?_ _ rfl ?_
  · intro u hu; simp at hu; subst hu; rfl
  · unfold maxLen; omega
  · omega
  · simp; omega
  · intro g cap w' ho' hg hl _
    refine h g cap w' (own_append ho') ?_ (hl.imp id (fun h => by rw [h]; simp))
    have h1 : Keeps (fun k => v.ownBlock = some k) w (w.alloc (.cells #[.int .i64 y] e)) := Keeps.of_below ((Below.refl _ _).alloc (Nat.le_refl _) _)
    exact h1.trans (Keeps.of_grown hg)
end Go.Proofs.YtglghdkjppcedaaDoor

/- One number put behind an owned slice, at a step of a region; what was read of the slice stays to be read. No program in sight. -/
namespace Go.Proofs.YtglghdkjppcedaaDoor
open Go.RowKit

theorem step_pushS {P : Program} {w : World} {ops : Array Oper} {o : Oper} {a : Act} {K : Act → World → Prop} {Q : Exit → Act → World → Prop} {E : Prop} (hgd : o.guard = none) (s x : Operand) (t : TypeId)
    (ho : o.op = .call { callee := .builtin .append, args := #[s, x], argTypes := #[t, t] })
    (base : Nat) (e : TypeId) (i : TypeInfo) (ht : P.underlying t = some (.slice e)) (hi : P.info? e = some i) (hz : i.zero = some (.int .i64 0)) (hsize : i.size = 1) (hby : i.bytes = 8)
    (g n cap : Nat) (xs : List Int) (y : Int) (h : Nat) (hn : xs.length = n) (hs : a.eval s = .slice (some ⟨g, 0, none⟩) n cap) (hown : Own e w base (.slice (some ⟨g, 0, none⟩) n cap) xs) (hx : a.eval x = .slice (some ⟨h, 0, none⟩) 1 1) (hblk : Blk w h e #[.int .i64 y])
    (hlen : n ≤ 1000000000000) (hbase : base ≤ w.heap.size)
    (hK : ∀ g2 cap2 w', Own e w' base (.slice (some ⟨g2, 0, none⟩) (n + 1) cap2) (xs ++ [y]) → Keeps (fun k => k = g) w w' → (g = g2 ∨ g2 = w.heap.size) → g2 < w'.heap.size → (∀ i, i < n → w'.cell? ⟨g, i, none⟩ = some (.int .i64 (gI xs i))) → K (a.put o.dst (.slice (some ⟨g2, 0, none⟩) (n + 1) cap2)) w') :
    if Region.wanted o (yielded ops a.tmps) = true then Oper.wp P o a w K Q else E := by
  subst hn
  have hw : Region.wanted o (yielded ops a.tmps) = true := by simp [Region.wanted, hgd]
  rw [if_pos hw]
  have hnews : ∀ j u, ([Value.int .i64 y])[j]? = some u → w.cell? ((⟨h, 0, none⟩ : Addr).add j) = some u := World.news_of_block (cs := #[.int .i64 y]) (t := e) (fr := (0, 0)) hblk
  have h1c : ∀ u ∈ [Value.int .i64 y], u.oneCell' = true := by intro u hu; simp at hu; subst hu; rfl
  have h63 : xs.length + 1 ≤ maxLen := by unfold maxLen; omega
  obtain ⟨g2, cap2, w', hr, h2, h3, h4, h5⟩ := run_append_lies (P := P) w t o.type base e i (.int .i64 0) 1 8 ht hi hz hsize hby rfl (by decide) (.slice (some ⟨g, 0, none⟩) xs.length cap) xs.length (xs.map (Value.int .i64)) hown ⟨h, 0, none⟩ 1 1 [.int .i64 y] rfl hnews h1c (by omega) h63 (by omega) hbase w.heap.size rfl
  have hO := own_append h2
  have hkeep : Keeps (fun k => k = g) w w' := (Keeps.of_grown h3).mono (fun k hk => by simp [Value.ownBlock] at hk; omega)
  have hlies : g = g2 ∨ g2 = w.heap.size := h4.imp (fun h => by simpa [Value.ownBlock] using h) id
  have hgl : g < w.heap.size := (hown.block g rfl).2
  have hcells : ∀ i, i < xs.length → w'.cell? ⟨g, i, none⟩ = some (.int .i64 (gI xs i)) := by
    intro k hk
    have hwc := hown.cell k hk
    by_cases hroom : xs.length + 1 ≤ cap
    · rcases hlies with rfl | hnew
      · have := Own.cell (xs := xs ++ [y]) (w := w') (by rw [List.length_append]; exact hO) k (by simp; omega)
        rw [this, gI_app_lt hk]
      · exfalso
        rcases hown.2 with ⟨hv, _⟩ | ⟨g', cap', cur, hv, _, hcur, hle, _, hsz, _⟩
        · cases hv
        · injection hv with hv1 _ hv3
          injection hv1 with hv1
          injection hv1 with hv1
          subst hv1
          subst hv3
          have hrr := run_append_room (P := P) (w := w) t o.type e i ht hi g xs.length cap cur hcur ⟨h, 0, none⟩ 1 1 [.int .i64 y] (by rw [hsize]; rfl) hnews h1c hroom (by rw [hsize]; simp; omega)
          rw [hrr] at hr
          injection hr with hr1 _
          injection hr1 with hr1 _ _
          injection hr1 with hr1
          injection hr1 with hr1
          omega
    · obtain ⟨v'', w'', hr2, _, hgr⟩ := run_append_arg_grows (P := P) (w := w) t o.type e i (.int .i64 0) 1 8 ht hi hz hsize hby rfl (by decide) ⟨g, 0, none⟩ xs.length cap (xs.map (Value.int .i64)) (by simp) (fun j u hj => by
        have hjl : j < xs.length := by
          have := (List.getElem?_eq_some_iff.1 hj).1
          simpa using this
        rw [Addr.add_lit, Nat.zero_add, hown.cell j hjl]
        rw [List.getElem?_map, gI_some hjl] at hj
        simpa using hj) ⟨h, 0, none⟩ 1 1 [.int .i64 y] rfl hnews (by omega) h63 (by omega)
      rw [hr2] at hr
      injection hr with _ hr1
      subst hr1
      have := (Keeps.of_grown hgr).cell (p := ⟨g, k, none⟩) hgl (by simp)
      rw [this, hwc]
  unfold Oper.wp
  simp [execOp, ho, resolve, invoke, builtin, hs, hx, hr, Result.andThen]
  exact hK g2 cap2 w' hO hkeep hlies h5 hcells
end Go.Proofs.YtglghdkjppcedaaDoor
