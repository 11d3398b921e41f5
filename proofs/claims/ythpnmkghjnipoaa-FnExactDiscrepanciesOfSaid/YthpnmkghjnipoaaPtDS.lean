/- Contracts: the reference's DiscrepanciesOf. -/
import Derived.Test.YthpnmkghjnipoaaPtD
namespace Go.Proofs.Ythpnmkghjnipoaa
open Go.RowKit

theorem ord_own_same_to {own own' : Nat → Int} {P S : List Int} {n : Nat} (h : ∀ j, j < n → own j = own' j) (k : Nat) (hk : k ≤ n) : ordTo own P S k = ordTo own' P S k := by
  induction k with
  | zero => rfl
  | succ k ih => rw [ordTo_succ, ordTo_succ, ih (by omega), h k (by omega)]
theorem ord_own_same {own own' : Nat → Int} {P S : List Int} {n : Nat} (h : ∀ j, j < n → own j = own' j) : ordTo own P S n = ordTo own' P S n := ord_own_same_to h n (Nat.le_refl _)
/-- k ones. -/
def onesTo (k : Nat) : List Int := List.replicate k 1
@[simp] theorem onesTo_len (k : Nat) : (onesTo k).length = k := by simp [onesTo]
theorem onesTo_succ (k : Nat) : onesTo (k + 1) = onesTo k ++ [1] := by simp [onesTo, List.replicate_succ']
theorem gI_ones {k i : Nat} (h : i < k) : gI (onesTo k) i = 1 := gI_rep h

set_option maxHeartbeats 1000000 in
theorem l06Ones_c (n : Nat) (w : World) (hn : n ≤ 100000) :
    Calls Try.prog 102 #[.int .i64 (n : Int)] w (RetI w (onesTo n)) := by
  obtain ⟨i0, hi, hz0, hz1, hz2⟩ := info_parts Try.infoI
  go_enter Try.func102, Try.ntmps102
  go_wp2
  go_loopw [0, 3] (fun k v wr => ∃ j : Nat, j ≤ n ∧ k = .int .i64 ((n : Int) - j) ∧ OwnI wr w.heap.size v (onesTo j) ∧ Below w.heap.size w wr) (fun k _ _ => (intOf k).toNat)
  case atStart => exact ⟨0, Nat.zero_le _, by simp, own_empty w _ (Nat.le_refl _), (Below.refl _ _).alloc (Nat.le_refl _) _⟩
  case round =>
    obtain ⟨j, hj, rfl, hown, hbl⟩ := hrel
    obtain ⟨wo, rfl⟩ : ∃ wo : World, wo = wr := ⟨_, rfl⟩
    have hsz := hbl.size
    by_cases hlt : j < n
    · have h1 : (0 : Int) < (n : Int) - j := by omega
      have hl : (onesTo j).length ≤ 1000000 := by simp; omega
      have HY := Lib.hid (onesTo_succ j)
      have hw : IntKind.i64.wrap ((n : Int) - j - 1) = (n : Int) - j - 1 := IntWalk.i64_in _ (by omega)
      go_wp2_with (at_builtin; refine wpList_push rfl (.tmp 9) (.tmp 10) 22 rfl w.heap.size 2 i0 Try.underlying22 hi hz0 hz1 hz2 u3 (onesTo j) 1 rfl hown rfl (by omega) hsz ?_; intro v' w2 hown' hkp)
      have hbl' := hbl.trans (hkp.below hsz (fun g hg => (hown.block g hg).1))
      rw [← HY.out] at hown'
      go_roundw
      case rel => exact ⟨j + 1, by omega, by go_num, hown', hbl'⟩
      case measure => simp [intOf]; omega
    · have h1 : ¬ (0 : Int) < (n : Int) - j := by omega
      go_wp2
      have hj' : j = n := by omega
      subst hj'
      go_ret
      exact retI_mk hown hbl

set_option maxHeartbeats 1000000 in
theorem l01Index_c (v : Value) (xs : List Int) (y : Int) (w : World) (h : Rd w v xs) (hn : ∀ i, i < xs.length → gI xs i ≠ y) :
    Calls Try.prog 138 #[v, .int .i64 y] w fun e w' => e = .returned (.int .i64 (-1)) ∧ w = w' := by
  obtain ⟨a, cap, rfl, hcap1, hcap2, hrd⟩ := h
  go_enter Try.func138, Try.ntmps138
  go_wp2_with fail
  go_loopw [5] (fun iv wr => ∃ i : Nat, i ≤ xs.length ∧ iv = .int .i64 i ∧ w = wr) (fun iv _ => xs.length - (intOf iv).toNat)
  case atStart => exact ⟨0, Nat.zero_le _, rfl, rfl⟩
  case round =>
    obtain ⟨i, hi, rfl, rfl⟩ := hrel
    have hi0 : (0 : Int) ≤ (i : Int) := Int.natCast_nonneg _
    by_cases hlt : i < xs.length
    · have hii : (i : Int) < (xs.length : Int) := by omega
      obtain ⟨b, off, rfl, hb, hc⟩ := hrd (ne_of_lt_len hlt)
      have dx := hc i hlt
      have hne : (gI xs i == y) = false := beq_false_of_ne (hn i hlt)
      clear hc hrd hn
      generalize gI xs i = x at *
      go_wp2
      go_roundw
      case rel => exact ⟨i + 1, by omega, by go_num, by first | rfl | trivial⟩
      case measure => simp [intOf]; omega
    · have hie : i = xs.length := by omega
      subst hie
      go_wp2
      go_ret
      exact ⟨rfl, rfl⟩

set_option maxHeartbeats 1000000 in
theorem l01Has_c (v : Value) (xs : List Int) (y : Int) (w : World) (h : Rd w v xs) (hn : ∀ i, i < xs.length → gI xs i ≠ y) :
    Calls Try.prog 103 #[v, .int .i64 y] w fun e w' => e = .returned (.bool false) ∧ w = w' := by
  obtain ⟨a, c, rfl⟩ := h.len0
  go_enter Try.func103, Try.ntmps103
  go_wp2_with fail
  refine (l01Index_c _ xs y w h hn).mono ?_
  rintro e w1 ⟨rfl, rfl⟩
  go_wp2
  go_ret
  exact ⟨rfl, rfl⟩

set_option maxRecDepth 100000 in
set_option maxHeartbeats 1000000 in
theorem specDiscrepanciesOf_c (v : Value) (T : List Int) (k : Int) (w : World) (h : Rd w v T) :
    Calls Try.prog 60 #[.agg #[v], .int .i64 k] w (RetIC w (ckL T k (dsL T k.toNat)) (ckC T k)) := by
  have hx := Boxed.start w 28 #[v]
  obtain ⟨a, c, rfl⟩ := h.len0
  have c0 := hx.cell 0
  by_cases h0 : ckC T k = 0
  · obtain ⟨hok, hk1, hk2⟩ := ckC_zero h0
    obtain ⟨n, rfl⟩ := Int.eq_ofNat_of_zero_le (show 0 ≤ k by omega)
    have hEu := eu_seq hok n
    have hMl := seqL_len T n
    have hOWN : (fun i => gI (onesTo n) i) = (fun i => if i < n then 1 else 0) := by
      funext i
      by_cases hi : i < n
      · rw [if_pos hi]; exact gI_ones hi
      · rw [if_neg hi]; unfold gI; simp [onesTo, hi]
    have hAE := addOk_eu hEu (by rw [hMl]; omega) (own := fun i => gI (onesTo n) i) (fun i hi => by rw [hMl] at hi; show 0 ≤ gI (onesTo n) i ∧ _; rw [gI_ones hi]; omega)
    have hEQ : addTo (fun i => gI (onesTo n) i) (proxL (parL n) (secM (seqL T n))) n = dsL T n := by
      have := hAE.2
      rw [hMl] at this
      rw [this]
      exact ord_own_same (fun i hi => gI_ones hi)
    have hbd := addS_bd hEu (by rw [hMl]; omega) (own := fun i => gI (onesTo n) i) (fun i hi => by rw [hMl] at hi; show 0 ≤ gI (onesTo n) i ∧ _; rw [gI_ones hi]; omega)
    rw [hMl] at hbd
    have hno : ∀ i, i < (dsL T n).length → gI (dsL T n) i ≠ -1 := fun i hi => by
      rw [dsL_len] at hi
      have := hbd n (Nat.le_refl _) i hi
      rw [hEQ] at this
      omega
    have HL := Lib.hid (ckL_ok (xs := dsL T ((n : Int)).toNat) h0)
    clear hAE hOWN hbd
    go_enter Try.func60, Try.ntmps60
    go_wp2_with fail
    refine (l06Range_c _ T _ _ (hx.rd h)).mono ?_
    rintro e w1 ⟨rfl, hb⟩
    rw [h0]
    have hx1 := hx.trans hb
    have c1 := hx1.cell 0
    clear c0 hx hb
    go_wp2_with fail
    refine (l06Code_c _ T n _ (hx1.rd h) hok (by omega) (by omega)).mono ?_
    rintro e wa ⟨g1, c1, rfl, oa, hba⟩
    have xa := hx1.trans hba
    have ra : Rd wa (.slice g1 (n - 1) c1) (codeL (seqL T n)) := by have := oa.rd; rw [codeL_len, seqL_len] at this; exact this
    rw [codeL_len, seqL_len]
    have hon : (onesTo n).length = (seqL T n).length := by rw [hMl]; simp
    have hpo : ∀ i, i < (seqL T n).length → 0 ≤ gI (onesTo n) i ∧ gI (onesTo n) i ≤ 64 := fun i hi => by rw [hMl] at hi; rw [gI_ones hi]; omega
    go_wp2_with fail
    refine (l06Ones_c n _ (by omega)).mono ?_
    rintro e wb ⟨g2, c2, rfl, ob, hbb⟩
    have xb := xa.trans hbb
    have rb : Rd wb (.slice g2 n c2) (onesTo n) := by have := ob.rd; rw [onesTo_len] at this; exact this
    have ra2 := ra.below hbb (Nat.le_refl _)
    rw [onesTo_len]
    go_wp2_with fail
    refine (l06Sums_c _ _ (seqL T n) (onesTo n) _ ra2 rb hEu (by rw [hMl]; omega) (by rw [hMl]; omega) hon hpo).mono ?_
    rintro e wc ⟨g3, c3, rfl, oc, hbc⟩
    rw [hMl, hEQ] at oc ⊢
    have hrd := oc.rd
    have HF := Lib.hid (show RetIC w (ckL T n (dsL T ((n : Int)).toNat)) (ckC T n) (.returned (.tuple #[.slice g3 (dsL T n).length c3, .int .i64 0])) wc by
      rw [HL.out, h0]
      exact ⟨g3, c3, rfl, oc.base_le (Nat.le_of_lt xb.size), (xb.trans hbc).below⟩)
    clear HL h0 oa ob oc hpo hEQ
    go_wp2_with fail
    refine (l01Has_c _ (dsL T n) (-1) wc hrd hno).mono ?_
    rintro e w5 ⟨rfl, rfl⟩
    go_wp2
    go_ret2
    exact HF.out
  · have HL := Lib.hid (ckL_no (xs := dsL T k.toNat) h0)
    go_enter Try.func60, Try.ntmps60
    go_wp2_with fail
    refine (l06Range_c _ T _ _ (hx.rd h)).mono ?_
    rintro e w1 ⟨rfl, hb⟩
    have hne : (ckC T k != 0) = true := by simp [h0]
    have HF := Lib.hid (show RetIC w (ckL T k (dsL T k.toNat)) (ckC T k) (.returned (.tuple #[.slice none 0 0, .int .i64 (ckC T k)])) w1 by rw [HL.out]; exact retIC_nil (hx.trans hb).below)
    clear HL h0
    go_wp2
    go_ret2
    exact HF.out
end Go.Proofs.Ythpnmkghjnipoaa
