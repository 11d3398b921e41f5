/- Contract: CountBranchPoints; the law of the thresholds in the walk's words. -/
import Derived.Test.YtiinceflafigeaaPtsC
import Derived.Test.YtiinceflafigeaaThrP
import Derived.Test.YtiinceflafigeaaThrS
namespace Go.Proofs.Ytiinceflafigeaa
open Go.RowKit

/-- How many numbers the sequence has. -/
def cntT (T : List Int) : Nat := (seqP T).length
theorem cnt_bd {T : List Int} (h : BraOk T) : cntT T ≤ 100000000 := by
  have hpl := pre_bd h (T.length - 1) (by have := h.len; omega)
  have hl7 := bra_len h
  unfold cntT seqP; split <;> (try simp) <;> omega
theorem cnt_pos {T : List Int} (h : BraOk T) : 1 ≤ cntT T := by
  unfold cntT seqP
  split
  · simp
  · rename_i h1
    have hp := h.len
    have h2 : T.length - 1 = (T.length - 2) + 1 := by omega
    rw [h2, pre_succ, flat_app]
    have he := eI_bd h (T.length - 2)
    have hk := kI_bd h (n := T.length - 2) (by omega)
    rcases Nat.eq_zero_or_pos (flat (stB (kI T (T.length - 2)) (eI T (T.length - 2)))).length with h3 | h3
    · exfalso
      have hg := kI_gcd T (T.length - 2)
      rw [show T.length - 2 + 1 = T.length - 1 by omega, h.last] at hg
      have h4 := tl_steps _ (kI T (T.length - 2)) (eI T (T.length - 2)) (Nat.le_refl _) (by omega) (by omega) [] (by rw [hg]; exact tl_nil 1)
      rw [List.append_nil] at h4
      have h5 : flat (stB (kI T (T.length - 2)) (eI T (T.length - 2))) = [] := List.eq_nil_of_length_eq_zero h3
      rw [stB_pos (by omega), flat_cons] at h5
      have h6 := List.append_eq_nil_iff.1 h5
      have h7 : rep (kI T (T.length - 2) / eI T (T.length - 2), eI T (T.length - 2)) = [] := h6.1
      have h8 := h6.2
      unfold rep at h7
      have h9 : (kI T (T.length - 2) / eI T (T.length - 2)).toNat = 0 := by simpa using h7
      by_cases hm : 0 < kI T (T.length - 2) % eI T (T.length - 2)
      · rw [stB_pos hm, flat_cons] at h8
        have h10 := (List.append_eq_nil_iff.1 h8).1
        unfold rep at h10
        have hlt := Int.emod_lt_of_pos (kI T (T.length - 2)) (show 0 < eI T (T.length - 2) by omega)
        have h11 := div_one_le hm (Int.le_of_lt hlt)
        have h12 : (eI T (T.length - 2) / (kI T (T.length - 2) % eI T (T.length - 2))).toNat = 0 := by simpa using h10
        omega
      · have hnn := Int.emod_nonneg (kI T (T.length - 2)) (show eI T (T.length - 2) ≠ 0 by omega)
        have hd := Int.emod_add_mul_ediv (kI T (T.length - 2)) (eI T (T.length - 2))
        have h13 : kI T (T.length - 2) / eI T (T.length - 2) ≤ 0 := by omega
        have h14 := Int.mul_nonpos_of_nonneg_of_nonpos (show 0 ≤ eI T (T.length - 2) by omega) h13
        omega
    · rw [List.length_append]; omega
theorem seqL_cnt (T : List Int) : seqL T (cntT T) = seqP T := by
  unfold seqL fullL
  by_cases h1 : T.length = 1
  · have e : seqP T = [1] := by unfold seqP; rw [if_pos h1]
    have e2 : cntT T = 1 := by unfold cntT; rw [e]; rfl
    rw [e, e2, h1]
    show (flat (pre T 0) ++ List.replicate 1 1).take 1 = [1]
    rfl
  · have e : seqP T = flat (pre T (T.length - 1)) := by unfold seqP; rw [if_neg h1]
    rw [e, List.take_append_of_le_length (by unfold cntT; rw [e]; exact Nat.le_refl _), List.take_of_length_le (by unfold cntT; rw [e]; exact Nat.le_refl _)]
set_option maxRecDepth 100000 in
set_option maxHeartbeats 1000000 in
theorem countPoints_c (v : Value) (T : List Int) (w : World) (h : Rd w v T) (hok : BraOk T) :
    Calls Try.prog 21 #[.agg #[v]] w fun e w' => e = .returned (.tuple #[.int .i64 (cntT T : Int), .int .i64 0]) ∧ Below w.heap.size w w' := by
  have hx := Boxed.start w 26 #[v]
  obtain ⟨a, c, rfl⟩ := h.len0
  have c0 := hx.cell 0
  have hbr := braB_iff.2 hok
  go_enter Try.func21, Try.ntmps21
  go_wp2_with fail
  refine (implIsBranch_c _ T _ (hx.rd h)).mono ?_
  rintro e w1 ⟨rfl, hb⟩
  rw [hbr]
  have hx1 := hx.trans hb
  have c1 := hx1.cell 0
  clear c0
  go_wp2_with fail
  refine (sequence_c _ T _ (hx1.rd h) hok).mono ?_
  rintro e w2 ⟨u, rfl, hO, hb2⟩
  obtain ⟨ad, k, rfl⟩ := hO.form
  have hn : (seqP T).length = cntT T := rfl
  rw [hn]
  have hcb := cnt_bd hok
  clear hO hn
  go_wp2
  go_ret2
  exact ⟨rfl, (hx1.trans hb2).below⟩
/-- The two sides at the point j. -/
def thL (T : List Int) (n j : Nat) : Int := (1 + gI (dsL T n) j) * thB T
def thR (T : List Int) (n j : Nat) : Int := thT T * gI (orL T n) j
theorem gI_dsL {T : List Int} {n i : Nat} (h : i < n) : gI (dsL T n) i = oI (fun _ => 1) (seqL T n) i := by
  have := gI_ord (M := seqL T n) (own := fun _ => 1) h
  rw [seqL_len] at this
  exact this
theorem gI_orL' {T : List Int} {n i : Nat} (h : i < n) : gI (orL T n) i = oI (fun t => gI (seqL T n) t) (seqL T n) i := by
  have := gI_ord (M := seqL T n) (own := fun t => gI (seqL T n) t) h
  rw [seqL_len] at this
  exact this
theorem th_bd {T : List Int} (h : BraOk T) : 0 ≤ thT T ∧ thT T ≤ 4000 ∧ 0 ≤ thB T ∧ thB T ≤ 4000000 := by
  have hb := braB_iff.2 h
  by_cases h1 : T.length = 1
  · rw [(th_one hb h1).1, (th_one hb h1).2]; omega
  · have h2 : 2 ≤ T.length := by have := h.len; omega
    have a := h.num 0 (by omega)
    have b := h.num 1 (by omega)
    have hN0 : 0 ≤ gI T 0 * gI T 1 := Int.mul_nonneg (by omega) (by omega)
    have hN1 : gI T 0 * gI T 1 ≤ 2000 * 2000 := Int.mul_le_mul (by omega) (by omega) (by omega) (by omega)
    rw [(th_two hb h2).1, (th_two hb h2).2]
    have hg : 0 ≤ gcdI (gI T 0 + gI T 1) (gI T 0 * gI T 1) := by unfold gcdI; omega
    have q1 := Int.ediv_nonneg (show 0 ≤ gI T 0 + gI T 1 by omega) hg
    have q2 := Int.ediv_nonneg hN0 hg
    have q3 := Int.ediv_le_self (gcdI (gI T 0 + gI T 1) (gI T 0 * gI T 1)) (show 0 ≤ gI T 0 + gI T 1 by omega)
    have q4 := Int.ediv_le_self (gcdI (gI T 0 + gI T 1) (gI T 0 * gI T 1)) hN0
    omega
theorem thLR_bd {T : List Int} (h : BraOk T) {n j : Nat} (hn : n ≤ 400) (hj : j < n) : (0 ≤ thL T n j ∧ thL T n j ≤ 10000000000000000) ∧ (0 ≤ thR T n j ∧ thR T n j ≤ 10000000000000000) ∧ (0 ≤ gI (dsL T n) j ∧ gI (dsL T n) j ≤ 1638400) ∧ (0 ≤ gI (orL T n) j ∧ gI (orL T n) j ≤ 1638400) := by
  have hE := eu_seq h n
  have hl := seqL_len T n
  have hb := th_bd h
  have h1 := oI_small hE (by rw [hl]; exact hn) (own := fun _ => 1) (fun i _ => by omega) (n := j) (by rw [hl]; exact hj)
  have h2 := oI_small hE (by rw [hl]; exact hn) (own := fun t => gI (seqL T n) t) (fun i hi => by have := hE.pos i hi; omega) (n := j) (by rw [hl]; exact hj)
  unfold thL thR
  rw [gI_dsL hj, gI_orL' hj]
  generalize oI (fun _ => 1) (seqL T n) j = a at *
  generalize oI (fun t => gI (seqL T n) t) (seqL T n) j = v at *
  have e1 : (1 + a) * thB T ≤ 1638401 * 4000000 := Int.mul_le_mul (by omega) (by omega) (by omega) (by omega)
  have e2 : 0 ≤ (1 + a) * thB T := Int.mul_nonneg (by omega) (by omega)
  have e3 : thT T * v ≤ 4000 * 1638400 := Int.mul_le_mul (by omega) (by omega) (by omega) (by omega)
  have e4 : 0 ≤ thT T * v := Int.mul_nonneg (by omega) (by omega)
  omega
theorem thr_law {T : List Int} (h : BraOk T) : (∀ j, j < cntT T → thR T (cntT T) j ≤ thL T (cntT T) j) ∧ ∃ j, j < cntT T ∧ thL T (cntT T) j = thR T (cntT T) j := by
  have hb := braB_iff.2 h
  by_cases h1 : T.length = 1
  · have e : seqP T = [1] := by unfold seqP; rw [if_pos h1]
    have e2 : cntT T = 1 := by unfold cntT; rw [e]; rfl
    have hs := seqL_cnt T
    have key : thL T (cntT T) 0 = thR T (cntT T) 0 := by
      unfold thL thR
      rw [(th_one hb h1).1, (th_one hb h1).2, gI_dsL (by omega), gI_orL' (by omega), hs, e]
      decide
    exact ⟨fun j hj => by
      have : j = 0 := by omega
      subst this; rw [key]; exact Int.le_refl _, 0, by omega, key⟩
  · have h2 : 2 ≤ T.length := by have := h.len; omega
    have a := h.num 0 (by omega)
    have b := h.num 1 (by omega)
    have e : seqP T = flat (pre T (T.length - 1)) := by unfold seqP; rw [if_neg h1]
    have hs := seqL_cnt T
    have hE := eu_seq h (cntT T)
    rw [hs] at hE
    obtain ⟨k1, k2⟩ := thr_all h h2 e hE
    have hN0 : 0 < gI T 0 * gI T 1 := Int.mul_pos (by omega) (by omega)
    have hg0 : 0 < gcdI (gI T 0 + gI T 1) (gI T 0 * gI T 1) := by
      unfold gcdI
      have := Nat.gcd_pos_of_pos_left (m := (gI T 0 + gI T 1).natAbs) (gI T 0 * gI T 1).natAbs (by omega)
      omega
    have f1 := Int.ediv_mul_cancel (gcdI_dvd_left (gI T 0 + gI T 1) (gI T 0 * gI T 1))
    have f2 := Int.ediv_mul_cancel (gcdI_dvd_right (gI T 0 + gI T 1) (gI T 0 * gI T 1))
    rw [← (th_two hb h2).1] at f1
    rw [← (th_two hb h2).2] at f2
    have key : ∀ j, j < cntT T → dD (gI T 0 * gI T 1) (gI T 0 + gI T 1) (seqP T) j = (thL T (cntT T) j - thR T (cntT T) j) * gcdI (gI T 0 + gI T 1) (gI T 0 * gI T 1) := by
      intro j hj
      unfold thL thR dD dA dV
      rw [gI_dsL hj, gI_orL' hj, hs]
      generalize gcdI (gI T 0 + gI T 1) (gI T 0 * gI T 1) = g at *
      rw [← f1, ← f2]
      grind
    generalize gcdI (gI T 0 + gI T 1) (gI T 0 * gI T 1) = g at *
    refine ⟨fun j hj => ?_, ?_⟩
    · have q := k1 j hj
      rw [key j hj] at q
      rcases Int.lt_or_le (thL T (cntT T) j) (thR T (cntT T) j) with q2 | q2
      · have := Int.mul_neg_of_neg_of_pos (show thL T (cntT T) j - thR T (cntT T) j < 0 by omega) hg0
        omega
      · exact q2
    · obtain ⟨j, hj, q⟩ := k2
      rw [key j hj] at q
      rcases Int.mul_eq_zero.1 q with q | q
      · exact ⟨j, hj, by omega⟩
      · omega
/-- One of the first j points is reached. -/
def rchB (T : List Int) (n j : Nat) : Bool := decide (∃ i, i < j ∧ thL T n i = thR T n i)
theorem rchB_zero (T : List Int) (n : Nat) : rchB T n 0 = false := by simp only [rchB, decide_eq_false_iff_not]; rintro ⟨i, hi, _⟩; omega
theorem rchB_yes {T : List Int} {n j : Nat} (h : thL T n j = thR T n j) : rchB T n (j + 1) = true := by simp only [rchB, decide_eq_true_eq]; exact ⟨j, by omega, h⟩
theorem rchB_old {T : List Int} {n j : Nat} (h : rchB T n j = true) : rchB T n (j + 1) = true := by
  simp only [rchB, decide_eq_true_eq] at *
  obtain ⟨i, hi, e⟩ := h
  exact ⟨i, by omega, e⟩
theorem rchB_no {T : List Int} {n j : Nat} (h : rchB T n j = false) (h2 : ¬ thL T n j = thR T n j) : rchB T n (j + 1) = false := by
  simp only [rchB, decide_eq_false_iff_not] at *
  rintro ⟨i, hi, e⟩
  by_cases c : i = j
  · subst c; exact h2 e
  · exact h ⟨i, by omega, e⟩
theorem rchB_all {T : List Int} (h : BraOk T) : rchB T (cntT T) (cntT T) = true := by
  simp only [rchB, decide_eq_true_eq]
  exact (thr_law h).2
end Go.Proofs.Ytiinceflafigeaa
