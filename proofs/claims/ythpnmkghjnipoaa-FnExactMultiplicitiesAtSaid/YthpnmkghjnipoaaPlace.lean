/- Contracts: impl.isPlace, impl.within, spec.l07Near. -/
import Derived.Test.YthpnmkghjnipoaaSlc
import Derived.Test.YthpnmkghjnipoaaClu
namespace Go.Proofs.Ythpnmkghjnipoaa
open Go.RowKit

set_option maxHeartbeats 400000 in
theorem isPlace_c (p s q : Value) (P S : List Int) (i : Nat) (w : World) (hp : Rd w p P) (hs : Rd w s S) (hl : S.length = P.length) (hi : i < P.length) (h24 : P.length ≤ 24) :
    Calls Try.prog 149 #[.agg #[p, s, q], .int .i64 i] w fun e w' => e = .returned (.bool (placeB P S i)) ∧ Below w.heap.size w w' := by
  obtain ⟨bp, op, kp, rfl, hpc1, hpc2, hpb, hpc⟩ := hp.cells (by omega)
  obtain ⟨bs, os, ks, rfl, hsc1, hsc2, hsb, hsc⟩ := hs.cells (by omega)
  have hP := hpc i hi
  have hS := hsc i (by omega)
  have hPP : 0 ≤ gI P i → gI P i < (i : Int) → w.cell? ⟨bp, op + (gI P i).toNat, none⟩ = some (.int .i64 (gI P (gI P i).toNat)) := fun _ _ => hpc _ (by omega)
  have hSP : 0 ≤ gI P i → gI P i < (i : Int) → w.cell? ⟨bs, os + (gI P i).toNat, none⟩ = some (.int .i64 (gI S (gI P i).toNat)) := fun _ _ => hsc _ (by omega)
  have HY := Lib.hid (@placeB_yes P S i)
  have HN := Lib.hid (@placeB_no P S i)
  have hl1 : (i : Int) < S.length := by omega
  have hl2 : (i : Int) < P.length := by omega
  clear hpc hsc hl
  unfold placeOk at HY HN
  generalize gI P (gI P i).toNat = pp at hPP HY HN
  generalize gI S (gI P i).toNat = sp at hSP HY HN
  generalize gI P i = p at hP hPP hSP HY HN
  generalize gI S i = s at hS HY HN
  by_cases h0 : ((i : Int) == 0) = true
  · go_enter Try.func149, Try.ntmps149
    go_wp2
    go_quiet (fail)
    go_wp2
    all_goals (go_ret; refine ⟨ret_bool ?_, below_drewN ((Below.refl _ _).alloc (Nat.le_refl _) _) _⟩)
    · by_cases hs1 : s = -1
      · rw [HY.out (.inl ⟨by simpa using h0, by assumption, hs1⟩)]; simp [hs1]
      · rw [HN.out (by simp at h0; omega)]; simp [hs1]
    · rw [HN.out (by simp at h0; omega)]
  · have h0' : ((i : Int) == 0) = false := by simpa using h0
    have h0'' : 0 < i := by simp at h0'; omega
    clear h0
    by_cases hin : inB p 0 ((i : Int) - 1) = true
    · have hin' := inB_iff.1 hin
      have hPP' := hPP hin'.1 (by omega)
      have hSP' := hSP hin'.1 (by omega)
      have hp0 : 0 ≤ p := hin'.1
      have hp1 : p < P.length := by omega
      have hp2 : p < S.length := by omega
      have hp3 : p < (i : Int) := by omega
      clear hPP hSP hin'
      go_enter Try.func149, Try.ntmps149
      go_wp2
      go_quiet (fail)
      go_wp2_with (go_at_call 80; refine (inRange_c _ _ _ _).mono ?_; rintro e w' ⟨rfl, rfl⟩)
      all_goals (go_ret; refine ⟨ret_bool ?_, below_drewN ((Below.refl _ _).alloc (Nat.le_refl _) _) _⟩)
      · rw [HY.out (by omega)]
      · rw [HY.out (by omega)]
      · by_cases hsp : s = sp
        · rw [HY.out (by omega)]; simp [hsp]
        · rw [HN.out (by omega)]; simp [hsp]; omega
      · rw [HN.out (by omega)]; simp; omega
    · have hin' : inB p 0 ((i : Int) - 1) = false := by simpa using hin
      clear hin hPP hSP
      go_enter Try.func149, Try.ntmps149
      go_wp2
      go_quiet (fail)
      go_wp2_with (go_at_call 80; refine (inRange_c _ _ _ _).mono ?_; rintro e w' ⟨rfl, rfl⟩)
      go_ret
      refine ⟨ret_bool ?_, below_drewN ((Below.refl _ _).alloc (Nat.le_refl _) _) _⟩
      have := inB_not.1 hin'
      rw [HN.out (by omega)]
/-- Do all numbers of xs lie from a to b? -/
def allIn (xs : List Int) (a b : Int) : Bool := decide (∀ i, i < xs.length → a ≤ gI xs i ∧ gI xs i ≤ b)
theorem allIn_iff {xs : List Int} {a b : Int} : allIn xs a b = true ↔ ∀ i, i < xs.length → a ≤ gI xs i ∧ gI xs i ≤ b := by simp only [allIn, decide_eq_true_eq]
theorem allIn_no {xs : List Int} {a b : Int} {k : Nat} (hk : k < xs.length) (h : inB (gI xs k) a b = false) : allIn xs a b = false := by
  simp only [allIn, decide_eq_false_iff_not]; intro h'; exact inB_not.1 h (h' k hk)

set_option maxHeartbeats 400000 in
theorem within_c (v : Value) (xs : List Int) (a b : Int) (w : World) (h : Rd w v xs) :
    Calls Try.prog 131 #[v, .int .i64 a, .int .i64 b] w fun e w' => e = .returned (.bool (allIn xs a b)) ∧ w = w' := by
  obtain ⟨ad, cap, rfl, hcap1, hcap2, hrd⟩ := h
  go_enter Try.func131, Try.ntmps131
  go_wp2
  go_loop [8, 11] (fun _ i => ∃ k : Nat, k ≤ xs.length ∧ i = .int .i64 k ∧ ∀ j, j < k → a ≤ gI xs j ∧ gI xs j ≤ b) (fun _ i => xs.length - (intOf i).toNat)
  case atStart => exact ⟨0, Nat.zero_le _, rfl, fun j hj => absurd hj (by omega)⟩
  case round =>
    obtain ⟨k, hk, rfl, hg⟩ := hrel
    by_cases hlt : k < xs.length
    · obtain ⟨ba, off, rfl, hbl, hcs⟩ := hrd (ne_of_lt_len hlt)
      have hc := hcs k hlt
      have HB := Lib.hid (@allIn_no xs a b k hlt)
      have HG : Hid (inB (gI xs k) a b = true → ∀ j, j < k + 1 → a ≤ gI xs j ∧ gI xs j ≤ b) := Lib.hid (by
        intro hb j hj
        by_cases e : j = k
        · rw [e]; exact inB_iff.1 hb
        · exact hg j (by omega))
      clear hg hcs hrd
      generalize gI xs k = c at hc HG HB
      by_cases hin : inB c a b = true
      · have HG' := Lib.hid (HG.out hin)
        clear HG HB
        go_wp2_with (go_at_call 80; refine (inRange_c _ _ _ _).mono ?_; rintro e w' ⟨rfl, rfl⟩)
        go_round
        case rel => exact ⟨k + 1, by omega, by go_num, HG'.out⟩
        case measure => simp [intOf]; omega
      · have hin' : inB c a b = false := by simpa using hin
        have HB' := Lib.hid (HB.out hin')
        clear HG HB hin
        go_wp2_with (go_at_call 80; refine (inRange_c _ _ _ _).mono ?_; rintro e w' ⟨rfl, rfl⟩)
        go_ret
        exact ⟨ret_bool HB'.out.symm, rfl⟩
    · go_wp2
      have hk' : k = xs.length := by omega
      subst hk'
      go_ret
      exact ⟨ret_bool (allIn_iff.2 hg).symm, rfl⟩
end Go.Proofs.Ythpnmkghjnipoaa
