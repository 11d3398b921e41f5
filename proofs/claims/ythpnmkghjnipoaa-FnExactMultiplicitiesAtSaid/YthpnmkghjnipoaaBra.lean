/- Contracts: divisors, ascends, falls, IsBranch; l03Is, l03Divisors. -/
import Derived.Test.YthpnmkghjnipoaaBraPure
import Derived.Test.YthpnmkghjnipoaaAddPure
namespace Go.Proofs.Ythpnmkghjnipoaa
open Go.RowKit

set_option maxHeartbeats 1000000 in
theorem divisors_c (v : Value) (T : List Int) (w : World) (h : Rd w v T) (hn : T.length ≤ 2000) (h0 : ∀ i, i < T.length → 1 ≤ gI T i ∧ gI T i ≤ 1000000000000) :
    Calls Try.prog 163 #[v] w (RetI w (eTo T T.length)) := by
  obtain ⟨i0, hi, hz0, hz1, hz2⟩ := info_parts Try.infoI
  obtain ⟨a, cap, rfl, hcap1, hcap2, hrd⟩ := h
  go_enter Try.func163, Try.ntmps163
  go_wp2
  go_loopw [3, 4, 6, 10] (fun v d _ i wr => ∃ k : Nat, ∃ y : Int, k ≤ T.length ∧ i = .int .i64 k ∧ d = .int .i64 y ∧ (0 ≤ y ∧ y ≤ 1000000000000) ∧ (k < T.length → gcdI y (gI T k) = eI T k) ∧ OwnI wr w.heap.size v (eTo T k) ∧ Below w.heap.size w wr) (fun _ _ _ i _ => T.length - (intOf i).toNat)
  case atStart => exact ⟨0, 0, Nat.zero_le _, rfl, rfl, by omega, fun h => gcdI_zero_left (by have := h0 0 h; omega), own_empty w _ (Nat.le_refl _), (Below.refl _ _).alloc (Nat.le_refl _) _⟩
  case round =>
    obtain ⟨k, y, hk, rfl, rfl, hy, hg, hown, hbl⟩ := hrel
    obtain ⟨wo, rfl⟩ : ∃ wo : World, wo = wr := ⟨_, rfl⟩
    by_cases hlt : k < T.length
    · obtain ⟨b, off, rfl, hb, hcs⟩ := hrd (ne_of_lt_len hlt)
      have hc : wo.cell? ⟨b, off + k, none⟩ = some (.int .i64 (gI T k)) := by rw [hbl.cell (p := ⟨b, off + k, none⟩) hb]; exact hcs k hlt
      have hx := h0 k hlt
      have hg := hg hlt
      have hle : gcdI y (gI T k) ≤ 1000000000000 := gcdI_le (by omega) (by omega) (by omega) (by omega)
      have hge := gcdI_nn y (gI T k)
      rw [hg] at hle hge
      have HG := Lib.hid hg
      have HN : Hid (k + 1 < T.length → gcdI (eI T k) (gI T (k + 1)) = eI T (k + 1)) := Lib.hid (fun _ => rfl)
      have HY := Lib.hid (eTo_succ T k)
      have hsz := hbl.size
      clear hcs hg
      generalize gI T k = x at hc hx HG
      go_wp2_with fail
      refine (divisor_c y x _ (by omega) (by omega) (by omega) (by omega)).mono ?_
      rintro e w1 ⟨rfl, hd⟩
      rw [HG.out]
      have hbl1 := hbl.trans (hd.below _)
      have hown1 := hown.below (hd.below wo.heap.size) (Nat.le_refl _)
      have hsz1 := hbl1.size
      generalize eI T k = z at hle hge HN HY
      go_wp2_with (at_builtin; refine wpList_push rfl (.tmp 17) (.tmp 19) 22 rfl w.heap.size 2 i0 Try.underlying22 hi hz0 hz1 hz2 u3 (eTo T k) z rfl hown1 rfl (by simp; omega) hsz1 ?_; intro v' w2 hown' hkp)
      have hbl' := hbl1.trans (hkp.below hsz1 (fun g hg => (hown1.block g hg).1))
      rw [← HY.out] at hown'
      go_roundw
      case rel => exact ⟨k + 1, z, by omega, by go_num, rfl, by omega, HN.out, hown', hbl'⟩
      case measure => simp [intOf]; omega
    · go_wp2
      have hk' : k = T.length := by omega
      subst hk'
      go_ret
      exact retI_mk hown hbl

theorem ascends_c (v : Value) (T : List Int) (w : World) (h : Rd w v T) :
    Calls Try.prog 130 #[v] w fun e w' => e = .returned (.bool (ascB T)) ∧ Drew w w' := by
  obtain ⟨a, cap, rfl, hcap1, hcap2, hrd⟩ := h
  go_enter Try.func130, Try.ntmps130
  go_wp2
  go_loopw [3] (fun i wr => ∃ k : Nat, i = .int .i64 ((k : Int) + 1) ∧ (k = 0 ∨ k < T.length) ∧ (∀ j, j < k → gI T j < gI T (j + 1)) ∧ Drew w wr) (fun i _ => T.length - (intOf i).toNat)
  case atStart => exact ⟨0, rfl, .inl rfl, fun j hj => by omega, Drew.refl _⟩
  case round =>
    obtain ⟨k, rfl, hk, hall, n, rfl⟩ := hrel
    by_cases hlt : k + 1 < T.length
    · obtain ⟨b, off, rfl, hb, hcs⟩ := hrd (ne_of_lt_len hlt)
      have hc1 := hcs (k + 1) hlt
      have hc0 := hcs k (by omega)
      have hk1 : (k : Int) + 1 < (T.length : Int) := by omega
      have hk2 : (k : Int) < (T.length : Int) := by omega
      have e1 : ((k : Int) + 1).toNat = k + 1 := by omega
      have e2 : (k : Int) + 1 - 1 = (k : Int) := by omega
      have HY : Hid (gI T k < gI T (k + 1) → ∀ j, j < k + 1 → gI T j < gI T (j + 1)) := Lib.hid (fun h j hj => by
        by_cases e : j = k
        · rw [e]; exact h
        · exact hall j (by omega))
      have HN : Hid (gI T (k + 1) ≤ gI T k → ascB T = false) := Lib.hid (fun h => ascB_no hlt h)
      clear hcs hall hrd
      generalize gI T (k + 1) = y at hc1 HY HN
      generalize gI T k = x at hc0 HY HN
      by_cases hxy : y ≤ x
      · have HF := Lib.hid (HN.out hxy)
        clear HY HN
        go_wp2
        go_quiet (fail)
        go_wp2
        go_ret
        exact ⟨ret_bool HF.out.symm, by first | exact Drew.one _ _ | exact Drew.two _ _ _⟩
      · have HA := Lib.hid (HY.out (by omega))
        clear HY HN
        go_wp2
        go_quiet (fail)
        go_wp2
        go_roundw
        case rel => exact ⟨k + 1, by go_num, .inr (by omega), HA.out, by first | exact Drew.one _ _ | exact Drew.two _ _ _⟩
        case measure => simp [intOf]; omega
    · have HA := Lib.hid (ascB_iff.2 (fun i hi => hall i (by omega)))
      have hk1 : (T.length : Int) ≤ (k : Int) + 1 := by omega
      go_wp2
      go_ret
      exact ⟨ret_bool HA.out.symm, Drew.one _ _⟩

set_option maxHeartbeats 1000000 in
theorem falls_c (v : Value) (T : List Int) (w : World) (h : Rd w v T) (hp : 0 < T.length) (hn : T.length ≤ 2000) (h0 : ∀ i, i < T.length → 1 ≤ gI T i ∧ gI T i ≤ 1000000000000) :
    Calls Try.prog 132 #[v] w fun e w' => e = .returned (.bool (fallB T)) ∧ Below w.heap.size w w' := by
  go_enter Try.func132, Try.ntmps132
  go_wp2_with fail
  refine (divisors_c _ T _ h hn h0).mono ?_
  rintro e w1 ⟨g, cap, rfl, ho, hb⟩
  obtain ⟨g', cap', hge, hg0, hg1, hg2, hg3⟩ := Own.pos ho (by simp; omega)
  injection hge with hge1 hge2 hge3
  subst hge1 hge3
  clear hge2
  rw [eTo_len] at ho hg2 ⊢
  have hcell : ∀ i, i < T.length → w1.cell? ⟨g', i, none⟩ = some (.int .i64 (eI T i)) := fun i hi => by
    have := Own.cell (xs := eTo T T.length) (by rw [eTo_len]; exact ho) i (by simp; omega)
    rw [gI_eTo hi] at this; exact this
  clear ho
  go_wp2
  go_loopw [4] (fun i wr => ∃ k : Nat, i = .int .i64 ((k : Int) + 1) ∧ k < T.length ∧ (∀ j, j < k → eI T (j + 1) < eI T j) ∧ Drew w1 wr) (fun i _ => T.length - (intOf i).toNat)
  case atStart => exact ⟨0, rfl, hp, fun j hj => by omega, Drew.refl _⟩
  case round =>
    obtain ⟨k, rfl, hk, hall, n, rfl⟩ := hrel
    by_cases hlt : k + 1 < T.length
    · have hc1 := hcell (k + 1) hlt
      have hc0 := hcell k (by omega)
      have hk1 : (k : Int) + 1 < (T.length : Int) := by omega
      have hk2 : (k : Int) < (T.length : Int) := by omega
      have e1 : ((k : Int) + 1).toNat = k + 1 := by omega
      have e2 : (k : Int) + 1 - 1 = (k : Int) := by omega
      have HY : Hid (eI T (k + 1) < eI T k → ∀ j, j < k + 1 → eI T (j + 1) < eI T j) := Lib.hid (fun h j hj => by
        by_cases e : j = k
        · rw [e]; exact h
        · exact hall j (by omega))
      have HN : Hid (eI T k ≤ eI T (k + 1) → fallB T = false) := Lib.hid (fun h => fallB_no hlt h)
      clear hcell hall
      generalize eI T (k + 1) = y at hc1 HY HN
      generalize eI T k = x at hc0 HY HN
      by_cases hxy : x ≤ y
      · have HF := Lib.hid (HN.out hxy)
        clear HY HN
        go_wp2
        go_quiet (fail)
        go_wp2
        go_ret
        exact ⟨ret_bool HF.out.symm, (hb.trans ((Drew.refl w1).below _)).trans (by first | exact (Drew.one _ _).below _ | exact (Drew.two _ _ _).below _)⟩
      · have HA := Lib.hid (HY.out (by omega))
        clear HY HN
        go_wp2
        go_quiet (fail)
        go_wp2
        go_roundw
        case rel => exact ⟨k + 1, by go_num, by omega, HA.out, by first | exact Drew.one _ _ | exact Drew.two _ _ _⟩
        case measure => simp [intOf]; omega
    · have hk' : k + 1 = T.length := by omega
      have HA := Lib.hid (fallB_end (T := T) (fun i hi => hall i (by omega)))
      have hk1 : (T.length : Int) ≤ (k : Int) + 1 := by omega
      have hcl := hcell k hk
      have e1 : T.length - 1 = k := by omega
      rw [e1] at HA
      have e3 : ((T.length : Int) - 1).toNat = k := by omega
      have e4 : (0 : Int) ≤ (T.length : Int) - 1 := by omega
      clear hk' e1 hcell hall
      generalize eI T k = z at hcl HA
      go_wp2
      go_ret
      exact ⟨ret_bool HA.out.symm, (hb.trans ((Drew.one w1 n).below _))⟩
end Go.Proofs.Ythpnmkghjnipoaa
