/- Contracts: spec.l01Same and slices.Equal on slices of integers. -/
import Derived.Test.YtiinceflafigeaaLib
namespace Go.Proofs.Ytiinceflafigeaa
open Go.RowKit

set_option maxHeartbeats 400000 in
theorem l01Same_c (v u : Value) (xs ys : List Int) (w : World) (h : Rd w v xs) (h' : Rd w u ys) :
    Calls Try.prog 235 #[v, u] w fun e w' => e = .returned (.bool (eqB xs ys)) ∧ Drew w w' := by
  obtain ⟨a, cap, rfl, hcap1, hcap2, hrd⟩ := h
  obtain ⟨a', cap', rfl, hcap1', hcap2', hrd'⟩ := h'
  by_cases hl : xs.length = ys.length
  · have HL := Lib.hid hl
    have hd : ((xs.length : Int) != (ys.length : Int)) = false := by simp [hl]
    clear hl
    go_enter Try.func235, Try.ntmps235
    go_wp2
    go_loopw [5] (fun i wr => ∃ k : Nat, k ≤ xs.length ∧ i = .int .i64 k ∧ xs.take k = ys.take k ∧ Drew w wr) (fun i _ => xs.length - (intOf i).toNat)
    case atStart => exact ⟨0, Nat.zero_le _, rfl, rfl, Drew.refl _⟩
    case round =>
      obtain ⟨k, hk, rfl, ht, n, rfl⟩ := hrel
      by_cases hlt : k < xs.length
      · have hlt' : k < ys.length := by have := HL.out; omega
        obtain ⟨b, off, rfl, hbl, hcs⟩ := hrd (ne_of_lt_len hlt)
        obtain ⟨b', off', rfl, hbl', hcs'⟩ := hrd' (ne_of_lt_len hlt')
        have hc := hcs k hlt
        have hc' := hcs' k hlt'
        have HT := Lib.hid (take_eq_step ht hlt hlt')
        have HN : Hid (gI xs k ≠ gI ys k → eqB xs ys = false) := Lib.hid (by
          intro hne; simp only [eqB, decide_eq_false_iff_not]; intro e; exact hne (by rw [e]))
        clear ht hcs hcs' hrd hrd'
        generalize gI xs k = x at hc HT HN
        generalize gI ys k = y at hc' HT HN
        by_cases hxy : x = y
        · subst hxy
          have HT' := Lib.hid (HT.out rfl)
          clear HT HN
          go_wp2
          go_quiet (fail)
          go_wp2
          go_roundw
          case rel => exact ⟨k + 1, by omega, by go_num, HT'.out, by first | exact Drew.one _ _ | exact Drew.two _ _ _ | exact Drew.refl _⟩
          case measure => simp [intOf]; omega
        · have hf := Lib.hid (HN.out hxy)
          have hxb : (x != y) = true := by simp [hxy]
          clear HT HN hxy
          go_wp2
          go_quiet (fail)
          go_wp2
          go_ret
          exact ⟨ret_bool hf.out.symm, by first | exact Drew.one _ _ | exact Drew.two _ _ _ | exact Drew.refl _⟩
      · go_wp2
        go_ret
        refine ⟨ret_bool ?_, Drew.one _ _⟩
        have hl := HL.out
        rw [List.take_of_length_le (by omega), List.take_of_length_le (by omega)] at ht
        simp [eqB, ht]
  · have HE : Hid (eqB xs ys = false) := Lib.hid (by simp only [eqB, decide_eq_false_iff_not]; intro e; exact hl (by rw [e]))
    have hd : ((xs.length : Int) != (ys.length : Int)) = true := by simp; omega
    clear hl
    go_enter Try.func235, Try.ntmps235
    go_wp2
    go_ret
    exact ⟨ret_bool HE.out.symm, Drew.refl _⟩

set_option maxHeartbeats 400000 in
theorem slicesEqual_c (v u : Value) (xs ys : List Int) (w : World) (h : Rd w v xs) (h' : Rd w u ys) :
    Calls Try.prog 188 #[v, u] w fun e w' => e = .returned (.bool (eqB xs ys)) ∧ Drew w w' := by
  obtain ⟨a, cap, rfl, hcap1, hcap2, hrd⟩ := h
  obtain ⟨a', cap', rfl, hcap1', hcap2', hrd'⟩ := h'
  by_cases hl : xs.length = ys.length
  · have HL := Lib.hid hl
    have hd : ((xs.length : Int) != (ys.length : Int)) = false := by simp [hl]
    clear hl
    go_enter Try.func188, Try.ntmps188
    go_wp2
    go_loopw [5, 13] (fun _ i wr => ∃ k : Nat, k ≤ xs.length ∧ i = .int .i64 k ∧ xs.take k = ys.take k ∧ Drew w wr) (fun _ i _ => xs.length - (intOf i).toNat)
    case atStart => exact ⟨0, Nat.zero_le _, rfl, rfl, Drew.refl _⟩
    case round =>
      obtain ⟨k, hk, rfl, ht, n, rfl⟩ := hrel
      by_cases hlt : k < xs.length
      · have hlt' : k < ys.length := by have := HL.out; omega
        obtain ⟨b, off, rfl, hbl, hcs⟩ := hrd (ne_of_lt_len hlt)
        obtain ⟨b', off', rfl, hbl', hcs'⟩ := hrd' (ne_of_lt_len hlt')
        have hc := hcs k hlt
        have hc' := hcs' k hlt'
        have HT := Lib.hid (take_eq_step ht hlt hlt')
        have HN : Hid (gI xs k ≠ gI ys k → eqB xs ys = false) := Lib.hid (by
          intro hne; simp only [eqB, decide_eq_false_iff_not]; intro e; exact hne (by rw [e]))
        clear ht hcs hcs' hrd hrd'
        generalize gI xs k = x at hc HT HN
        generalize gI ys k = y at hc' HT HN
        by_cases hxy : x = y
        · subst hxy
          have HT' := Lib.hid (HT.out rfl)
          clear HT HN
          go_wp2
          go_quiet (fail)
          go_wp2
          go_roundw
          case rel => exact ⟨k + 1, by omega, by go_num, HT'.out, by first | exact Drew.one _ _ | exact Drew.two _ _ _ | exact Drew.refl _⟩
          case measure => simp [intOf]; omega
        · have hf := Lib.hid (HN.out hxy)
          have hxb : (x != y) = true := by simp [hxy]
          clear HT HN hxy
          go_wp2
          go_quiet (fail)
          go_wp2
          go_ret
          exact ⟨ret_bool hf.out.symm, by first | exact Drew.one _ _ | exact Drew.two _ _ _ | exact Drew.refl _⟩
      · go_wp2
        go_ret
        refine ⟨ret_bool ?_, Drew.one _ _⟩
        have hl := HL.out
        rw [List.take_of_length_le (by omega), List.take_of_length_le (by omega)] at ht
        simp [eqB, ht]
  · have HE : Hid (eqB xs ys = false) := Lib.hid (by simp only [eqB, decide_eq_false_iff_not]; intro e; exact hl (by rw [e]))
    have hd : ((xs.length : Int) != (ys.length : Int)) = true := by simp; omega
    clear hl
    go_enter Try.func188, Try.ntmps188
    go_wp2
    go_ret
    exact ⟨ret_bool HE.out.symm, Drew.refl _⟩

end Go.Proofs.Ytiinceflafigeaa

/- Contract: impl.begins, where a list begins with another one. -/
namespace Go.Proofs.Ytiinceflafigeaa
open Go.RowKit

theorem gI_app_front {xs ys : List Int} {i : Nat} (h : i < xs.length) : gI (xs ++ ys) i = gI xs i := gI_app_lt h
set_option maxHeartbeats 1000000 in
theorem begins_c (b off cap : Nat) (u : Value) (hd ys : List Int) (w : World) (hp : 0 < hd.length) (h : Rd w (.slice (some ⟨b, off, none⟩) (hd ++ ys).length cap) (hd ++ ys)) (h' : Rd w u hd) :
    Calls Try.prog 223 #[.slice (some ⟨b, off, none⟩) (hd ++ ys).length cap, u] w fun e w' => e = .returned (.bool true) ∧ Drew w w' := by
  obtain ⟨a', cap', rfl⟩ := h'.len0
  obtain ⟨a1, c1, he, h1, h2, h3⟩ := h
  injection he with he1 he2 he3
  subst he1 he3
  have hle : hd.length ≤ (hd ++ ys).length := by simp
  have hrd : Rd w (.slice (some ⟨b, off, none⟩) hd.length cap) hd := by
    refine ⟨some ⟨b, off, none⟩, cap, rfl, by omega, h2, fun _ => ?_⟩
    obtain ⟨b2, off2, e1, e2, e3⟩ := h3 (by intro e; have h0 := congrArg List.length e; rw [List.length_append, List.length_nil] at h0; omega)
    injection e1 with e1
    injection e1 with e4 e5 _
    subst e4 e5
    exact ⟨b, off, rfl, e2, fun i hi => by rw [e3 i (by omega), gI_app_front hi]⟩
  have hse := eqB_self hd
  generalize (hd ++ ys).length = n at *
  have g1 : (hd.length : Int) ≤ (n : Int) := by omega
  have g2 : (hd.length : Int) ≤ (cap : Int) := by omega
  have g3 : (0 : Int) ≤ (hd.length : Int) := by omega
  have hHd := Lib.hid hrd
  have hH' := Lib.hid h'
  have hS := Lib.hid hse
  clear h3 hrd h' hse he2 hle
  generalize hm : hd.length = m at *
  have HM := Lib.hid hm
  clear hm
  go_enter Try.func223, Try.ntmps223
  go_wp2_with fail
  refine (slicesEqual_c _ _ hd hd _ (by have := hHd.out; exact this) (by have := hH'.out; exact this)).mono ?_
  rintro e w1 ⟨rfl, hb⟩
  rw [hS.out]
  go_wp2
  go_ret
  exact ⟨rfl, hb⟩
end Go.Proofs.Ytiinceflafigeaa
