/- Contracts: spec.l01Value, l07Integer. -/
import Derived.Test.YtiinceflafigeaaDoorTxtO
namespace Go.Proofs.YtiinceflafigeaaDoor
open Go.RowKit

theorem dg_get (s : ByteArray) : ∀ k (h : k < s.size), digB (s[k]'h) = true → valN ((lB s).take (k + 1)) = valN ((lB s).take k) * 10 + ((s[k]'h).toNat - 48) := by
  intro k h _
  have h' : k < (lB s).length := by rw [lB_len]; exact h
  rw [take_dig h', valN_snoc, lB_get h h']
theorem dg_all (s : ByteArray) : ∀ k (h : k < s.size), (∀ x ∈ (lB s).take k, digB x = true) → digB (s[k]'h) = true → ∀ x ∈ (lB s).take (k + 1), digB x = true := by
  intro k h h1 h2 x hx
  have h' : k < (lB s).length := by rw [lB_len]; exact h
  rw [take_dig h', lB_get h h', List.mem_append] at hx
  rcases hx with hx | hx
  · exact h1 x hx
  · simp only [List.mem_singleton] at hx; rw [hx]; exact h2
theorem dg_no (s : ByteArray) : ∀ k (h : k < s.size), digB (s[k]'h) = false → numB (lB s) = false := by
  intro k h h1
  have h' : k < (lB s).length := by rw [lB_len]; exact h
  cases c : numB (lB s)
  · rfl
  · have := (canB_iff.1 (numB_iff.1 c).1).2.1 _ (List.getElem_mem h')
    rw [lB_get h h', h1] at this; cases this
theorem dg_ten (s : ByteArray) : 9 < s.size → numB (lB s) = false := by
  intro h
  cases c : numB (lB s)
  · rfl
  · have := (numB_iff.1 c).2
    rw [lB_len] at this; omega
theorem dg_zero (s : ByteArray) : s.size = 0 → numB (lB s) = false := by
  intro h
  cases c : numB (lB s)
  · rfl
  · have := (canB_iff.1 (numB_iff.1 c).1).1
    have h2 : lB s = [] := List.eq_nil_of_length_eq_zero (by rw [lB_len]; exact h)
    exact absurd h2 this
theorem dg_lead (s : ByteArray) : ∀ (h : 0 < s.size), 1 < s.size → (s[0]'h).toNat = 48 → numB (lB s) = false := by
  intro h h1 h2
  cases c : numB (lB s)
  · rfl
  · have h3 := (canB_iff.1 (numB_iff.1 c).1).2.2 (by rw [lB_len]; exact h1)
    exfalso
    apply h3
    have h' : 0 < (lB s).length := by rw [lB_len]; exact h
    rw [List.head?_eq_getElem?, List.getElem?_eq_getElem h', lB_get h h']
    congr 1
    exact UInt8.toNat_inj.1 (by rw [h2]; rfl)
theorem dg_yes (s : ByteArray) : ∀ (h : 0 < s.size), s.size ≤ 9 → (∀ x ∈ (lB s).take s.size, digB x = true) → (1 < s.size → (s[0]'h).toNat ≠ 48) → numB (lB s) = true := by
  intro h h9 h1 h2
  have e : (lB s).take s.size = lB s := List.take_of_length_le (by rw [lB_len]; exact Nat.le_refl _)
  rw [e] at h1
  refine numB_iff.2 ⟨canB_iff.2 ⟨fun e => ?_, h1, fun h3 h4 => ?_⟩, by rw [lB_len]; exact h9⟩
  · have h5 := congrArg List.length e; rw [lB_len] at h5; have h6 : s.size = 0 := h5; omega
  · rw [lB_len] at h3
    have h' : 0 < (lB s).length := by rw [lB_len]; exact h
    rw [List.head?_eq_getElem?, List.getElem?_eq_getElem h', lB_get h h'] at h4
    injection h4 with h4
    apply h2 h3
    rw [h4]; rfl
theorem dg_val (s : ByteArray) : ∀ k, k ≤ 9 → k ≤ s.size → (∀ x ∈ (lB s).take k, digB x = true) → valN ((lB s).take k) < 1000000000 := by
  intro k h9 hk h1
  have h2 := valN_bd _ h1
  rw [List.length_take, lB_len] at h2
  have h3 : 10 ^ min k s.size ≤ 10 ^ 9 := Nat.pow_le_pow_right (by omega) (by omega)
  omega
theorem dg_all2 (s : ByteArray) : valN ((lB s).take s.size) = valN (lB s) := by rw [List.take_of_length_le (by rw [lB_len]; exact Nat.le_refl _)]
set_option maxHeartbeats 4000000 in
theorem l01Value_c (s : ByteArray) (w : World) (hs : s.size ≤ 4194304) :
    Calls Tryd.prog 40 #[.string s] w fun e w' => e = .returned (.int .i64 (valI (lB s))) ∧ w = w' := by
  by_cases h0 : s.size = 0
  · have hv := valI_no (dg_zero s h0)
    have HV := Lib.hid hv
    have hb : ((s.size : Int) == 0) = true := by rw [h0]; rfl
    clear hv h0
    go_enter Tryd.func40, Tryd.ntmps40
    go_wp2
    go_ret
    exact ⟨by rw [HV.out]; rfl, rfl⟩
  · have hb : ((s.size : Int) == 0) = false := beq_eq_false_iff_ne.2 (by omega)
    by_cases h9 : 9 < s.size
    · have hv := valI_no (dg_ten s h9)
      have HV := Lib.hid hv
      have hg : (s.size : Int) > 9 := by omega
      clear hv h0 h9
      go_enter Tryd.func40, Tryd.ntmps40
      go_wp2
      go_ret
      exact ⟨by rw [HV.out]; rfl, rfl⟩
    · have hg : ¬ (s.size : Int) > 9 := by omega
      have hp : 0 < s.size := by omega
      by_cases h1 : 1 < s.size
      · have h1g : (s.size : Int) > 1 := by omega
        by_cases hz : (s[0]'hp).toNat = 48
        · have hv := valI_no (dg_lead s hp h1 hz)
          have HV := Lib.hid hv
          have hzb : (((s[0]'hp).toNat : Int) == 48) = true := by rw [hz]; rfl
          clear hv hz h0 h1 h9
          go_enter Tryd.func40, Tryd.ntmps40
          go_wp2
          go_ret
          exact ⟨by rw [HV.out]; rfl, rfl⟩
        · have hzb : (((s[0]'hp).toNat : Int) == 48) = false := beq_eq_false_iff_ne.2 (by omega)
          have HY := Lib.hid (dg_yes s hp (by omega))
          have HL : Hid (1 < s.size → (s[0]'hp).toNat ≠ 48) := Lib.hid (fun _ => hz)
          have HG := Lib.hid (dg_get s)
          have HA := Lib.hid (dg_all s)
          have HN := Lib.hid (dg_no s)
          have HV := Lib.hid (dg_val s)
          have H2 := Lib.hid (dg_all2 s)
          clear hz h0
          go_enter Tryd.func40, Tryd.ntmps40
          go_wp2
          go_loop [3, 4] (fun nv iv => ∃ k : Nat, k ≤ s.size ∧ iv = .int .i64 (k : Int) ∧ nv = .int .i64 ((valN ((lB s).take k) : Nat) : Int) ∧ Hid (∀ x ∈ (lB s).take k, digB x = true)) (fun _ iv => s.size - (intOf iv).toNat)
          case atStart => exact ⟨0, Nat.zero_le _, rfl, rfl, Lib.hid (by simp)⟩
          case round =>
            obtain ⟨k, hk, rfl, rfl, HD⟩ := hrel
            have hv := HV.out k (by omega) hk HD.out
            by_cases hlt : k < s.size
            · have hu := (s[k]'hlt).toNat_lt
              have hki : (k : Int) < (s.size : Int) := by omega
              cases hd : digB (s[k]'hlt)
              · have HF := Lib.hid (valI_no (HN.out k hlt hd))
                have hnd : ¬ ((48 : Int) ≤ ((s[k]'hlt).toNat : Int) ∧ ((s[k]'hlt).toNat : Int) ≤ 57) := fun h => by rw [dig_ge.2 h] at hd; cases hd
                clear hd HY HL HG HA HN HV H2 HD hv
                generalize valN ((lB s).take k) = n at *
                by_cases h48 : ((s[k]'hlt).toNat : Int) < 48
                · clear hnd
                  go_wp2
                  go_ret
                  exact ⟨by rw [HF.out]; rfl, rfl⟩
                · have h57 : ((s[k]'hlt).toNat : Int) > 57 := by omega
                  clear hnd
                  go_wp2
                  go_ret
                  exact ⟨by rw [HF.out]; rfl, rfl⟩
              · obtain ⟨h48, h57⟩ := dig_ge.1 hd
                have h48' : ¬ ((s[k]'hlt).toNat : Int) < 48 := by omega
                have h57' : ¬ ((s[k]'hlt).toNat : Int) > 57 := by omega
                have HGK := Lib.hid (HG.out k hlt hd)
                have HDK := Lib.hid (HA.out k hlt HD.out hd)
                have hn10 : ((valN ((lB s).take k) : Nat) : Int) < 1000000000 := by omega
                have hk9 : k < 9 := by omega
                clear hd HY HL HG HA HN HV H2 HD hv
                generalize valN ((lB s).take k) = n at *
                have hw1 : IntKind.u8.wrap (((s[k]'hlt).toNat : Int) - 48) = ((s[k]'hlt).toNat : Int) - 48 := IntWalk.u8_in _ (by omega)
                have HR : Hid ((n : Int) * 10 + (((s[k]'hlt).toNat : Int) - 48) = ((n * 10 + ((s[k]'hlt).toNat - 48) : Nat) : Int)) := Lib.hid (by omega)
                go_wp2
                go_round
                case rel => exact ⟨k + 1, by omega, by go_num, by rw [HGK.out, ← HR.out], HDK⟩
                case measure => simp [intOf]; omega
            · have hke : k = s.size := by omega
              have hki : ¬ (k : Int) < (s.size : Int) := by omega
              have HF : Hid (valI (lB s) = ((valN ((lB s).take k) : Nat) : Int)) := Lib.hid (by rw [valI_yes (HY.out (by rw [← hke]; exact HD.out) HL.out), hke, H2.out])
              clear HY HL HG HA HN HV H2 HD hv hke
              generalize valN ((lB s).take k) = n at *
              go_wp2
              go_ret
              exact ⟨by rw [HF.out]; rfl, rfl⟩
      · have h1g : ¬ (s.size : Int) > 1 := by omega
        have HY := Lib.hid (dg_yes s hp (by omega))
        have HL : Hid (1 < s.size → (s[0]'hp).toNat ≠ 48) := Lib.hid (fun h => absurd h h1)
        have HG := Lib.hid (dg_get s)
        have HA := Lib.hid (dg_all s)
        have HN := Lib.hid (dg_no s)
        have HV := Lib.hid (dg_val s)
        have H2 := Lib.hid (dg_all2 s)
        clear h0 h1
        go_enter Tryd.func40, Tryd.ntmps40
        go_wp2
        go_loop [3, 4] (fun nv iv => ∃ k : Nat, k ≤ s.size ∧ iv = .int .i64 (k : Int) ∧ nv = .int .i64 ((valN ((lB s).take k) : Nat) : Int) ∧ Hid (∀ x ∈ (lB s).take k, digB x = true)) (fun _ iv => s.size - (intOf iv).toNat)
        case atStart => exact ⟨0, Nat.zero_le _, rfl, rfl, Lib.hid (by simp)⟩
        case round =>
          obtain ⟨k, hk, rfl, rfl, HD⟩ := hrel
          have hv := HV.out k (by omega) hk HD.out
          by_cases hlt : k < s.size
          · have hu := (s[k]'hlt).toNat_lt
            have hki : (k : Int) < (s.size : Int) := by omega
            cases hd : digB (s[k]'hlt)
            · have HF := Lib.hid (valI_no (HN.out k hlt hd))
              have hnd : ¬ ((48 : Int) ≤ ((s[k]'hlt).toNat : Int) ∧ ((s[k]'hlt).toNat : Int) ≤ 57) := fun h => by rw [dig_ge.2 h] at hd; cases hd
              clear hd HY HL HG HA HN HV H2 HD hv
              generalize valN ((lB s).take k) = n at *
              by_cases h48 : ((s[k]'hlt).toNat : Int) < 48
              · clear hnd
                go_wp2
                go_ret
                exact ⟨by rw [HF.out]; rfl, rfl⟩
              · have h57 : ((s[k]'hlt).toNat : Int) > 57 := by omega
                clear hnd
                go_wp2
                go_ret
                exact ⟨by rw [HF.out]; rfl, rfl⟩
            · obtain ⟨h48, h57⟩ := dig_ge.1 hd
              have h48' : ¬ ((s[k]'hlt).toNat : Int) < 48 := by omega
              have h57' : ¬ ((s[k]'hlt).toNat : Int) > 57 := by omega
              have HGK := Lib.hid (HG.out k hlt hd)
              have HDK := Lib.hid (HA.out k hlt HD.out hd)
              have hn10 : ((valN ((lB s).take k) : Nat) : Int) < 1000000000 := by omega
              have hk9 : k < 9 := by omega
              clear hd HY HL HG HA HN HV H2 HD hv
              generalize valN ((lB s).take k) = n at *
              have hw1 : IntKind.u8.wrap (((s[k]'hlt).toNat : Int) - 48) = ((s[k]'hlt).toNat : Int) - 48 := IntWalk.u8_in _ (by omega)
              have HR : Hid ((n : Int) * 10 + (((s[k]'hlt).toNat : Int) - 48) = ((n * 10 + ((s[k]'hlt).toNat - 48) : Nat) : Int)) := Lib.hid (by omega)
              go_wp2
              go_round
              case rel => exact ⟨k + 1, by omega, by go_num, by rw [HGK.out, ← HR.out], HDK⟩
              case measure => simp [intOf]; omega
          · have hke : k = s.size := by omega
            have hki : ¬ (k : Int) < (s.size : Int) := by omega
            have HF : Hid (valI (lB s) = ((valN ((lB s).take k) : Nat) : Int)) := Lib.hid (by rw [valI_yes (HY.out (by rw [← hke]; exact HD.out) HL.out), hke, H2.out])
            clear HY HL HG HA HN HV H2 HD hv hke
            generalize valN ((lB s).take k) = n at *
            go_wp2
            go_ret
            exact ⟨by rw [HF.out]; rfl, rfl⟩
theorem valI_lt (l : List UInt8) : valI l < 0 → valI l = -1 := fun h => by have := valI_bd l; omega
end Go.Proofs.YtiinceflafigeaaDoor
