/- Texts as the program holds them; contracts: impl.parted, digitsOf, numberOf, signedOf, pointOf. -/
import Derived.Test.YtglghdkjppcedaaGreatDoorPart25
import Derived.Test.YtglghdkjppcedaaGreatDoorPart14
import Derived.BigQuiet
namespace Go.Proofs.YtglghdkjppcedaaGreatDoor
open Go.RowKit

/-- The bytes of a text. -/
def lB (s : ByteArray) : List UInt8 := s.data.toList
theorem lB_len (s : ByteArray) : (lB s).length = s.size := by simp [lB]
theorem lB_get {s : ByteArray} {k : Nat} (h : k < s.size) (hl : k < (lB s).length) : (lB s)[k]'hl = s[k]'h := by simp [lB]; rfl
theorem lB_cut (s : ByteArray) (a b : Nat) : lB (s.extract a b) = ((lB s).drop a).take (b - a) := by simp [lB, ByteArray.data_extract]
theorem lB_inj {s t : ByteArray} (h : lB s = lB t) : s = t := by
  apply ByteArray.ext
  exact Array.toList_inj.1 h
theorem lB_app (s t : ByteArray) : lB (s ++ t) = lB s ++ lB t := by simp [lB, ByteArray.data_append]
/-- Two texts and a truth. -/
def RetPa (w : World) (u r : List UInt8) (b : Bool) (e : Ending) (w' : World) : Prop := ∃ x y, e = .returned (.tuple #[.string x, .string y, .bool b]) ∧ lB x = u ∧ lB y = r ∧ Drew w w'
set_option maxHeartbeats 1000000 in
theorem parted_yes (s : ByteArray) (c : UInt8) (u r : List UInt8) (w : World) (hs : s.size ≤ 137438953472) (he : lB s = u ++ c :: r) (hu : c ∉ u) :
    Calls Tryz.prog 79 #[.string s, .int .u8 (c.toNat : Int)] w (RetPa w u r true) := by
  have hl : s.size = u.length + (r.length + 1) := by rw [← lB_len, he]; simp
  have hget : ∀ k (h : k < s.size), k < u.length → (((s[k]'h).toNat : Int) == (c.toNat : Int)) = false := by
    intro k h hk
    have h2 := lB_get h (by rw [lB_len]; exact h)
    rw [beq_eq_false_iff_ne]
    intro e
    have e2 : s[k]'h = c := UInt8.toNat_inj.1 (by omega)
    apply hu
    rw [← e2, ← h2]
    simp only [he]
    rw [List.getElem_append_left hk]
    exact List.getElem_mem hk
  have hat : ∀ (h : u.length < s.size), (((s[u.length]'h).toNat : Int) == (c.toNat : Int)) = true := by
    intro h
    have h2 := lB_get h (by rw [lB_len]; exact h)
    have e2 : s[u.length]'h = c := by
      rw [← h2]
      simp only [he]
      rw [List.getElem_append_right (Nat.le_refl _)]; simp
    rw [e2]; simp
  have hx : lB (s.extract 0 u.length) = u := by rw [lB_cut, he]; simp
  have hy : lB (s.extract (u.length + 1) s.size) = r := by
    have h1 : List.drop (u.length + 1) (u ++ c :: r) = r := by
      rw [show u ++ c :: r = (u ++ [c]) ++ r by simp, List.drop_append_of_le_length (by simp), List.drop_eq_nil_of_le (by simp)]; rfl
    rw [lB_cut, he, h1, List.take_of_length_le (by omega)]
  have HG := Lib.hid hget
  have HA := Lib.hid hat
  have HX := Lib.hid hx
  have HY := Lib.hid hy
  have hl1 : u.length < s.size := by omega
  clear hget hat hx hy hl he hu
  go_enter Tryz.func79, Tryz.ntmps79
  go_wp2
  go_loop [7] (fun iv => ∃ k : Nat, k ≤ u.length ∧ iv = .int .i64 (k : Int)) (fun iv => s.size - (intOf iv).toNat)
  case atStart => exact ⟨0, Nat.zero_le _, rfl⟩
  case round =>
    obtain ⟨k, hk, rfl⟩ := hrel
    have hks : k < s.size := by omega
    by_cases hlt : k < u.length
    · have hb := HG.out k hks hlt
      go_wp2
      go_round
      case rel => exact ⟨k + 1, by omega, by go_num⟩
      case measure => simp [intOf]; omega
    · have hke : k = u.length := by omega
      subst hke
      have hb := HA.out hks
      go_wp2_with fail
      go_quiet (fail)
      go_wp2
      go_ret3
      exact ⟨_, _, rfl, HX.out, HY.out, Drew.one _ _⟩
set_option maxHeartbeats 1000000 in
theorem parted_no (s : ByteArray) (c : UInt8) (w : World) (hs : s.size ≤ 137438953472) (hc : c ∉ lB s) :
    Calls Tryz.prog 79 #[.string s, .int .u8 (c.toNat : Int)] w (RetPa w (lB s) [] false) := by
  have hget : ∀ k (h : k < s.size), (((s[k]'h).toNat : Int) == (c.toNat : Int)) = false := by
    intro k h
    have h2 := lB_get h (by rw [lB_len]; exact h)
    rw [beq_eq_false_iff_ne]
    intro e
    have e2 : s[k]'h = c := UInt8.toNat_inj.1 (by omega)
    apply hc
    rw [← e2, ← h2]
    exact List.getElem_mem _
  have HG := Lib.hid hget
  clear hget hc
  go_enter Tryz.func79, Tryz.ntmps79
  go_wp2
  go_loop [7] (fun iv => ∃ k : Nat, k ≤ s.size ∧ iv = .int .i64 (k : Int)) (fun iv => s.size - (intOf iv).toNat)
  case atStart => exact ⟨0, Nat.zero_le _, rfl⟩
  case round =>
    obtain ⟨k, hk, rfl⟩ := hrel
    by_cases hlt : k < s.size
    · have hb := HG.out k hlt
      go_wp2
      go_round
      case rel => exact ⟨k + 1, by omega, by go_num⟩
      case measure => simp [intOf]; omega
    · go_wp2
      go_ret3
      exact ⟨_, _, rfl, rfl, rfl, Drew.refl _⟩

/-- A digit's test. -/
theorem dig_ge {x : UInt8} : digB x = true ↔ (48 : Int) ≤ (x.toNat : Int) ∧ (x.toNat : Int) ≤ 57 := by rw [digB_iff]; omega
theorem take_dig {l : List UInt8} {k : Nat} (h : k < l.length) : l.take (k + 1) = l.take k ++ [l[k]] := by rw [List.take_succ_eq_append_getElem h]
/-- What digitsOf hands back, as far as it is needed. -/
def RetDg (w : World) (t : List UInt8) (e : Ending) (w' : World) : Prop := ∃ (n : Int) (r : ByteArray) (b : Bool), e = .returned (.tuple #[.int .i64 n, .string r, .bool b]) ∧ 0 ≤ n ∧ n < 1000000000 ∧ (numB t = true → b = true ∧ lB r = [] ∧ n = valN t) ∧ (numB t = false → b = true → lB r ≠ []) ∧ Drew w w'
theorem retDg_no {w w' : World} {t : List UInt8} (h : numB t = false) (hd : Drew w w') : RetDg w t (.returned (.tuple #[.int .i64 0, .string ByteArray.empty, .bool false])) w' :=
  ⟨0, _, false, rfl, by omega, by omega, (fun h2 => by rw [h] at h2; cases h2), (fun _ h2 => by cases h2), hd⟩
set_option maxHeartbeats 4000000 in
theorem digitsOf_c (s : ByteArray) (w : World) (hs : s.size ≤ 137438953472) :
    Calls Tryz.prog 86 #[.string s] w (RetDg w (lB s)) := by
  have hget : ∀ k (h : k < s.size), digB (s[k]'h) = true → valN ((lB s).take (k + 1)) = valN ((lB s).take k) * 10 + ((s[k]'h).toNat - 48) := by
    intro k h _
    have h' : k < (lB s).length := by rw [lB_len]; exact h
    rw [take_dig h', valN_snoc, lB_get h h']
  have hall : ∀ k (h : k < s.size), (∀ x ∈ (lB s).take k, digB x = true) → digB (s[k]'h) = true → ∀ x ∈ (lB s).take (k + 1), digB x = true := by
    intro k h h1 h2 x hx
    have h' : k < (lB s).length := by rw [lB_len]; exact h
    rw [take_dig h', lB_get h h', List.mem_append] at hx
    rcases hx with hx | hx
    · exact h1 x hx
    · simp only [List.mem_singleton] at hx; rw [hx]; exact h2
  have hno : ∀ k (h : k < s.size), digB (s[k]'h) = false → numB (lB s) = false := by
    intro k h h1
    have h' : k < (lB s).length := by rw [lB_len]; exact h
    cases c : numB (lB s)
    · rfl
    · have := (canB_iff.1 (numB_iff.1 c).1).2.1 _ (List.getElem_mem h')
      rw [lB_get h h', h1] at this; cases this
  have hten : 9 < s.size → numB (lB s) = false := by
    intro h
    cases c : numB (lB s)
    · rfl
    · have := (numB_iff.1 c).2
      rw [lB_len] at this; omega
  have hzero : s.size = 0 → numB (lB s) = false := by
    intro h
    cases c : numB (lB s)
    · rfl
    · have := (canB_iff.1 (numB_iff.1 c).1).1
      have h2 : lB s = [] := List.eq_nil_of_length_eq_zero (by rw [lB_len]; exact h)
      exact absurd h2 this
  have hlead : ∀ (h : 0 < s.size), 1 < s.size → (s[0]'h).toNat = 48 → numB (lB s) = false := by
    intro h h1 h2
    cases c : numB (lB s)
    · rfl
    · have h3 := (canB_iff.1 (numB_iff.1 c).1).2.2 (by rw [lB_len]; exact h1)
      exfalso
      apply h3
      have h' : 0 < (lB s).length := by rw [lB_len]; exact h
      rw [List.head?_eq_getElem?, List.getElem?_eq_getElem h', lB_get h h']
      congr 1
      exact UInt8.toNat_inj.1 (by rw [h2]; rfl)
  have hyes : ∀ (h : 0 < s.size), s.size ≤ 9 → (∀ x ∈ (lB s).take s.size, digB x = true) → (1 < s.size → (s[0]'h).toNat ≠ 48) → numB (lB s) = true := by
    intro h h9 h1 h2
    have e : (lB s).take s.size = lB s := List.take_of_length_le (by rw [lB_len]; exact Nat.le_refl _)
    rw [e] at h1
    refine numB_iff.2 ⟨canB_iff.2 ⟨fun e => ?_, h1, fun h3 h4 => ?_⟩, by rw [lB_len]; exact h9⟩
    · have h5 := congrArg List.length e; rw [lB_len] at h5; have h6 : s.size = 0 := h5; omega
    · rw [lB_len] at h3
      have h' : 0 < (lB s).length := by rw [lB_len]; exact h
      rw [List.head?_eq_getElem?, List.getElem?_eq_getElem h', lB_get h h'] at h4
      injection h4 with h4
      apply h2 h3
      rw [h4]; rfl
  have hval : ∀ k, k ≤ 9 → k ≤ s.size → (∀ x ∈ (lB s).take k, digB x = true) → valN ((lB s).take k) < 1000000000 := by
    intro k h9 hk h1
    have h2 := valN_bd _ h1
    rw [List.length_take, lB_len] at h2
    have h3 : 10 ^ min k s.size ≤ 10 ^ 9 := Nat.pow_le_pow_right (by omega) (by omega)
    omega
  have hall2 : valN ((lB s).take s.size) = valN (lB s) := by rw [List.take_of_length_le (by rw [lB_len]; exact Nat.le_refl _)]
  have hcut : ∀ k, k < s.size → lB (s.extract k s.size) ≠ [] := by
    intro k hk e
    have := congrArg List.length e
    rw [lB_len] at this
    simp at this
    omega
  have hcut2 : lB (s.extract s.size s.size) = [] := by
    apply List.eq_nil_of_length_eq_zero
    rw [lB_len]; simp
  have HG := Lib.hid hget
  have HALL := Lib.hid hall
  have HNO := Lib.hid hno
  have HTEN := Lib.hid hten
  have HZ := Lib.hid hzero
  have HL := Lib.hid hlead
  have HY := Lib.hid hyes
  have HV := Lib.hid hval
  have HV2 := Lib.hid hall2
  have HC := Lib.hid hcut
  have HC2 := Lib.hid hcut2
  clear hget hall hno hten hzero hlead hyes hval hall2 hcut hcut2
  go_enter Tryz.func86, Tryz.ntmps86
  go_wp2
  go_loop [5, 6] (fun nv iv => ∃ k : Nat, k ≤ 9 ∧ k ≤ s.size ∧ iv = .int .i64 (k : Int) ∧ nv = .int .i64 ((valN ((lB s).take k) : Nat) : Int) ∧ Hid (∀ x ∈ (lB s).take k, digB x = true)) (fun _ iv => s.size - (intOf iv).toNat)
  case atStart => exact ⟨0, by omega, Nat.zero_le _, rfl, rfl, Lib.hid (by simp)⟩
  case round =>
    obtain ⟨k, hk9, hk, rfl, rfl, HD⟩ := hrel
    have hv := HV.out k hk9 hk HD.out
    have hks : (k : Int) ≤ (s.size : Int) := by omega
    by_cases hlt : k < s.size
    · have hu := (s[k]'hlt).toNat_lt
      cases hd : digB (s[k]'hlt)
      · have HN := Lib.hid (HNO.out k hlt hd)
        have hnd : ¬ ((48 : Int) ≤ ((s[k]'hlt).toNat : Int) ∧ ((s[k]'hlt).toNat : Int) ≤ 57) := fun h => by rw [dig_ge.2 h] at hd; cases hd
        have HCK := Lib.hid (HC.out k hlt)
        have HF0 : Hid ((k = 0 ∨ (1 < k ∧ ∃ h : 0 < s.size, (s[0]'h).toNat = 48)) → RetDg w (lB s) (.returned (.tuple #[.int .i64 0, .string ByteArray.empty, .bool false])) w) := Lib.hid (fun _ => retDg_no HN.out (Drew.refl _))
        have HF1 : Hid (¬ k = 0 → (1 < k → ∀ h : 0 < s.size, (s[0]'h).toNat ≠ 48) → ∀ W, Drew w W → RetDg w (lB s) (.returned (.tuple #[.int .i64 ((valN ((lB s).take k) : Nat) : Int), .string (s.extract k s.size), .bool true])) W) := Lib.hid (fun _ _ W hW => ⟨_, _, _, rfl, by omega, by omega, (fun h2 => by rw [HN.out] at h2; cases h2), fun _ _ => HCK.out, hW⟩)
        clear hd HCK HN HV2 HC HC2 HY HL HZ HTEN HNO HALL HG HD HV
        generalize valN ((lB s).take k) = n at *
        by_cases h48 : (48 : Int) ≤ ((s[k]'hlt).toNat : Int)
        · have h57 : ¬ ((s[k]'hlt).toNat : Int) ≤ 57 := fun h => hnd ⟨h48, h⟩
          clear hnd
          have h0k : (0 : Int) ≤ (k : Int) := by omega
          by_cases hk0 : k = 0
          · have HF := Lib.hid (HF0.out (.inl hk0))
            clear HF0 HF1
            subst hk0
            go_wp2
            go_ret3
            exact HF.out
          · have hkb : ((k : Int) == 0) = false := beq_eq_false_iff_ne.2 (by omega)
            have h0s : 0 < s.size := by omega
            by_cases hk2 : 1 < k
            · have hk2' : (1 : Int) < (k : Int) := by omega
              by_cases hz : (s[0]'h0s).toNat = 48
              · have HF := Lib.hid (HF0.out (.inr ⟨hk2, h0s, hz⟩))
                have hzb : (((s[0]'h0s).toNat : Int) == 48) = true := by rw [hz]; rfl
                clear HF0 HF1 hz
                go_wp2
                go_ret3
                exact HF.out
              · have HF := Lib.hid (HF1.out hk0 (fun _ _ => hz))
                have hzb : (((s[0]'h0s).toNat : Int) == 48) = false := beq_eq_false_iff_ne.2 (by omega)
                clear HF0 HF1 hz
                go_wp2_with fail
                go_quiet (fail)
                go_wp2
                go_ret3
                exact HF.out _ (Drew.one _ _)
            · have HF := Lib.hid (HF1.out hk0 (fun h => absurd h hk2))
              have hk2' : ¬ (1 : Int) < (k : Int) := by omega
              clear HF0 HF1
              go_wp2_with fail
              go_quiet (fail)
              go_wp2
              go_ret3
              exact HF.out _ (Drew.one _ _)
        · clear hnd
          have h0k : (0 : Int) ≤ (k : Int) := by omega
          by_cases hk0 : k = 0
          · have HF := Lib.hid (HF0.out (.inl hk0))
            clear HF0 HF1
            subst hk0
            go_wp2
            go_ret3
            exact HF.out
          · have hkb : ((k : Int) == 0) = false := beq_eq_false_iff_ne.2 (by omega)
            have h0s : 0 < s.size := by omega
            by_cases hk2 : 1 < k
            · have hk2' : (1 : Int) < (k : Int) := by omega
              by_cases hz : (s[0]'h0s).toNat = 48
              · have HF := Lib.hid (HF0.out (.inr ⟨hk2, h0s, hz⟩))
                have hzb : (((s[0]'h0s).toNat : Int) == 48) = true := by rw [hz]; rfl
                clear HF0 HF1 hz
                go_wp2
                go_ret3
                exact HF.out
              · have HF := Lib.hid (HF1.out hk0 (fun _ _ => hz))
                have hzb : (((s[0]'h0s).toNat : Int) == 48) = false := beq_eq_false_iff_ne.2 (by omega)
                clear HF0 HF1 hz
                go_wp2_with fail
                go_quiet (fail)
                go_wp2
                go_ret3
                exact HF.out _ (Drew.one _ _)
            · have HF := Lib.hid (HF1.out hk0 (fun h => absurd h hk2))
              have hk2' : ¬ (1 : Int) < (k : Int) := by omega
              clear HF0 HF1
              go_wp2_with fail
              go_quiet (fail)
              go_wp2
              go_ret3
              exact HF.out _ (Drew.one _ _)
      · obtain ⟨h48, h57⟩ := dig_ge.1 hd
        by_cases h9 : k = 9
        · have HF := Lib.hid (retDg_no (w := w) (HTEN.out (by omega)) (Drew.refl w))
          clear hd HV2 HC HC2 HY HL HZ HTEN HNO HALL HG HD HV
          subst h9
          generalize valN ((lB s).take 9) = n at *
          go_wp2
          go_ret3
          exact HF.out
        · have HGK := Lib.hid (HG.out k hlt hd)
          have HDK := Lib.hid (HALL.out k hlt HD.out hd)
          have h9b : ((k : Int) == 9) = false := beq_eq_false_iff_ne.2 (by omega)
          have hn10 : ((valN ((lB s).take k) : Nat) : Int) < 1000000000 := by omega
          clear hd HV2 HC HC2 HY HL HZ HTEN HNO HALL HG HD HV hv
          generalize valN ((lB s).take k) = n at *
          have hw1 : IntKind.u8.wrap (((s[k]'hlt).toNat : Int) - 48) = ((s[k]'hlt).toNat : Int) - 48 := IntWalk.u8_in _ (by omega)
          have HR : Hid ((10 : Int) * (n : Int) + (((s[k]'hlt).toNat : Int) - 48) = ((n * 10 + ((s[k]'hlt).toNat - 48) : Nat) : Int)) := Lib.hid (by omega)
          go_wp2
          go_round
          case rel => exact ⟨k + 1, by omega, by omega, by go_num, by rw [HGK.out, ← HR.out], HDK⟩
          case measure => simp [intOf]; omega
    · have hke : k = s.size := by omega
      have HF0 : Hid ((k = 0 ∨ (1 < k ∧ ∃ h : 0 < s.size, (s[0]'h).toNat = 48)) → RetDg w (lB s) (.returned (.tuple #[.int .i64 0, .string ByteArray.empty, .bool false])) w) := Lib.hid (fun h => by
        rcases h with h | ⟨h, h2, h3⟩
        · exact retDg_no (HZ.out (by omega)) (Drew.refl _)
        · exact retDg_no (HL.out h2 (by omega) h3) (Drew.refl _))
      have HF1 : Hid (¬ k = 0 → (1 < k → ∀ h : 0 < s.size, (s[0]'h).toNat ≠ 48) → ∀ W, Drew w W → RetDg w (lB s) (.returned (.tuple #[.int .i64 ((valN ((lB s).take k) : Nat) : Int), .string (s.extract k s.size), .bool true])) W) := Lib.hid (fun h1 h2 W hW => by
        have h3 := HY.out (by omega) (by omega) (by rw [← hke]; exact HD.out) (fun h => h2 (by omega) _)
        refine ⟨_, _, _, rfl, by omega, by omega, fun _ => ⟨rfl, by rw [hke]; exact HC2.out, by rw [hke, HV2.out]⟩, (fun h4 => by rw [h3] at h4; cases h4), hW⟩)
      clear HV2 HC HC2 HY HL HZ HTEN HNO HALL HG HD HV hke
      generalize valN ((lB s).take k) = n at *
      have h0k : (0 : Int) ≤ (k : Int) := by omega
      by_cases hk0 : k = 0
      · have HF := Lib.hid (HF0.out (.inl hk0))
        clear HF0 HF1
        subst hk0
        go_wp2
        go_ret3
        exact HF.out
      · have hkb : ((k : Int) == 0) = false := beq_eq_false_iff_ne.2 (by omega)
        have h0s : 0 < s.size := by omega
        by_cases hk2 : 1 < k
        · have hk2' : (1 : Int) < (k : Int) := by omega
          by_cases hz : (s[0]'h0s).toNat = 48
          · have HF := Lib.hid (HF0.out (.inr ⟨hk2, h0s, hz⟩))
            have hzb : (((s[0]'h0s).toNat : Int) == 48) = true := by rw [hz]; rfl
            clear HF0 HF1 hz
            go_wp2
            go_ret3
            exact HF.out
          · have HF := Lib.hid (HF1.out hk0 (fun _ _ => hz))
            have hzb : (((s[0]'h0s).toNat : Int) == 48) = false := beq_eq_false_iff_ne.2 (by omega)
            clear HF0 HF1 hz
            go_wp2_with fail
            go_quiet (fail)
            go_wp2
            go_ret3
            exact HF.out _ (Drew.one _ _)
        · have HF := Lib.hid (HF1.out hk0 (fun h => absurd h hk2))
          have hk2' : ¬ (1 : Int) < (k : Int) := by omega
          clear HF0 HF1
          go_wp2_with fail
          go_quiet (fail)
          go_wp2
          go_ret3
          exact HF.out _ (Drew.one _ _)
end Go.Proofs.YtglghdkjppcedaaGreatDoor

/- Contracts: impl.numberOf, signedOf, pointOf. -/
namespace Go.Proofs.YtglghdkjppcedaaGreatDoor
open Go.RowKit

theorem get_bang {b : ByteArray} {i : Nat} (h : i < b.size) : b.get! i = b[i]'h := by
  cases b with
  | mk d => exact getElem!_pos d i h
theorem toList_loop (b : ByteArray) : ∀ (n i : Nat) (r : List UInt8), n = b.size - i → ByteArray.toList.loop b i r = r.reverse ++ (lB b).drop i := by
  intro n
  induction n with
  | zero =>
    intro i r h
    unfold ByteArray.toList.loop
    rw [if_neg (by omega), List.drop_eq_nil_of_le (by rw [lB_len]; omega), List.append_nil]
  | succ n ih =>
    intro i r h
    unfold ByteArray.toList.loop
    rw [if_pos (by omega), ih (i + 1) _ (by omega)]
    have hi : i < b.size := by omega
    have hi' : i < (lB b).length := by rw [lB_len]; exact hi
    rw [List.drop_eq_getElem_cons hi', List.reverse_cons, List.append_assoc, lB_get hi hi', get_bang hi]
    rfl
theorem toList_lB (b : ByteArray) : b.toList = lB b := by
  unfold ByteArray.toList
  rw [toList_loop b _ 0 [] rfl]; simp
theorem toList_nil {b : ByteArray} (h : b.toList = []) : lB b = [] := by rw [← toList_lB]; exact h
/-- A number and a truth. -/
def RetNb (w : World) (t : List UInt8) (e : Ending) (w' : World) : Prop := ∃ n : Int, e = .returned (.tuple #[.int .i64 n, .bool (numB t)]) ∧ 0 ≤ n ∧ n < 1000000000 ∧ (numB t = true → n = valN t) ∧ Drew w w'
set_option maxHeartbeats 1000000 in
theorem numberOf_c (s : ByteArray) (w : World) (hs : s.size ≤ 137438953472) :
    Calls Tryz.prog 81 #[.string s] w (RetNb w (lB s)) := by
  go_enter Tryz.func81, Tryz.ntmps81
  go_wp2_with fail
  refine (digitsOf_c s _ hs).mono ?_
  rintro e w1 ⟨n, r, b, rfl, hn0, hn1, hy, hno, hd⟩
  cases hb : numB (lB s)
  · have h2 := hno hb
    have HF : Hid (RetNb w (lB s) (.returned (.tuple #[.int .i64 n, .bool false])) w1) := Lib.hid ⟨n, by rw [hb], hn0, hn1, (fun h => by rw [hb] at h; cases h), hd⟩
    clear hy hno hd hb
    cases b
    · go_wp2
      go_ret2
      exact HF.out
    · have hr : r ≠ ByteArray.empty := fun e => h2 rfl (by rw [e]; rfl)
      have hrb : r.toList.isEmpty = false := by
        have h3 := h2 rfl
        cases hz : r.toList.isEmpty
        · rfl
        · exfalso
          exact h3 (toList_nil (List.isEmpty_iff.1 hz))
      clear h2 hr
      go_wp2
      go_ret2
      exact HF.out
  · obtain ⟨rfl, h1, h2⟩ := hy hb
    have hr : r = ByteArray.empty := lB_inj (by rw [h1]; rfl)
    have HF : Hid (RetNb w (lB s) (.returned (.tuple #[.int .i64 n, .bool true])) w1) := Lib.hid ⟨n, by rw [hb], hn0, hn1, fun _ => h2, hd⟩
    subst hr
    clear hy hno hd hb h1 h2
    go_wp2
    go_ret2
    exact HF.out
/-- A number with a sign, and a truth. -/
def RetSg (w : World) (t : List UInt8) (e : Ending) (w' : World) : Prop := ∃ n : Int, e = .returned (.tuple #[.int .i64 n, .bool (sgB t)]) ∧ -1000000000 < n ∧ n < 1000000000 ∧ (sgB t = true → n = sgV t) ∧ Drew w w'
set_option maxHeartbeats 1000000 in
theorem signedOf_c (s : ByteArray) (w : World) (hs : s.size ≤ 137438953472) :
    Calls Tryz.prog 80 #[.string s] w (RetSg w (lB s)) := by
  by_cases hp : 0 < s.size
  · by_cases h45 : s[0]'hp = 45
    · have hb : (((s[0]'hp).toNat : Int) == 45) = true := by rw [h45]; rfl
      have hx : lB s = 45 :: lB (s.extract 1 s.size) := by
        rw [lB_cut]
        have hp' : 0 < (lB s).length := by rw [lB_len]; exact hp
        conv => lhs; rw [← List.drop_zero (l := lB s), List.drop_eq_getElem_cons hp', lB_get hp hp', h45]
        rw [List.take_of_length_le (by simp [lB_len])]
      have hsz : (s.extract 1 s.size).size ≤ 137438953472 := by simp; omega
      have HX := Lib.hid hx
      clear hx h45
      go_enter Tryz.func80, Tryz.ntmps80
      go_wp2_with fail
      refine (numberOf_c _ _ hsz).mono ?_
      rintro e w1 ⟨n, rfl, hn0, hn1, hv, hd⟩
      have hw : IntKind.i64.wrap (-n) = -n := IntWalk.i64_in _ (by omega)
      cases hnb : numB (lB (s.extract 1 s.size))
      · have HF : Hid (RetSg w (lB s) (.returned (.tuple #[.int .i64 (-n), .bool false])) w1) := Lib.hid ⟨-n, by rw [HX.out, sgB_neg, hnb]; rfl, by omega, by omega, (fun h => by rw [HX.out, sgB_neg, hnb] at h; cases h), hd⟩
        clear hv hd hnb hsz
        go_wp2
        go_ret2
        exact HF.out
      · have hv := hv hnb
        have HF : Hid (∀ b, b = decide (0 < n) → RetSg w (lB s) (.returned (.tuple #[.int .i64 (-n), .bool b])) w1) := Lib.hid (fun b hb => by
          have e : sgB (lB s) = b := by
            rw [HX.out, sgB_neg, hnb, hb, hv]
            simp
          exact ⟨-n, by rw [e], by omega, by omega, (fun _ => by rw [HX.out, sgV_neg, hv]), hd⟩)
        clear hv hd hnb hsz
        by_cases h0 : 0 < n
        · have h0b : decide (n > 0) = true := decide_eq_true h0
          go_wp2
          go_ret2
          exact HF.out _ (decide_eq_true h0).symm
        · have h0b : decide (n > 0) = false := decide_eq_false h0
          go_wp2
          go_ret2
          exact HF.out _ (decide_eq_false (by omega)).symm
    · have hb : (((s[0]'hp).toNat : Int) == 45) = false := by
        rw [beq_eq_false_iff_ne]
        intro e
        exact h45 (UInt8.toNat_inj.1 (by show (s[0]'hp).toNat = 45; omega))
      have hh : (lB s).head? ≠ some 45 := by
        have hp' : 0 < (lB s).length := by rw [lB_len]; exact hp
        rw [List.head?_eq_getElem?, List.getElem?_eq_getElem hp', lB_get hp hp']
        intro e; exact h45 (Option.some.inj e)
      have e1 := sgB_nn hh
      have e2 := sgV_nn hh
      have HB := Lib.hid e1
      have HV := Lib.hid e2
      clear h45 hh e1 e2
      go_enter Tryz.func80, Tryz.ntmps80
      go_wp2_with fail
      refine (numberOf_c _ _ hs).mono ?_
      rintro e w1 ⟨n, rfl, hn0, hn1, hv, hd⟩
      have HF : Hid (RetSg w (lB s) (.returned (.tuple #[.int .i64 n, .bool (numB (lB s))])) w1) := Lib.hid ⟨n, by rw [HB.out], by omega, by omega, (fun h => by rw [HB.out] at h; rw [HV.out]; exact hv h), hd⟩
      clear hv hd
      generalize numB (lB s) = bb at *
      go_wp2
      go_ret2
      exact HF.out
  · have hz : s.size = 0 := by omega
    have hl : lB s = [] := List.eq_nil_of_length_eq_zero (by rw [lB_len]; exact hz)
    have HL := Lib.hid hl
    clear hl
    have hzg : ¬ ((s.size : Int) > 0) := by omega
    go_enter Tryz.func80, Tryz.ntmps80
    go_wp2_with fail
    refine (numberOf_c _ _ hs).mono ?_
    rintro e w1 ⟨n, rfl, hn0, hn1, hv, hd⟩
    have HF : Hid (RetSg w (lB s) (.returned (.tuple #[.int .i64 n, .bool (numB (lB s))])) w1) := Lib.hid ⟨n, by rw [HL.out]; rfl, by omega, by omega, (fun h => by rw [HL.out] at h; cases h), hd⟩
    clear hv hd
    generalize numB (lB s) = bb at *
    go_wp2
    go_ret2
    exact HF.out
theorem results_tmp4 {fn : Func} {t u v x : Tmp} (h : fn.results = #[.tmp t, .tmp u, .tmp v, .tmp x]) (tmps : Array Value) (P : Program) (w : World) :
    (results fn tmps).run P w = .ok (.tuple #[tmps.getD t undef, tmps.getD u undef, tmps.getD v undef, tmps.getD x undef]) w := by
  simp [results, h]
/-- Three numbers and a truth. -/
def RetPt (w : World) (t : List UInt8) (e : Ending) (w' : World) : Prop := ∃ x y z : Int, e = .returned (.tuple #[.int .i64 x, .int .i64 y, .int .i64 z, .bool (imB t)]) ∧ (imB t = true → x = imW t ∧ y = imP t ∧ z = imS t) ∧ Drew w w'
set_option maxHeartbeats 2000000 in
theorem parted_c (s : ByteArray) (c : UInt8) (w : World) (hs : s.size ≤ 137438953472) :
    Calls Tryz.prog 79 #[.string s, .int .u8 (c.toNat : Int)] w (RetPa w (bef c (lB s)) (aft c (lB s)) (hasC c (lB s))) := by
  rcases cut_first c (lB s) with h | ⟨u, r, h1, h2⟩
  · obtain ⟨e1, e2, e3⟩ := hasC_no h
    rw [e1, e2, e3]; exact parted_no s c w hs h
  · obtain ⟨e1, e2, e3⟩ := hasC_at (r := r) h2
    rw [h1, e1, e2, e3]; exact parted_yes s c u r w hs h1 h2
theorem bef_len (c : UInt8) (t : List UInt8) : (bef c t).length ≤ t.length ∧ (aft c t).length ≤ t.length := by
  rcases cut_first c t with h | ⟨u, r, h1, h2⟩
  · obtain ⟨e1, e2, e3⟩ := hasC_no h
    rw [e2, e3]; simp
  · obtain ⟨e1, e2, e3⟩ := hasC_at (r := r) h2
    rw [h1, e2, e3]; simp; omega
theorem retPt_A {w w' : World} {t : List UInt8} {x : Int} (h : hasC 58 t = false) (hv : sgB (bef 58 t) = true → x = sgV (bef 58 t)) (hd : Drew w w') : RetPt w t (.returned (.tuple #[.int .i64 x, .int .i64 (-1), .int .i64 (-1), .bool (sgB (bef 58 t))])) w' := by
  have e : imB t = sgB (bef 58 t) := by unfold imB; rw [h]; simp
  exact ⟨x, -1, -1, by rw [e], (fun h2 => by rw [e] at h2; exact ⟨hv h2, by simp [imP, h], by simp [imS, h]⟩), hd⟩
theorem retPt_B {w w' : World} {t : List UInt8} {x y z : Int} (h : sgB (bef 58 t) = false) (hd : Drew w w') : RetPt w t (.returned (.tuple #[.int .i64 x, .int .i64 y, .int .i64 z, .bool false])) w' := by
  have e : imB t = false := by unfold imB; rw [h]; rfl
  exact ⟨x, y, z, by rw [e], (fun h2 => by rw [e] at h2; cases h2), hd⟩
theorem retPt_C {w w' : World} {t : List UInt8} {x y : Int} (h : hasC 58 t = true) (hs : sgB (bef 58 t) = true) (h2 : hasC 44 (aft 58 t) = false) (hv : x = sgV (bef 58 t)) (hy : numB (bef 44 (aft 58 t)) = true → y = valN (bef 44 (aft 58 t))) (hd : Drew w w') : RetPt w t (.returned (.tuple #[.int .i64 x, .int .i64 y, .int .i64 (-1), .bool (numB (bef 44 (aft 58 t)))])) w' := by
  have e : imB t = numB (bef 44 (aft 58 t)) := by unfold imB; rw [h, hs, h2]; simp
  exact ⟨x, y, -1, by rw [e], (fun h3 => by rw [e] at h3; exact ⟨hv, by simp [imP, h, hy h3], by simp [imS, h2]⟩), hd⟩
theorem retPt_D {w w' : World} {t : List UInt8} {x y z : Int} (h : hasC 58 t = true) (h2 : numB (bef 44 (aft 58 t)) = false) (hd : Drew w w') : RetPt w t (.returned (.tuple #[.int .i64 x, .int .i64 y, .int .i64 z, .bool false])) w' := by
  have e : imB t = false := by unfold imB; rw [h, h2]; simp
  exact ⟨x, y, z, by rw [e], (fun h2 => by rw [e] at h2; cases h2), hd⟩
theorem retPt_E {w w' : World} {t : List UInt8} {x y z : Int} (h : hasC 58 t = true) (hs : sgB (bef 58 t) = true) (h2 : hasC 44 (aft 58 t) = true) (hn : numB (bef 44 (aft 58 t)) = true) (hv : x = sgV (bef 58 t)) (hy : y = valN (bef 44 (aft 58 t))) (hz : numB (aft 44 (aft 58 t)) = true → z = valN (aft 44 (aft 58 t))) (hd : Drew w w') : RetPt w t (.returned (.tuple #[.int .i64 x, .int .i64 y, .int .i64 z, .bool (numB (aft 44 (aft 58 t)))])) w' := by
  have e : imB t = numB (aft 44 (aft 58 t)) := by unfold imB; rw [h, hs, h2, hn]; simp
  exact ⟨x, y, z, by rw [e], (fun h3 => by rw [e] at h3; exact ⟨hv, by simp [imP, h, hy], by simp [imS, h, h2, hz h3]⟩), hd⟩
set_option maxHeartbeats 4000000 in
theorem pointOf_c (s : ByteArray) (w : World) (hs : s.size ≤ 137438953472) :
    Calls Tryz.prog 59 #[.string s] w (RetPt w (lB s)) := by
  have hb1 := bef_len 58 (lB s)
  have hb2 := bef_len 44 (aft 58 (lB s))
  rw [lB_len] at hb1
  go_enter Tryz.func59, Tryz.ntmps59
  go_wp2_with fail
  refine (parted_c s 58 _ hs).mono ?_
  rintro e w1 ⟨x1, y1, rfl, hx1, hy1, hd1⟩
  have hxs : x1.size ≤ 137438953472 := by rw [← lB_len, hx1]; omega
  have hys : y1.size ≤ 137438953472 := by rw [← lB_len, hy1]; omega
  have HX1 := Lib.hid hx1
  have HY1 := Lib.hid hy1
  clear hx1 hy1
  go_wp2_with fail
  refine (signedOf_c x1 _ hxs).mono ?_
  rintro e w2 ⟨n, rfl, hn0, hn1, hv, hd2⟩
  rw [HX1.out] at hv ⊢
  have hd := hd1.trans hd2
  clear hd1 hd2
  cases hm : hasC 58 (lB s)
  · have HF := Lib.hid (retPt_A hm hv hd)
    clear hm hv hd hb1 hb2
    generalize sgB (bef 58 (lB s)) = bb at *
    cases bb
    · go_wp2
      try simp only [Exit.inBlock, Exit.then]
      refine bodyPost_ret (results_tmp4 rfl _ _ _) rfl ?_
      exact HF.out
    · go_wp2
      try simp only [Exit.inBlock, Exit.then]
      refine bodyPost_ret (results_tmp4 rfl _ _ _) rfl ?_
      exact HF.out
  · cases hs1 : sgB (bef 58 (lB s))
    · have HF := Lib.hid (retPt_B (x := n) (y := -1) (z := -1) hs1 hd)
      clear hm hv hd hb1 hb2 hs1
      go_wp2
      try simp only [Exit.inBlock, Exit.then]
      refine bodyPost_ret (results_tmp4 rfl _ _ _) rfl ?_
      exact HF.out
    · have hV := Lib.hid (hv hs1)
      clear hv
      go_wp2_with fail
      refine (parted_c y1 44 _ hys).mono ?_
      rintro e w3 ⟨x2, y2, rfl, hx2, hy2, hd3⟩
      rw [HY1.out] at hx2 hy2 ⊢
      have hxs2 : x2.size ≤ 137438953472 := by rw [← lB_len, hx2]; omega
      have hys2 : y2.size ≤ 137438953472 := by rw [← lB_len, hy2]; omega
      have HX2 := Lib.hid hx2
      have HY2 := Lib.hid hy2
      clear hx2 hy2
      have hM := Lib.hid hm
      have hS := Lib.hid hs1
      have hD := Lib.hid (hd.trans hd3)
      clear hm hs1 hd hd3
      go_wp2_with fail
      refine (numberOf_c x2 _ hxs2).mono ?_
      rintro e w4 ⟨p, rfl, hp0, hp1, hpv, hd4⟩
      rw [HX2.out] at hpv ⊢
      cases hm2 : hasC 44 (aft 58 (lB s))
      · have HF := Lib.hid (retPt_C hM.out hS.out hm2 hV.out hpv (hD.out.trans hd4))
        clear hm2 hpv hd4 hb1 hb2
        generalize numB (bef 44 (aft 58 (lB s))) = bb at *
        cases bb
        · go_wp2
          try simp only [Exit.inBlock, Exit.then]
          refine bodyPost_ret (results_tmp4 rfl _ _ _) rfl ?_
          exact HF.out
        · go_wp2
          try simp only [Exit.inBlock, Exit.then]
          refine bodyPost_ret (results_tmp4 rfl _ _ _) rfl ?_
          exact HF.out
      · cases hn2 : numB (bef 44 (aft 58 (lB s)))
        · have HF := Lib.hid (retPt_D (x := n) (y := p) (z := -1) hM.out hn2 (hD.out.trans hd4))
          clear hm2 hpv hd4 hb1 hb2 hn2
          go_wp2
          try simp only [Exit.inBlock, Exit.then]
          refine bodyPost_ret (results_tmp4 rfl _ _ _) rfl ?_
          exact HF.out
        · have hpv := hpv hn2
          have hM2 := Lib.hid hm2
          have hN2 := Lib.hid hn2
          have hPV := Lib.hid hpv
          have hD4 := Lib.hid (hD.out.trans hd4)
          clear hm2 hn2 hpv hd4
          go_wp2_with fail
          refine (numberOf_c y2 _ hys2).mono ?_
          rintro e w5 ⟨q, rfl, hq0, hq1, hqv, hd5⟩
          rw [HY2.out] at hqv ⊢
          have HF := Lib.hid (retPt_E hM.out hS.out hM2.out hN2.out hV.out hPV.out hqv (hD4.out.trans hd5))
          clear hqv hd5 hb1 hb2
          generalize numB (aft 44 (aft 58 (lB s))) = bb at *
          go_wp2
          try simp only [Exit.inBlock, Exit.then]
          refine bodyPost_ret (results_tmp4 rfl _ _ _) rfl ?_
          exact HF.out
end Go.Proofs.YtglghdkjppcedaaGreatDoor
