/- Texts as the program holds them; contracts: impl.parted, digitsOf, numberOf, signedOf, pointOf. -/
import Derived.Test.YtiinceflafigeaaTxtR
import Derived.Test.YtiinceflafigeaaPushS
import Derived.BigQuiet
namespace Go.Proofs.Ytiinceflafigeaa
open Go.RowKit

/-- The bytes of a text. -/
def lB (s : ByteArray) : List UInt8 := s.data.toList
theorem lB_len (s : ByteArray) : (lB s).length = s.size := by simp [lB]
theorem lB_get {s : ByteArray} {k : Nat} (h : k < s.size) (hl : k < (lB s).length) : (lB s)[k]'hl = s[k]'h := by simp [lB]; rfl
theorem lB_cut (s : ByteArray) (a b : Nat) : lB (s.extract a b) = ((lB s).drop a).take (b - a) := by simp [lB, ByteArray.data_extract]
theorem lB_inj {s t : ByteArray} (h : lB s = lB t) : s = t := by
  apply ByteArray.ext
  exact Array.toList_inj.1 h
theorem lB_app (s t : ByteArray) : lB (s ++ t) = lB s ++ lB t := by simp [lB, ByteArray.data_append]
theorem lB_nil : lB ByteArray.empty = [] := rfl
/-- Two texts and a truth. -/
def RetPa (w : World) (u r : List UInt8) (b : Bool) (e : Ending) (w' : World) : Prop := ∃ x y, e = .returned (.tuple #[.string x, .string y, .bool b]) ∧ lB x = u ∧ lB y = r ∧ Drew w w'
set_option maxHeartbeats 1000000 in
theorem parted_yes (s : ByteArray) (c : UInt8) (u r : List UInt8) (w : World) (hs : s.size ≤ 4194304) (he : lB s = u ++ c :: r) (hu : c ∉ u) :
    Calls Try.prog 204 #[.string s, .int .u8 (c.toNat : Int)] w (RetPa w u r true) := by
  have hl : s.size = u.length + (r.length + 1) := by rw [← lB_len, he]; simp
  have hget : ∀ k (h : k < s.size), k < u.length → (((s[k]'h).toNat : Int) == (c.toNat : Int)) = false := by
    intro k h hk
    have h2 := lB_get h (by rw [lB_len]; exact h)
    rw [beq_eq_false_iff_ne]
    intro e
    have e2 : s[k]'h = c := UInt8.toNat_inj.1 (by omega)
    apply hu
    rw [← e2, ← h2]
    simp only [he]
    rw [List.getElem_append_left hk]
    exact List.getElem_mem hk
  have hat : ∀ (h : u.length < s.size), (((s[u.length]'h).toNat : Int) == (c.toNat : Int)) = true := by
    intro h
    have h2 := lB_get h (by rw [lB_len]; exact h)
    have e2 : s[u.length]'h = c := by
      rw [← h2]
      simp only [he]
      rw [List.getElem_append_right (Nat.le_refl _)]; simp
    rw [e2]; simp
  have hx : lB (s.extract 0 u.length) = u := by rw [lB_cut, he]; simp
  have hy : lB (s.extract (u.length + 1) s.size) = r := by
    have h1 : List.drop (u.length + 1) (u ++ c :: r) = r := by
      rw [show u ++ c :: r = (u ++ [c]) ++ r by simp, List.drop_append_of_le_length (by simp), List.drop_eq_nil_of_le (by simp)]; rfl
    rw [lB_cut, he, h1, List.take_of_length_le (by omega)]
  have HG := Lib.hid hget
  have HA := Lib.hid hat
  have HX := Lib.hid hx
  have HY := Lib.hid hy
  have hl1 : u.length < s.size := by omega
  clear hget hat hx hy hl he hu
  go_enter Try.func204, Try.ntmps204
  go_wp2
  go_loop [7] (fun iv => ∃ k : Nat, k ≤ u.length ∧ iv = .int .i64 (k : Int)) (fun iv => s.size - (intOf iv).toNat)
  case atStart => exact ⟨0, Nat.zero_le _, rfl⟩
  case round =>
    obtain ⟨k, hk, rfl⟩ := hrel
    have hks : k < s.size := by omega
    by_cases hlt : k < u.length
    · have hb := HG.out k hks hlt
      go_wp2
      go_round
      case rel => exact ⟨k + 1, by omega, by go_num⟩
      case measure => simp [intOf]; omega
    · have hke : k = u.length := by omega
      subst hke
      have hb := HA.out hks
      go_wp2_with fail
      go_quiet (fail)
      go_wp2
      go_ret3
      exact ⟨_, _, rfl, HX.out, HY.out, Drew.one _ _⟩
set_option maxHeartbeats 1000000 in
theorem parted_no (s : ByteArray) (c : UInt8) (w : World) (hs : s.size ≤ 4194304) (hc : c ∉ lB s) :
    Calls Try.prog 204 #[.string s, .int .u8 (c.toNat : Int)] w (RetPa w (lB s) [] false) := by
  have hget : ∀ k (h : k < s.size), (((s[k]'h).toNat : Int) == (c.toNat : Int)) = false := by
    intro k h
    have h2 := lB_get h (by rw [lB_len]; exact h)
    rw [beq_eq_false_iff_ne]
    intro e
    have e2 : s[k]'h = c := UInt8.toNat_inj.1 (by omega)
    apply hc
    rw [← e2, ← h2]
    exact List.getElem_mem _
  have HG := Lib.hid hget
  clear hget hc
  go_enter Try.func204, Try.ntmps204
  go_wp2
  go_loop [7] (fun iv => ∃ k : Nat, k ≤ s.size ∧ iv = .int .i64 (k : Int)) (fun iv => s.size - (intOf iv).toNat)
  case atStart => exact ⟨0, Nat.zero_le _, rfl⟩
  case round =>
    obtain ⟨k, hk, rfl⟩ := hrel
    by_cases hlt : k < s.size
    · have hb := HG.out k hlt
      go_wp2
      go_round
      case rel => exact ⟨k + 1, by omega, by go_num⟩
      case measure => simp [intOf]; omega
    · go_wp2
      go_ret3
      exact ⟨_, _, rfl, rfl, rfl, Drew.refl _⟩

/-- A digit's test. -/
theorem dig_ge {x : UInt8} : digB x = true ↔ (48 : Int) ≤ (x.toNat : Int) ∧ (x.toNat : Int) ≤ 57 := by rw [digB_iff]; omega
theorem take_dig {l : List UInt8} {k : Nat} (h : k < l.length) : l.take (k + 1) = l.take k ++ [l[k]] := by rw [List.take_succ_eq_append_getElem h]
/-- What digitsOf hands back, as far as it is needed. -/
def RetDg (w : World) (t : List UInt8) (e : Ending) (w' : World) : Prop := ∃ (n : Int) (r : ByteArray) (b : Bool), e = .returned (.tuple #[.int .i64 n, .string r, .bool b]) ∧ 0 ≤ n ∧ n < 1000000000 ∧ (numB t = true → b = true ∧ lB r = [] ∧ n = valN t) ∧ (numB t = false → b = true → lB r ≠ []) ∧ Drew w w'
theorem retDg_no {w w' : World} {t : List UInt8} (h : numB t = false) (hd : Drew w w') : RetDg w t (.returned (.tuple #[.int .i64 0, .string ByteArray.empty, .bool false])) w' :=
  ⟨0, _, false, rfl, by omega, by omega, (fun h2 => by rw [h] at h2; cases h2), (fun _ h2 => by cases h2), hd⟩
set_option maxHeartbeats 4000000 in
theorem digitsOf_c (s : ByteArray) (w : World) (hs : s.size ≤ 4194304) :
    Calls Try.prog 226 #[.string s] w (RetDg w (lB s)) := by
  have hget : ∀ k (h : k < s.size), digB (s[k]'h) = true → valN ((lB s).take (k + 1)) = valN ((lB s).take k) * 10 + ((s[k]'h).toNat - 48) := by
    intro k h _
    have h' : k < (lB s).length := by rw [lB_len]; exact h
    rw [take_dig h', valN_snoc, lB_get h h']
  have hall : ∀ k (h : k < s.size), (∀ x ∈ (lB s).take k, digB x = true) → digB (s[k]'h) = true → ∀ x ∈ (lB s).take (k + 1), digB x = true := by
    intro k h h1 h2 x hx
    have h' : k < (lB s).length := by rw [lB_len]; exact h
    rw [take_dig h', lB_get h h', List.mem_append] at hx
    rcases hx with hx | hx
    · exact h1 x hx
    · simp only [List.mem_singleton] at hx; rw [hx]; exact h2
  have hno : ∀ k (h : k < s.size), digB (s[k]'h) = false → numB (lB s) = false := by
    intro k h h1
    have h' : k < (lB s).length := by rw [lB_len]; exact h
    cases c : numB (lB s)
    · rfl
    · have := (canB_iff.1 (numB_iff.1 c).1).2.1 _ (List.getElem_mem h')
      rw [lB_get h h', h1] at this; cases this
  have hten : 9 < s.size → numB (lB s) = false := by
    intro h
    cases c : numB (lB s)
    · rfl
    · have := (numB_iff.1 c).2
      rw [lB_len] at this; omega
  have hzero : s.size = 0 → numB (lB s) = false := by
    intro h
    cases c : numB (lB s)
    · rfl
    · have := (canB_iff.1 (numB_iff.1 c).1).1
      have h2 : lB s = [] := List.eq_nil_of_length_eq_zero (by rw [lB_len]; exact h)
      exact absurd h2 this
  have hlead : ∀ (h : 0 < s.size), 1 < s.size → (s[0]'h).toNat = 48 → numB (lB s) = false := by
    intro h h1 h2
    cases c : numB (lB s)
    · rfl
    · have h3 := (canB_iff.1 (numB_iff.1 c).1).2.2 (by rw [lB_len]; exact h1)
      exfalso
      apply h3
      have h' : 0 < (lB s).length := by rw [lB_len]; exact h
      rw [List.head?_eq_getElem?, List.getElem?_eq_getElem h', lB_get h h']
      congr 1
      exact UInt8.toNat_inj.1 (by rw [h2]; rfl)
  have hyes : ∀ (h : 0 < s.size), s.size ≤ 9 → (∀ x ∈ (lB s).take s.size, digB x = true) → (1 < s.size → (s[0]'h).toNat ≠ 48) → numB (lB s) = true := by
    intro h h9 h1 h2
    have e : (lB s).take s.size = lB s := List.take_of_length_le (by rw [lB_len]; exact Nat.le_refl _)
    rw [e] at h1
    refine numB_iff.2 ⟨canB_iff.2 ⟨fun e => ?_, h1, fun h3 h4 => ?_⟩, by rw [lB_len]; exact h9⟩
    · have h5 := congrArg List.length e; rw [lB_len] at h5; have h6 : s.size = 0 := h5; omega
    · rw [lB_len] at h3
      have h' : 0 < (lB s).length := by rw [lB_len]; exact h
      rw [List.head?_eq_getElem?, List.getElem?_eq_getElem h', lB_get h h'] at h4
      injection h4 with h4
      apply h2 h3
      rw [h4]; rfl
  have hval : ∀ k, k ≤ 9 → k ≤ s.size → (∀ x ∈ (lB s).take k, digB x = true) → valN ((lB s).take k) < 1000000000 := by
    intro k h9 hk h1
    have h2 := valN_bd _ h1
    rw [List.length_take, lB_len] at h2
    have h3 : 10 ^ min k s.size ≤ 10 ^ 9 := Nat.pow_le_pow_right (by omega) (by omega)
    omega
  have hall2 : valN ((lB s).take s.size) = valN (lB s) := by rw [List.take_of_length_le (by rw [lB_len]; exact Nat.le_refl _)]
  have hcut : ∀ k, k < s.size → lB (s.extract k s.size) ≠ [] := by
    intro k hk e
    have := congrArg List.length e
    rw [lB_len] at this
    simp at this
    omega
  have hcut2 : lB (s.extract s.size s.size) = [] := by
    apply List.eq_nil_of_length_eq_zero
    rw [lB_len]; simp
  have HG := Lib.hid hget
  have HALL := Lib.hid hall
  have HNO := Lib.hid hno
  have HTEN := Lib.hid hten
  have HZ := Lib.hid hzero
  have HL := Lib.hid hlead
  have HY := Lib.hid hyes
  have HV := Lib.hid hval
  have HV2 := Lib.hid hall2
  have HC := Lib.hid hcut
  have HC2 := Lib.hid hcut2
  clear hget hall hno hten hzero hlead hyes hval hall2 hcut hcut2
  go_enter Try.func226, Try.ntmps226
  go_wp2
  go_loop [5, 6] (fun nv iv => ∃ k : Nat, k ≤ 9 ∧ k ≤ s.size ∧ iv = .int .i64 (k : Int) ∧ nv = .int .i64 ((valN ((lB s).take k) : Nat) : Int) ∧ Hid (∀ x ∈ (lB s).take k, digB x = true)) (fun _ iv => s.size - (intOf iv).toNat)
  case atStart => exact ⟨0, by omega, Nat.zero_le _, rfl, rfl, Lib.hid (by simp)⟩
  case round =>
    obtain ⟨k, hk9, hk, rfl, rfl, HD⟩ := hrel
    have hv := HV.out k hk9 hk HD.out
    have hks : (k : Int) ≤ (s.size : Int) := by omega
    by_cases hlt : k < s.size
    · have hu := (s[k]'hlt).toNat_lt
      cases hd : digB (s[k]'hlt)
      · have HN := Lib.hid (HNO.out k hlt hd)
        have hnd : ¬ ((48 : Int) ≤ ((s[k]'hlt).toNat : Int) ∧ ((s[k]'hlt).toNat : Int) ≤ 57) := fun h => by rw [dig_ge.2 h] at hd; cases hd
        have HCK := Lib.hid (HC.out k hlt)
        have HF0 : Hid ((k = 0 ∨ (1 < k ∧ ∃ h : 0 < s.size, (s[0]'h).toNat = 48)) → RetDg w (lB s) (.returned (.tuple #[.int .i64 0, .string ByteArray.empty, .bool false])) w) := Lib.hid (fun _ => retDg_no HN.out (Drew.refl _))
        have HF1 : Hid (¬ k = 0 → (1 < k → ∀ h : 0 < s.size, (s[0]'h).toNat ≠ 48) → ∀ W, Drew w W → RetDg w (lB s) (.returned (.tuple #[.int .i64 ((valN ((lB s).take k) : Nat) : Int), .string (s.extract k s.size), .bool true])) W) := Lib.hid (fun _ _ W hW => ⟨_, _, _, rfl, by omega, by omega, (fun h2 => by rw [HN.out] at h2; cases h2), fun _ _ => HCK.out, hW⟩)
        clear hd HCK HN HV2 HC HC2 HY HL HZ HTEN HNO HALL HG HD HV
        generalize valN ((lB s).take k) = n at *
        by_cases h48 : (48 : Int) ≤ ((s[k]'hlt).toNat : Int)
        · have h57 : ¬ ((s[k]'hlt).toNat : Int) ≤ 57 := fun h => hnd ⟨h48, h⟩
          clear hnd
          have h0k : (0 : Int) ≤ (k : Int) := by omega
          by_cases hk0 : k = 0
          · have HF := Lib.hid (HF0.out (.inl hk0))
            clear HF0 HF1
            subst hk0
            go_wp2
            go_ret3
            exact HF.out
          · have hkb : ((k : Int) == 0) = false := beq_eq_false_iff_ne.2 (by omega)
            have h0s : 0 < s.size := by omega
            by_cases hk2 : 1 < k
            · have hk2' : (1 : Int) < (k : Int) := by omega
              by_cases hz : (s[0]'h0s).toNat = 48
              · have HF := Lib.hid (HF0.out (.inr ⟨hk2, h0s, hz⟩))
                have hzb : (((s[0]'h0s).toNat : Int) == 48) = true := by rw [hz]; rfl
                clear HF0 HF1 hz
                go_wp2
                go_ret3
                exact HF.out
              · have HF := Lib.hid (HF1.out hk0 (fun _ _ => hz))
                have hzb : (((s[0]'h0s).toNat : Int) == 48) = false := beq_eq_false_iff_ne.2 (by omega)
                clear HF0 HF1 hz
                go_wp2_with fail
                go_quiet (fail)
                go_wp2
                go_ret3
                exact HF.out _ (Drew.one _ _)
            · have HF := Lib.hid (HF1.out hk0 (fun h => absurd h hk2))
              have hk2' : ¬ (1 : Int) < (k : Int) := by omega
              clear HF0 HF1
              go_wp2_with fail
              go_quiet (fail)
              go_wp2
              go_ret3
              exact HF.out _ (Drew.one _ _)
        · clear hnd
          have h0k : (0 : Int) ≤ (k : Int) := by omega
          by_cases hk0 : k = 0
          · have HF := Lib.hid (HF0.out (.inl hk0))
            clear HF0 HF1
            subst hk0
            go_wp2
            go_ret3
            exact HF.out
          · have hkb : ((k : Int) == 0) = false := beq_eq_false_iff_ne.2 (by omega)
            have h0s : 0 < s.size := by omega
            by_cases hk2 : 1 < k
            · have hk2' : (1 : Int) < (k : Int) := by omega
              by_cases hz : (s[0]'h0s).toNat = 48
              · have HF := Lib.hid (HF0.out (.inr ⟨hk2, h0s, hz⟩))
                have hzb : (((s[0]'h0s).toNat : Int) == 48) = true := by rw [hz]; rfl
                clear HF0 HF1 hz
                go_wp2
                go_ret3
                exact HF.out
              · have HF := Lib.hid (HF1.out hk0 (fun _ _ => hz))
                have hzb : (((s[0]'h0s).toNat : Int) == 48) = false := beq_eq_false_iff_ne.2 (by omega)
                clear HF0 HF1 hz
                go_wp2_with fail
                go_quiet (fail)
                go_wp2
                go_ret3
                exact HF.out _ (Drew.one _ _)
            · have HF := Lib.hid (HF1.out hk0 (fun h => absurd h hk2))
              have hk2' : ¬ (1 : Int) < (k : Int) := by omega
              clear HF0 HF1
              go_wp2_with fail
              go_quiet (fail)
              go_wp2
              go_ret3
              exact HF.out _ (Drew.one _ _)
      · obtain ⟨h48, h57⟩ := dig_ge.1 hd
        by_cases h9 : k = 9
        · have HF := Lib.hid (retDg_no (w := w) (HTEN.out (by omega)) (Drew.refl w))
          clear hd HV2 HC HC2 HY HL HZ HTEN HNO HALL HG HD HV
          subst h9
          generalize valN ((lB s).take 9) = n at *
          go_wp2
          go_ret3
          exact HF.out
        · have HGK := Lib.hid (HG.out k hlt hd)
          have HDK := Lib.hid (HALL.out k hlt HD.out hd)
          have h9b : ((k : Int) == 9) = false := beq_eq_false_iff_ne.2 (by omega)
          have hn10 : ((valN ((lB s).take k) : Nat) : Int) < 1000000000 := by omega
          clear hd HV2 HC HC2 HY HL HZ HTEN HNO HALL HG HD HV hv
          generalize valN ((lB s).take k) = n at *
          have hw1 : IntKind.u8.wrap (((s[k]'hlt).toNat : Int) - 48) = ((s[k]'hlt).toNat : Int) - 48 := IntWalk.u8_in _ (by omega)
          have HR : Hid ((10 : Int) * (n : Int) + (((s[k]'hlt).toNat : Int) - 48) = ((n * 10 + ((s[k]'hlt).toNat - 48) : Nat) : Int)) := Lib.hid (by omega)
          go_wp2
          go_round
          case rel => exact ⟨k + 1, by omega, by omega, by go_num, by rw [HGK.out, ← HR.out], HDK⟩
          case measure => simp [intOf]; omega
    · have hke : k = s.size := by omega
      have HF0 : Hid ((k = 0 ∨ (1 < k ∧ ∃ h : 0 < s.size, (s[0]'h).toNat = 48)) → RetDg w (lB s) (.returned (.tuple #[.int .i64 0, .string ByteArray.empty, .bool false])) w) := Lib.hid (fun h => by
        rcases h with h | ⟨h, h2, h3⟩
        · exact retDg_no (HZ.out (by omega)) (Drew.refl _)
        · exact retDg_no (HL.out h2 (by omega) h3) (Drew.refl _))
      have HF1 : Hid (¬ k = 0 → (1 < k → ∀ h : 0 < s.size, (s[0]'h).toNat ≠ 48) → ∀ W, Drew w W → RetDg w (lB s) (.returned (.tuple #[.int .i64 ((valN ((lB s).take k) : Nat) : Int), .string (s.extract k s.size), .bool true])) W) := Lib.hid (fun h1 h2 W hW => by
        have h3 := HY.out (by omega) (by omega) (by rw [← hke]; exact HD.out) (fun h => h2 (by omega) _)
        refine ⟨_, _, _, rfl, by omega, by omega, fun _ => ⟨rfl, by rw [hke]; exact HC2.out, by rw [hke, HV2.out]⟩, (fun h4 => by rw [h3] at h4; cases h4), hW⟩)
      clear HV2 HC HC2 HY HL HZ HTEN HNO HALL HG HD HV hke
      generalize valN ((lB s).take k) = n at *
      have h0k : (0 : Int) ≤ (k : Int) := by omega
      by_cases hk0 : k = 0
      · have HF := Lib.hid (HF0.out (.inl hk0))
        clear HF0 HF1
        subst hk0
        go_wp2
        go_ret3
        exact HF.out
      · have hkb : ((k : Int) == 0) = false := beq_eq_false_iff_ne.2 (by omega)
        have h0s : 0 < s.size := by omega
        by_cases hk2 : 1 < k
        · have hk2' : (1 : Int) < (k : Int) := by omega
          by_cases hz : (s[0]'h0s).toNat = 48
          · have HF := Lib.hid (HF0.out (.inr ⟨hk2, h0s, hz⟩))
            have hzb : (((s[0]'h0s).toNat : Int) == 48) = true := by rw [hz]; rfl
            clear HF0 HF1 hz
            go_wp2
            go_ret3
            exact HF.out
          · have HF := Lib.hid (HF1.out hk0 (fun _ _ => hz))
            have hzb : (((s[0]'h0s).toNat : Int) == 48) = false := beq_eq_false_iff_ne.2 (by omega)
            clear HF0 HF1 hz
            go_wp2_with fail
            go_quiet (fail)
            go_wp2
            go_ret3
            exact HF.out _ (Drew.one _ _)
        · have HF := Lib.hid (HF1.out hk0 (fun h => absurd h hk2))
          have hk2' : ¬ (1 : Int) < (k : Int) := by omega
          clear HF0 HF1
          go_wp2_with fail
          go_quiet (fail)
          go_wp2
          go_ret3
          exact HF.out _ (Drew.one _ _)
end Go.Proofs.Ytiinceflafigeaa
