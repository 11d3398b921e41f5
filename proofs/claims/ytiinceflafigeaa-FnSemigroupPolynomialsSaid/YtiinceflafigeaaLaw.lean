/- Contracts of the helpers of laws.go: likeInts, likeRows5, hasInt, big. -/
import Derived.Test.YtiinceflafigeaaMatL
import Derived.Test.YtiinceflafigeaaHelpB
import Derived.Test.YtiinceflafigeaaDrwW
import Derived.Test.YtiinceflafigeaaPtQ
import Derived.Test.YtiinceflafigeaaPtP
namespace Go.Proofs.Ytiinceflafigeaa
open Go.RowKit

set_option maxHeartbeats 400000 in
theorem likeInts_c (v u : Value) (xs ys : List Int) (w : World) (h : Rd w v xs) (h' : Rd w u ys) :
    Calls Try.prog 18 #[v, u] w fun e w' => e = .returned (.bool (eqB xs ys)) ∧ Drew w w' := by
  obtain ⟨a, cap, rfl, hcap1, hcap2, hrd⟩ := h
  obtain ⟨a', cap', rfl, hcap1', hcap2', hrd'⟩ := h'
  by_cases hl : xs.length = ys.length
  · have HL := Lib.hid hl
    have hd : ((xs.length : Int) != (ys.length : Int)) = false := by simp [hl]
    clear hl
    go_enter Try.func18, Try.ntmps18
    go_wp2
    go_loopw [5] (fun i wr => ∃ k : Nat, k ≤ xs.length ∧ i = .int .i64 k ∧ xs.take k = ys.take k ∧ Drew w wr) (fun i _ => xs.length - (intOf i).toNat)
    case atStart => exact ⟨0, Nat.zero_le _, rfl, rfl, Drew.refl _⟩
    case round =>
      obtain ⟨k, hk, rfl, ht, n, rfl⟩ := hrel
      by_cases hlt : k < xs.length
      · have hlt' : k < ys.length := by have := HL.out; omega
        obtain ⟨b, off, rfl, hbl, hcs⟩ := hrd (ne_of_lt_len hlt)
        obtain ⟨b', off', rfl, hbl', hcs'⟩ := hrd' (ne_of_lt_len hlt')
        have hc := hcs k hlt
        have hc' := hcs' k hlt'
        have HT := Lib.hid (take_eq_step ht hlt hlt')
        have HN : Hid (gI xs k ≠ gI ys k → eqB xs ys = false) := Lib.hid (by
          intro hne; simp only [eqB, decide_eq_false_iff_not]; intro e; exact hne (by rw [e]))
        clear ht hcs hcs' hrd hrd'
        generalize gI xs k = x at hc HT HN
        generalize gI ys k = y at hc' HT HN
        by_cases hxy : x = y
        · subst hxy
          have HT' := Lib.hid (HT.out rfl)
          clear HT HN
          go_wp2
          go_quiet (fail)
          go_wp2
          go_roundw
          case rel => exact ⟨k + 1, by omega, by go_num, HT'.out, by first | exact Drew.one _ _ | exact Drew.two _ _ _ | exact Drew.refl _⟩
          case measure => simp [intOf]; omega
        · have hf := Lib.hid (HN.out hxy)
          have hxb : (x != y) = true := by simp [hxy]
          clear HT HN hxy
          go_wp2
          go_quiet (fail)
          go_wp2
          go_ret
          exact ⟨ret_bool hf.out.symm, by first | exact Drew.one _ _ | exact Drew.two _ _ _ | exact Drew.refl _⟩
      · go_wp2
        go_ret
        refine ⟨ret_bool ?_, Drew.one _ _⟩
        have hl := HL.out
        rw [List.take_of_length_le (by omega), List.take_of_length_le (by omega)] at ht
        simp [eqB, ht]
  · have HE : Hid (eqB xs ys = false) := Lib.hid (by simp only [eqB, decide_eq_false_iff_not]; intro e; exact hl (by rw [e]))
    have hd : ((xs.length : Int) != (ys.length : Int)) = true := by simp; omega
    clear hl
    go_enter Try.func18, Try.ntmps18
    go_wp2
    go_ret
    exact ⟨ret_bool HE.out.symm, Drew.refl _⟩

set_option maxHeartbeats 1000000 in
theorem likeRows5_c (v u : Value) (R : List (List Int)) (w : World) (h : RdR w v R) (h' : RdR w u R) :
    Calls Try.prog 75 #[v, u] w fun e w' => e = .returned (.bool true) ∧ Below w.heap.size w w' := by
  obtain ⟨a, cap, rfl, hcap1, hcap2, hrd⟩ := h
  obtain ⟨a', cap', rfl, hcap1', hcap2', hrd'⟩ := h'
  go_enter Try.func75, Try.ntmps75
  go_wp2
  go_loopw [5] (fun i wr => ∃ k : Nat, k ≤ R.length ∧ i = .int .i64 k ∧ Drew w wr) (fun i _ => R.length - (intOf i).toNat)
  case atStart => exact ⟨0, Nat.zero_le _, rfl, Drew.refl _⟩
  case round =>
    obtain ⟨k, hk, rfl, hd⟩ := hrel
    obtain ⟨wo, rfl⟩ : ∃ wo : World, wo = wr := ⟨_, rfl⟩
    have hdb := hd.below w.heap.size
    by_cases hlt : k < R.length
    · obtain ⟨b, off, rfl, hbl, hcs⟩ := hrd (by intro e; simp [e] at hlt)
      obtain ⟨b', off', rfl, hbl', hcs'⟩ := hrd' (by intro e; simp [e] at hlt)
      obtain ⟨x, hx0, hrx0⟩ := hcs k hlt
      obtain ⟨y, hy0, hry0⟩ := hcs' k hlt
      have hx : wo.cell? ⟨b, off + k, none⟩ = some x := by rw [hdb.cell (p := ⟨b, off + k, none⟩) hbl]; exact hx0
      have hy : wo.cell? ⟨b', off' + k, none⟩ = some y := by rw [hdb.cell (p := ⟨b', off' + k, none⟩) hbl']; exact hy0
      have hrx := hrx0.below hdb (Nat.le_refl _)
      have hry := hry0.below hdb (Nat.le_refl _)
      have hs := eqB_self (gR R k)
      clear hcs hcs' hrd hrd'
      go_wp2
      go_quiet ((go_at_call 18; exact quiet_drew ((likeInts_c _ _ (gR R k) (gR R k) _ (hrx.below (below_drewN (Below.refl _ _) _) (Nat.le_refl _)) (hry.below (below_drewN (Below.refl _ _) _) (Nat.le_refl _))).mono fun e w' ⟨he, hw'⟩ => ⟨by rw [he, hs], hw'⟩)))
      go_wp2
      go_roundw
      case rel => exact ⟨k + 1, by omega, by go_num, by first | exact hd | exact hd.trans (Drew.one _ _) | exact hd.trans (Drew.two _ _ _)⟩
      case measure => simp [intOf]; omega
    · go_wp2
      go_ret
      exact ⟨rfl, hdb⟩

theorem big_no (v : Value) (C : List Int) (w : World) (h : Rd8 w v C) (hC : C.length ≤ 4096) :
    Calls Try.prog 12 #[v] w fun e w' => e = .returned (.bool false) ∧ w = w' := by
  obtain ⟨a, cap, rfl, _⟩ := h
  have hb : decide ((C.length : Int) > 4096) = false := decide_eq_false (by omega)
  go_enter Try.func12, Try.ntmps12
  go_wp2
  go_ret
  exact ⟨rfl, rfl⟩
theorem big_yes (v : Value) (C : List Int) (w : World) (h : Rd8 w v C) (hC : ¬ C.length ≤ 4096) :
    Calls Try.prog 12 #[v] w fun e w' => e = .returned (.bool true) ∧ w = w' := by
  obtain ⟨a, cap, rfl, _⟩ := h
  have hb : decide ((C.length : Int) > 4096) = true := decide_eq_true (by omega)
  go_enter Try.func12, Try.ntmps12
  go_wp2
  go_ret
  exact ⟨rfl, rfl⟩
/-- The list has the number. -/
def hasB (xs : List Int) (x : Int) : Bool := decide (∃ i, i < xs.length ∧ gI xs i = x)
theorem hasB_iff {xs : List Int} {x : Int} : hasB xs x = true ↔ ∃ i, i < xs.length ∧ gI xs i = x := by simp only [hasB, decide_eq_true_eq]
theorem hasB_no {xs : List Int} {x : Int} : hasB xs x = false ↔ ∀ i, i < xs.length → gI xs i ≠ x := by
  simp only [hasB, decide_eq_false_iff_not]
  exact ⟨fun h i hi e => h ⟨i, hi, e⟩, fun h ⟨i, hi, e⟩ => h i hi e⟩
set_option maxHeartbeats 400000 in
theorem hasInt_c (v : Value) (xs : List Int) (x : Int) (w : World) (h : Rd w v xs) :
    Calls Try.prog 38 #[v, .int .i64 x] w fun e w' => e = .returned (.bool (hasB xs x)) ∧ w = w' := by
  obtain ⟨a, cap, rfl, hcap1, hcap2, hrd⟩ := h
  go_enter Try.func38, Try.ntmps38
  go_wp2
  go_loop [5] (fun i => ∃ k : Nat, k ≤ xs.length ∧ i = .int .i64 k ∧ ∀ j, j < k → gI xs j ≠ x) (fun i => xs.length - (intOf i).toNat)
  case atStart => exact ⟨0, Nat.zero_le _, rfl, fun j hj => absurd hj (by omega)⟩
  case round =>
    obtain ⟨k, hk, rfl, hno⟩ := hrel
    by_cases hlt : k < xs.length
    · obtain ⟨b, off, rfl, hbl, hcs⟩ := hrd (ne_of_lt_len hlt)
      have hc := hcs k hlt
      by_cases hx : gI xs k = x
      · have HF : Hid (hasB xs x = true) := Lib.hid (hasB_iff.2 ⟨k, hlt, hx⟩)
        have hb : (gI xs k == x) = true := by simpa using hx
        clear hno hcs hrd hx
        generalize gI xs k = y at *
        go_wp2
        go_ret
        exact ⟨ret_bool HF.out.symm, rfl⟩
      · have hb : (gI xs k == x) = false := by simpa using hx
        have HN : Hid (∀ j, j < k + 1 → gI xs j ≠ x) := Lib.hid (fun j hj => by
          by_cases e : j = k
          · rw [e]; exact hx
          · exact hno j (by omega))
        clear hno hcs hrd hx
        generalize gI xs k = y at hc hb
        go_wp2
        go_round
        case rel => exact ⟨k + 1, by omega, by go_num, HN.out⟩
        case measure => simp [intOf]; omega
    · have HF : Hid (hasB xs x = false) := Lib.hid (hasB_no.2 (fun i hi => hno i (by omega)))
      clear hno
      go_wp2
      go_ret
      exact ⟨ret_bool HF.out.symm, rfl⟩
end Go.Proofs.Ytiinceflafigeaa

/- What the laws of laws.go need of the contracts: slices that read as lists, no ownership. -/
namespace Go.Proofs.Ytiinceflafigeaa
open Go.RowKit

/-- A list of n numbers and a code. -/
def RvC (w : World) (n : Nat) (xs : List Int) (c : Int) (e : Ending) (w' : World) : Prop :=
  ∃ a k, e = .returned (.tuple #[.slice a n k, .int .i64 c]) ∧ Rd w' (.slice a n k) xs ∧ Below w.heap.size w w'
/-- A list of n lists and a code. -/
def RvMC (w : World) (n : Nat) (R : List (List Int)) (c : Int) (e : Ending) (w' : World) : Prop :=
  ∃ a k, e = .returned (.tuple #[.slice a n k, .int .i64 c]) ∧ RdR w' (.slice a n k) R ∧ Below w.heap.size w w'
theorem rvC_ic {w : World} {n : Nat} {xs ys : List Int} {c d : Int} {e : Ending} {w' : World} (h : RetIC w ys d e w') (h1 : ys = xs) (h2 : xs.length = n) (h3 : d = c) : RvC w n xs c e w' := by
  subst h1 h2 h3
  obtain ⟨a, k, he, ho, hb⟩ := h
  exact ⟨a, k, he, ho.rd, hb⟩
theorem rvC_qc {w : World} {n : Nat} {xs ys : List Int} {c d : Int} {e : Ending} {w' : World} (h : RetQC w ys d e w') (h1 : ys = xs) (h2 : xs.length = n) (h3 : d = c) : RvC w n xs c e w' := by
  subst h1 h2 h3
  obtain ⟨a, k, he, ho, hb⟩ := h
  exact ⟨a, k, he, ho.rd, hb⟩
theorem rvMC_mc {w : World} {n : Nat} {R S : List (List Int)} {c d : Int} {e : Ending} {w' : World} (h : RetMC 2 w S d e w') (h1 : S = R) (h2 : R.length = n) (h3 : d = c) : RvMC w n R c e w' := by
  subst h1 h2 h3
  obtain ⟨a, k, V, he, ho, hb⟩ := h
  exact ⟨a, k, he, ho.rd, hb⟩
end Go.Proofs.Ytiinceflafigeaa
