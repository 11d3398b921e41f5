/- Contracts: divisors, ascends, falls, IsBranch; l03Is, l03Divisors. -/
import Derived.Test.YtglghdkjppcedaaDoorPart2
import Derived.Test.YtglghdkjppcedaaDoorPart1
namespace Go.Proofs.YtglghdkjppcedaaDoor
open Go.RowKit

set_option maxHeartbeats 1000000 in
theorem divisors_c (v : Value) (T : List Int) (w : World) (h : Rd w v T) (hn : T.length ≤ 2000) (h0 : ∀ i, i < T.length → 1 ≤ gI T i ∧ gI T i ≤ 1000000000000) :
    Calls Tryd.prog 56 #[v] w (RetI w (eTo T T.length)) := by
  obtain ⟨i0, hi, hz0, hz1, hz2⟩ := info_parts Tryd.infoI
  obtain ⟨a, cap, rfl, hcap1, hcap2, hrd⟩ := h
  go_enter Tryd.func56, Tryd.ntmps56
  go_wp2
  go_loopw [3, 4, 6, 10] (fun v d _ i wr => ∃ k : Nat, ∃ y : Int, k ≤ T.length ∧ i = .int .i64 k ∧ d = .int .i64 y ∧ (0 ≤ y ∧ y ≤ 1000000000000) ∧ (k < T.length → gcdI y (gI T k) = eI T k) ∧ OwnI wr w.heap.size v (eTo T k) ∧ Below w.heap.size w wr) (fun _ _ _ i _ => T.length - (intOf i).toNat)
  case atStart => exact ⟨0, 0, Nat.zero_le _, rfl, rfl, by omega, fun h => gcdI_zero_left (by have := h0 0 h; omega), own_empty w _ (Nat.le_refl _), (Below.refl _ _).alloc (Nat.le_refl _) _⟩
  case round =>
    obtain ⟨k, y, hk, rfl, rfl, hy, hg, hown, hbl⟩ := hrel
    obtain ⟨wo, rfl⟩ : ∃ wo : World, wo = wr := ⟨_, rfl⟩
    by_cases hlt : k < T.length
    · obtain ⟨b, off, rfl, hb, hcs⟩ := hrd (ne_of_lt_len hlt)
      have hc : wo.cell? ⟨b, off + k, none⟩ = some (.int .i64 (gI T k)) := by rw [hbl.cell (p := ⟨b, off + k, none⟩) hb]; exact hcs k hlt
      have hx := h0 k hlt
      have hg := hg hlt
      have hle : gcdI y (gI T k) ≤ 1000000000000 := gcdI_le (by omega) (by omega) (by omega) (by omega)
      have hge := gcdI_nn y (gI T k)
      rw [hg] at hle hge
      have HG := Lib.hid hg
      have HN : Hid (k + 1 < T.length → gcdI (eI T k) (gI T (k + 1)) = eI T (k + 1)) := Lib.hid (fun _ => rfl)
      have HY := Lib.hid (eTo_succ T k)
      have hsz := hbl.size
      clear hcs hg
      generalize gI T k = x at hc hx HG
      go_wp2_with fail
      refine (divisor_c y x _ (by omega) (by omega) (by omega) (by omega)).mono ?_
      rintro e w1 ⟨rfl, hd⟩
      rw [HG.out]
      have hbl1 := hbl.trans (hd.below _)
      have hown1 := hown.below (hd.below wo.heap.size) (Nat.le_refl _)
      have hsz1 := hbl1.size
      generalize eI T k = z at hle hge HN HY
      go_wp2_with (at_builtin; refine wpList_push rfl (.tmp 17) (.tmp 19) 24 rfl w.heap.size 2 i0 Tryd.underlying24 hi hz0 hz1 hz2 u3 (eTo T k) z rfl hown1 rfl (by simp; omega) hsz1 ?_; intro v' w2 hown' hkp)
      have hbl' := hbl1.trans (hkp.below hsz1 (fun g hg => (hown1.block g hg).1))
      rw [← HY.out] at hown'
      go_roundw
      case rel => exact ⟨k + 1, z, by omega, by go_num, rfl, by omega, HN.out, hown', hbl'⟩
      case measure => simp [intOf]; omega
    · go_wp2
      have hk' : k = T.length := by omega
      subst hk'
      go_ret
      exact retI_mk hown hbl

theorem ascends_c (v : Value) (T : List Int) (w : World) (h : Rd w v T) :
    Calls Tryd.prog 37 #[v] w fun e w' => e = .returned (.bool (ascB T)) ∧ Drew w w' := by
  obtain ⟨a, cap, rfl, hcap1, hcap2, hrd⟩ := h
  go_enter Tryd.func37, Tryd.ntmps37
  go_wp2
  go_loopw [3] (fun i wr => ∃ k : Nat, i = .int .i64 ((k : Int) + 1) ∧ (k = 0 ∨ k < T.length) ∧ (∀ j, j < k → gI T j < gI T (j + 1)) ∧ Drew w wr) (fun i _ => T.length - (intOf i).toNat)
  case atStart => exact ⟨0, rfl, .inl rfl, fun j hj => by omega, Drew.refl _⟩
  case round =>
    obtain ⟨k, rfl, hk, hall, n, rfl⟩ := hrel
    by_cases hlt : k + 1 < T.length
    · obtain ⟨b, off, rfl, hb, hcs⟩ := hrd (ne_of_lt_len hlt)
      have hc1 := hcs (k + 1) hlt
      have hc0 := hcs k (by omega)
      have hk1 : (k : Int) + 1 < (T.length : Int) := by omega
      have hk2 : (k : Int) < (T.length : Int) := by omega
      have e1 : ((k : Int) + 1).toNat = k + 1 := by omega
      have e2 : (k : Int) + 1 - 1 = (k : Int) := by omega
      have HY : Hid (gI T k < gI T (k + 1) → ∀ j, j < k + 1 → gI T j < gI T (j + 1)) := Lib.hid (fun h j hj => by
        by_cases e : j = k
        · rw [e]; exact h
        · exact hall j (by omega))
      have HN : Hid (gI T (k + 1) ≤ gI T k → ascB T = false) := Lib.hid (fun h => ascB_no hlt h)
      clear hcs hall hrd
      generalize gI T (k + 1) = y at hc1 HY HN
      generalize gI T k = x at hc0 HY HN
      by_cases hxy : y ≤ x
      · have HF := Lib.hid (HN.out hxy)
        clear HY HN
        go_wp2
        go_quiet (fail)
        go_wp2
        go_ret
        exact ⟨ret_bool HF.out.symm, by first | exact Drew.one _ _ | exact Drew.two _ _ _⟩
      · have HA := Lib.hid (HY.out (by omega))
        clear HY HN
        go_wp2
        go_quiet (fail)
        go_wp2
        go_roundw
        case rel => exact ⟨k + 1, by go_num, .inr (by omega), HA.out, by first | exact Drew.one _ _ | exact Drew.two _ _ _⟩
        case measure => simp [intOf]; omega
    · have HA := Lib.hid (ascB_iff.2 (fun i hi => hall i (by omega)))
      have hk1 : (T.length : Int) ≤ (k : Int) + 1 := by omega
      go_wp2
      go_ret
      exact ⟨ret_bool HA.out.symm, Drew.one _ _⟩

set_option maxHeartbeats 1000000 in
theorem falls_c (v : Value) (T : List Int) (w : World) (h : Rd w v T) (hp : 0 < T.length) (hn : T.length ≤ 2000) (h0 : ∀ i, i < T.length → 1 ≤ gI T i ∧ gI T i ≤ 1000000000000) :
    Calls Tryd.prog 46 #[v] w fun e w' => e = .returned (.bool (fallB T)) ∧ Below w.heap.size w w' := by
  go_enter Tryd.func46, Tryd.ntmps46
  go_wp2_with fail
  refine (divisors_c _ T _ h hn h0).mono ?_
  rintro e w1 ⟨g, cap, rfl, ho, hb⟩
  obtain ⟨g', cap', hge, hg0, hg1, hg2, hg3⟩ := Own.pos ho (by simp; omega)
  injection hge with hge1 hge2 hge3
  subst hge1 hge3
  clear hge2
  rw [eTo_len] at ho hg2 ⊢
  have hcell : ∀ i, i < T.length → w1.cell? ⟨g', i, none⟩ = some (.int .i64 (eI T i)) := fun i hi => by
    have := Own.cell (xs := eTo T T.length) (by rw [eTo_len]; exact ho) i (by simp; omega)
    rw [gI_eTo hi] at this; exact this
  clear ho
  go_wp2
  go_loopw [4] (fun i wr => ∃ k : Nat, i = .int .i64 ((k : Int) + 1) ∧ k < T.length ∧ (∀ j, j < k → eI T (j + 1) < eI T j) ∧ Drew w1 wr) (fun i _ => T.length - (intOf i).toNat)
  case atStart => exact ⟨0, rfl, hp, fun j hj => by omega, Drew.refl _⟩
  case round =>
    obtain ⟨k, rfl, hk, hall, n, rfl⟩ := hrel
    by_cases hlt : k + 1 < T.length
    · have hc1 := hcell (k + 1) hlt
      have hc0 := hcell k (by omega)
      have hk1 : (k : Int) + 1 < (T.length : Int) := by omega
      have hk2 : (k : Int) < (T.length : Int) := by omega
      have e1 : ((k : Int) + 1).toNat = k + 1 := by omega
      have e2 : (k : Int) + 1 - 1 = (k : Int) := by omega
      have HY : Hid (eI T (k + 1) < eI T k → ∀ j, j < k + 1 → eI T (j + 1) < eI T j) := Lib.hid (fun h j hj => by
        by_cases e : j = k
        · rw [e]; exact h
        · exact hall j (by omega))
      have HN : Hid (eI T k ≤ eI T (k + 1) → fallB T = false) := Lib.hid (fun h => fallB_no hlt h)
      clear hcell hall
      generalize eI T (k + 1) = y at hc1 HY HN
      generalize eI T k = x at hc0 HY HN
      by_cases hxy : x ≤ y
      · have HF := Lib.hid (HN.out hxy)
        clear HY HN
        go_wp2
        go_quiet (fail)
        go_wp2
        go_ret
        exact ⟨ret_bool HF.out.symm, (hb.trans ((Drew.refl w1).below _)).trans (by first | exact (Drew.one _ _).below _ | exact (Drew.two _ _ _).below _)⟩
      · have HA := Lib.hid (HY.out (by omega))
        clear HY HN
        go_wp2
        go_quiet (fail)
        go_wp2
        go_roundw
        case rel => exact ⟨k + 1, by go_num, by omega, HA.out, by first | exact Drew.one _ _ | exact Drew.two _ _ _⟩
        case measure => simp [intOf]; omega
    · have hk' : k + 1 = T.length := by omega
      have HA := Lib.hid (fallB_end (T := T) (fun i hi => hall i (by omega)))
      have hk1 : (T.length : Int) ≤ (k : Int) + 1 := by omega
      have hcl := hcell k hk
      have e1 : T.length - 1 = k := by omega
      rw [e1] at HA
      have e3 : ((T.length : Int) - 1).toNat = k := by omega
      have e4 : (0 : Int) ≤ (T.length : Int) - 1 := by omega
      clear hk' e1 hcell hall
      generalize eI T k = z at hcl HA
      go_wp2
      go_ret
      exact ⟨ret_bool HA.out.symm, (hb.trans ((Drew.one w1 n).below _))⟩
end Go.Proofs.YtglghdkjppcedaaDoor

/- Contracts: impl.IsBranch, spec.l03Is. -/
namespace Go.Proofs.YtglghdkjppcedaaDoor
open Go.RowKit

theorem braB_eq {T : List Int} {b1 b2 b3 b4 b5 : Bool} (h1 : decide (0 < T.length) = b1) (h2 : inB (gI T 0) 1 64 = b2) (h3 : ascB T = b3) (h4 : allIn T 1 2000 = b4) (h5 : fallB T = b5) : braB T = (b1 && (b2 && (b3 && (b4 && b5)))) := by
  rw [← h1, ← h2, ← h3, ← h4, ← h5]; rfl
theorem braB_nil {T : List Int} (h : ¬ 0 < T.length) : braB T = false := by rw [braB_eq (decide_eq_false h) rfl rfl rfl rfl, Bool.false_and]

/-- A list that rises within 1 .. 2000 has at most 2000 numbers. -/
theorem asc_len {T : List Int} (h : ∀ i, i + 1 < T.length → gI T i < gI T (i + 1)) (h2 : ∀ i, i < T.length → 1 ≤ gI T i ∧ gI T i ≤ 2000) : T.length ≤ 2000 := by
  have h3 : ∀ i, i < T.length → (i : Int) + 1 ≤ gI T i := by
    intro i
    induction i with
    | zero => intro hi; have := h2 0 hi; omega
    | succ i ih => intro hi; have := h i hi; have := ih (by omega); omega
  apply Nat.le_of_not_lt
  intro hlt
  have h4 := h3 2000 hlt
  have h5 := h2 2000 hlt
  omega

set_option maxHeartbeats 2000000 in
theorem implIsBranch_c (v : Value) (T : List Int) (w : World) (h : Rd w v T) :
    Calls Tryd.prog 23 #[.agg #[v]] w fun e w' => e = .returned (.bool (braB T)) ∧ Below w.heap.size w w' := by
  have hx := Boxed.start w 26 #[v]
  by_cases hp : 0 < T.length
  · have h1 : decide (0 < T.length) = true := decide_eq_true hp
    obtain ⟨b, off, cap, rfl, hc1, hc2, hb, hc⟩ := h.cells hp
    have c0 := hc 0 hp
    have d0 : (w.alloc (.cells #[.slice (some ⟨b, off, none⟩) T.length cap] 26)).cell? ⟨b, off, none⟩ = some (.int .i64 (gI T 0)) := by
      rw [hx.below.cell (p := ⟨b, off, none⟩) hb]; exact c0
    have hlen : (0 : Int) < (T.length : Int) := by omega
    clear hc
    cases h2 : inB (gI T 0) 1 64
    · rw [braB_eq h1 h2 rfl rfl rfl, Bool.false_and, Bool.and_false]
      go_enter Tryd.func23, Tryd.ntmps23
      have q0 := hx.cell 0
      go_wp2_with fail
      refine (inRange_c _ _ _ _).mono ?_
      rintro e w1 ⟨rfl, rfl⟩
      rw [h2]
      go_wp2
      go_ret
      exact ⟨rfl, hx.below⟩
    · cases h3 : ascB T
      · rw [braB_eq h1 h2 h3 rfl rfl, Bool.false_and, Bool.and_false, Bool.and_false]
        go_enter Tryd.func23, Tryd.ntmps23
        have q0 := hx.cell 0
        go_wp2_with fail
        refine (inRange_c _ _ _ _).mono ?_
        rintro e w1 ⟨rfl, rfl⟩
        rw [h2]
        clear q0 d0 c0
        go_wp2_with fail
        refine (ascends_c _ T _ (hx.rd h)).mono ?_
        rintro e w2 ⟨rfl, hd⟩
        have hx2 := hx.trans (hd.below _)
        rw [h3]
        go_wp2
        go_ret
        exact ⟨rfl, hx2.below⟩
      · cases h4 : allIn T 1 2000
        · rw [braB_eq h1 h2 h3 h4 rfl, Bool.false_and, Bool.and_false, Bool.and_false, Bool.and_false]
          go_enter Tryd.func23, Tryd.ntmps23
          have q0 := hx.cell 0
          go_wp2_with fail
          refine (inRange_c _ _ _ _).mono ?_
          rintro e w1 ⟨rfl, rfl⟩
          rw [h2]
          clear q0 d0 c0
          go_wp2_with fail
          refine (ascends_c _ T _ (hx.rd h)).mono ?_
          rintro e w2 ⟨rfl, hd⟩
          have hx2 := hx.trans (hd.below _)
          rw [h3]
          go_wp2_with fail
          refine (within_c _ T _ _ _ (hx2.rd h)).mono ?_
          rintro e w3 ⟨rfl, rfl⟩
          rw [h4]
          go_wp2
          go_ret
          exact ⟨rfl, hx2.below⟩
        · have hasc := ascB_iff.1 h3
          have hall := allIn_iff.1 h4
          have hn1 : T.length ≤ 2000 := asc_len hasc hall
          have hn2 : ∀ i, i < T.length → 1 ≤ gI T i ∧ gI T i ≤ 1000000000000 := fun i hi => by have := hall i hi; omega
          rw [braB_eq h1 h2 h3 h4 rfl, Bool.true_and, Bool.true_and, Bool.true_and, Bool.true_and]
          go_enter Tryd.func23, Tryd.ntmps23
          have q0 := hx.cell 0
          go_wp2_with fail
          refine (inRange_c _ _ _ _).mono ?_
          rintro e w1 ⟨rfl, rfl⟩
          rw [h2]
          clear q0 d0 c0
          go_wp2_with fail
          refine (ascends_c _ T _ (hx.rd h)).mono ?_
          rintro e w2 ⟨rfl, hd⟩
          have hx2 := hx.trans (hd.below _)
          rw [h3]
          go_wp2_with fail
          refine (within_c _ T _ _ _ (hx2.rd h)).mono ?_
          rintro e w3 ⟨rfl, rfl⟩
          rw [h4]
          go_wp2_with fail
          refine (falls_c _ T _ (hx2.rd h) hp hn1 hn2).mono ?_
          rintro e w4 ⟨rfl, hd4⟩
          have hx4 := hx2.trans hd4
          go_wp2
          go_ret
          exact ⟨rfl, hx4.below⟩
  · obtain ⟨a, k, rfl⟩ := h.len0
    have hlen : (T.length : Int) ≤ 0 := by omega
    rw [braB_nil hp]
    go_enter Tryd.func23, Tryd.ntmps23
    have q0 := hx.cell 0
    go_wp2
    go_ret
    exact ⟨rfl, hx.below⟩
end Go.Proofs.YtglghdkjppcedaaDoor

/- Contract: spec.l03Is. -/
namespace Go.Proofs.YtglghdkjppcedaaDoor
open Go.RowKit

theorem bra_first {T : List Int} (h : inB (gI T 0) 1 64 = false) : braB T = false := by rw [braB_eq rfl h rfl rfl rfl, Bool.false_and, Bool.and_false]
theorem bra_step {T : List Int} {k : Nat} (hk : k + 1 < T.length) (h : inB (gI T (k + 1)) (gI T k + 1) 2000 = false) : braB T = false := by
  cases c : braB T
  · rfl
  · have hb := braB_iff.1 c
    have h1 := hb.asc k hk
    have h2 := hb.num (k + 1) hk
    have h3 : inB (gI T (k + 1)) (gI T k + 1) 2000 = true := inB_iff.2 ⟨by omega, h2.2⟩
    rw [h] at h3; cases h3
theorem bra_gcd {T : List Int} {k : Nat} (hk : k + 1 < T.length) (h : eI T (k + 1) = eI T k) : braB T = false := by
  cases c : braB T
  · rfl
  · have := (braB_iff.1 c).fall k hk; omega

theorem Drew.cell {w w' : World} (h : Drew w w') (p : Addr) : w'.cell? p = w.cell? p := by
  obtain ⟨n, rfl⟩ := h; rfl

/-- The first k steps are good. -/
def braTo (T : List Int) (k : Nat) : Prop := ∀ i, i < k → inB (gI T (i + 1)) (gI T i + 1) 2000 = true ∧ eI T (i + 1) ≠ eI T i
theorem braTo_end {T : List Int} (hp : 0 < T.length) (h0 : inB (gI T 0) 1 64 = true) (h : braTo T (T.length - 1)) : braB T = decide (eI T (T.length - 1) = 1) := by
  have h0' := inB_iff.1 h0
  have hs : ∀ i, i + 1 < T.length → (gI T i < gI T (i + 1) ∧ gI T (i + 1) ≤ 2000) ∧ eI T (i + 1) < eI T i := by
    intro i hi
    obtain ⟨h1, h2⟩ := h i (by omega)
    have h3 := inB_iff.1 h1
    have h4 := eI_step_le (T := T) (by omega) i
    omega
  have hn : ∀ i, i < T.length → 1 ≤ gI T i ∧ gI T i ≤ 2000 := by
    intro i
    induction i with
    | zero => intro _; omega
    | succ i ih => intro hi; have := ih (by omega); have := hs i hi; omega
  by_cases e : eI T (T.length - 1) = 1
  · rw [braB_iff.2 ⟨hp, h0', fun i hi => (hs i hi).1.1, hn, fun i hi => (hs i hi).2, e⟩]; simp [e]
  · cases c : braB T
    · simp [e]
    · exact absurd (braB_iff.1 c).last e
theorem braTo_num {T : List Int} (h0 : inB (gI T 0) 1 64 = true) {k : Nat} (h : braTo T k) : 1 ≤ gI T k ∧ gI T k ≤ 2000 := by
  have h0' := inB_iff.1 h0
  induction k with
  | zero => omega
  | succ k ih =>
    have h1 := ih (fun i hi => h i (by omega))
    have h2 := inB_iff.1 (h k (by omega)).1
    omega

set_option maxRecDepth 100000 in
set_option maxHeartbeats 4000000 in
theorem l03Is_c (v : Value) (T : List Int) (w : World) (h : Rd w v T) :
    Calls Tryd.prog 25 #[.agg #[v]] w fun e w' => e = .returned (.bool (braB T)) ∧ Below w.heap.size w w' := by
  have hx := Boxed.start w 26 #[v]
  by_cases hp : 0 < T.length
  · obtain ⟨b, off, cap, rfl, hc1, hc2, hb, hc⟩ := h.cells hp
    have hcb : ∀ i, i < T.length → (w.alloc (.cells #[.slice (some ⟨b, off, none⟩) T.length cap] 26)).cell? ⟨b, off + i, none⟩ = some (.int .i64 (gI T i)) := fun i hi => by
      rw [hx.below.cell (p := ⟨b, off + i, none⟩) hb]; exact hc i hi
    have d0 : (w.alloc (.cells #[.slice (some ⟨b, off, none⟩) T.length cap] 26)).cell? ⟨b, off, none⟩ = some (.int .i64 (gI T 0)) := hcb 0 hp
    have q0 := hx.cell 0
    have hlen : ((T.length : Int) == 0) = false := beq_false_of_ne (by omega)
    have hlp : (0 : Int) < (T.length : Int) := by omega
    clear hc
    cases h2 : inB (gI T 0) 1 64
    · rw [bra_first h2]
      go_enter Tryd.func25, Tryd.ntmps25
      go_wp2_with fail
      refine (l01In_c _ _ _ _).mono ?_
      rintro e w1 ⟨rfl, rfl⟩
      rw [h2]
      go_wp2
      go_ret
      exact ⟨rfl, hx.below⟩
    · have h2' := inB_iff.1 h2
      have he0 : 0 < gI T 0 := by omega
      go_enter Tryd.func25, Tryd.ntmps25
      go_wp2_with fail
      refine (l01In_c _ _ _ _).mono ?_
      rintro e w1 ⟨rfl, rfl⟩
      rw [h2]
      go_wp2_with fail
      generalize hw0 : w.alloc (.cells #[.slice (some ⟨b, off, none⟩) T.length cap] 26) = w0 at hcb d0 q0 hx ⊢
      go_loopw [4, 5, 6] (fun e i _ wr => ∃ k : Nat, k < T.length ∧ i = .int .i64 ((k : Int) + 1) ∧ e = .int .i64 (eI T k) ∧ braTo T k ∧ Drew w0 wr) (fun _ i _ _ => T.length - (intOf i).toNat)
      case atStart => exact ⟨0, hp, rfl, rfl, fun i hi => by omega, Drew.refl _⟩
      case round =>
        obtain ⟨k, hk, rfl, rfl, hto, hd⟩ := hrel
        obtain ⟨wo, rfl⟩ : ∃ wo : World, wo = wr := ⟨_, rfl⟩
        clear d0 q0 hlp
        by_cases hlt : k + 1 < T.length
        · have c1 := (hd.cell _).trans (hcb (k + 1) hlt)
          have ck := (hd.cell _).trans (hcb k hk)
          have hk1 : (k : Int) + 1 < (T.length : Int) := by omega
          have hk2 : (k : Int) < (T.length : Int) := by omega
          have h01 : (0 : Int) ≤ (k : Int) + 1 := by omega
          have h00 : (0 : Int) ≤ (k : Int) := by omega
          have e1 : ((k : Int) + 1).toNat = k + 1 := by omega
          have e2 : (k : Int) + 1 - 1 = (k : Int) := by omega
          have hnum := braTo_num h2 hto
          have hE := eI_pos he0 k
          have hE2 := eI_le0 he0 k
          have HN := Lib.hid (@bra_step T k hlt)
          have HG := Lib.hid (@bra_gcd T k hlt)
          have HE := Lib.hid (eI_succ T k)
          have HT : Hid (inB (gI T (k + 1)) (gI T k + 1) 2000 = true → eI T (k + 1) ≠ eI T k → braTo T (k + 1)) := Lib.hid (fun a1 a2 i hi => by
            by_cases e : i = k
            · subst e; exact ⟨a1, a2⟩
            · exact hto i (by omega))
          have wk : IntKind.i64.wrap (k : Int) = k := IntWalk.i64_in _ (by omega)
          clear hto hcb
          generalize gI T (k + 1) = y at c1 HN HE HT
          generalize gI T k = x at ck hnum HN HT
          generalize eI T k = e at hE hE2 HG HE HT
          have wx : IntKind.i64.wrap (x + 1) = x + 1 := IntWalk.i64_in _ (by omega)
          cases hin : inB y (x + 1) 2000
          · have HF := Lib.hid (HN.out hin)
            clear HN HG HE HT
            go_wp2_with fail
            go_quiet ((go_at_call 40; exact quiet_eq ((l01In_c _ _ _ _).mono fun e w' ⟨he, hw'⟩ => ⟨by rw [he, hin], hw'⟩)))
            go_wp2
            go_ret
            exact ⟨ret_bool HF.out.symm, hx.below.trans ((hd.trans (by first | exact Drew.refl _ | exact Drew.one _ _ | exact Drew.two _ _ _)).below _)⟩
          · have hin' := inB_iff.1 hin
            by_cases hee : gcdI e y = e
            · have HF := Lib.hid (HG.out (HE.out.trans hee))
              clear HN HG HE HT
              go_wp2_with fail
              go_quiet ((go_at_call 40; exact quiet_eq ((l01In_c _ _ _ _).mono fun e w' ⟨he, hw'⟩ => ⟨by rw [he, hin], hw'⟩)))
              go_wp2_with fail
              refine (l01Gcd_c e y _ (by omega) (by omega) (by omega) (by omega)).mono ?_
              rintro e' w2 ⟨rfl, rfl⟩
              rw [hee]
              go_wp2
              go_ret
              exact ⟨ret_bool HF.out.symm, hx.below.trans ((hd.trans (by first | exact Drew.refl _ | exact Drew.one _ _ | exact Drew.two _ _ _)).below _)⟩
            · have HA := Lib.hid (HT.out hin (by rw [HE.out]; exact hee))
              have HE' := Lib.hid HE.out.symm
              clear HN HG HE HT
              go_wp2_with fail
              go_quiet ((go_at_call 40; exact quiet_eq ((l01In_c _ _ _ _).mono fun e w' ⟨he, hw'⟩ => ⟨by rw [he, hin], hw'⟩)))
              go_wp2_with fail
              refine (l01Gcd_c e y _ (by omega) (by omega) (by omega) (by omega)).mono ?_
              rintro e1 w2 ⟨rfl, rfl⟩
              generalize gcdI e y = g at hee HE'
              go_wp2
              go_roundw
              case rel => exact ⟨k + 1, by omega, by go_num, by rw [HE'.out], HA.out, hd.trans (by first | exact Drew.refl _ | exact Drew.one _ _ | exact Drew.two _ _ _)⟩
              case measure => simp [intOf]; omega
        · have hk' : T.length - 1 = k := by omega
          rw [← hk'] at hto
          have HA := Lib.hid (braTo_end hp h2 hto)
          rw [hk'] at HA
          have hk1 : (T.length : Int) ≤ (k : Int) + 1 := by omega
          clear hto hk'
          generalize eI T k = z at HA
          go_wp2
          go_ret
          exact ⟨ret_bool HA.out.symm, hx.below.trans ((hd.trans (by first | exact Drew.refl _ | exact Drew.one _ _ | exact Drew.two _ _ _)).below _)⟩
  · obtain ⟨a, k, rfl⟩ := h.len0
    have hlen : (T.length : Int) = 0 := by omega
    have hT : T = [] := List.eq_nil_of_length_eq_zero (by omega)
    subst hT
    rw [braB_nil hp]
    go_enter Tryd.func25, Tryd.ntmps25
    have q0 := hx.cell 0
    go_wp2
    go_ret
    exact ⟨rfl, hx.below⟩
end Go.Proofs.YtglghdkjppcedaaDoor
