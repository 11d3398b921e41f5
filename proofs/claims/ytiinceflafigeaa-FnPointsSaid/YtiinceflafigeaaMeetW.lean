/- Contracts: MeetCurvette. -/
import Derived.Test.YtiinceflafigeaaEuProx
import Derived.Test.YtiinceflafigeaaCurS
import Derived.Test.YtiinceflafigeaaPtC
namespace Go.Proofs.Ytiinceflafigeaa
open Go.RowKit

/-- The sum of the products of the first m multiplicities. -/
def meetTo (T : List Int) (n m : Nat) : Int := sumTo (fun i => gI (seqL T n) i * gI (cuAt (codeL (seqL T n)) (n - 1)) i) m
/-- What MeetCurvette hands back. -/
def meetV (T : List Int) (k : Int) : Int := if ckC T (k + 1) = 0 then meetTo T (k + 1).toNat (k + 1).toNat else 0
theorem meetV_ok {T : List Int} {n : Nat} (h : ckC T (n : Int) = 0) : meetV T ((n : Int) - 1) = meetTo T n n := by
  have e : (n : Int) - 1 + 1 = (n : Int) := by omega
  unfold meetV
  rw [e, if_pos h, Int.toNat_natCast]
theorem meetV_no {T : List Int} {k : Int} (h : ckC T (k + 1) ≠ 0) : meetV T k = 0 := by unfold meetV; rw [if_neg h]

theorem ckC_wrap (T : List Int) {k : Int} (hk0 : -9223372036854775808 ≤ k) (hk1 : k ≤ 9223372036854775807) : ckC T (IntKind.i64.wrap (k + 1)) = ckC T (k + 1) := by
  by_cases h : k = 9223372036854775807
  · subst h
    have e : IntKind.i64.wrap (9223372036854775807 + 1) = -9223372036854775808 := by decide
    rw [e]
    rfl
  · rw [IntWalk.i64_in _ (by omega)]

set_option maxRecDepth 100000 in
set_option maxHeartbeats 4000000 in
theorem implMeetCurvette_c (v : Value) (T : List Int) (k : Int) (w : World) (h : Rd w v T) (hk0 : -9223372036854775808 ≤ k) (hk1 : k ≤ 9223372036854775807) :
    Calls Try.prog 16 #[.agg #[v], .int .i64 k] w fun e w' => e = .returned (.tuple #[.int .i64 (meetV T k), .int .i64 (ckC T (k + 1))]) ∧ Below w.heap.size w w' := by
  have hx := Boxed.start w 26 #[v]
  obtain ⟨a, c, rfl⟩ := h.len0
  have c0 := hx.cell 0
  by_cases h0 : ckC T (k + 1) = 0
  · obtain ⟨hok, hk3, hk4⟩ := ckC_zero h0
    obtain ⟨n, hn⟩ := Int.eq_ofNat_of_zero_le (show 0 ≤ k + 1 by omega)
    have hkn : k = (n : Int) - 1 := by omega
    subst hkn
    have e1 : (n : Int) - 1 + 1 = (n : Int) := by omega
    have hw : IntKind.i64.wrap (n : Int) = (n : Int) := IntWalk.i64_in _ (by omega)
    rw [e1] at h0 ⊢
    have hEu := eu_seq hok n
    have hMl := seqL_len T n
    have hn1 : 1 ≤ n := by omega
    have hn4 : n ≤ 400 := by omega
    have hKl : (codeL (seqL T n)).length = n - 1 := by rw [codeL_len, hMl]
    have hgo := cur_go hEu (by rw [hMl]; omega) (by rw [hMl]; omega)
    have hsm := fun i (hi : i < n) => cur_small hEu (by rw [hMl]; omega) (by rw [hMl]; omega) (t := n - 1) (by rw [hMl]; omega) (i := i) (by rw [hMl]; exact hi)
    have hKOK := kok_code (M := seqL T n) (by rw [hMl]; omega)
    have hnn := fun i => (cuAt_bd hKOK (n - 1) (by omega) (by rw [← hKl]; exact hgo) i).1
    have hcl := cuL_yes hgo
    rw [hKl] at hcl
    have hcb : cuB (codeL (seqL T n)) = true := by
      rw [cuB_yes hgo, hKl]
      have h1 := hsm 0 (by omega)
      have h2 := hEu.pos 0 (by rw [hMl]; omega)
      simp; omega
    have HV := Lib.hid (meetV_ok h0)
    have H0 := Lib.hid h0
    have HC := Lib.hid (ckL_ok (xs := codeL (seqL T ((n : Int)).toNat)) h0)
    go_enter Try.func16, Try.ntmps16
    go_wp2_with fail
    refine (implCodeOf_c _ T n _ (hx.rd h)).mono ?_
    rintro e w1 ⟨ac, kc, rfl, hO, hb⟩
    rw [HC.out, Int.toNat_natCast] at hO ⊢
    rw [h0]
    have hx1 := hx.trans hb
    have hrdK := hO.rd
    rw [hKl] at hrdK ⊢
    have hcall := curvetteMultiplicities_c (.slice ac (n - 1) kc) (codeL (seqL T n)) w1 hrdK hKOK
    rw [hcl, hcb] at hcall
    clear c0 hO
    go_wp2_with fail
    refine hcall.mono ?_
    rintro e w2 ⟨a2, k2, rfl, hO2, hb2⟩
    have hx2 := hx1.trans hb2
    have c2 := hx2.cell 0
    have hal : (cuAt (codeL (seqL T n)) (n - 1)).length = n := by rw [cuAt_len, hKl]; omega
    clear hcall hrdK
    go_wp2_with fail
    refine (firstOf_c _ T n _ (hx2.rd h) hok hn1 (by omega)).mono ?_
    rintro e w3 ⟨g, rfl, hg1, hg2, hc, hf, hb3⟩
    have hx3 := hx2.trans hb3
    have hO3 := hO2.below hb3 (Nat.le_refl _)
    obtain ⟨gc, cc, hce, _⟩ := Own.pos hO3 (by omega)
    injection hce with he1 _ he3
    subst he1
    subst he3
    have hcc : ∀ i, i < n → w3.cell? ⟨gc, i, none⟩ = some (.int .i64 (gI (cuAt (codeL (seqL T n)) (n - 1)) i)) := fun i hi => hO3.cell i (by omega)
    have hpos := fun i (hi : i < n) => hEu.pos i (by rw [hMl]; exact hi)
    have HM := Lib.hid (show ∀ m, meetTo T n (m + 1) = meetTo T n m + gI (seqL T n) m * gI (cuAt (codeL (seqL T n)) (n - 1)) m from fun m => sumTo_succ _ _)
    have hmb : ∀ m, m ≤ n → 0 ≤ meetTo T n m ∧ meetTo T n m ≤ 4096 * (m : Int) := by
      intro m
      induction m with
      | zero => intro _; simp [meetTo, sumTo]
      | succ m ih =>
        intro hm
        have h1 := ih (by omega)
        have h2 := mul_bd (a := gI (seqL T n) m) (A := 64) (b := gI (cuAt (codeL (seqL T n)) (n - 1)) m) (B := 64) (by have := hpos m (by omega); omega) (hpos m (by omega)).2 (hnn m) (by have := hsm m (by omega); have := hpos m (by omega); omega)
        rw [HM.out]
        omega
    have hcb64 : ∀ m, m < n → gI (cuAt (codeL (seqL T n)) (n - 1)) m ≤ 64 := fun m hm => by have := hsm m hm; have := hpos m hm; omega
    clear hO2 hO3 c2 hKOK hgo hcl hcb hEu hsm hal hb2 hb3 hx hx1 hx2 hMl hKl
    go_wp2_with fail
    go_loopw [10, 11, 12, 35] (fun sv _ _ iv wr => ∃ m : Nat, m ≤ n ∧ iv = .int .i64 m ∧ sv = .int .i64 (meetTo T n m) ∧ w3 = wr) (fun _ _ _ iv _ => n - (intOf iv).toNat)
    case atStart => exact ⟨0, Nat.zero_le _, rfl, rfl, rfl⟩
    case round =>
      obtain ⟨m, hm, rfl, rfl, rfl⟩ := hrel
      have hm0 : (0 : Int) ≤ (m : Int) := Int.natCast_nonneg _
      by_cases hlt : m < n
      · have hmi : (m : Int) < (n : Int) := by omega
        have d1 := hc m hlt
        have d2 := hcc m hlt
        have HS := Lib.hid (HM.out m)
        have b1 := hmb m hm
        have b2 := hmb (m + 1) (by omega)
        rw [HM.out m] at b2
        have b3 := mul_bd (a := gI (seqL T n) m) (A := 64) (b := gI (cuAt (codeL (seqL T n)) (n - 1)) m) (B := 64) (by have := hpos m (by omega); omega) (hpos m (by omega)).2 (hnn m) (by
          have h1 := hmb m hm
          have h2 := hcb64 m hlt
          omega)
        clear hc hcc hmb hpos hnn hf hcb64
        generalize gI (seqL T n) m = x at *
        generalize gI (cuAt (codeL (seqL T n)) (n - 1)) m = y at *
        generalize meetTo T n m = s at *
        generalize hp : x * y = p at *
        have w1' : IntKind.i64.wrap p = p := IntWalk.i64_in _ (by omega)
        have w2' : IntKind.i64.wrap (s + p) = s + p := IntWalk.i64_in _ (by omega)
        have HP := Lib.hid hp
        go_wp2
        go_roundw
        case rel => exact ⟨m + 1, by omega, by go_num, by rw [HS.out], by first | rfl | trivial⟩
        case measure => simp [intOf]; omega
      · have hme : m = n := by omega
        subst hme
        have HF := Lib.hid hx3.below
        clear hc hcc hmb hpos hnn hf hcb64
        go_wp2
        go_ret2
        refine ⟨?_, HF.out⟩
        first | rw [HV.out, H0.out] | rw [HV.out]
        first | done | rfl
  · have HV := Lib.hid (meetV_no h0)
    have hcw := ckC_wrap T hk0 hk1
    have hne0 := h0
    rw [← hcw] at hne0
    have HW := Lib.hid hcw
    clear hcw
    generalize hkk : IntKind.i64.wrap (k + 1) = kk at *
    have HC := Lib.hid (ckL_no (xs := codeL (seqL T kk.toNat)) hne0)
    go_enter Try.func16, Try.ntmps16
    go_wp2_with fail
    refine (implCodeOf_c _ T kk _ (hx.rd h)).mono ?_
    rintro e w1 ⟨ac, kc, rfl, hO, hb⟩
    have hne : (ckC T kk != 0) = true := by simp [hne0]
    have HF := Lib.hid (hx.trans hb).below
    rw [HC.out] at hO ⊢
    clear h0 hne0
    go_wp2
    go_ret2
    rw [HV.out, ← HW.out]
    exact ⟨rfl, HF.out⟩
end Go.Proofs.Ytiinceflafigeaa

/- Contract: the reference's MeetCurvette. -/
namespace Go.Proofs.Ytiinceflafigeaa
open Go.RowKit

set_option maxRecDepth 100000 in
set_option maxHeartbeats 4000000 in
theorem specMeetCurvette_c (v : Value) (T : List Int) (k : Int) (w : World) (h : Rd w v T) (hk0 : -9223372036854775808 ≤ k) (hk1 : k ≤ 9223372036854775807) :
    Calls Try.prog 17 #[.agg #[v], .int .i64 k] w fun e w' => e = .returned (.tuple #[.int .i64 (meetV T k), .int .i64 (ckC T (k + 1))]) ∧ Below w.heap.size w w' := by
  have hx := Boxed.start w 26 #[v]
  obtain ⟨a, c, rfl⟩ := h.len0
  have c0 := hx.cell 0
  cases hbr : braB T
  · have HC := Lib.hid (ckC_bra (k := k + 1) hbr)
    have HV := Lib.hid (meetV_no (T := T) (k := k) (by rw [HC.out]; decide))
    go_enter Try.func17, Try.ntmps17
    go_wp2_with fail
    refine (l03Is_c _ T _ (hx.rd h)).mono ?_
    rintro e w1 ⟨rfl, hb⟩
    rw [hbr]
    have HF := Lib.hid (hx.trans hb).below
    go_wp2
    go_ret2
    rw [HV.out, HC.out]
    exact ⟨rfl, HF.out⟩
  · cases hin : inB k 0 399
    · have HC := Lib.hid (ckC_num (k := k + 1) hbr (by rw [inB_not] at hin ⊢; omega))
      have HV := Lib.hid (meetV_no (T := T) (k := k) (by rw [HC.out]; decide))
      go_enter Try.func17, Try.ntmps17
      go_wp2_with fail
      refine (l03Is_c _ T _ (hx.rd h)).mono ?_
      rintro e w1 ⟨rfl, hb⟩
      rw [hbr]
      have HF := Lib.hid (hx.trans hb).below
      go_wp2_with fail
      refine (l01In_c _ _ _ _).mono ?_
      rintro e w2 ⟨rfl, rfl⟩
      rw [hin]
      go_wp2
      go_ret2
      rw [HV.out, HC.out]
      exact ⟨rfl, HF.out⟩
    · have h0 := ckC_ok (k := k + 1) hbr (by rw [inB_iff] at hin ⊢; omega)
      obtain ⟨hok, hk3, hk4⟩ := ckC_zero h0
      obtain ⟨n, hn⟩ := Int.eq_ofNat_of_zero_le (show 0 ≤ k + 1 by omega)
      have hkn : k = (n : Int) - 1 := by omega
      subst hkn
      have e1 : (n : Int) - 1 + 1 = (n : Int) := by omega
      have hw : IntKind.i64.wrap (n : Int) = (n : Int) := IntWalk.i64_in _ (by omega)
      rw [e1] at h0 ⊢
      have hEu := eu_seq hok n
      have hMl := seqL_len T n
      have hn1 : 1 ≤ n := by omega
      have hn4 : n ≤ 400 := by omega
      have hKl : (codeL (seqL T n)).length = n - 1 := by rw [codeL_len, hMl]
      have hgo := cur_go hEu (by rw [hMl]; omega) (by rw [hMl]; omega)
      have hsm := fun i (hi : i < n) => cur_small hEu (by rw [hMl]; omega) (by rw [hMl]; omega) (t := n - 1) (by rw [hMl]; omega) (i := i) (by rw [hMl]; exact hi)
      have hKOK := kok_code (M := seqL T n) (by rw [hMl]; omega)
      have hnn := fun i => (cuAt_bd hKOK (n - 1) (by omega) (by rw [← hKl]; exact hgo) i).1
      have hcl := cuL_yes hgo
      rw [hKl] at hcl
      have hcb : cuB (codeL (seqL T n)) = true := by
        rw [cuB_yes hgo, hKl]
        have h1 := hsm 0 (by omega)
        have h2 := hEu.pos 0 (by rw [hMl]; omega)
        simp; omega
      have HV := Lib.hid (meetV_ok h0)
      have H0 := Lib.hid h0
      go_enter Try.func17, Try.ntmps17
      go_wp2_with fail
      refine (l03Is_c _ T _ (hx.rd h)).mono ?_
      rintro e w1 ⟨rfl, hb⟩
      rw [hbr]
      have hx1 := hx.trans hb
      have c1 := hx1.cell 0
      clear c0
      go_wp2_with fail
      refine (l01In_c _ _ _ _).mono ?_
      rintro e w2 ⟨rfl, rfl⟩
      rw [hin]
      go_wp2_with fail
      refine (l06Sequence_c _ T n _ (hx1.rd h) hok (by omega)).mono ?_
      rintro e w3 ⟨am, km, rfl, oM, hb3⟩
      have hx3 := hx1.trans hb3
      have c3 := hx3.cell 0
      rw [hMl]
      clear c1
      go_wp2_with fail
      refine (l06Code_c _ T n _ (hx3.rd h) hok hn1 hn4).mono ?_
      rintro e w4 ⟨ac, kc, rfl, oK, hb4⟩
      have hx4 := hx3.trans hb4
      have hrdK := oK.rd
      rw [hKl] at hrdK ⊢
      have hcall := l06Curvette_c (.slice ac (n - 1) kc) (codeL (seqL T n)) w4 hrdK hKOK
      rw [hcl, hcb] at hcall
      clear c3
      go_wp2_with fail
      refine hcall.mono ?_
      rintro e w5 ⟨a2, k2, rfl, hO2, hb5⟩
      have hx5 := hx4.trans hb5
      have hal : (cuAt (codeL (seqL T n)) (n - 1)).length = n := by rw [cuAt_len, hKl]; omega
      have oM5 := (oM.below hb4 (Nat.le_refl _)).below hb5 (Nat.le_refl _)
      rw [hal]
      obtain ⟨gc, cc, hce, _⟩ := Own.pos hO2 (by omega)
      injection hce with he1 _ he3
      subst he1
      subst he3
      obtain ⟨gm, cm, hme, _⟩ := Own.pos oM5 (by omega)
      injection hme with he4 _ he6
      subst he4
      subst he6
      have hc : ∀ i, i < n → w5.cell? ⟨gm, i, none⟩ = some (.int .i64 (gI (seqL T n) i)) := fun i hi => oM5.cell i (by omega)
      have hcc : ∀ i, i < n → w5.cell? ⟨gc, i, none⟩ = some (.int .i64 (gI (cuAt (codeL (seqL T n)) (n - 1)) i)) := fun i hi => hO2.cell i (by omega)
      have hpos := fun i (hi : i < n) => hEu.pos i (by rw [hMl]; exact hi)
      have HM := Lib.hid (show ∀ m, meetTo T n (m + 1) = meetTo T n m + gI (seqL T n) m * gI (cuAt (codeL (seqL T n)) (n - 1)) m from fun m => sumTo_succ _ _)
      have hmb : ∀ m, m ≤ n → 0 ≤ meetTo T n m ∧ meetTo T n m ≤ 4096 * (m : Int) := by
        intro m
        induction m with
        | zero => intro _; simp [meetTo, sumTo]
        | succ m ih =>
          intro hm
          have h1 := ih (by omega)
          have h2 := mul_bd (a := gI (seqL T n) m) (A := 64) (b := gI (cuAt (codeL (seqL T n)) (n - 1)) m) (B := 64) (by have := hpos m (by omega); omega) (hpos m (by omega)).2 (hnn m) (by have := hsm m (by omega); have := hpos m (by omega); omega)
          rw [HM.out]
          omega
      have hcb64 : ∀ m, m < n → gI (cuAt (codeL (seqL T n)) (n - 1)) m ≤ 64 := fun m hm => by have := hsm m hm; have := hpos m hm; omega
      clear hO2 hKOK hgo hcl hcb hEu hsm hal hb3 hb4 hb5 hx hx1 hx3 hx4 hMl hKl oM oM5 oK hrdK hcall
      go_wp2_with fail
      go_loopw [7, 10] (fun sv iv wr => ∃ m : Nat, m ≤ n ∧ iv = .int .i64 m ∧ sv = .int .i64 (meetTo T n m) ∧ Drew w5 wr) (fun _ iv _ => n - (intOf iv).toNat)
      case atStart => exact ⟨0, Nat.zero_le _, rfl, rfl, Drew.refl _⟩
      case round =>
        obtain ⟨m, hm, rfl, rfl, nd, rfl⟩ := hrel
        have hm0 : (0 : Int) ≤ (m : Int) := Int.natCast_nonneg _
        by_cases hlt : m < n
        · have hmi : (m : Int) < (n : Int) := by omega
          have d1 := hc m hlt
          have d2 := hcc m hlt
          have HS := Lib.hid (HM.out m)
          have b1 := hmb m hm
          have b2 := hmb (m + 1) (by omega)
          rw [HM.out m] at b2
          have b3 := mul_bd (a := gI (seqL T n) m) (A := 64) (b := gI (cuAt (codeL (seqL T n)) (n - 1)) m) (B := 64) (by have := hpos m (by omega); omega) (hpos m (by omega)).2 (hnn m) (by
            have h1 := hmb m hm
            have h2 := hcb64 m hlt
            omega)
          clear hc hcc hmb hpos hnn hcb64
          generalize gI (seqL T n) m = x at *
          generalize gI (cuAt (codeL (seqL T n)) (n - 1)) m = y at *
          generalize meetTo T n m = s at *
          generalize hp : x * y = p at *
          have w1' : IntKind.i64.wrap p = p := IntWalk.i64_in _ (by omega)
          have w2' : IntKind.i64.wrap (s + p) = s + p := IntWalk.i64_in _ (by omega)
          have HP := Lib.hid hp
          go_wp2_with fail
          go_quiet (fail)
          go_wp2
          go_roundw
          case rel => exact ⟨m + 1, by omega, by go_num, by rw [HS.out], by first | exact Drew.one _ _ | exact Drew.two _ _ _⟩
          case measure => simp [intOf]; omega
        · have hme : m = n := by omega
          subst hme
          have HF := Lib.hid (below_drewN hx5.below nd)
          clear hc hcc hmb hpos hnn hcb64
          go_wp2
          go_ret2
          refine ⟨?_, HF.out⟩
          first | rw [HV.out, H0.out] | rw [HV.out]
          first | done | rfl
end Go.Proofs.Ytiinceflafigeaa

/- MeetCurvette's contracts for a number of the kind int64. -/
namespace Go.Proofs.Ytiinceflafigeaa
open Go.RowKit
theorem wf_bd {k : Int} (h : (Lit.int .i64 k).wf = true) : -9223372036854775808 ≤ k ∧ k ≤ 9223372036854775807 := by
  have e : (Lit.int .i64 k).wf = (decide (IntKind.i64.min ≤ k) && decide (k ≤ IntKind.i64.max)) := rfl
  have e1 : IntKind.i64.min = -9223372036854775808 := by decide
  have e2 : IntKind.i64.max = 9223372036854775807 := by decide
  rw [e, e1, e2] at h
  simpa using h
theorem implMeetW_c (v : Value) (T : List Int) (k : Int) (w : World) (h : Rd w v T) (wf : (Lit.int .i64 k).wf = true) :
    Calls Try.prog 16 #[.agg #[v], .int .i64 k] w fun e w' => e = .returned (.tuple #[.int .i64 (meetV T k), .int .i64 (ckC T (k + 1))]) ∧ Below w.heap.size w w' := implMeetCurvette_c v T k w h (wf_bd wf).1 (wf_bd wf).2
theorem specMeetW_c (v : Value) (T : List Int) (k : Int) (w : World) (h : Rd w v T) (wf : (Lit.int .i64 k).wf = true) :
    Calls Try.prog 17 #[.agg #[v], .int .i64 k] w fun e w' => e = .returned (.tuple #[.int .i64 (meetV T k), .int .i64 (ckC T (k + 1))]) ∧ Below w.heap.size w w' := specMeetCurvette_c v T k w h (wf_bd wf).1 (wf_bd wf).2
end Go.Proofs.Ytiinceflafigeaa
