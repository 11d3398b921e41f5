/- Contracts: ConductorOf. -/
import Derived.Test.YtiinceflafigeaaGen
namespace Go.Proofs.Ytiinceflafigeaa
open Go.RowKit

/-- The conductor after k generators. -/
def conTo (T : List Int) : Nat → Int
  | 0 => 1 - gI T 0
  | k + 1 => conTo T k + (rI T (k + 1) - 1) * vI T (k + 1)
theorem conTo_zero (T : List Int) : conTo T 0 = 1 - gI T 0 := rfl
theorem conTo_succ (T : List Int) (k : Nat) : conTo T (k + 1) = conTo T k + (rI T (k + 1) - 1) * vI T (k + 1) := rfl
theorem conTo_bd {T : List Int} (h : BraOk T) (k : Nat) (hk : k < T.length) : -64 ≤ conTo T k ∧ conTo T k ≤ 63000000000000000 * (k : Int) := by
  induction k with
  | zero => have := h.first; rw [conTo_zero]; omega
  | succ k ih =>
    have h1 := ih (by omega)
    have h2 := rI_bd h (k + 1)
    have h3 := rI_two h hk
    have h4 := vI_bd h hk
    have h5 := mul_bd (a := rI T (k + 1) - 1) (A := 63) (b := vI T (k + 1)) (B := 1000000000000000) (by omega) (by omega) (by omega) (by omega)
    rw [conTo_succ]
    omega

set_option maxRecDepth 100000 in
set_option maxHeartbeats 4000000 in
theorem conductor_c (v : Value) (T : List Int) (w : World) (h : Rd w v T) (hok : BraOk T) :
    Calls Try.prog 152 #[.agg #[v]] w fun e w' => e = .returned (.int .i64 (conTo T (T.length - 1))) ∧ Below w.heap.size w w' := by
  have hx := Boxed.start w 26 #[v]
  have hp := hok.len
  have hl := bra_len hok
  have hn1 : T.length ≤ 1000 := by omega
  have hn2 : ∀ i, i < T.length → 1 ≤ gI T i ∧ gI T i ≤ 1000000000000 := fun i hi => by have := hok.num i hi; omega
  obtain ⟨b, off, cap, rfl, hc1, hc2, hb, hc⟩ := h.cells hp
  have hx0 := hx.trans (Below.refl _ _).drew
  have hlp : (0 : Int) < (T.length : Int) := by omega
  go_enter Try.func152, Try.ntmps152
  go_wp2_with fail
  go_cut [3, 4] from 7 to 10 (fun s3 s4 wc => (∃ a k, s3 = .slice a T.length k) ∧ (∃ a k, s4 = .slice a T.length k) ∧ Rd wc s3 (rTo T T.length) ∧ Rd wc s4 (vTo T T.length) ∧ Boxed w wc 26 #[.slice (some ⟨b, off, none⟩) T.length cap])
  case first =>
    have HC : (w.alloc (.cells #[.slice (some ⟨b, off, none⟩) T.length cap] 26)).drew.cell? ⟨w.heap.size, 0, none⟩ = some (.slice (some ⟨b, off, none⟩) T.length cap) := hx0.cell 0
    go_region_held3 (fun w' => w'.cell? ⟨w.heap.size, 0, none⟩ = some (.slice (some ⟨b, off, none⟩) T.length cap))
      (first | assumption | exact HC)
      (first
        | (go_at_call 186; (with_reducible refine (ratios_c _ T _ (hx0.rd h) hok).mono ?_); rintro e wa ⟨ga, ka, rfl, oa, hba⟩; have hxa := hx0.trans hba; have HC : wa.cell? ⟨w.heap.size, 0, none⟩ = some (.slice (some ⟨b, off, none⟩) T.length cap) := hxa.cell 0)
        | (go_at_call 186; (with_reducible refine (ratios_c _ T _ (hxb.rd h) hok).mono ?_); rintro e wa ⟨ga, ka, rfl, oa, hba⟩; have ob := ob.below hba (Nat.le_refl _); have hxa := hxb.trans hba; have HC : wa.cell? ⟨w.heap.size, 0, none⟩ = some (.slice (some ⟨b, off, none⟩) T.length cap) := hxa.cell 0)
        | (go_at_call 142; (with_reducible refine (generators_c _ T _ (hx0.rd h) hok).mono ?_); rintro e wb ⟨gb, kb, rfl, ob, hbb⟩; have hxb := hx0.trans hbb; have HC : wb.cell? ⟨w.heap.size, 0, none⟩ = some (.slice (some ⟨b, off, none⟩) T.length cap) := hxb.cell 0)
        | (go_at_call 142; (with_reducible refine (generators_c _ T _ (hxa.rd h) hok).mono ?_); rintro e wb ⟨gb, kb, rfl, ob, hbb⟩; have oa := oa.below hbb (Nat.le_refl _); have hxb := hxa.trans hbb; have HC : wb.cell? ⟨w.heap.size, 0, none⟩ = some (.slice (some ⟨b, off, none⟩) T.length cap) := hxb.cell 0))
    all_goals
      have ra := oa.rd
      have rb := ob.rd
      rw [rTo_len] at ra
      rw [vTo_len] at rb
      clear oa ob HC
      go_wp2
      go_meet
      first | exact ⟨⟨_, _, rfl⟩, ⟨_, _, rfl⟩, ra, rb, hxb⟩ | exact ⟨⟨_, _, rfl⟩, ⟨_, _, rfl⟩, ra, rb, hxa⟩
  case rest =>
    obtain ⟨⟨a1, k1, rfl⟩, ⟨a2, k2, rfl⟩, ra, rb, hbx⟩ := hcut
    clear hx hx0
    obtain ⟨g1, o1, l1, he1, p1, p2, p3, cA⟩ := ra.cells (by simp; omega)
    obtain ⟨g2, o2, l2, he2, q1, q2, q3, cB⟩ := rb.cells (by simp; omega)
    injection he1 with he1 he1n he1'
    injection he2 with he2 he2n he2'
    subst he1 he1' he2 he2'
    clear he1n he2n
    rw [rTo_len] at p1 cA
    rw [vTo_len] at q1 cB
    clear ra rb
    have hT0 := hok.first
    have d0 : wc.cell? ⟨g2, o2, none⟩ = some (.int .i64 (vI T 0)) := by have := cB 0 hp; rwa [gI_vTo hp, Nat.add_zero] at this
    have hE0 := conTo_zero T
    rw [vI_zero] at d0
    generalize gI T 0 = t0 at d0 hT0 hE0
    have HA := Lib.hid cA
    have HB := Lib.hid cB
    clear cA cB
    go_wp2_with fail
    clear d0
    go_loopw [5, 6] (fun s i wr => ∃ k : Nat, k < T.length ∧ i = .int .i64 ((k : Int) + 1) ∧ s = .int .i64 (conTo T k) ∧ Drew wc wr) (fun _ i _ => T.length - (intOf i).toNat)
    case atStart => exact ⟨0, hp, rfl, by rw [hE0], Drew.refl _⟩
    case round =>
      obtain ⟨j, hj, rfl, rfl, hd⟩ := hrel
      obtain ⟨wo, rfl⟩ : ∃ wo : World, wo = wr := ⟨_, rfl⟩
      by_cases hlt : j + 1 < T.length
      · have dB := (hd.cell _).trans (HB.out (j + 1) hlt)
        rw [gI_vTo hlt] at dB
        have dA := (hd.cell _).trans (HA.out (j + 1) hlt)
        rw [gI_rTo hlt] at dA
        have b1 := rI_bd hok (j + 1)
        have b7 := rI_two hok hlt
        have b2 := vI_bd hok hlt
        have b8 := conTo_bd hok j (by omega)
        have HY := Lib.hid (conTo_succ T j)
        generalize rI T (j + 1) = r at dA b1 b7 HY
        generalize vI T (j + 1) = z at dB b2 HY
        generalize conTo T j = c at b8 HY
        have b5 := mul_bd (a := r - 1) (A := 63) (b := z) (B := 1000000000000000) (by omega) (by omega) (by omega) (by omega)
        have w5 : IntKind.i64.wrap (r - 1) = r - 1 := IntWalk.i64_in _ (by omega)
        have w6 : IntKind.i64.wrap ((r - 1) * z) = (r - 1) * z := IntWalk.i64_in _ (by omega)
        have w7 : IntKind.i64.wrap (c + (r - 1) * z) = c + (r - 1) * z := IntWalk.i64_in _ (by omega)
        have f1 : (j : Int) + 1 - 1 = (j : Int) := by omega
        have f2 : IntKind.i64.wrap (j : Int) = (j : Int) := IntWalk.i64_in _ (by omega)
        have f3 : (0 : Int) ≤ (j : Int) := by omega
        have f4 : (j : Int) < (T.length : Int) := by omega
        have f5 : (j : Int) + 1 < (T.length : Int) := by omega
        have f6 : (0 : Int) ≤ (j : Int) + 1 := by omega
        have f7 : ((j : Int) + 1).toNat = j + 1 := by omega
        go_wp2_with fail
        go_quiet (fail)
        go_wp2
        go_roundw
        case rel => exact ⟨j + 1, by omega, by go_num, by rw [HY.out], hd.trans (Drew.one _ _)⟩
        case measure => simp [intOf]; omega
      · have HJ : Hid (T.length - 1 = j) := Lib.hid (by omega)
        have f5 : (T.length : Int) ≤ (j : Int) + 1 := by omega
        go_wp2
        go_ret
        rw [HJ.out]
        exact ⟨rfl, hbx.below.trans (hd.below _)⟩

set_option maxRecDepth 100000 in
set_option maxHeartbeats 4000000 in
theorem l05Conductor_c (v : Value) (T : List Int) (w : World) (h : Rd w v T) (hok : BraOk T) :
    Calls Try.prog 153 #[.agg #[v]] w fun e w' => e = .returned (.int .i64 (conTo T (T.length - 1))) ∧ Below w.heap.size w w' := by
  have hx := Boxed.start w 26 #[v]
  have hp := hok.len
  have hl := bra_len hok
  have hn1 : T.length ≤ 1000 := by omega
  have hn2 : ∀ i, i < T.length → 1 ≤ gI T i ∧ gI T i ≤ 1000000000000 := fun i hi => by have := hok.num i hi; omega
  obtain ⟨b, off, cap, rfl, hc1, hc2, hb, hc⟩ := h.cells hp
  have hx0 := hx.trans (Below.refl _ _).drew
  have hlp : (0 : Int) < (T.length : Int) := by omega
  go_enter Try.func153, Try.ntmps153
  go_wp2_with fail
  go_cut [3, 4] from 7 to 10 (fun s3 s4 wc => (∃ a k, s3 = .slice a T.length k) ∧ (∃ a k, s4 = .slice a T.length k) ∧ Rd wc s3 (eTo T T.length) ∧ Rd wc s4 (vTo T T.length) ∧ Boxed w wc 26 #[.slice (some ⟨b, off, none⟩) T.length cap])
  case first =>
    have HC : (w.alloc (.cells #[.slice (some ⟨b, off, none⟩) T.length cap] 26)).drew.cell? ⟨w.heap.size, 0, none⟩ = some (.slice (some ⟨b, off, none⟩) T.length cap) := hx0.cell 0
    go_region_held3 (fun w' => w'.cell? ⟨w.heap.size, 0, none⟩ = some (.slice (some ⟨b, off, none⟩) T.length cap))
      (first | assumption | exact HC)
      (first
        | (go_at_call 139; (with_reducible refine (l03Divisors_c _ T _ (hx0.rd h) hp hn1 hn2).mono ?_); rintro e wa ⟨ga, ka, rfl, oa, hba⟩; have hxa := hx0.trans hba; have HC : wa.cell? ⟨w.heap.size, 0, none⟩ = some (.slice (some ⟨b, off, none⟩) T.length cap) := hxa.cell 0)
        | (go_at_call 139; (with_reducible refine (l03Divisors_c _ T _ (hxb.rd h) hp hn1 hn2).mono ?_); rintro e wa ⟨ga, ka, rfl, oa, hba⟩; have ob := ob.below hba (Nat.le_refl _); have hxa := hxb.trans hba; have HC : wa.cell? ⟨w.heap.size, 0, none⟩ = some (.slice (some ⟨b, off, none⟩) T.length cap) := hxa.cell 0)
        | (go_at_call 140; (with_reducible refine (l05Generators_c _ T _ (hx0.rd h) hok).mono ?_); rintro e wb ⟨gb, kb, rfl, ob, hbb⟩; have hxb := hx0.trans hbb; have HC : wb.cell? ⟨w.heap.size, 0, none⟩ = some (.slice (some ⟨b, off, none⟩) T.length cap) := hxb.cell 0)
        | (go_at_call 140; (with_reducible refine (l05Generators_c _ T _ (hxa.rd h) hok).mono ?_); rintro e wb ⟨gb, kb, rfl, ob, hbb⟩; have oa := oa.below hbb (Nat.le_refl _); have hxb := hxa.trans hbb; have HC : wb.cell? ⟨w.heap.size, 0, none⟩ = some (.slice (some ⟨b, off, none⟩) T.length cap) := hxb.cell 0))
    all_goals
      have ra := oa.rd
      have rb := ob.rd
      rw [eTo_len] at ra
      rw [vTo_len] at rb
      clear oa ob HC
      go_wp2
      go_meet
      first | exact ⟨⟨_, _, rfl⟩, ⟨_, _, rfl⟩, ra, rb, hxb⟩ | exact ⟨⟨_, _, rfl⟩, ⟨_, _, rfl⟩, ra, rb, hxa⟩
  case rest =>
    obtain ⟨⟨a1, k1, rfl⟩, ⟨a2, k2, rfl⟩, ra, rb, hbx⟩ := hcut
    clear hx hx0
    obtain ⟨g1, o1, l1, he1, p1, p2, p3, cA⟩ := ra.cells (by simp; omega)
    obtain ⟨g2, o2, l2, he2, q1, q2, q3, cB⟩ := rb.cells (by simp; omega)
    injection he1 with he1 he1n he1'
    injection he2 with he2 he2n he2'
    subst he1 he1' he2 he2'
    clear he1n he2n
    rw [eTo_len] at p1 cA
    rw [vTo_len] at q1 cB
    clear ra rb
    have hT0 := hok.first
    have q0 := hbx.cell 0
    have d0 : wc.cell? ⟨b, off, none⟩ = some (.int .i64 (gI T 0)) := by rw [hbx.below.cell (p := ⟨b, off, none⟩) hb]; exact hc 0 hp
    have hE0 := conTo_zero T
    generalize gI T 0 = t0 at d0 hT0 hE0
    have HA := Lib.hid cA
    have HB := Lib.hid cB
    clear cA cB
    go_wp2_with fail
    clear d0
    go_loopw [5, 6] (fun s i wr => ∃ k : Nat, k < T.length ∧ i = .int .i64 ((k : Int) + 1) ∧ s = .int .i64 (conTo T k) ∧ Drew wc wr) (fun _ i _ => T.length - (intOf i).toNat)
    case atStart => exact ⟨0, hp, rfl, by rw [hE0], Drew.refl _⟩
    case round =>
      obtain ⟨j, hj, rfl, rfl, hd⟩ := hrel
      obtain ⟨wo, rfl⟩ : ∃ wo : World, wo = wr := ⟨_, rfl⟩
      by_cases hlt : j + 1 < T.length
      · have dB := (hd.cell _).trans (HB.out (j + 1) hlt)
        rw [gI_vTo hlt] at dB
        have dA := (hd.cell _).trans (HA.out (j + 1) hlt)
        rw [gI_eTo hlt] at dA
        have dA0 := (hd.cell _).trans (HA.out j (by omega))
        rw [gI_eTo (by omega)] at dA0
        have b0 := eI_bd hok (j + 1)
        have b6 := eI_bd hok j
        have b1 := rI_bd hok (j + 1)
        have b7 := rI_two hok hlt
        have b2 := vI_bd hok hlt
        have b8 := conTo_bd hok j (by omega)
        have HY := Lib.hid (conTo_succ T j)
        rw [rI_succ] at b1 b7 HY
        generalize eI T (j + 1) = y at dA b0 b1 b7 HY
        generalize eI T j = x at dA0 b6 b1 b7 HY
        have hyn : ¬ y = 0 := by omega
        have htd : Int.tdiv x y = x / y := Int.tdiv_eq_ediv_of_nonneg (by omega)
        have w4 : IntKind.i64.wrap (x / y) = x / y := IntWalk.i64_in _ (by omega)
        generalize vI T (j + 1) = z at dB b2 HY
        generalize conTo T j = c at b8 HY
        have b5 := mul_bd (a := x / y - 1) (A := 63) (b := z) (B := 1000000000000000) (by omega) (by omega) (by omega) (by omega)
        have w5 : IntKind.i64.wrap (x / y - 1) = x / y - 1 := IntWalk.i64_in _ (by omega)
        have w6 : IntKind.i64.wrap ((x / y - 1) * z) = (x / y - 1) * z := IntWalk.i64_in _ (by omega)
        have w7 : IntKind.i64.wrap (c + (x / y - 1) * z) = c + (x / y - 1) * z := IntWalk.i64_in _ (by omega)
        have f1 : (j : Int) + 1 - 1 = (j : Int) := by omega
        have f2 : IntKind.i64.wrap (j : Int) = (j : Int) := IntWalk.i64_in _ (by omega)
        have f3 : (0 : Int) ≤ (j : Int) := by omega
        have f4 : (j : Int) < (T.length : Int) := by omega
        have f5 : (j : Int) + 1 < (T.length : Int) := by omega
        have f6 : (0 : Int) ≤ (j : Int) + 1 := by omega
        have f7 : ((j : Int) + 1).toNat = j + 1 := by omega
        go_wp2_with fail
        go_quiet (fail)
        go_wp2
        go_roundw
        case rel => exact ⟨j + 1, by omega, by go_num, by rw [HY.out], hd.trans (Drew.one _ _)⟩
        case measure => simp [intOf]; omega
      · have HJ : Hid (T.length - 1 = j) := Lib.hid (by omega)
        have f5 : (T.length : Int) ≤ (j : Int) + 1 := by omega
        go_wp2
        go_ret
        rw [HJ.out]
        exact ⟨rfl, hbx.below.trans (hd.below _)⟩

set_option maxHeartbeats 1000000 in
theorem implConductorOf_c (v : Value) (T : List Int) (w : World) (h : Rd w v T) :
    Calls Try.prog 55 #[.agg #[v]] w fun e w' => e = .returned (.tuple #[.int .i64 (okN (braB T) (conTo T (T.length - 1))), .int .i64 (okC (braB T) 1)]) ∧ Below w.heap.size w w' := by
  have hx := Boxed.start w 26 #[v]
  obtain ⟨a1, k1, rfl⟩ := h.len0
  cases hc : braB T
  · go_enter Try.func55, Try.ntmps55
    go_wp2_with fail
    refine (implIsBranch_c _ T _ (hx.rd h)).mono ?_
    rintro e w1 ⟨rfl, hb⟩
    rw [hc]
    go_wp2
    go_ret2
    rw [okN_false rfl, okC_false rfl]
    exact ⟨rfl, (hx.trans hb).below⟩
  · have hok := braB_iff.1 hc
    go_enter Try.func55, Try.ntmps55
    go_wp2_with fail
    refine (implIsBranch_c _ T _ (hx.rd h)).mono ?_
    rintro e w1 ⟨rfl, hb⟩
    rw [hc]
    have hx1 := hx.trans hb
    have c0 := hx1.cell 0
    go_wp2_with fail
    refine (conductor_c _ T _ (hx1.rd h) hok).mono ?_
    rintro e w2 ⟨rfl, hb2⟩
    go_wp2
    go_ret2
    rw [okN_true rfl, okC_true rfl]
    exact ⟨rfl, (hx1.trans hb2).below⟩

end Go.Proofs.Ytiinceflafigeaa
