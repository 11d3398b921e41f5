/- Contract: spec.l05Generators. -/
import Derived.Test.YtiinceflafigeaaGenI
import Derived.Test.YtiinceflafigeaaPushS
namespace Go.Proofs.Ytiinceflafigeaa
open Go.RowKit

/-- The divisors e (block ge) and the first k generators lie apart. -/
def GenR (w0 : Nat) (T : List Int) (wr : World) (ge : Nat) (v : Value) (k : Nat) : Prop :=
  (∃ g c, v = .slice (some ⟨g, 0, none⟩) k c ∧ ge ≠ g) ∧ OwnI wr w0 v (vTo T k) ∧ ge < wr.heap.size ∧ w0 ≤ ge ∧ ∀ i, i < T.length → wr.cell? ⟨ge, i, none⟩ = some (.int .i64 (eI T i))

set_option maxRecDepth 100000 in
set_option maxHeartbeats 4000000 in
theorem l05Generators_c (v : Value) (T : List Int) (w : World) (h : Rd w v T) (hok : BraOk T) :
    Calls Try.prog 140 #[.agg #[v]] w (RetI w (vTo T T.length)) := by
  obtain ⟨i0, hi, hz0, hz1, hz2⟩ := info_parts Try.infoI
  have hx := Boxed.start w 26 #[v]
  have hp := hok.len
  have hl := bra_len hok
  have hn1 : T.length ≤ 1000 := by omega
  have hn2 : ∀ i, i < T.length → 1 ≤ gI T i ∧ gI T i ≤ 1000000000000 := fun i hi => by have := hok.num i hi; omega
  obtain ⟨b, off, cap, rfl, hc1, hc2, hb, hc⟩ := h.cells hp
  have hx0 := hx.trans (Below.refl _ _).drew
  have hx1 := (hx.alloc (.cells #[.int .i64 (gI T 0)] 2)).trans (Below.refl _ _).drew
  have hlp : (0 : Int) < (T.length : Int) := by omega
  go_enter Try.func140, Try.ntmps140
  go_wp2_with fail
  go_cut [3, 4] from 6 to 12 (fun s3 s4 wc => ∃ ge ke, s3 = .slice (some ⟨ge, 0, none⟩) T.length ke ∧ GenR (w.heap.size + 1) T wc ge s4 1 ∧ Boxed w wc 26 #[.slice (some ⟨b, off, none⟩) T.length cap])
  case first =>
    have HC : (w.alloc (.cells #[.slice (some ⟨b, off, none⟩) T.length cap] 26)).drew.cell? ⟨w.heap.size, 0, none⟩ = some (.slice (some ⟨b, off, none⟩) T.length cap) ∧ (w.alloc (.cells #[.slice (some ⟨b, off, none⟩) T.length cap] 26)).drew.cell? ⟨b, off, none⟩ = some (.int .i64 (gI T 0)) := ⟨hx0.cell 0, by rw [hx0.below.cell (p := ⟨b, off, none⟩) hb]; exact hc 0 hp⟩
    have HC1 : (((w.alloc (.cells #[.slice (some ⟨b, off, none⟩) T.length cap] 26)).alloc (.cells #[.int .i64 (gI T 0)] 2)).drew).cell? ⟨w.heap.size, 0, none⟩ = some (.slice (some ⟨b, off, none⟩) T.length cap) ∧ (((w.alloc (.cells #[.slice (some ⟨b, off, none⟩) T.length cap] 26)).alloc (.cells #[.int .i64 (gI T 0)] 2)).drew).cell? ⟨b, off, none⟩ = some (.int .i64 (gI T 0)) := ⟨hx1.cell 0, by rw [hx1.below.cell (p := ⟨b, off, none⟩) hb]; exact hc 0 hp⟩
    go_region_held3 (fun w' => w'.cell? ⟨w.heap.size, 0, none⟩ = some (.slice (some ⟨b, off, none⟩) T.length cap) ∧ w'.cell? ⟨b, off, none⟩ = some (.int .i64 (gI T 0)))
      (first | assumption | exact HC2 | exact HC | exact HC1)
      (first
        | (go_at_call 139; (with_reducible refine (l03Divisors_c _ T _ (hx0.rd h) hp hn1 hn2).mono ?_); rintro e w1 ⟨ge, ke, rfl, ho, hb1⟩; have hx2 := hx0.trans hb1; have HC : w1.cell? ⟨w.heap.size, 0, none⟩ = some (.slice (some ⟨b, off, none⟩) T.length cap) ∧ w1.cell? ⟨b, off, none⟩ = some (.int .i64 (gI T 0)) := ⟨hx2.cell 0, by rw [hx2.below.cell (p := ⟨b, off, none⟩) hb]; exact hc 0 hp⟩; have hx3 := hx2.alloc (.cells #[.int .i64 (gI T 0)] 2); have HC2 : (w1.alloc (.cells #[.int .i64 (gI T 0)] 2)).cell? ⟨w.heap.size, 0, none⟩ = some (.slice (some ⟨b, off, none⟩) T.length cap) ∧ (w1.alloc (.cells #[.int .i64 (gI T 0)] 2)).cell? ⟨b, off, none⟩ = some (.int .i64 (gI T 0)) := ⟨hx3.cell 0, by rw [hx3.below.cell (p := ⟨b, off, none⟩) hb]; exact hc 0 hp⟩)
        | (go_at_call 139; (with_reducible refine (l03Divisors_c _ T _ (hx1.rd h) hp hn1 hn2).mono ?_); rintro e w1 ⟨ge, ke, rfl, ho, hb1⟩; have hx2 := hx1.trans hb1; have HC : w1.cell? ⟨w.heap.size, 0, none⟩ = some (.slice (some ⟨b, off, none⟩) T.length cap) ∧ w1.cell? ⟨b, off, none⟩ = some (.int .i64 (gI T 0)) := ⟨hx2.cell 0, by rw [hx2.below.cell (p := ⟨b, off, none⟩) hb]; exact hc 0 hp⟩))
    · obtain ⟨g', cap', hge, hg0, hg1, hg2, hg3⟩ := Own.pos ho (by simp; omega)
      injection hge with hge1 hge2 hge3
      subst hge1 hge3
      clear hge2
      have hgb : w.heap.size + 1 ≤ g' := Nat.le_trans (Nat.le_of_eq (by simp)) hg0
      have hal : Below w1.heap.size w1 (w1.alloc (.cells #[.int .i64 (gI T 0)] 2)) := (Below.refl _ _).alloc (Nat.le_refl _) _
      have hs1 := hx2.size
      go_wp2
      go_meet
      refine ⟨g', ke, rfl, ⟨⟨_, _, rfl, by omega⟩, ?_, by simp; omega, hgb, fun i hi => ?_⟩, hx3⟩
      · have := own_one (e := 2) w1 (w.heap.size + 1) (by omega) (gI T 0)
        simpa [vTo, vI] using this
      · rw [hal.cell (p := ⟨g', i, none⟩) hg1, Own.cell (xs := eTo T T.length) ho i (by simp; omega), gI_eTo hi]
    · obtain ⟨g', cap', hge, hg0, hg1, hg2, hg3⟩ := Own.pos ho (by simp; omega)
      injection hge with hge1 hge2 hge3
      subst hge1 hge3
      clear hge2
      have hgb : w.heap.size + 2 ≤ g' := Nat.le_trans (Nat.le_of_eq (by simp)) hg0
      have hs1 := hx2.size
      have hlit := own_one (e := 2) (w.alloc (.cells #[.slice (some ⟨b, off, none⟩) T.length cap] 26)) (w.heap.size + 1) (by simp) (gI T 0)
      have hlit2 := (hlit.below (below_drewN (Below.refl _ _) 1) (Nat.le_refl _)).below hb1 (Nat.le_refl _)
      go_wp2
      go_meet
      refine ⟨g', ke, rfl, ⟨⟨_, _, rfl, by omega⟩, ?_, hg1, by omega, fun i hi => ?_⟩, hx2⟩
      · simpa [vTo, vI] using hlit2
      · rw [Own.cell (xs := eTo T T.length) ho i (by simp; omega), gI_eTo hi]
  case rest =>
    obtain ⟨ge, ke, rfl, hG, hbx⟩ := hcut
    clear hx hx0 hx1
    go_wp2_with fail
    go_loopw [4, 5] (fun v i wr => ∃ k : Nat, 1 ≤ k ∧ k ≤ T.length ∧ i = .int .i64 k ∧ GenR (w.heap.size + 1) T wr ge v k ∧ Boxed w wr 26 #[.slice (some ⟨b, off, none⟩) T.length cap]) (fun _ i _ => T.length - (intOf i).toNat)
    case atStart => exact ⟨1, Nat.le_refl _, by omega, rfl, hG, hbx⟩
    case round =>
      clear hG hbx
      obtain ⟨k, hk1, hk, rfl, ⟨⟨g, c, rfl, hne⟩, hown, hge1, hge2, hcell⟩, hbx⟩ := hrel
      obtain ⟨wo, rfl⟩ : ∃ wo : World, wo = wr := ⟨_, rfl⟩
      by_cases hlt : k < T.length
      · have q0 := hbx.cell 0
        have hsz := hbx.size
        have hgs := (hown.block g rfl).2
        have hgl := (hown.block g rfl).1
        have hkT : (k : Int) < (T.length : Int) := by omega
        have dT : wo.cell? ⟨b, off + k, none⟩ = some (.int .i64 (gI T k)) := by rw [hbx.below.cell (p := ⟨b, off + k, none⟩) hb]; exact hc k hlt
        have HY := Lib.hid (vTo_succ T k)
        by_cases hk2 : k = 1
        · subst hk2
          have HV := Lib.hid (vI_one T)
          have HC := Lib.hid hcell
          clear hcell
          generalize gI T 1 = t at dT HV
          go_wp2_with (at_builtin; refine wpList_pushL rfl (.tmp 21) (.tmp 26) 24 rfl (w.heap.size + 1) 2 i0 Try.underlying24 hi hz0 hz1 hz2 (.slice (some ⟨g, 0, none⟩) 1 c) (vTo T 1) t rfl hown rfl (by simp) (by omega) ?_; intro g2 c2 w2 hown' hkp hlies)
          have hbx' := hbx.push hown hkp
          rw [← HV.out, ← HY.out, vTo_len] at hown'
          have hlies' : g = g2 ∨ wo.heap.size ≤ g2 := hlies.imp (fun h => by simpa [Value.ownBlock] using h) id
          have hkc : ∀ i, w2.cell? ⟨ge, i, none⟩ = wo.cell? ⟨ge, i, none⟩ := fun i => hkp.cell (p := ⟨ge, i, none⟩) hge1 (by simp [Value.ownBlock]; omega)
          have hsz2 := hkp.size
          clear hkp hlies
          go_roundw
          case rel => exact ⟨1 + 1, by omega, by omega, by go_num, ⟨⟨g2, c2, rfl, by omega⟩, hown', by omega, hge2, fun i hi => by rw [hkc]; exact HC.out i hi⟩, hbx'⟩
          case measure => simp [intOf]; omega
        · obtain ⟨j, rfl⟩ : ∃ j, k = j + 2 := ⟨k - 2, by omega⟩
          have hO := (show OwnI wo (w.heap.size + 1) (.slice (some ⟨g, 0, none⟩) (vTo T (j + 2)).length c) (vTo T (j + 2)) by rw [vTo_len]; exact hown)
          have dV := hO.cell (j + 1) (by simp)
          rw [gI_vTo (by omega)] at dV
          have dE0 := hcell j (by omega)
          have dE1 := hcell (j + 1) (by omega)
          have dT1 : wo.cell? ⟨b, off + (j + 1), none⟩ = some (.int .i64 (gI T (j + 1))) := by rw [hbx.below.cell (p := ⟨b, off + (j + 1), none⟩) hb]; exact hc _ (by omega)
          have b0 := eI_bd hok (j + 1)
          have b1 := rI_bd hok (j + 1)
          have b2 := vI_bd hok (i := j + 1) (by omega)
          have b3 := hok.num (j + 1) (by omega)
          have b4 := hok.num (j + 2) hlt
          have b6 := eI_bd hok j
          have HV := Lib.hid (vI_two T j)
          rw [rI_succ] at HV b1
          have HC := Lib.hid hcell
          clear hcell hO hk2
          generalize eI T (j + 1) = y at dE1 b0 b1 HV
          generalize eI T j = x at dE0 b6 b1 HV
          have hvz := gI_vTo (T := T) (i := j + 1) (k := j + 2) (by omega)
          generalize vI T (j + 1) = z at dV b2 HV hvz
          generalize gI T (j + 1) = s at dT1 b3 HV
          generalize gI T (j + 2) = t at dT b4 HV
          have hyn : ¬ y = 0 := by omega
          have htd : Int.tdiv x y = x / y := Int.tdiv_eq_ediv_of_nonneg (by omega)
          have b5 := mul_bd (a := x / y) (A := 64) (b := z) (B := 1000000000000000) (by omega) (by omega) (by omega) (by omega)
          have w4 : IntKind.i64.wrap (x / y) = x / y := IntWalk.i64_in _ (by omega)
          have w5 : IntKind.i64.wrap (x / y * z) = x / y * z := IntWalk.i64_in _ (by omega)
          have w6 : IntKind.i64.wrap (x / y * z + t) = x / y * z + t := IntWalk.i64_in _ (by omega)
          have w7 : IntKind.i64.wrap (x / y * z + t - s) = x / y * z + t - s := IntWalk.i64_in _ (by omega)
          have e1 : ((j + 2 : Nat) : Int) - 1 = (j : Int) + 1 := by omega
          have e2 : IntKind.i64.wrap ((j : Int) + 1) = (j : Int) + 1 := IntWalk.i64_in _ (by omega)
          have e3 : ((j : Int) + 1).toNat = j + 1 := by omega
          have e4 : (0 : Int) ≤ (j : Int) + 1 := by omega
          have e5 : (j : Int) + 1 < (T.length : Int) := by omega
          have e6 : (j : Int) + 1 < ((j + 2 : Nat) : Int) := by omega
          have e8 : (j : Int) + 2 - 1 = (j : Int) + 1 := by omega
          have e9 : (j : Int) + 1 < (j : Int) + 2 := by omega
          have f1 : (j : Int) + 2 - 2 = (j : Int) := by omega
          have f2 : IntKind.i64.wrap (j : Int) = (j : Int) := IntWalk.i64_in _ (by omega)
          have f3 : (0 : Int) ≤ (j : Int) := by omega
          have f4 : (j : Int) < (T.length : Int) := by omega
          have f5 : (j : Int) + 2 < (T.length : Int) := by omega
          have f6 : (0 : Int) ≤ (j : Int) + 2 := by omega
          have f7 : ((j : Int) + 2).toNat = j + 2 := by omega
          have f8 : ¬ (j : Int) + 2 = 1 := by omega
          have f9 : ((j : Int) + 2 == 1) = false := beq_false_of_ne (by omega)
          have hal : Below wo.heap.size wo ((wo.alloc (.cells #[.int .i64 (x / y * z + t - s)] 2)).drew) := ((Below.refl _ _).alloc (Nat.le_refl _) _).drew
          have hO := hown.below hal (Nat.le_refl _)
          have hbx' := hbx.trans hal
          go_wp2_with fail
          have HS0 : wo.drew.cell? ⟨w.heap.size, 0, none⟩ = some (.slice (some ⟨b, off, none⟩) T.length cap) ∧ wo.drew.cell? ⟨b, off + (j + 2), none⟩ = some (.int .i64 t) ∧ wo.drew.cell? ⟨b, off + (j + 1), none⟩ = some (.int .i64 s) ∧ wo.drew.cell? ⟨ge, j, none⟩ = some (.int .i64 x) ∧ wo.drew.cell? ⟨ge, j + 1, none⟩ = some (.int .i64 y) ∧ wo.drew.cell? ⟨g, j + 1, none⟩ = some (.int .i64 z) := ⟨q0, dT, dT1, dE0, dE1, dV⟩
          have HS1 : ((wo.alloc (.cells #[.int .i64 (x / y * z + t - s)] 2)).drew).cell? ⟨w.heap.size, 0, none⟩ = some (.slice (some ⟨b, off, none⟩) T.length cap) ∧ ((wo.alloc (.cells #[.int .i64 (x / y * z + t - s)] 2)).drew).cell? ⟨b, off + (j + 2), none⟩ = some (.int .i64 t) ∧ ((wo.alloc (.cells #[.int .i64 (x / y * z + t - s)] 2)).drew).cell? ⟨b, off + (j + 1), none⟩ = some (.int .i64 s) ∧ ((wo.alloc (.cells #[.int .i64 (x / y * z + t - s)] 2)).drew).cell? ⟨ge, j, none⟩ = some (.int .i64 x) ∧ ((wo.alloc (.cells #[.int .i64 (x / y * z + t - s)] 2)).drew).cell? ⟨ge, j + 1, none⟩ = some (.int .i64 y) ∧ ((wo.alloc (.cells #[.int .i64 (x / y * z + t - s)] 2)).drew).cell? ⟨g, j + 1, none⟩ = some (.int .i64 z) := ⟨hbx'.cell 0, by rw [hal.cell (p := ⟨b, off + (j + 2), none⟩) (by simp; omega)]; exact dT, by rw [hal.cell (p := ⟨b, off + (j + 1), none⟩) (by simp; omega)]; exact dT1, by rw [hal.cell (p := ⟨ge, j, none⟩) hge1]; exact dE0, by rw [hal.cell (p := ⟨ge, j + 1, none⟩) hge1]; exact dE1, by rw [hal.cell (p := ⟨g, j + 1, none⟩) hgs]; exact dV⟩
          have HZ := Lib.hid hvz
          have n1 : ¬ w.heap.size = g := by omega
          have n2 : ¬ b = g := by omega
          have n3 : ¬ ge = g := by omega
          clear q0 dT dT1 dE0 dE1 dV hvz
          go_region_held3 (fun w' => w'.cell? ⟨w.heap.size, 0, none⟩ = some (.slice (some ⟨b, off, none⟩) T.length cap) ∧ w'.cell? ⟨b, off + (j + 2), none⟩ = some (.int .i64 t) ∧ w'.cell? ⟨b, off + (j + 1), none⟩ = some (.int .i64 s) ∧ w'.cell? ⟨ge, j, none⟩ = some (.int .i64 x) ∧ w'.cell? ⟨ge, j + 1, none⟩ = some (.int .i64 y) ∧ w'.cell? ⟨g, j + 1, none⟩ = some (.int .i64 z))
            (first | assumption | exact HS2 | exact HS1 | exact HS0)
            (first | (refine step_pushS rfl (.tmp 28) (.tmp 59) 24 rfl (w.heap.size + 1) 2 i0 Try.underlying24 hi hz0 hz1 hz2 g (j + 2) c (vTo T (j + 2)) (x / y * z + t - s) wo.heap.size (vTo_len _ _) rfl hO rfl (Blk.new wo _ _) (by omega) (by simp; omega) ?_; intro g2 c2 w2 h1 h2 h3 h4 h5; have HS2 : w2.cell? ⟨w.heap.size, 0, none⟩ = some (.slice (some ⟨b, off, none⟩) T.length cap) ∧ w2.cell? ⟨b, off + (j + 2), none⟩ = some (.int .i64 t) ∧ w2.cell? ⟨b, off + (j + 1), none⟩ = some (.int .i64 s) ∧ w2.cell? ⟨ge, j, none⟩ = some (.int .i64 x) ∧ w2.cell? ⟨ge, j + 1, none⟩ = some (.int .i64 y) ∧ w2.cell? ⟨g, j + 1, none⟩ = some (.int .i64 z) := ⟨(h2.cell (p := ⟨w.heap.size, 0, none⟩) (by simp; omega) n1).trans HS1.1, (h2.cell (p := ⟨b, off + (j + 2), none⟩) (by simp; omega) n2).trans HS1.2.1, (h2.cell (p := ⟨b, off + (j + 1), none⟩) (by simp; omega) n2).trans HS1.2.2.1, (h2.cell (p := ⟨ge, j, none⟩) (by simp; omega) n3).trans HS1.2.2.2.1, (h2.cell (p := ⟨ge, j + 1, none⟩) (by simp; omega) n3).trans HS1.2.2.2.2.1, by rw [h5 (j + 1) (by omega), HZ.out]⟩))
          all_goals
            have hbx2 := hbx'.wrote (h2.mono (fun k hk => by omega))
            rw [← HV.out, ← HY.out] at h1
            have hlies' : g = g2 ∨ wo.heap.size ≤ g2 := h3.imp id (fun h => by rw [h]; simp)
            have hkc : ∀ i, w2.cell? ⟨ge, i, none⟩ = wo.cell? ⟨ge, i, none⟩ := fun i => (h2.cell (p := ⟨ge, i, none⟩) (by simp; omega) n3).trans (hal.cell (p := ⟨ge, i, none⟩) hge1)
            have hsz2 := h2.size
            simp at hsz2
            clear h2 h3 h4 h5 hO HS0 HS1 HS2
            go_wp2
            go_roundw
            case rel => exact ⟨j + 2 + 1, by omega, by omega, by go_num, ⟨⟨g2, c2, rfl, by omega⟩, h1, by omega, hge2, fun i hi => by rw [hkc]; exact HC.out i hi⟩, hbx2⟩
            case measure => simp [intOf]; omega
      · go_wp2
        have hk' : k = T.length := by omega
        subst hk'
        go_ret
        exact retI_mk (hown.base_le (by omega)) hbx.below
end Go.Proofs.Ytiinceflafigeaa

/- Contracts: GeneratorsOf. -/
namespace Go.Proofs.Ytiinceflafigeaa
open Go.RowKit

set_option maxHeartbeats 1000000 in
theorem implGeneratorsOf_c (v : Value) (T : List Int) (w : World) (h : Rd w v T) :
    Calls Try.prog 39 #[.agg #[v]] w (RetIC w (okL (braB T) (vTo T T.length)) (okC (braB T) 1)) := by
  have hx := Boxed.start w 26 #[v]
  obtain ⟨a1, k1, rfl⟩ := h.len0
  cases hc : braB T
  · go_enter Try.func39, Try.ntmps39
    go_wp2_with fail
    refine (implIsBranch_c _ T _ (hx.rd h)).mono ?_
    rintro e w1 ⟨rfl, hb⟩
    rw [hc]
    go_wp2
    go_ret2
    rw [okL_false rfl, okC_false rfl]
    exact retIC_nil (hx.trans hb).below
  · have hok := braB_iff.1 hc
    go_enter Try.func39, Try.ntmps39
    go_wp2_with fail
    refine (implIsBranch_c _ T _ (hx.rd h)).mono ?_
    rintro e w1 ⟨rfl, hb⟩
    rw [hc]
    have hx1 := hx.trans hb
    have c0 := hx1.cell 0
    go_wp2_with fail
    refine (generators_c _ T _ (hx1.rd h) hok).mono ?_
    rintro e w2 ⟨a, k, rfl, ho, hb2⟩
    go_wp2
    go_ret2
    rw [okL_true rfl, okC_true rfl]
    exact retIC_mk (by first | exact ho.base_le (Nat.le_of_lt hx1.size) | (rw [vTo_len] at ho; exact ho.base_le (Nat.le_of_lt hx1.size))) (hx1.trans hb2).below

end Go.Proofs.Ytiinceflafigeaa
