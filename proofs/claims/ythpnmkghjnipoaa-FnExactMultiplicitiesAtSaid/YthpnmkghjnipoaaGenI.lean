/- Contract: impl.generators. -/
import Derived.Test.YthpnmkghjnipoaaGenPure
namespace Go.Proofs.Ythpnmkghjnipoaa
open Go.RowKit

set_option maxRecDepth 100000 in
set_option maxHeartbeats 4000000 in
theorem generators_c (v : Value) (T : List Int) (w : World) (h : Rd w v T) (hok : BraOk T) :
    Calls Try.prog 134 #[.agg #[v]] w (RetI w (vTo T T.length)) := by
  obtain ⟨i0, hi, hz0, hz1, hz2⟩ := info_parts Try.infoI
  have hx := Boxed.start w 28 #[v]
  have hp := hok.len
  have hl := bra_len hok
  obtain ⟨b, off, cap, rfl, hc1, hc2, hb, hc⟩ := h.cells hp
  go_enter Try.func134, Try.ntmps134
  have q0 := hx.cell 0
  go_wp2_with fail
  refine (ratios_c _ T _ (hx.rd h) hok).mono ?_
  rintro e w1 ⟨ge, ke, rfl, ho, hb1⟩
  have hx1 := hx.trans hb1
  clear q0
  obtain ⟨g', cap', hge, hg0, hg1, hg2, hg3⟩ := Own.pos ho (by simp; omega)
  injection hge with hge1 hge2 hge3
  subst hge1 hge3
  clear hge2
  rw [rTo_len] at hg2 ⊢
  have hcell : ∀ i, i < T.length → w1.cell? ⟨g', i, none⟩ = some (.int .i64 (rI T i)) := fun i hi => by
    have := Own.cell (xs := rTo T T.length) ho i (by simp; omega)
    rw [gI_rTo hi] at this; exact this
  clear ho
  have q0 := hx1.cell 0
  have d0 : w1.cell? ⟨b, off, none⟩ = some (.int .i64 (gI T 0)) := by rw [hx1.below.cell (p := ⟨b, off, none⟩) hb]; exact hc 0 hp
  have hlp : (0 : Int) < (T.length : Int) := by omega
  have hlit := own_one (e := 2) w1 w1.heap.size (Nat.le_refl _) (gI T 0)
  have hal : Below w1.heap.size w1 (w1.alloc (.cells #[.int .i64 (gI T 0)] 2)) := (Below.refl _ _).alloc (Nat.le_refl _) _
  go_wp2_with fail
  clear q0 d0
  go_loopw [4, 5, 6] (fun v i _ wr => ∃ k : Nat, 1 ≤ k ∧ k ≤ T.length ∧ i = .int .i64 k ∧ (∃ g c, v = .slice (some ⟨g, 0, none⟩) k c ∧ OwnI wr w1.heap.size v (vTo T k)) ∧ Below w1.heap.size w1 wr) (fun _ i _ _ => T.length - (intOf i).toNat)
  case atStart => exact ⟨1, Nat.le_refl _, by omega, rfl, ⟨_, _, rfl, by simpa [vTo, vI] using hlit⟩, hal⟩
  case round =>
    clear hlit hal
    obtain ⟨k, hk1, hk, rfl, ⟨g, c, rfl, hown⟩, hbl⟩ := hrel
    obtain ⟨wo, rfl⟩ : ∃ wo : World, wo = wr := ⟨_, rfl⟩
    by_cases hlt : k < T.length
    · have hbx := hx1.trans (hbl.mono (Nat.le_refl _))
      have q0 := hbx.cell 0
      have hsz := hbl.size
      have hgs := (hown.block g rfl).2
      have hgl := (hown.block g rfl).1
      have hkT : (k : Int) < (T.length : Int) := by omega
      have dT : wo.cell? ⟨b, off + k, none⟩ = some (.int .i64 (gI T k)) := by rw [hbx.below.cell (p := ⟨b, off + k, none⟩) hb]; exact hc k hlt
      have HY := Lib.hid (vTo_succ T k)
      by_cases hk2 : k = 1
      · subst hk2
        have HV := Lib.hid (vI_one T)
        clear hcell
        generalize gI T 1 = t at dT HV
        go_wp2_with (at_builtin; refine wpList_push rfl (.tmp 51) (.tmp 53) 22 rfl w1.heap.size 2 i0 Try.underlying22 hi hz0 hz1 hz2 (.slice (some ⟨g, 0, none⟩) 1 c) (vTo T 1) t rfl hown rfl (by simp) (by omega) ?_; intro v' w2 hown' hkp)
        have hbl' := hbl.trans (hkp.below hsz (fun g hg => (hown.block g hg).1))
        rw [← HV.out, ← HY.out] at hown'
        obtain ⟨g2, c2, rfl, _⟩ := Own.pos hown' (by simp)
        go_roundw
        case rel => exact ⟨1 + 1, by omega, by omega, by go_num, ⟨g2, c2, by rw [vTo_len], hown'⟩, hbl'⟩
        case measure => simp [intOf]; omega
      · obtain ⟨j, rfl⟩ : ∃ j, k = j + 2 := ⟨k - 2, by omega⟩
        have hO := (show OwnI wo w1.heap.size (.slice (some ⟨g, 0, none⟩) (vTo T (j + 2)).length c) (vTo T (j + 2)) by rw [vTo_len]; exact hown)
        have dV := hO.cell (j + 1) (by simp)
        rw [gI_vTo (by omega)] at dV
        have dR := (hbl.cell (p := ⟨g', j + 1, none⟩) hg1).trans (hcell (j + 1) (by omega))
        have dT1 : wo.cell? ⟨b, off + (j + 1), none⟩ = some (.int .i64 (gI T (j + 1))) := by rw [hbx.below.cell (p := ⟨b, off + (j + 1), none⟩) hb]; exact hc _ (by omega)
        have b1 := rI_bd hok (j + 1)
        have b2 := vI_bd hok (i := j + 1) (by omega)
        have b3 := hok.num (j + 1) (by omega)
        have b4 := hok.num (j + 2) hlt
        have HV := Lib.hid (vI_two T j)
        clear hcell hO hk2
        generalize rI T (j + 1) = r at dR b1 HV
        generalize vI T (j + 1) = x at dV b2 HV
        generalize gI T (j + 1) = s at dT1 b3 HV
        generalize gI T (j + 2) = t at dT b4 HV
        have b5 := mul_bd (a := r) (A := 64) (b := x) (B := 1000000000000000) (by omega) (by omega) (by omega) (by omega)
        have w5 : IntKind.i64.wrap (r * x) = r * x := IntWalk.i64_in _ (by omega)
        have w6 : IntKind.i64.wrap (r * x + t) = r * x + t := IntWalk.i64_in _ (by omega)
        have w7 : IntKind.i64.wrap (r * x + t - s) = r * x + t - s := IntWalk.i64_in _ (by omega)
        have e1 : ((j + 2 : Nat) : Int) - 1 = (j : Int) + 1 := by omega
        have e2 : IntKind.i64.wrap ((j : Int) + 1) = (j : Int) + 1 := IntWalk.i64_in _ (by omega)
        have e3 : ((j : Int) + 1).toNat = j + 1 := by omega
        have e4 : (0 : Int) ≤ (j : Int) + 1 := by omega
        have e5 : (j : Int) + 1 < (T.length : Int) := by omega
        have e6 : (j : Int) + 1 < ((j + 2 : Nat) : Int) := by omega
        have e7 : (1 : Int) < ((j + 2 : Nat) : Int) := by omega
        have e8 : (j : Int) + 2 - 1 = (j : Int) + 1 := by omega
        have e9 : (j : Int) + 1 < (j : Int) + 2 := by omega
        go_wp2_with fail
        go_quiet (fail)
        have hdr : Below wo.heap.size wo (wo.drewN nq) := below_drewN (Below.refl _ _) nq
        have hown2 := hown.below hdr (Nat.le_refl _)
        have hbl2 := below_step hbl hdr
        have hsz2 : w1.heap.size ≤ (wo.drewN nq).heap.size := hsz
        clear hown hdr
        generalize wo.drewN nq = wn at hown2 hbl2 hsz2 ⊢
        go_wp2_with (at_builtin; refine wpList_push rfl (.tmp 51) (.tmp 53) 22 rfl w1.heap.size 2 i0 Try.underlying22 hi hz0 hz1 hz2 (.slice (some ⟨g, 0, none⟩) (j + 2) c) (vTo T (j + 2)) (r * x + t - s) rfl hown2 rfl (by simp; omega) hsz2 ?_; intro v' w2 hown' hkp)
        have hbl' := hbl2.trans (hkp.below hsz2 (fun g hg => (hown2.block g hg).1))
        rw [← HV.out, ← HY.out] at hown'
        obtain ⟨g2, c2, rfl, _⟩ := Own.pos hown' (by simp)
        go_roundw
        case rel => exact ⟨j + 2 + 1, by omega, by omega, by go_num, ⟨g2, c2, by rw [vTo_len], hown'⟩, hbl'⟩
        case measure => simp [intOf]; omega
    · go_wp2
      have hk' : k = T.length := by omega
      subst hk'
      go_ret
      exact retI_mk (hown.base_le (by have := hx1.size; omega)) (hx1.below.trans (hbl.mono (by have := hx1.size; omega)))
end Go.Proofs.Ythpnmkghjnipoaa
