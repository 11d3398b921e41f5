/- Contract: impl.ratios. -/
import Derived.Test.YtiinceflafigeaaDivP
import Derived.Deep.RegionHeld3
namespace Go.Proofs.Ytiinceflafigeaa
open Go.RowKit

/-- The ratio at i. -/
def rI (T : List Int) : Nat → Int
  | 0 => 0
  | i + 1 => eI T i / eI T (i + 1)
theorem rI_succ (T : List Int) (i : Nat) : rI T (i + 1) = eI T i / eI T (i + 1) := rfl
def rTo (T : List Int) (k : Nat) : List Int := (List.range k).map (rI T)
@[simp] theorem rTo_len (T : List Int) (k : Nat) : (rTo T k).length = k := by simp [rTo]
theorem rTo_succ (T : List Int) (k : Nat) : rTo T (k + 1) = rTo T k ++ [rI T k] := by simp [rTo, List.range_succ]
theorem gI_rTo {T : List Int} {k i : Nat} (h : i < k) : gI (rTo T k) i = rI T i := by rw [gI_lt (by simpa using h)]; simp [rTo]

set_option maxRecDepth 100000 in
set_option maxHeartbeats 4000000 in
theorem ratios_c (v : Value) (T : List Int) (w : World) (h : Rd w v T) (hok : BraOk T) :
    Calls Try.prog 186 #[.agg #[v]] w (RetI w (rTo T T.length)) := by
  obtain ⟨i0, hi, hz0, hz1, hz2⟩ := info_parts Try.infoI
  have hx := Boxed.start w 26 #[v]
  have hp := hok.len
  have hl := bra_len hok
  obtain ⟨a, cap, rfl⟩ := h.len0
  go_enter Try.func186, Try.ntmps186
  have q0 := hx.cell 0
  go_wp2_with fail
  refine (divisors_c _ T _ (hx.rd h) (by omega) (fun i hi => by have := hok.num i hi; omega)).mono ?_
  rintro e w1 ⟨ge, ke, rfl, ho, hb1⟩
  have hx1 := hx.trans hb1
  clear q0
  obtain ⟨g', cap', hge, hg0, hg1, hg2, hg3⟩ := Own.pos ho (by simp; omega)
  injection hge with hge1 hge2 hge3
  subst hge1 hge3
  clear hge2
  rw [eTo_len] at hg2 ⊢
  have hcell : ∀ i, i < T.length → w1.cell? ⟨g', i, none⟩ = some (.int .i64 (eI T i)) := fun i hi => by
    have := Own.cell (xs := eTo T T.length) ho i (by simp; omega)
    rw [gI_eTo hi] at this; exact this
  clear ho
  have hlit := own_one (e := 2) w1 w1.heap.size (Nat.le_refl _) 0
  have hal : Below w1.heap.size w1 (w1.alloc (.cells #[.int .i64 0] 2)) := (Below.refl _ _).alloc (Nat.le_refl _) _
  go_wp2_with fail
  go_loopw [4, 5] (fun v i wr => ∃ k : Nat, 1 ≤ k ∧ k ≤ T.length ∧ i = .int .i64 k ∧ (∃ g c, v = .slice (some ⟨g, 0, none⟩) k c ∧ OwnI wr w1.heap.size v (rTo T k)) ∧ Below w1.heap.size w1 wr) (fun _ i _ => T.length - (intOf i).toNat)
  case atStart => exact ⟨1, Nat.le_refl _, by omega, rfl, ⟨_, _, rfl, by simpa [rTo, rI] using hlit⟩, hal⟩
  case round =>
    clear hlit hal
    obtain ⟨k, hk1, hk, rfl, ⟨g, c, rfl, hown⟩, hbl⟩ := hrel
    obtain ⟨wo, rfl⟩ : ∃ wo : World, wo = wr := ⟨_, rfl⟩
    by_cases hlt : k < T.length
    · obtain ⟨j, rfl⟩ : ∃ j, k = j + 1 := ⟨k - 1, by omega⟩
      have d1 := (hbl.cell (p := ⟨g', j + 1, none⟩) hg1).trans (hcell (j + 1) hlt)
      have d0 := (hbl.cell (p := ⟨g', j, none⟩) hg1).trans (hcell j (by omega))
      have hE := eI_bd hok j
      have hE1 := eI_bd hok (j + 1)
      have HY := Lib.hid (rTo_succ T (j + 1))
      have HG := Lib.hid (rI_succ T j)
      have hsz := hbl.size
      have hgs := (hown.block g rfl).2
      have hgl := (hown.block g rfl).1
      have hj1 : ((j + 1 : Nat) : Int) < (T.length : Int) := by omega
      have hj3 : (0 : Int) ≤ (j : Int) := by omega
      have wj : IntKind.i64.wrap (j : Int) = (j : Int) := IntWalk.i64_in _ (by omega)
      have hj4 : (j : Int) + 1 < (T.length : Int) := by omega
      have hj5 : (j : Int) < (T.length : Int) := by omega
      have hj6 : (0 : Int) ≤ (j : Int) + 1 := by omega
      have hj7 : ((j : Int) + 1).toNat = j + 1 := by omega
      have hgw : g' < wo.heap.size := by omega
      clear hcell
      generalize eI T (j + 1) = y at d1 hE1 HG
      generalize eI T j = x at d0 hE HG
      obtain ⟨hx0, hx1⟩ := hE
      obtain ⟨hy0, hy1⟩ := hE1
      have hyn : ¬ y = 0 := by omega
      have htd : Int.tdiv x y = x / y := Int.tdiv_eq_ediv_of_nonneg (by omega)
      have hq0 : 0 ≤ x / y := Int.ediv_nonneg (by omega) (by omega)
      have hq1 : x / y ≤ x := Int.ediv_le_self _ (by omega)
      have wq : IntKind.i64.wrap (x / y) = x / y := IntWalk.i64_in _ (by omega)
      have hal : Below wo.heap.size wo ((wo.alloc (.cells #[.int .i64 (x / y)] 2)).drew) := ((Below.refl _ _).alloc (Nat.le_refl _) _).drew
      have hO := hown.below hal (Nat.le_refl _)
      have hbl' := below_step hbl hal
      go_wp2_with fail
      go_region_law (refine step_push rfl (.tmp 16) (.tmp 27) 24 rfl w1.heap.size 2 i0 Try.underlying24 hi hz0 hz1 hz2 (.slice (some ⟨g, 0, none⟩) (j + 1) c) (rTo T (j + 1)) (x / y) wo.heap.size rfl hO rfl (Blk.new wo _ _) (by simp; omega) (by simp; omega) ?_; intro g2 cap2 w2 h1 h2 h3 h4)
      all_goals
        have hbl2 := hbl'.trans (h2.below (by simp; omega) (fun k hk => by simp [Value.ownBlock] at hk; omega))
        rw [← HG.out, ← HY.out, rTo_len] at h1
        clear h2 h3 h4 hO
        go_wp2
        go_roundw
        case rel => exact ⟨j + 1 + 1, by omega, by omega, by go_num, ⟨g2, cap2, rfl, h1⟩, hbl2⟩
        case measure => simp [intOf]; omega
    · go_wp2
      have hk' : k = T.length := by omega
      subst hk'
      go_ret
      exact retI_mk (hown.base_le (by have := hx1.size; omega)) (hx1.below.trans (hbl.mono (by have := hx1.size; omega)))
end Go.Proofs.Ytiinceflafigeaa

/- Generators of the semigroup of a branch. No program in sight. -/
namespace Go.Proofs.Ytiinceflafigeaa

/-- The generator at i. -/
def vI (T : List Int) : Nat → Int
  | 0 => gI T 0
  | 1 => gI T 1
  | i + 2 => rI T (i + 1) * vI T (i + 1) + gI T (i + 2) - gI T (i + 1)
theorem vI_zero (T : List Int) : vI T 0 = gI T 0 := rfl
theorem vI_one (T : List Int) : vI T 1 = gI T 1 := rfl
theorem vI_two (T : List Int) (i : Nat) : vI T (i + 2) = rI T (i + 1) * vI T (i + 1) + gI T (i + 2) - gI T (i + 1) := rfl
def vTo (T : List Int) (k : Nat) : List Int := (List.range k).map (vI T)
@[simp] theorem vTo_len (T : List Int) (k : Nat) : (vTo T k).length = k := by simp [vTo]
theorem vTo_succ (T : List Int) (k : Nat) : vTo T (k + 1) = vTo T k ++ [vI T k] := by simp [vTo, List.range_succ]
theorem gI_vTo {T : List Int} {k i : Nat} (h : i < k) : gI (vTo T k) i = vI T i := by rw [gI_lt (by simpa using h)]; simp [vTo]

theorem rI_bd {T : List Int} (h : BraOk T) (i : Nat) : 0 ≤ rI T i ∧ rI T i ≤ 64 := by
  cases i with
  | zero => simp [rI]
  | succ i =>
    rw [rI_succ]
    have h1 := eI_bd h i
    have h2 := eI_bd h (i + 1)
    have h3 : 0 ≤ eI T i / eI T (i + 1) := Int.ediv_nonneg (by omega) (by omega)
    have h4 : eI T i / eI T (i + 1) ≤ eI T i := Int.ediv_le_self _ (by omega)
    omega
theorem rI_mul (T : List Int) (i : Nat) : rI T (i + 1) * eI T (i + 1) = eI T i := by
  rw [rI_succ]
  exact Int.ediv_mul_cancel (eI_dvd_step T i)
theorem rI_two {T : List Int} (h : BraOk T) {i : Nat} (hi : i + 1 < T.length) : 2 ≤ rI T (i + 1) := by
  have h1 := rI_mul T i
  have h2 := eI_half h hi
  have h3 := eI_bd h (i + 1)
  apply Int.not_lt.1
  intro hlt
  have h4 := Int.mul_le_mul_of_nonneg_right (show rI T (i + 1) ≤ 1 by omega) (show 0 ≤ eI T (i + 1) by omega)
  omega

theorem mul_bd {a b A B : Int} (h1 : 0 ≤ a) (h2 : a ≤ A) (h3 : 0 ≤ b) (h4 : b ≤ B) : 0 ≤ a * b ∧ a * b ≤ A * B := by
  refine ⟨Int.mul_nonneg h1 h3, ?_⟩
  exact Int.mul_le_mul h2 h4 h3 (by omega)

theorem vI_bd1 {T : List Int} (h : BraOk T) (i : Nat) (hi : i < T.length) : 1 ≤ vI T i ∧ vI T i ≤ 3000 * 64 ^ i - 2000 := by
  induction i using Nat.strongRecOn with
  | _ i ih =>
    match i, hi with
    | 0, hi => have := h.num 0 hi; have := h.first; simp only [vI]; omega
    | 1, hi => have := h.num 1 hi; simp only [vI]; omega
    | i + 2, hi =>
      have h1 := ih (i + 1) (by omega) (by omega)
      have h2 := rI_bd h (i + 1)
      have h3 := rI_two h (i := i) (by omega)
      have h4 := mul_bd (a := rI T (i + 1)) (A := 64) (b := vI T (i + 1)) (B := 3000 * 64 ^ (i + 1) - 2000) (by omega) (by omega) (by omega) (by omega)
      have h5 : gI T (i + 1) < gI T (i + 2) := h.asc (i + 1) (by omega)
      have h6 := h.num (i + 2) hi
      have h7 := h.num (i + 1) (by omega)
      have h8 : (64 : Int) ^ (i + 2) = 64 ^ (i + 1) * 64 := Int.pow_succ _ _
      rw [vI_two, h8]
      omega
theorem pow64 : ∀ i, i < 7 → (64 : Int) ^ i ≤ 68719476736 := by decide +kernel
theorem vI_bd {T : List Int} (h : BraOk T) {i : Nat} (hi : i < T.length) : 1 ≤ vI T i ∧ vI T i ≤ 1000000000000000 := by
  have h1 := vI_bd1 h i hi
  have h2 := bra_len h
  have h3 := pow64 i (by omega)
  omega
end Go.Proofs.Ytiinceflafigeaa

/- Contract: impl.generators. -/
namespace Go.Proofs.Ytiinceflafigeaa
open Go.RowKit

set_option maxRecDepth 100000 in
set_option maxHeartbeats 4000000 in
theorem generators_c (v : Value) (T : List Int) (w : World) (h : Rd w v T) (hok : BraOk T) :
    Calls Try.prog 142 #[.agg #[v]] w (RetI w (vTo T T.length)) := by
  obtain ⟨i0, hi, hz0, hz1, hz2⟩ := info_parts Try.infoI
  have hx := Boxed.start w 26 #[v]
  have hp := hok.len
  have hl := bra_len hok
  obtain ⟨b, off, cap, rfl, hc1, hc2, hb, hc⟩ := h.cells hp
  go_enter Try.func142, Try.ntmps142
  have q0 := hx.cell 0
  go_wp2_with fail
  refine (ratios_c _ T _ (hx.rd h) hok).mono ?_
  rintro e w1 ⟨ge, ke, rfl, ho, hb1⟩
  have hx1 := hx.trans hb1
  clear q0
  obtain ⟨g', cap', hge, hg0, hg1, hg2, hg3⟩ := Own.pos ho (by simp; omega)
  injection hge with hge1 hge2 hge3
  subst hge1 hge3
  clear hge2
  rw [rTo_len] at hg2 ⊢
  have hcell : ∀ i, i < T.length → w1.cell? ⟨g', i, none⟩ = some (.int .i64 (rI T i)) := fun i hi => by
    have := Own.cell (xs := rTo T T.length) ho i (by simp; omega)
    rw [gI_rTo hi] at this; exact this
  clear ho
  have q0 := hx1.cell 0
  have d0 : w1.cell? ⟨b, off, none⟩ = some (.int .i64 (gI T 0)) := by rw [hx1.below.cell (p := ⟨b, off, none⟩) hb]; exact hc 0 hp
  have hlp : (0 : Int) < (T.length : Int) := by omega
  have hlit := own_one (e := 2) w1 w1.heap.size (Nat.le_refl _) (gI T 0)
  have hal : Below w1.heap.size w1 (w1.alloc (.cells #[.int .i64 (gI T 0)] 2)) := (Below.refl _ _).alloc (Nat.le_refl _) _
  go_wp2_with fail
  clear q0 d0
  go_loopw [4, 5, 6] (fun v i _ wr => ∃ k : Nat, 1 ≤ k ∧ k ≤ T.length ∧ i = .int .i64 k ∧ (∃ g c, v = .slice (some ⟨g, 0, none⟩) k c ∧ OwnI wr w1.heap.size v (vTo T k)) ∧ Below w1.heap.size w1 wr) (fun _ i _ _ => T.length - (intOf i).toNat)
  case atStart => exact ⟨1, Nat.le_refl _, by omega, rfl, ⟨_, _, rfl, by simpa [vTo, vI] using hlit⟩, hal⟩
  case round =>
    clear hlit hal
    obtain ⟨k, hk1, hk, rfl, ⟨g, c, rfl, hown⟩, hbl⟩ := hrel
    obtain ⟨wo, rfl⟩ : ∃ wo : World, wo = wr := ⟨_, rfl⟩
    by_cases hlt : k < T.length
    · have hbx := hx1.trans (hbl.mono (Nat.le_refl _))
      have q0 := hbx.cell 0
      have hsz := hbl.size
      have hgs := (hown.block g rfl).2
      have hgl := (hown.block g rfl).1
      have hkT : (k : Int) < (T.length : Int) := by omega
      have dT : wo.cell? ⟨b, off + k, none⟩ = some (.int .i64 (gI T k)) := by rw [hbx.below.cell (p := ⟨b, off + k, none⟩) hb]; exact hc k hlt
      have HY := Lib.hid (vTo_succ T k)
      by_cases hk2 : k = 1
      · subst hk2
        have HV := Lib.hid (vI_one T)
        clear hcell
        generalize gI T 1 = t at dT HV
        go_wp2_with (at_builtin; refine wpList_push rfl (.tmp 51) (.tmp 53) 24 rfl w1.heap.size 2 i0 Try.underlying24 hi hz0 hz1 hz2 (.slice (some ⟨g, 0, none⟩) 1 c) (vTo T 1) t rfl hown rfl (by simp) (by omega) ?_; intro v' w2 hown' hkp)
        have hbl' := hbl.trans (hkp.below hsz (fun g hg => (hown.block g hg).1))
        rw [← HV.out, ← HY.out] at hown'
        obtain ⟨g2, c2, rfl, _⟩ := Own.pos hown' (by simp)
        go_roundw
        case rel => exact ⟨1 + 1, by omega, by omega, by go_num, ⟨g2, c2, by rw [vTo_len], hown'⟩, hbl'⟩
        case measure => simp [intOf]; omega
      · obtain ⟨j, rfl⟩ : ∃ j, k = j + 2 := ⟨k - 2, by omega⟩
        have hO := (show OwnI wo w1.heap.size (.slice (some ⟨g, 0, none⟩) (vTo T (j + 2)).length c) (vTo T (j + 2)) by rw [vTo_len]; exact hown)
        have dV := hO.cell (j + 1) (by simp)
        rw [gI_vTo (by omega)] at dV
        have dR := (hbl.cell (p := ⟨g', j + 1, none⟩) hg1).trans (hcell (j + 1) (by omega))
        have dT1 : wo.cell? ⟨b, off + (j + 1), none⟩ = some (.int .i64 (gI T (j + 1))) := by rw [hbx.below.cell (p := ⟨b, off + (j + 1), none⟩) hb]; exact hc _ (by omega)
        have b1 := rI_bd hok (j + 1)
        have b2 := vI_bd hok (i := j + 1) (by omega)
        have b3 := hok.num (j + 1) (by omega)
        have b4 := hok.num (j + 2) hlt
        have HV := Lib.hid (vI_two T j)
        clear hcell hO hk2
        generalize rI T (j + 1) = r at dR b1 HV
        generalize vI T (j + 1) = x at dV b2 HV
        generalize gI T (j + 1) = s at dT1 b3 HV
        generalize gI T (j + 2) = t at dT b4 HV
        have b5 := mul_bd (a := r) (A := 64) (b := x) (B := 1000000000000000) (by omega) (by omega) (by omega) (by omega)
        have w5 : IntKind.i64.wrap (r * x) = r * x := IntWalk.i64_in _ (by omega)
        have w6 : IntKind.i64.wrap (r * x + t) = r * x + t := IntWalk.i64_in _ (by omega)
        have w7 : IntKind.i64.wrap (r * x + t - s) = r * x + t - s := IntWalk.i64_in _ (by omega)
        have e1 : ((j + 2 : Nat) : Int) - 1 = (j : Int) + 1 := by omega
        have e2 : IntKind.i64.wrap ((j : Int) + 1) = (j : Int) + 1 := IntWalk.i64_in _ (by omega)
        have e3 : ((j : Int) + 1).toNat = j + 1 := by omega
        have e4 : (0 : Int) ≤ (j : Int) + 1 := by omega
        have e5 : (j : Int) + 1 < (T.length : Int) := by omega
        have e6 : (j : Int) + 1 < ((j + 2 : Nat) : Int) := by omega
        have e7 : (1 : Int) < ((j + 2 : Nat) : Int) := by omega
        have e8 : (j : Int) + 2 - 1 = (j : Int) + 1 := by omega
        have e9 : (j : Int) + 1 < (j : Int) + 2 := by omega
        go_wp2_with fail
        go_quiet (fail)
        have hdr : Below wo.heap.size wo (wo.drewN nq) := below_drewN (Below.refl _ _) nq
        have hown2 := hown.below hdr (Nat.le_refl _)
        have hbl2 := below_step hbl hdr
        have hsz2 : w1.heap.size ≤ (wo.drewN nq).heap.size := hsz
        clear hown hdr
        generalize wo.drewN nq = wn at hown2 hbl2 hsz2 ⊢
        go_wp2_with (at_builtin; refine wpList_push rfl (.tmp 51) (.tmp 53) 24 rfl w1.heap.size 2 i0 Try.underlying24 hi hz0 hz1 hz2 (.slice (some ⟨g, 0, none⟩) (j + 2) c) (vTo T (j + 2)) (r * x + t - s) rfl hown2 rfl (by simp; omega) hsz2 ?_; intro v' w2 hown' hkp)
        have hbl' := hbl2.trans (hkp.below hsz2 (fun g hg => (hown2.block g hg).1))
        rw [← HV.out, ← HY.out] at hown'
        obtain ⟨g2, c2, rfl, _⟩ := Own.pos hown' (by simp)
        go_roundw
        case rel => exact ⟨j + 2 + 1, by omega, by omega, by go_num, ⟨g2, c2, by rw [vTo_len], hown'⟩, hbl'⟩
        case measure => simp [intOf]; omega
    · go_wp2
      have hk' : k = T.length := by omega
      subst hk'
      go_ret
      exact retI_mk (hown.base_le (by have := hx1.size; omega)) (hx1.below.trans (hbl.mono (by have := hx1.size; omega)))
end Go.Proofs.Ytiinceflafigeaa
