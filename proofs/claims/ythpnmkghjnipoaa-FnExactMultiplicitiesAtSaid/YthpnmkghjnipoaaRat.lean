/- Contract: impl.ratios. -/
import Derived.Test.YthpnmkghjnipoaaDivS
import Derived.Deep.RegionHeld3
namespace Go.Proofs.Ythpnmkghjnipoaa
open Go.RowKit

/-- The ratio at i. -/
def rI (T : List Int) : Nat → Int
  | 0 => 0
  | i + 1 => eI T i / eI T (i + 1)
theorem rI_succ (T : List Int) (i : Nat) : rI T (i + 1) = eI T i / eI T (i + 1) := rfl
def rTo (T : List Int) (k : Nat) : List Int := (List.range k).map (rI T)
@[simp] theorem rTo_len (T : List Int) (k : Nat) : (rTo T k).length = k := by simp [rTo]
theorem rTo_succ (T : List Int) (k : Nat) : rTo T (k + 1) = rTo T k ++ [rI T k] := by simp [rTo, List.range_succ]
theorem gI_rTo {T : List Int} {k i : Nat} (h : i < k) : gI (rTo T k) i = rI T i := by rw [gI_lt (by simpa using h)]; simp [rTo]

set_option maxRecDepth 100000 in
set_option maxHeartbeats 4000000 in
theorem ratios_c (v : Value) (T : List Int) (w : World) (h : Rd w v T) (hok : BraOk T) :
    Calls Try.prog 133 #[.agg #[v]] w (RetI w (rTo T T.length)) := by
  obtain ⟨i0, hi, hz0, hz1, hz2⟩ := info_parts Try.infoI
  have hx := Boxed.start w 28 #[v]
  have hp := hok.len
  have hl := bra_len hok
  obtain ⟨a, cap, rfl⟩ := h.len0
  go_enter Try.func133, Try.ntmps133
  have q0 := hx.cell 0
  go_wp2_with fail
  refine (divisors_c _ T _ (hx.rd h) (by omega) (fun i hi => by have := hok.num i hi; omega)).mono ?_
  rintro e w1 ⟨ge, ke, rfl, ho, hb1⟩
  have hx1 := hx.trans hb1
  clear q0
  obtain ⟨g', cap', hge, hg0, hg1, hg2, hg3⟩ := Own.pos ho (by simp; omega)
  injection hge with hge1 hge2 hge3
  subst hge1 hge3
  clear hge2
  rw [eTo_len] at hg2 ⊢
  have hcell : ∀ i, i < T.length → w1.cell? ⟨g', i, none⟩ = some (.int .i64 (eI T i)) := fun i hi => by
    have := Own.cell (xs := eTo T T.length) ho i (by simp; omega)
    rw [gI_eTo hi] at this; exact this
  clear ho
  have hlit := own_one (e := 2) w1 w1.heap.size (Nat.le_refl _) 0
  have hal : Below w1.heap.size w1 (w1.alloc (.cells #[.int .i64 0] 2)) := (Below.refl _ _).alloc (Nat.le_refl _) _
  go_wp2_with fail
  go_loopw [4, 5] (fun v i wr => ∃ k : Nat, 1 ≤ k ∧ k ≤ T.length ∧ i = .int .i64 k ∧ (∃ g c, v = .slice (some ⟨g, 0, none⟩) k c ∧ OwnI wr w1.heap.size v (rTo T k)) ∧ Below w1.heap.size w1 wr) (fun _ i _ => T.length - (intOf i).toNat)
  case atStart => exact ⟨1, Nat.le_refl _, by omega, rfl, ⟨_, _, rfl, by simpa [rTo, rI] using hlit⟩, hal⟩
  case round =>
    clear hlit hal
    obtain ⟨k, hk1, hk, rfl, ⟨g, c, rfl, hown⟩, hbl⟩ := hrel
    obtain ⟨wo, rfl⟩ : ∃ wo : World, wo = wr := ⟨_, rfl⟩
    by_cases hlt : k < T.length
    · obtain ⟨j, rfl⟩ : ∃ j, k = j + 1 := ⟨k - 1, by omega⟩
      have d1 := (hbl.cell (p := ⟨g', j + 1, none⟩) hg1).trans (hcell (j + 1) hlt)
      have d0 := (hbl.cell (p := ⟨g', j, none⟩) hg1).trans (hcell j (by omega))
      have hE := eI_bd hok j
      have hE1 := eI_bd hok (j + 1)
      have HY := Lib.hid (rTo_succ T (j + 1))
      have HG := Lib.hid (rI_succ T j)
      have hsz := hbl.size
      have hgs := (hown.block g rfl).2
      have hgl := (hown.block g rfl).1
      have hj1 : ((j + 1 : Nat) : Int) < (T.length : Int) := by omega
      have hj3 : (0 : Int) ≤ (j : Int) := by omega
      have wj : IntKind.i64.wrap (j : Int) = (j : Int) := IntWalk.i64_in _ (by omega)
      have hj4 : (j : Int) + 1 < (T.length : Int) := by omega
      have hj5 : (j : Int) < (T.length : Int) := by omega
      have hj6 : (0 : Int) ≤ (j : Int) + 1 := by omega
      have hj7 : ((j : Int) + 1).toNat = j + 1 := by omega
      have hgw : g' < wo.heap.size := by omega
      clear hcell
      generalize eI T (j + 1) = y at d1 hE1 HG
      generalize eI T j = x at d0 hE HG
      obtain ⟨hx0, hx1⟩ := hE
      obtain ⟨hy0, hy1⟩ := hE1
      have hyn : ¬ y = 0 := by omega
      have htd : Int.tdiv x y = x / y := Int.tdiv_eq_ediv_of_nonneg (by omega)
      have hq0 : 0 ≤ x / y := Int.ediv_nonneg (by omega) (by omega)
      have hq1 : x / y ≤ x := Int.ediv_le_self _ (by omega)
      have wq : IntKind.i64.wrap (x / y) = x / y := IntWalk.i64_in _ (by omega)
      have hal : Below wo.heap.size wo ((wo.alloc (.cells #[.int .i64 (x / y)] 2)).drew) := ((Below.refl _ _).alloc (Nat.le_refl _) _).drew
      have hO := hown.below hal (Nat.le_refl _)
      have hbl' := below_step hbl hal
      go_wp2_with fail
      go_region_law (refine step_push rfl (.tmp 16) (.tmp 27) 22 rfl w1.heap.size 2 i0 Try.underlying22 hi hz0 hz1 hz2 (.slice (some ⟨g, 0, none⟩) (j + 1) c) (rTo T (j + 1)) (x / y) wo.heap.size rfl hO rfl (Blk.new wo _ _) (by simp; omega) (by simp; omega) ?_; intro g2 cap2 w2 h1 h2 h3 h4)
      all_goals
        have hbl2 := hbl'.trans (h2.below (by simp; omega) (fun k hk => by simp [Value.ownBlock] at hk; omega))
        rw [← HG.out, ← HY.out, rTo_len] at h1
        clear h2 h3 h4 hO
        go_wp2
        go_roundw
        case rel => exact ⟨j + 1 + 1, by omega, by omega, by go_num, ⟨g2, cap2, rfl, h1⟩, hbl2⟩
        case measure => simp [intOf]; omega
    · go_wp2
      have hk' : k = T.length := by omega
      subst hk'
      go_ret
      exact retI_mk (hown.base_le (by have := hx1.size; omega)) (hx1.below.trans (hbl.mono (by have := hx1.size; omega)))
end Go.Proofs.Ythpnmkghjnipoaa
