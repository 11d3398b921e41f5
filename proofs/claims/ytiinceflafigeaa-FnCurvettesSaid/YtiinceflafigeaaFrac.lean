/- Contracts: impl.reduced, spec.l01Make at a positive denominator. -/
import Derived.Test.YtiinceflafigeaaBraPure
import Derived.Test.YtiinceflafigeaaL03Is
import Derived.Test.YtiinceflafigeaaRowL
namespace Go.Proofs.Ytiinceflafigeaa
open Go.RowKit

set_option maxHeartbeats 1000000 in
theorem reduced_c (a b : Int) (w : World) (h1 : 0 ≤ a) (h2 : a ≤ 1000000000000000) (h3 : 0 < b) (h4 : b ≤ 1000000000000000) :
    Calls Try.prog 147 #[.int .i64 a, .int .i64 b] w fun e w' => e = .returned (.agg #[.int .i64 (a / gcdI a b), .int .i64 (b / gcdI a b)]) ∧ Below w.heap.size w w' := by
  have hg0 : 0 < gcdI a b := by
    unfold gcdI
    have := Nat.gcd_pos_of_pos_right a.natAbs (by omega : 0 < b.natAbs)
    omega
  have hg1 : gcdI a b ≤ 1000000000000000 := gcdI_le (by omega) (by omega) (by omega) (by omega)
  have hal : Below w.heap.size w (w.alloc (.cells #[.int .i64 0, .int .i64 0] 53)) := (Below.refl _ _).alloc (Nat.le_refl _) _
  have B := Blk.new w 53 #[.int .i64 0, .int .i64 0]
  go_enter Try.func147, Try.ntmps147
  go_wp2_with fail
  refine (divisor_c a b _ (by omega) (by omega) (by omega) (by omega)).mono ?_
  rintro e w1 ⟨rfl, hd⟩
  have B1 := B.below (hd.below (w.heap.size + 1)) (by omega)
  have hb1 := hal.trans (hd.below _)
  generalize hG : gcdI a b = g at hg0 hg1
  have HG := Lib.hid hG
  clear hG
  have hgn : ¬ g = 0 := by omega
  have ta : Int.tdiv a g = a / g := Int.tdiv_eq_ediv_of_nonneg h1
  have tb : Int.tdiv b g = b / g := Int.tdiv_eq_ediv_of_nonneg (by omega)
  have a0 : 0 ≤ a / g := Int.ediv_nonneg h1 (by omega)
  have a1 : a / g ≤ a := Int.ediv_le_self _ h1
  have b0 : 0 ≤ b / g := Int.ediv_nonneg (by omega) (by omega)
  have b1 : b / g ≤ b := Int.ediv_le_self _ (by omega)
  have wa : IntKind.i64.wrap (a / g) = a / g := IntWalk.i64_in _ (by omega)
  have wb : IntKind.i64.wrap (b / g) = b / g := IntWalk.i64_in _ (by omega)
  have c0 := B1.cell 0
  have c1 := B1.cell 1
  have f0 := B1.free 0
  have f1 := B1.free 1
  go_wp2_with fail
  go_region
  go_wp2
  have F2 := (B1.set 0 (.int .i64 (a / g))).set 1 (.int .i64 (b / g))
  have q0 := F2.cell 0
  have q1 := F2.cell 1
  refine bodyPost_ret (v := .agg #[.int .i64 (a / g), .int .i64 (b / g)]) (by simp [results, Try.results147, go_sem, q0, q1]) rfl ⟨by rw [HG.out], ?_⟩
  exact ((hb1.setCell (p := ⟨w.heap.size, 0, none⟩) (Nat.le_refl _) _).setCell (p := ⟨w.heap.size, 1, none⟩) (Nat.le_refl _) _).drew

set_option maxHeartbeats 1000000 in
theorem l01Make_c (a b : Int) (w : World) (h1 : 0 ≤ a) (h2 : a ≤ 1000000000000000) (h3 : 0 < b) (h4 : b ≤ 1000000000000000) :
    Calls Try.prog 148 #[.int .i64 a, .int .i64 b] w fun e w' => e = .returned (.agg #[.int .i64 (a / gcdI a b), .int .i64 (b / gcdI a b)]) ∧ Below w.heap.size w w' := by
  have hg0 : 0 < gcdI a b := by
    unfold gcdI
    have := Nat.gcd_pos_of_pos_right a.natAbs (by omega : 0 < b.natAbs)
    omega
  have hg1 : gcdI a b ≤ 1000000000000000 := gcdI_le (by omega) (by omega) (by omega) (by omega)
  have B := Blk.new w 53 #[.int .i64 0, .int .i64 0]
  go_enter Try.func148, Try.ntmps148
  go_wp2_with fail
  refine (l01Gcd_c a b _ (by omega) (by omega) (by omega) (by omega)).mono ?_
  rintro e w1 ⟨rfl, rfl⟩
  have B1 := B
  generalize hG : gcdI a b = g at hg0 hg1
  have HG := Lib.hid hG
  clear hG
  have hgn : ¬ g = 0 := by omega
  have ta : Int.tdiv a g = a / g := Int.tdiv_eq_ediv_of_nonneg h1
  have tb : Int.tdiv b g = b / g := Int.tdiv_eq_ediv_of_nonneg (by omega)
  have a0 : 0 ≤ a / g := Int.ediv_nonneg h1 (by omega)
  have a1 : a / g ≤ a := Int.ediv_le_self _ h1
  have b0 : 0 ≤ b / g := Int.ediv_nonneg (by omega) (by omega)
  have b1 : b / g ≤ b := Int.ediv_le_self _ (by omega)
  have wa : IntKind.i64.wrap (a / g) = a / g := IntWalk.i64_in _ (by omega)
  have wb : IntKind.i64.wrap (b / g) = b / g := IntWalk.i64_in _ (by omega)
  have c0 := B1.cell 0
  have c1 := B1.cell 1
  have f0 := B1.free 0
  have f1 := B1.free 1
  go_wp2_with fail
  go_region
  go_wp2
  refine bodyPost_ret (v := .agg #[.int .i64 (a / g), .int .i64 (b / g)]) (by simp [results, Try.results148, go_sem]) rfl ⟨by rw [HG.out], ?_⟩
  exact ((Below.refl _ _).alloc (Nat.le_refl _) _).drew
end Go.Proofs.Ytiinceflafigeaa
