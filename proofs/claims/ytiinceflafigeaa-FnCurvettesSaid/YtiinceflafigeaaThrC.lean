/- Contracts: eqFraction, pairsOf. -/
import Derived.Test.YtiinceflafigeaaFrac
import Derived.Test.YtiinceflafigeaaGenI
import Derived.Test.YtiinceflafigeaaL03Is
import Derived.Deep.RegionHeld3
import Derived.Test.YtiinceflafigeaaEuProx
import Derived.Test.YtiinceflafigeaaPtsC
namespace Go.Proofs.Ytiinceflafigeaa
open Go.RowKit

theorem pairsOf_c (v : Value) (T : List Int) (w : World) (h : Rd w v T) (hn : T.length ≤ 1000) :
    Calls Try.prog 146 #[.agg #[v]] w fun e w' => e = .returned (.int .i64 ((T.length : Int) - 1)) ∧ Below w.heap.size w w' := by
  have hx := Boxed.start w 26 #[v]
  obtain ⟨a1, k1, rfl⟩ := h.len0
  have q0 := hx.cell 0
  go_enter Try.func146, Try.ntmps146
  go_wp2
  go_ret
  exact ⟨rfl, hx.below⟩

/-- A fraction and a code. -/
def okF (c b : Bool) (x y : Int) : Int := if c then (if b then x else y) else 0
def thTop (T : List Int) : Int := if T.length = 1 then 2 else (gI T 0 + gI T 1) / gcdI (gI T 0 + gI T 1) (gI T 0 * gI T 1)
def thBot (T : List Int) : Int := if T.length = 1 then 1 else (gI T 0 * gI T 1) / gcdI (gI T 0 + gI T 1) (gI T 0 * gI T 1)

set_option maxHeartbeats 1000000 in
theorem implThreshold_no (v : Value) (T : List Int) (w : World) (h : Rd w v T) (hc : braB T = false) :
    Calls Try.prog 46 #[.agg #[v]] w fun e w' => e = .returned (.tuple #[.agg #[.int .i64 0, .int .i64 0], .int .i64 1]) ∧ Below w.heap.size w w' := by
  have hx := Boxed.start w 26 #[v]
  obtain ⟨a1, k1, rfl⟩ := h.len0
  have hx1 := hx.alloc (.cells #[.int .i64 0, .int .i64 0] 53)
  have B := Blk.new' (w := w.alloc (.cells #[.slice a1 T.length k1] 26)) (t := 53) (cs := #[.int .i64 0, .int .i64 0]) (g := w.heap.size + 1) (by simp)
  go_enter Try.func46, Try.ntmps46
  go_wp2_with fail
  refine (implIsBranch_c _ T _ (hx1.rd h)).mono ?_
  rintro e w1 ⟨rfl, hb⟩
  rw [hc]
  have B1 := B.stays hb
  have hx2 := hx1.trans hb
  have c0 := B1.cell 0
  have c1 := B1.cell 1
  have f0 := B1.free 0
  have f1 := B1.free 1
  go_wp2
  have F2 := (B1.set 0 (.int .i64 0)).set 1 (.int .i64 0)
  have q0 := F2.cell 0
  have q1 := F2.cell 1
  refine bodyPost_ret (v := .tuple #[.agg #[.int .i64 0, .int .i64 0], .int .i64 1]) (by simp [results, Try.results46, go_sem, q0, q1]) rfl ⟨rfl, ?_⟩
  exact (hx2.below.setCell (p := ⟨w.heap.size + 1, 0, none⟩) (Nat.le_succ _) _).setCell (p := ⟨w.heap.size + 1, 1, none⟩) (Nat.le_succ _) _

set_option maxHeartbeats 1000000 in
theorem implThreshold_one (v : Value) (T : List Int) (w : World) (h : Rd w v T) (hok : BraOk T) (h1 : T.length = 1) :
    Calls Try.prog 46 #[.agg #[v]] w fun e w' => e = .returned (.tuple #[.agg #[.int .i64 2, .int .i64 1], .int .i64 0]) ∧ Below w.heap.size w w' := by
  have H1 := Lib.hid h1
  clear h1
  have hx := Boxed.start w 26 #[v]
  have hp := hok.len
  have hl := bra_len hok
  obtain ⟨b, off, cap, rfl, hc1, hc2, hbk, hc⟩ := h.cells hp
  have hx1 := hx.alloc (.cells #[.int .i64 0, .int .i64 0] 53)
  have B := Blk.new' (w := w.alloc (.cells #[.slice (some ⟨b, off, none⟩) T.length cap] 26)) (t := 53) (cs := #[.int .i64 0, .int .i64 0]) (g := w.heap.size + 1) (by simp)
  go_enter Try.func46, Try.ntmps46
  go_wp2_with fail
  refine (implIsBranch_c _ T _ (hx1.rd h)).mono ?_
  rintro e w1 ⟨rfl, hb⟩
  rw [braB_iff.2 hok]
  have B1 := B.stays hb
  have hx2 := hx1.trans hb
  have c00 := hx2.cell 0
  go_wp2_with fail
  refine (pairsOf_c _ T _ (hx2.rd h) (by omega)).mono ?_
  rintro e w2 ⟨rfl, hb2⟩
  have B2 := B1.stays hb2
  have hx3 := hx2.trans hb2
  have hz2 : (T.length : Int) - 1 = 0 := by have := H1.out; omega
  rw [hz2]
  have c0 := B2.cell 0
  have c1 := B2.cell 1
  have f0 := B2.free 0
  have f1 := B2.free 1
  clear hz2 c00
  go_wp2
  have F2 := (B2.set 0 (.int .i64 2)).set 1 (.int .i64 1)
  have q0 := F2.cell 0
  have q1 := F2.cell 1
  refine bodyPost_ret (v := .tuple #[.agg #[.int .i64 2, .int .i64 1], .int .i64 0]) (by simp [results, Try.results46, go_sem, q0, q1]) rfl ⟨rfl, ?_⟩
  exact (hx3.below.setCell (p := ⟨w.heap.size + 1, 0, none⟩) (Nat.le_succ _) _).setCell (p := ⟨w.heap.size + 1, 1, none⟩) (Nat.le_succ _) _

set_option maxHeartbeats 2000000 in
theorem implThreshold_two (v : Value) (T : List Int) (w : World) (h : Rd w v T) (hok : BraOk T) (h1 : 2 ≤ T.length) :
    Calls Try.prog 46 #[.agg #[v]] w fun e w' => e = .returned (.tuple #[.agg #[.int .i64 ((gI T 0 + gI T 1) / gcdI (gI T 0 + gI T 1) (gI T 0 * gI T 1)), .int .i64 ((gI T 0 * gI T 1) / gcdI (gI T 0 + gI T 1) (gI T 0 * gI T 1))], .int .i64 0]) ∧ Below w.heap.size w w' := by
  have hx := Boxed.start w 26 #[v]
  have hp := hok.len
  have hl := bra_len hok
  obtain ⟨b, off, cap, rfl, hc1, hc2, hbk, hc⟩ := h.cells hp
  have hx1 := hx.alloc (.cells #[.int .i64 0, .int .i64 0] 53)
  have B := Blk.new' (w := w.alloc (.cells #[.slice (some ⟨b, off, none⟩) T.length cap] 26)) (t := 53) (cs := #[.int .i64 0, .int .i64 0]) (g := w.heap.size + 1) (by simp)
  go_enter Try.func46, Try.ntmps46
  go_wp2_with fail
  refine (implIsBranch_c _ T _ (hx1.rd h)).mono ?_
  rintro e w1 ⟨rfl, hb⟩
  rw [braB_iff.2 hok]
  have B1 := B.stays hb
  have hx2 := hx1.trans hb
  have c00 := hx2.cell 0
  go_wp2_with fail
  refine (pairsOf_c _ T _ (hx2.rd h) (by omega)).mono ?_
  rintro e w2 ⟨rfl, hb2⟩
  have B2 := B1.stays hb2
  have hx3 := hx2.trans hb2
  have hz : ((T.length : Int) - 1 == 0) = false := beq_false_of_ne (by omega)
  have d0 : w2.cell? ⟨b, off, none⟩ = some (.int .i64 (gI T 0)) := by rw [hx3.below.cell (p := ⟨b, off, none⟩) hbk]; exact hc 0 hp
  have d1 : w2.cell? ⟨b, off + 1, none⟩ = some (.int .i64 (gI T 1)) := by rw [hx3.below.cell (p := ⟨b, off + 1, none⟩) hbk]; exact hc 1 (by omega)
  have c00' := hx3.cell 0
  have l0 : (0 : Int) < (T.length : Int) := by omega
  have l1 : (1 : Int) < (T.length : Int) := by omega
  have n0 := hok.num 0 hp
  have n1 := hok.num 1 (by omega)
  clear c00
  have m1 := mul_bd (a := gI T 0) (A := 2000) (b := gI T 1) (B := 2000) (by omega) (by omega) (by omega) (by omega)
  have m2 : 0 < gI T 0 * gI T 1 := Int.mul_pos (by omega) (by omega)
  have wm : IntKind.i64.wrap (gI T 0 * gI T 1) = gI T 0 * gI T 1 := IntWalk.i64_in _ (by omega)
  have wa : IntKind.i64.wrap (gI T 0 + gI T 1) = gI T 0 + gI T 1 := IntWalk.i64_in _ (by omega)
  go_wp2_with fail
  go_quiet (fail)
  have hx4 : Boxed w (w2.drewN nq) 26 #[.slice (some ⟨b, off, none⟩) T.length cap] := hx3.trans (below_drewN (Below.refl _ _) nq)
  have B4 := B2.drewN nq
  generalize w2.drewN nq = w4 at hx4 B4 ⊢
  go_wp2_with fail
  refine (reduced_c _ _ _ (by omega) (by omega) (by omega) (by omega)).mono ?_
  rintro e w3 ⟨rfl, hb3⟩
  have B3 := B4.stays hb3
  have c0 := B3.cell 0
  have c1 := B3.cell 1
  have f0 := B3.free 0
  have f1 := B3.free 1
  go_wp2
  have hx5 := hx4.trans hb3
  have F2 := (B3.set 0 (.int .i64 ((gI T 0 + gI T 1) / gcdI (gI T 0 + gI T 1) (gI T 0 * gI T 1)))).set 1 (.int .i64 (gI T 0 * gI T 1 / gcdI (gI T 0 + gI T 1) (gI T 0 * gI T 1)))
  have q0 := F2.cell 0
  have q1 := F2.cell 1
  refine bodyPost_ret (v := .tuple #[.agg #[.int .i64 ((gI T 0 + gI T 1) / gcdI (gI T 0 + gI T 1) (gI T 0 * gI T 1)), .int .i64 (gI T 0 * gI T 1 / gcdI (gI T 0 + gI T 1) (gI T 0 * gI T 1))], .int .i64 0]) (by simp [results, Try.results46, go_sem, q0, q1]) rfl ⟨rfl, ?_⟩
  exact (hx5.below.setCell (p := ⟨w.heap.size + 1, 0, none⟩) (Nat.le_succ _) _).setCell (p := ⟨w.heap.size + 1, 1, none⟩) (Nat.le_succ _) _

set_option maxHeartbeats 1000000 in
theorem specThreshold_no (v : Value) (T : List Int) (w : World) (h : Rd w v T) (hc : braB T = false) :
    Calls Try.prog 47 #[.agg #[v]] w fun e w' => e = .returned (.tuple #[.agg #[.int .i64 0, .int .i64 0], .int .i64 1]) ∧ Below w.heap.size w w' := by
  have hx := Boxed.start w 26 #[v]
  obtain ⟨a1, k1, rfl⟩ := h.len0
  have hx1 := hx.alloc (.cells #[.int .i64 0, .int .i64 0] 53)
  have B := Blk.new' (w := w.alloc (.cells #[.slice a1 T.length k1] 26)) (t := 53) (cs := #[.int .i64 0, .int .i64 0]) (g := w.heap.size + 1) (by simp)
  go_enter Try.func47, Try.ntmps47
  go_wp2_with fail
  refine (l03Is_c _ T _ (hx1.rd h)).mono ?_
  rintro e w1 ⟨rfl, hb⟩
  rw [hc]
  have B1 := B.stays hb
  have hx2 := hx1.trans hb
  have c0 := B1.cell 0
  have c1 := B1.cell 1
  have f0 := B1.free 0
  have f1 := B1.free 1
  go_wp2
  have F2 := (B1.set 0 (.int .i64 0)).set 1 (.int .i64 0)
  have q0 := F2.cell 0
  have q1 := F2.cell 1
  refine bodyPost_ret (v := .tuple #[.agg #[.int .i64 0, .int .i64 0], .int .i64 1]) (by simp [results, Try.results47, go_sem, q0, q1]) rfl ⟨rfl, ?_⟩
  exact (hx2.below.setCell (p := ⟨w.heap.size + 1, 0, none⟩) (Nat.le_succ _) _).setCell (p := ⟨w.heap.size + 1, 1, none⟩) (Nat.le_succ _) _


set_option maxHeartbeats 1000000 in
theorem specThreshold_one (v : Value) (T : List Int) (w : World) (h : Rd w v T) (hok : BraOk T) (h1 : T.length = 1) :
    Calls Try.prog 47 #[.agg #[v]] w fun e w' => e = .returned (.tuple #[.agg #[.int .i64 2, .int .i64 1], .int .i64 0]) ∧ Below w.heap.size w w' := by
  have H1 := Lib.hid h1
  clear h1
  have hx := Boxed.start w 26 #[v]
  have hp := hok.len
  have hl := bra_len hok
  obtain ⟨b, off, cap, rfl, hc1, hc2, hbk, hc⟩ := h.cells hp
  have hx1 := hx.alloc (.cells #[.int .i64 0, .int .i64 0] 53)
  have B := Blk.new' (w := w.alloc (.cells #[.slice (some ⟨b, off, none⟩) T.length cap] 26)) (t := 53) (cs := #[.int .i64 0, .int .i64 0]) (g := w.heap.size + 1) (by simp)
  go_enter Try.func47, Try.ntmps47
  go_wp2_with fail
  refine (l03Is_c _ T _ (hx1.rd h)).mono ?_
  rintro e w1 ⟨rfl, hb⟩
  rw [braB_iff.2 hok]
  have B1 := B.stays hb
  have hx2 := hx1.trans hb
  have c00 := hx2.cell 0
  have hz2 : ((T.length : Int) == 1) = true := by rw [H1.out]; rfl
  have c0 := B1.cell 0
  have c1 := B1.cell 1
  have f0 := B1.free 0
  have f1 := B1.free 1
  go_wp2
  have F2 := (B1.set 0 (.int .i64 2)).set 1 (.int .i64 1)
  have q0 := F2.cell 0
  have q1 := F2.cell 1
  refine bodyPost_ret (v := .tuple #[.agg #[.int .i64 2, .int .i64 1], .int .i64 0]) (by simp [results, Try.results47, go_sem, q0, q1]) rfl ⟨rfl, ?_⟩
  exact (hx2.below.setCell (p := ⟨w.heap.size + 1, 0, none⟩) (Nat.le_succ _) _).setCell (p := ⟨w.heap.size + 1, 1, none⟩) (Nat.le_succ _) _

end Go.Proofs.Ytiinceflafigeaa

/- Contracts: ThresholdOfBranch: the reference's last case, and both joined. -/
namespace Go.Proofs.Ytiinceflafigeaa
open Go.RowKit

set_option maxRecDepth 100000 in
set_option maxHeartbeats 4000000 in
theorem specThreshold_two (v : Value) (T : List Int) (w : World) (h : Rd w v T) (hok : BraOk T) (h1 : 2 ≤ T.length) :
    Calls Try.prog 47 #[.agg #[v]] w fun e w' => e = .returned (.tuple #[.agg #[.int .i64 ((gI T 0 + gI T 1) / gcdI (gI T 0 + gI T 1) (gI T 0 * gI T 1)), .int .i64 ((gI T 0 * gI T 1) / gcdI (gI T 0 + gI T 1) (gI T 0 * gI T 1))], .int .i64 0]) ∧ Below w.heap.size w w' := by
  have hx := Boxed.start w 26 #[v]
  have hp := hok.len
  have hl := bra_len hok
  obtain ⟨b, off, cap, rfl, hc1, hc2, hbk, hc⟩ := h.cells hp
  have hx1 := hx.alloc (.cells #[.int .i64 0, .int .i64 0] 53)
  have B := Blk.new' (w := w.alloc (.cells #[.slice (some ⟨b, off, none⟩) T.length cap] 26)) (t := 53) (cs := #[.int .i64 0, .int .i64 0]) (g := w.heap.size + 1) (by simp)
  have hmk : ∀ X : World, Boxed w X 26 #[.slice (some ⟨b, off, none⟩) T.length cap] → X.cell? ⟨w.heap.size, 0, none⟩ = some (.slice (some ⟨b, off, none⟩) T.length cap) ∧ X.cell? ⟨b, off, none⟩ = some (.int .i64 (gI T 0)) ∧ X.cell? ⟨b, off + 1, none⟩ = some (.int .i64 (gI T 1)) := fun X hX =>
    ⟨hX.cell 0, by rw [hX.below.cell (p := ⟨b, off, none⟩) hbk]; exact hc 0 hp, by rw [hX.below.cell (p := ⟨b, off + 1, none⟩) hbk]; exact hc 1 (by omega)⟩
  have HMK := Lib.hid hmk
  have n0 := hok.num 0 hp
  have n1 := hok.num 1 (by omega)
  have m1 := mul_bd (a := gI T 0) (A := 2000) (b := gI T 1) (B := 2000) (by omega) (by omega) (by omega) (by omega)
  have m2 : 0 < gI T 0 * gI T 1 := Int.mul_pos (by omega) (by omega)
  have wm : IntKind.i64.wrap (gI T 0 * gI T 1) = gI T 0 * gI T 1 := IntWalk.i64_in _ (by omega)
  have wa : IntKind.i64.wrap (gI T 0 + gI T 1) = gI T 0 + gI T 1 := IntWalk.i64_in _ (by omega)
  have l0 : (0 : Int) < (T.length : Int) := by omega
  have l1 : (1 : Int) < (T.length : Int) := by omega
  have hz : ((T.length : Int) == 1) = false := beq_false_of_ne (by omega)
  have r1 : 0 ≤ gI T 0 + gI T 1 := by omega
  have r2 : gI T 0 + gI T 1 ≤ 1000000000000000 := by omega
  have r3 : gI T 0 * gI T 1 ≤ 1000000000000000 := by omega
  have hyes := braB_iff.2 hok
  clear hmk hc hok n0 n1 m1
  go_enter Try.func47, Try.ntmps47
  go_wp2_with fail
  refine (l03Is_c _ T _ (hx1.rd h)).mono ?_
  rintro e w1 ⟨rfl, hb⟩
  rw [hyes]
  have B1 := B.stays hb
  have hx2 := hx1.trans hb
  have c00 := hx2.cell 0
  go_wp2_with fail
  clear c00
  have hx3 := hx2.trans (Below.refl _ _).drew
  have B3 := B1.stays (Below.refl _ _).drew
  have HD := HMK.out _ hx3
  go_region_held3 (fun X => X.cell? ⟨w.heap.size, 0, none⟩ = some (.slice (some ⟨b, off, none⟩) T.length cap) ∧ X.cell? ⟨b, off, none⟩ = some (.int .i64 (gI T 0)) ∧ X.cell? ⟨b, off + 1, none⟩ = some (.int .i64 (gI T 1)))
    (first | assumption | exact HD | exact HE _ _)
    (first
      | (go_at_call 148; (with_reducible refine (l01Make_c (gI T 0 + gI T 1) (gI T 0 * gI T 1) _ r1 r2 m2 r3).mono ?_); rintro e w2 ⟨rfl, hb2⟩; have hx4 := hx3.trans hb2; have B4 := B3.stays hb2; have HD := HMK.out _ hx4; have c0 := B4.cell 0; have c1 := B4.cell 1; have f0 := B4.free 0; have f1 := B4.free 1; have HE : ∀ u0 u1 : Value, ((w2.setCell ⟨w.heap.size + 1, 0, none⟩ u0).setCell ⟨w.heap.size + 1, 1, none⟩ u1).cell? ⟨w.heap.size, 0, none⟩ = some (.slice (some ⟨b, off, none⟩) T.length cap) ∧ ((w2.setCell ⟨w.heap.size + 1, 0, none⟩ u0).setCell ⟨w.heap.size + 1, 1, none⟩ u1).cell? ⟨b, off, none⟩ = some (.int .i64 (gI T 0)) ∧ ((w2.setCell ⟨w.heap.size + 1, 0, none⟩ u0).setCell ⟨w.heap.size + 1, 1, none⟩ u1).cell? ⟨b, off + 1, none⟩ = some (.int .i64 (gI T 1)) := fun u0 u1 => HMK.out _ (hx4.wrote (((Keeps.refl (fun k => w.heap.size + 1 ≤ k) w2).setCell (p := ⟨w.heap.size + 1, 0, none⟩) (Nat.le_refl _) u0).setCell (p := ⟨w.heap.size + 1, 1, none⟩) (Nat.le_refl _) u1))))
  go_wp2
  have F2 := (B4.set 0 (.int .i64 ((gI T 0 + gI T 1) / gcdI (gI T 0 + gI T 1) (gI T 0 * gI T 1)))).set 1 (.int .i64 (gI T 0 * gI T 1 / gcdI (gI T 0 + gI T 1) (gI T 0 * gI T 1)))
  have q0 := F2.cell 0
  have q1 := F2.cell 1
  refine bodyPost_ret (v := .tuple #[.agg #[.int .i64 ((gI T 0 + gI T 1) / gcdI (gI T 0 + gI T 1) (gI T 0 * gI T 1)), .int .i64 (gI T 0 * gI T 1 / gcdI (gI T 0 + gI T 1) (gI T 0 * gI T 1))], .int .i64 0]) (by simp [results, Try.results47, go_sem, q0, q1]) rfl ⟨rfl, ?_⟩
  exact (hx4.below.setCell (p := ⟨w.heap.size + 1, 0, none⟩) (Nat.le_succ _) _).setCell (p := ⟨w.heap.size + 1, 1, none⟩) (Nat.le_succ _) _

/-- The threshold of a branch; 0 / 0 for what is none. -/
def thT (T : List Int) : Int := if braB T then thTop T else 0
def thB (T : List Int) : Int := if braB T then thBot T else 0
theorem th_no {T : List Int} (h : braB T = false) : thT T = 0 ∧ thB T = 0 := by simp [thT, thB, h]
theorem th_one {T : List Int} (h : braB T = true) (h1 : T.length = 1) : thT T = 2 ∧ thB T = 1 := by simp [thT, thB, h, thTop, thBot, h1]
theorem th_two {T : List Int} (h : braB T = true) (h1 : 2 ≤ T.length) : thT T = (gI T 0 + gI T 1) / gcdI (gI T 0 + gI T 1) (gI T 0 * gI T 1) ∧ thB T = (gI T 0 * gI T 1) / gcdI (gI T 0 + gI T 1) (gI T 0 * gI T 1) := by
  have : ¬ T.length = 1 := by omega
  simp [thT, thB, h, thTop, thBot, this]
theorem implThreshold_c (v : Value) (T : List Int) (w : World) (h : Rd w v T) :
    Calls Try.prog 46 #[.agg #[v]] w fun e w' => e = .returned (.tuple #[.agg #[.int .i64 (thT T), .int .i64 (thB T)], .int .i64 (okC (braB T) 1)]) ∧ Below w.heap.size w w' := by
  cases hb : braB T
  · rw [(th_no hb).1, (th_no hb).2, okC_false rfl]; exact implThreshold_no v T w h hb
  · have hok := braB_iff.1 hb
    by_cases h1 : T.length = 1
    · rw [(th_one hb h1).1, (th_one hb h1).2, okC_true rfl]; exact implThreshold_one v T w h hok h1
    · have h2 : 2 ≤ T.length := by have := hok.len; omega
      rw [(th_two hb h2).1, (th_two hb h2).2, okC_true rfl]; exact implThreshold_two v T w h hok h2
theorem specThreshold_c (v : Value) (T : List Int) (w : World) (h : Rd w v T) :
    Calls Try.prog 47 #[.agg #[v]] w fun e w' => e = .returned (.tuple #[.agg #[.int .i64 (thT T), .int .i64 (thB T)], .int .i64 (okC (braB T) 1)]) ∧ Below w.heap.size w w' := by
  cases hb : braB T
  · rw [(th_no hb).1, (th_no hb).2, okC_false rfl]; exact specThreshold_no v T w h hb
  · have hok := braB_iff.1 hb
    by_cases h1 : T.length = 1
    · rw [(th_one hb h1).1, (th_one hb h1).2, okC_true rfl]; exact specThreshold_one v T w h hok h1
    · have h2 : 2 ≤ T.length := by have := hok.len; omega
      rw [(th_two hb h2).1, (th_two hb h2).2, okC_true rfl]; exact specThreshold_two v T w h hok h2
end Go.Proofs.Ytiinceflafigeaa

/- The threshold of a branch: no fraction of 1 plus a discrepancy over an order is less, and at the last point of the first run it is reached. No program in sight. -/
namespace Go.Proofs.Ytiinceflafigeaa

theorem sI_is {M : List Int} (h : Eu M) {i j : Nat} (hij : i + 1 < j) (hj : j < M.length) (hp : pB M i j = true) : sI M j = i := by
  rcases secTo_cases M j (j - 1) with ⟨_, h2⟩ | ⟨i', h1, h2, h3⟩
  · have := h2 i (by omega)
    rw [hp] at this
    cases this
  · have e : i' = i := by
      rcases Nat.lt_trichotomy i' i with c | c | c
      · exact (pB_one h c hij hj h3 hp).elim
      · exact c
      · exact (pB_one h c (by omega) hj hp h3).elim
    subst e
    exact h2
theorem sI_none {M : List Int} {j : Nat} (hn : ∀ i, i + 1 < j → pB M i j = false) : sI M j = -1 := by
  rcases secTo_cases M j (j - 1) with ⟨h1, _⟩ | ⟨i', h1, _, h3⟩
  · exact h1
  · have := hn i' (by omega)
    rw [this] at h3
    cases h3

/-- The discrepancy, the order, and how far they are from the threshold t / N. -/
def dA (M : List Int) (j : Nat) : Int := oI (fun _ => 1) M j
def dV (M : List Int) (j : Nat) : Int := oI (fun i => gI M i) M j
def dD (N t : Int) (M : List Int) (j : Nat) : Int := (1 + dA M j) * N - t * dV M j
theorem dD_zero (N t : Int) {M : List Int} (h : 0 < M.length) : dD N t M 0 = 2 * N - t * gI M 0 := by
  have e : sI M 0 = -1 := rfl
  have e1 := oI_eq (fun _ => 1) h
  have e2 := oI_eq (fun i => gI M i) h
  rw [e] at e1 e2
  simp at e1 e2
  unfold dD dA dV
  rw [e1, e2]
  rfl
theorem dD_free (N t : Int) {M : List Int} {j : Nat} (h0 : 0 < j) (h : j < M.length) (hs : sI M j = -1) : dD N t M j = dD N t M (j - 1) + N - t * gI M j := by
  have e1 := oI_eq (fun _ => 1) h
  have e2 := oI_eq (fun i => gI M i) h
  rw [hs, if_neg (by omega), if_neg (by omega)] at e1 e2
  unfold dD dA dV
  rw [e1, e2]
  generalize oI (fun _ => 1) M (j - 1) = x1
  generalize oI (fun i => gI M i) M (j - 1) = y1
  generalize gI M j = m
  grind
theorem dD_sat (N t : Int) {M : List Int} {i j : Nat} (h0 : 0 < j) (h : j < M.length) (hs : sI M j = i) : dD N t M j = dD N t M (j - 1) + dD N t M i - t * gI M j := by
  have e1 := oI_eq (fun _ => 1) h
  have e2 := oI_eq (fun i => gI M i) h
  rw [hs, if_neg (by omega), if_pos (by omega), Int.toNat_natCast] at e1 e2
  unfold dD dA dV
  rw [e1, e2]
  generalize oI (fun _ => 1) M (j - 1) = x1
  generalize oI (fun i => gI M i) M (j - 1) = y1
  generalize oI (fun _ => 1) M i = x2
  generalize oI (fun i => gI M i) M i = y2
  generalize gI M j = m
  grind

theorem psum_nn {M : List Int} (hE : Eu M) {i j : Nat} (hj : j < M.length) : 0 ≤ psum M i j := by
  rcases Nat.lt_or_ge i j with c | c
  · have := psum_mono hE hj (Nat.le_refl i) (Nat.le_of_lt c)
    rw [psum_self] at this
    exact this
  · unfold psum
    rw [show j - i = 0 by omega]
    exact Int.le_refl _
theorem psum_two {M : List Int} (hE : Eu M) {i j : Nat} (hij : i + 1 < j) (hj : j < M.length) : gI M (j - 1) + gI M j ≤ psum M i j := by
  obtain ⟨d, rfl⟩ : ∃ d, j = i + d + 1 + 1 := ⟨j - i - 2, by omega⟩
  rw [psum_succ M (by omega), psum_succ M (by omega)]
  have := psum_nn hE (i := i) (j := i + d) (by omega)
  show gI M (i + d + 1) + _ ≤ _
  omega
theorem psum_blk {M : List Int} {i p q : Nat} {b : Int} (hi : i < p) (h : ∀ s, s < q → gI M (p + s) = b) : ∀ s, s ≤ q → psum M i (p - 1 + s) = psum M i (p - 1) + s * b := by
  intro s
  induction s with
  | zero => intro _; simp
  | succ s ih =>
    intro hs
    rw [← Nat.add_assoc, psum_succ M (by omega), ih (by omega), show p - 1 + s + 1 = p + s by omega, h s (by omega), Int.natCast_succ, Int.add_mul]
    omega

/-- What the older end gives. -/
def dX (N t : Int) (M : List Int) : Option Nat → Int
  | none => N
  | some i => dD N t M i
/-- But for the point x none of the older points has the point p as proximate. -/
def Clo (M : List Int) (p : Nat) (x : Option Nat) : Prop := p < M.length → ∀ i, i + 1 < p → x ≠ some i → pB M i p = false

/-- A block of equal numbers b behind a. -/
theorem thr_block {M : List Int} (hE : Eu M) (N t : Int) {a b : Int} {p q : Nat} {x : Option Nat} (hp : 1 ≤ p) (hl : p + q ≤ M.length) (ha : gI M (p - 1) = a) (hb : ∀ s, s < q → gI M (p + s) = b) (hq : q * b ≤ a) (hc : Clo M p x) (hx : ∀ i, x = some i → i + 1 < p ∧ gI M i = psum M i (p - 1) + b) :
    ∀ s, s < q → dD N t M (p + s) = dX N t M x + (s + 1) * dD N t M (p - 1) - (s + 1) * (t * b) := by
  intro s
  induction s with
  | zero =>
    intro h0
    have hb0 := hb 0 h0
    rw [Nat.add_zero] at hb0 ⊢
    cases x with
    | none =>
      rw [dD_free N t (by omega) (by omega) (sI_none (fun i hi => hc (by omega) i hi (by simp))), hb0]
      show _ = N + _ - _
      simp; omega
    | some i =>
      obtain ⟨h1, h2⟩ := hx i rfl
      have e : psum M i p = psum M i (p - 1) + gI M p := by
        have := psum_succ M (show i ≤ p - 1 by omega)
        rw [show p - 1 + 1 = p by omega] at this
        exact this
      rw [dD_sat N t (by omega) (by omega) (sI_is hE h1 (by omega) (pB_iff.2 ⟨by omega, by omega⟩)), hb0]
      show _ = dD N t M i + _ - _
      simp; omega
  | succ s ih =>
    intro hs
    have ih := ih (by omega)
    have e := psum_blk (i := p - 1) (by omega) hb (s + 2) (by omega)
    rw [psum_self, show p - 1 + (s + 2) = p + s + 1 by omega] at e
    have hbn : 0 ≤ b := by have h1 := hb 0 (by omega); have h2 := hE.pos (p + 0) (by omega); omega
    have hle : ((s + 2 : Nat) : Int) * b ≤ q * b := Int.mul_le_mul_of_nonneg_right (by omega) hbn
    have := dD_sat N t (i := p - 1) (j := p + s + 1) (by omega) (by omega) (sI_is hE (by omega) (by omega) (pB_iff.2 ⟨by omega, by omega⟩))
    rw [show p + s + 1 - 1 = p + s by omega, ih] at this
    rw [← Nat.add_assoc, this, Nat.add_assoc, hb (s + 1) hs]
    grind

theorem thr_loop {M : List Int} (hE : Eu M) (N t : Int) : ∀ n : Nat, ∀ (a b X Y : Int) (p : Nat) (x : Option Nat), b.toNat ≤ n → 0 ≤ b → b < a → 1 ≤ p →
    (∀ i, i < (flat (stB a b)).length → gI M (p + i) = gI (flat (stB a b)) i) → p + (flat (stB a b)).length ≤ M.length → gI M (p - 1) = a → 0 ≤ X → 0 ≤ Y → X + Y = t →
    X * a ≤ dX N t M x → Y * b ≤ dD N t M (p - 1) → Clo M p x → (∀ i, x = some i → i + 1 < p ∧ gI M i = psum M i (p - 1) + b) →
    (∀ j, p ≤ j → j < p + (flat (stB a b)).length → 0 ≤ dD N t M j) ∧ 0 ≤ dD N t M (p + (flat (stB a b)).length - 1) ∧ Clo M (p + (flat (stB a b)).length) none ∧ gI M (p + (flat (stB a b)).length - 1) = gcdI a b ∧
      (X * a = dX N t M x → Y * b = dD N t M (p - 1) → dD N t M (p + (flat (stB a b)).length - 1) = 0) := by
  intro n
  induction n with
  | zero =>
    intro a b X Y p x hn hb0 hba hp hM hl ha hX hY hXY hdx hdy hc hx
    have hb : b = 0 := by omega
    subst hb
    have e : flat (stB a 0) = [] := by rw [stB_zero (by omega)]; rfl
    rw [e] at hl ⊢
    simp only [List.length_nil, Nat.add_zero] at hl ⊢
    rw [Int.mul_zero] at hdy
    refine ⟨fun j h1 h2 => by omega, hdy, fun hpl i hi _ => ?_, ?_, fun _ h => by rw [Int.mul_zero] at h; exact h.symm⟩
    · by_cases c : x = some i
      · obtain ⟨h1, h2⟩ := hx i c
        have e : psum M i p = psum M i (p - 1) + gI M p := by
          have := psum_succ M (show i ≤ p - 1 by omega)
          rw [show p - 1 + 1 = p by omega] at this
          exact this
        have := (hE.pos p hpl).1
        exact pB_no (by omega)
      · exact hc hpl i hi c
    · rw [ha]; unfold gcdI; simp; omega
  | succ n ih =>
    intro a b X Y p x hn hb0 hba hp hM hl ha hX hY hXY hdx hdy hc hx
    by_cases hb : b = 0
    · exact ih a b X Y p x (by omega) hb0 hba hp hM hl ha hX hY hXY hdx hdy hc hx
    · have hbp : 0 < b := by omega
      have hr0 := Int.emod_nonneg a hb
      have hr1 := Int.emod_lt_of_pos a hbp
      have hq1 : 1 ≤ a / b := div_one_le hbp (by omega)
      have hqe : a / b * b + a % b = a := by have := Int.mul_ediv_add_emod a b; rw [Int.mul_comm] at this; exact this
      obtain ⟨q, hq⟩ := Int.eq_ofNat_of_zero_le (show 0 ≤ a / b by omega)
      have e : flat (stB a b) = List.replicate q b ++ flat (stB b (a % b)) := by rw [stB_pos hbp, flat_cons]; unfold rep; rw [hq]; rfl
      rw [hq] at hqe
      have hg : gcdI a b = gcdI b (a % b) := (gcdI_step _ a b (by omega) hbp rfl).symm
      rw [e] at hM hl ⊢
      rw [hg]
      generalize a % b = r at *
      simp only [List.length_append, List.length_replicate] at hM hl ⊢
      have hqn : 1 ≤ q := by omega
      have hblk : ∀ s, s < q → gI M (p + s) = b := fun s hs => by rw [hM s (by omega), gI_app_lt (by simpa using hs), gI_rep hs]
      have hqb : (q : Int) * b ≤ a := by omega
      have hD := thr_block hE N t hp (by omega) ha hblk hqb hc hx
      have hlow : ∀ s, s < q → X * (a - (s + 1) * b) ≤ dD N t M (p + s) := fun s hs => by
        rw [hD s hs]
        have h1 : ((s : Int) + 1) * (Y * b) ≤ (s + 1) * dD N t M (p - 1) := Int.mul_le_mul_of_nonneg_left hdy (by omega)
        have h2 : X * (a - ((s : Int) + 1) * b) = X * a + (s + 1) * (Y * b) - (s + 1) * (t * b) := by rw [← hXY]; grind
        omega
      have hend := hlow (q - 1) (by omega)
      have hq3 : ((q - 1 : Nat) : Int) + 1 = q := by omega
      rw [hq3, show a - q * b = r by omega] at hend
      have hcl : Clo M (p + q) (some (p - 1)) := by
        intro hpl i hi hne
        have hpq := (hE.pos (p + q) hpl).1
        by_cases c : i + 1 < p
        · by_cases d : x = some i
          · obtain ⟨h1, h2⟩ := hx i d
            have e := psum_blk (i := i) (by omega) hblk q (Nat.le_refl _)
            have e2 : psum M i (p + q) = psum M i (p - 1 + q) + gI M (p + q) := by
              have := psum_succ M (show i ≤ p - 1 + q by omega)
              rw [show p - 1 + q + 1 = p + q by omega] at this
              exact this
            have : 1 * b ≤ q * b := Int.mul_le_mul_of_nonneg_right (by omega) hb0
            exact pB_no (by omega)
          · cases f : pB M i (p + q)
            · rfl
            · have := pB_down hE hpl (show i < p by omega) (by omega) f
              rw [hc (by omega) i c d] at this
              cases this
        · have hi2 : p ≤ i := by
            have : i ≠ p - 1 := fun h => hne (by rw [h])
            omega
          have h1 := psum_two hE (show i + 1 < p + q by omega) hpl
          have h2 := hblk (i - p) (by omega)
          have h3 := hblk (q - 1) (by omega)
          rw [show p + (i - p) = i by omega] at h2
          rw [show p + (q - 1) = p + q - 1 by omega] at h3
          exact pB_no (by omega)
      have hxx : ∀ i, (some (p - 1) : Option Nat) = some i → i + 1 < p + q ∧ gI M i = psum M i (p + q - 1) + r := by
        intro i hi
        injection hi with hi
        subst hi
        have e := psum_blk (i := p - 1) (by omega) hblk q (Nat.le_refl _)
        rw [psum_self, show p - 1 + q = p + q - 1 by omega] at e
        exact ⟨by omega, by omega⟩
      have hbe : gI M (p + q - 1) = b := by have := hblk (q - 1) (by omega); rw [show p + (q - 1) = p + q - 1 by omega] at this; exact this
      rw [show p + (q - 1) = p + q - 1 by omega] at hend
      obtain ⟨k1, k2, k3, k4, k5⟩ := ih b r Y X (p + q) (some (p - 1)) (by omega) hr0 hr1 (by omega) (fun i hi => by rw [Nat.add_assoc, hM (q + i) (by omega), gI_app_ge (by simp)]; congr 1; simp) (by omega) hbe hY hX (by omega) hdy hend hcl hxx
      rw [← Nat.add_assoc]
      refine ⟨fun j h1 h2 => ?_, k2, k3, k4, fun g1 g2 => k5 g2 ?_⟩
      · by_cases c : j < p + q
        · have h3 := hlow (j - p) (by omega)
          rw [show p + (j - p) = j by omega] at h3
          have h4 : (((j - p : Nat) : Int) + 1) * b ≤ q * b := Int.mul_le_mul_of_nonneg_right (by omega) hb0
          have := Int.mul_nonneg hX (show 0 ≤ a - (((j - p : Nat) : Int) + 1) * b by omega)
          omega
        · exact k1 j (by omega) h2
      · have h3 := hD (q - 1) (by omega)
        rw [hq3, show p + (q - 1) = p + q - 1 by omega, ← g1, ← g2] at h3
        rw [h3, ← hXY, show r = a - q * b by omega]
        grind

/-- The first block of a later run: points that are free. -/
theorem thr_free {M : List Int} (hE : Eu M) (N t : Int) {e : Int} {p q : Nat} (hp : 1 ≤ p) (hl : p + q ≤ M.length) (he : gI M (p - 1) = e) (hb : ∀ s, s < q → gI M (p + s) = e) (hc : Clo M p none) :
    (∀ s, s < q → dD N t M (p + s) = dD N t M (p - 1) + (s + 1) * (N - t * e)) ∧ Clo M (p + q) none ∧ gI M (p + q - 1) = e := by
  have hi1 : ∀ i, p ≤ i + 1 → i + 1 ≤ p + q → gI M i = e := fun i h1 h2 => by
    by_cases c : i + 1 = p
    · rw [show i = p - 1 by omega]; exact he
    · have := hb (i - p) (by omega)
      rw [show p + (i - p) = i by omega] at this
      exact this
  have hfree : ∀ j, p ≤ j → j ≤ p + q → j < M.length → ∀ i, i + 1 < j → pB M i j = false := by
    intro j h1 h2 h3 i hi
    by_cases c : i + 1 < p
    · cases f : pB M i j
      · rfl
      · have := pB_down hE h3 (show i < p by omega) h1 f
        rw [hc (by omega) i c (by simp)] at this
        cases this
    · have h4 := psum_two hE hi h3
      have h5 := hi1 i (by omega) (by omega)
      have h6 := hi1 (j - 1) (by omega) (by omega)
      have h7 := (hE.pos j h3).1
      exact pB_no (by omega)
  refine ⟨fun s => ?_, fun hpl i hi _ => hfree (p + q) (by omega) (Nat.le_refl _) hpl i hi, hi1 _ (by omega) (by omega)⟩
  induction s with
  | zero =>
    intro h0
    have := dD_free N t (M := M) (j := p + 0) (by omega) (by omega) (sI_none (hfree _ (by omega) (by omega) (by omega)))
    rw [this, hb 0 h0]
    simp; omega
  | succ s ih =>
    intro hs
    have := dD_free N t (M := M) (j := p + (s + 1)) (by omega) (by omega) (sI_none (hfree _ (by omega) (by omega) (by omega)))
    rw [this, hb (s + 1) hs, show p + (s + 1) - 1 = p + s by omega, ih (by omega)]
    grind

/-- What is known behind some runs. -/
structure ThrSt (N t : Int) (M : List Int) (p : Nat) (e : Int) : Prop where
  one : 1 ≤ p
  len : p ≤ M.length
  nn : ∀ j, j < p → 0 ≤ dD N t M j
  clo : Clo M p none
  num : gI M (p - 1) = e
  hit : ∃ j, j < p ∧ dD N t M j = 0

theorem thr_run {M : List Int} (hE : Eu M) {N t k e : Int} {p : Nat} (h : ThrSt N t M p e) (ht : 0 ≤ t) (he : 0 < e) (hk : 0 ≤ k) (hN : t * e ≤ N)
    (hM : ∀ i, i < (flat (stB k e)).length → gI M (p + i) = gI (flat (stB k e)) i) (hl : p + (flat (stB k e)).length ≤ M.length) : ThrSt N t M (p + (flat (stB k e)).length) (gcdI k e) := by
  have hr0 := Int.emod_nonneg k (show e ≠ 0 by omega)
  have hr1 := Int.emod_lt_of_pos k he
  obtain ⟨q, hq⟩ := Int.eq_ofNat_of_zero_le (Int.ediv_nonneg hk (Int.le_of_lt he))
  have e0 : flat (stB k e) = List.replicate q e ++ flat (stB e (k % e)) := by rw [stB_pos he, flat_cons]; unfold rep; rw [hq]; rfl
  have hg : gcdI k e = gcdI e (k % e) := (gcdI_step _ k e hk he rfl).symm
  rw [e0] at hM hl ⊢
  rw [hg]
  simp only [List.length_append, List.length_replicate] at hM hl ⊢
  have hp1 := h.one
  have hblk : ∀ s, s < q → gI M (p + s) = e := fun s hs => by rw [hM s (by omega), gI_app_lt (by simpa using hs), gI_rep hs]
  obtain ⟨f1, f2, f3⟩ := thr_free hE N t hp1 (by omega) h.num hblk h.clo
  have h0 := h.nn (p - 1) (by omega)
  have hge : ∀ s, s < q → 0 ≤ dD N t M (p + s) := fun s hs => by
    rw [f1 s hs]
    have := Int.mul_nonneg (show 0 ≤ (s : Int) + 1 by omega) (show 0 ≤ N - t * e by omega)
    omega
  have hend : 0 ≤ dD N t M (p + q - 1) := by
    by_cases c : q = 0
    · rw [c]; exact h0
    · have := hge (q - 1) (by omega)
      rw [show p + (q - 1) = p + q - 1 by omega] at this
      exact this
  obtain ⟨k1, k2, k3, k4, _⟩ := thr_loop hE N t _ e (k % e) t 0 (p + q) none (Nat.le_refl _) hr0 hr1 (by omega) (fun i hi => by rw [Nat.add_assoc, hM (q + i) (by omega), gI_app_ge (by simp)]; congr 1; simp) (by omega) f3 ht (Int.le_refl _) (by omega) hN (by rw [Int.zero_mul]; exact hend) f2 (fun i hi => by cases hi)
  rw [← Nat.add_assoc]
  refine ⟨by omega, by omega, fun j hj => ?_, k3, k4, ?_⟩
  · by_cases c : j < p
    · exact h.nn j c
    · by_cases d : j < p + q
      · have := hge (j - p) (by omega)
        rw [show p + (j - p) = j by omega] at this
        exact this
      · exact k1 j (by omega) hj
  · obtain ⟨j, h1, h2⟩ := h.hit
    exact ⟨j, by omega, h2⟩

theorem thr_first {M : List Int} (hE : Eu M) {k e : Int} (he : 0 < e) (hk : e ≤ k)
    (hM : ∀ i, i < (flat (stB k e)).length → gI M i = gI (flat (stB k e)) i) (hl : (flat (stB k e)).length ≤ M.length) : ThrSt (e * k) (e + k) M (flat (stB k e)).length (gcdI k e) := by
  have hr0 := Int.emod_nonneg k (show e ≠ 0 by omega)
  have hr1 := Int.emod_lt_of_pos k he
  have hq1 : 1 ≤ k / e := div_one_le he hk
  have hqe : k / e * e + k % e = k := by have := Int.mul_ediv_add_emod k e; rw [Int.mul_comm] at this; exact this
  obtain ⟨q, hq⟩ := Int.eq_ofNat_of_zero_le (show 0 ≤ k / e by omega)
  have e0 : flat (stB k e) = List.replicate q e ++ flat (stB e (k % e)) := by rw [stB_pos he, flat_cons]; unfold rep; rw [hq]; rfl
  have hg : gcdI k e = gcdI e (k % e) := (gcdI_step _ k e (by omega) he rfl).symm
  rw [e0] at hM hl ⊢
  rw [hg]
  rw [hq] at hqe hq1
  generalize k % e = r at *
  simp only [List.length_append, List.length_replicate] at hM hl ⊢
  have hqn : 1 ≤ q := by omega
  have hblk : ∀ s, s < q → gI M s = e := fun s hs => by rw [hM s (by omega), gI_app_lt (by simpa using hs), gI_rep hs]
  have hfree : ∀ j, j ≤ q → j < M.length → ∀ i, i + 1 < j → pB M i j = false := by
    intro j h2 h3 i hi
    have h4 := psum_two hE hi h3
    have h5 := hblk i (by omega)
    have h6 := hblk (j - 1) (by omega)
    have h7 := (hE.pos j h3).1
    exact pB_no (by omega)
  have hD : ∀ s, s < q → dD (e * k) (e + k) M s = e * (k - (s + 1) * e) := by
    intro s
    induction s with
    | zero =>
      intro h0
      rw [dD_zero _ _ (by omega), hblk 0 h0]
      grind
    | succ s ih =>
      intro hs
      rw [dD_free _ _ (by omega) (by omega) (sI_none (hfree _ (by omega) (by omega))), hblk (s + 1) hs, Nat.add_sub_cancel, ih (by omega)]
      grind
  have hq3 : ((q - 1 : Nat) : Int) + 1 = q := by omega
  have hend := hD (q - 1) (by omega)
  rw [hq3, show k - q * e = r by omega] at hend
  have hbe := hblk (q - 1) (by omega)
  obtain ⟨k1, k2, k3, k4, k5⟩ := thr_loop hE (e * k) (e + k) _ e r k e q none (Nat.le_refl _) hr0 hr1 (by omega) (fun i hi => by rw [hM (q + i) (by omega), gI_app_ge (by simp)]; congr 1; simp) (by omega) hbe (by omega) (by omega) (by omega) (by show k * e ≤ e * k; rw [Int.mul_comm]; exact Int.le_refl _) (by rw [hend]; exact Int.le_refl _) (fun hpl i hi _ => hfree q (Nat.le_refl _) hpl i hi) (fun i hi => by cases hi)
  refine ⟨by omega, by omega, fun j hj => ?_, k3, k4, ⟨q + (flat (stB e r)).length - 1, by omega, k5 (by show k * e = e * k; rw [Int.mul_comm]) hend.symm⟩⟩
  by_cases d : j < q
  · rw [hD j d]
    have : ((j : Int) + 1) * e ≤ q * e := Int.mul_le_mul_of_nonneg_right (by omega) (by omega)
    exact Int.mul_nonneg (by omega) (by omega)
  · exact k1 j (by omega) hj

theorem pre_split (T : List Int) (n : Nat) : ∀ d, ∃ Z, flat (pre T (n + d)) = flat (pre T n) ++ Z := by
  intro d
  induction d with
  | zero => exact ⟨[], by simp⟩
  | succ d ih =>
    obtain ⟨Z, hZ⟩ := ih
    exact ⟨Z ++ flat (stB (kI T (n + d)) (eI T (n + d))), by rw [← Nat.add_assoc, pre_succ, flat_app, hZ, List.append_assoc]⟩
theorem pre_at {T : List Int} {n g : Nat} (h : n + 1 ≤ g) : (flat (pre T n)).length + (flat (stB (kI T n) (eI T n))).length ≤ (flat (pre T g)).length ∧ ∀ i, i < (flat (stB (kI T n) (eI T n))).length → gI (flat (pre T g)) ((flat (pre T n)).length + i) = gI (flat (stB (kI T n) (eI T n))) i := by
  obtain ⟨d, rfl⟩ : ∃ d, g = n + 1 + d := ⟨g - (n + 1), by omega⟩
  obtain ⟨Z, hZ⟩ := pre_split T (n + 1) d
  rw [hZ, pre_succ, flat_app]
  refine ⟨by simp, fun i hi => ?_⟩
  rw [List.append_assoc, gI_app_ge (by omega), Nat.add_sub_cancel_left, gI_app_lt hi]
/-- The common divisor of the first two terms. -/
theorem thr_num {T : List Int} (h : BraOk T) (h2 : 2 ≤ T.length) : (gI T 0 + gI T 1) * eI T 1 ≤ gI T 0 * gI T 1 := by
  have d0 : eI T 1 ∣ gI T 0 := eI_dvd T (Nat.zero_le 1)
  have d1 := eI_dvd_term T 1
  have f := h.fall 0 (by omega)
  have a := h.asc 0 (by omega)
  have p := (eI_bd h 1).1
  have e0 : eI T 0 = gI T 0 := rfl
  obtain ⟨x, hx⟩ := d0
  obtain ⟨y, hy⟩ := d1
  rw [e0] at f
  rw [Nat.zero_add] at f a
  generalize eI T 1 = e at *
  have hx2 : 2 ≤ x := by
    by_cases c : x < 2
    · have : e * x ≤ e * 1 := Int.mul_le_mul_of_nonneg_left (by omega) (by omega)
      omega
    · omega
  have hy2 : 2 ≤ y := by
    by_cases c : y < 2
    · have : e * y ≤ e * 1 := Int.mul_le_mul_of_nonneg_left (by omega) (by omega)
      omega
    · omega
  rw [hx, hy]
  have h1 : 0 ≤ (x - 2) * (y - 1) + (y - 2) := by have := Int.mul_nonneg (show 0 ≤ x - 2 by omega) (show 0 ≤ y - 1 by omega); omega
  have h3 := Int.mul_nonneg (Int.mul_nonneg (show 0 ≤ e by omega) (show 0 ≤ e by omega)) h1
  have h4 : e * e * ((x - 2) * (y - 1) + (y - 2)) = e * x * (e * y) - (e * x + e * y) * e := by grind
  omega

/-- The law: no fraction is less than the threshold, and one reaches it. -/
theorem thr_all {T : List Int} (h : BraOk T) (h2 : 2 ≤ T.length) {M : List Int} (hM : M = flat (pre T (T.length - 1))) (hE : Eu M) :
    (∀ j, j < M.length → 0 ≤ dD (gI T 0 * gI T 1) (gI T 0 + gI T 1) M j) ∧ ∃ j, j < M.length ∧ dD (gI T 0 * gI T 1) (gI T 0 + gI T 1) M j = 0 := by
  have hn0 := h.num 0 (by omega)
  have hn1 := h.num 1 (by omega)
  have key : ∀ n, 1 ≤ n → n ≤ T.length - 1 → ThrSt (gI T 0 * gI T 1) (gI T 0 + gI T 1) M (flat (pre T n)).length (eI T n) := by
    intro n
    induction n with
    | zero => intro h1; omega
    | succ n ih =>
      intro _ hn
      obtain ⟨a1, a2⟩ := pre_at (T := T) (n := n) (g := T.length - 1) (by omega)
      rw [← hM] at a1 a2
      rw [pre_succ, flat_app, List.length_append, ← kI_gcd T n]
      by_cases c : n = 0
      · subst c
        have e1 : flat (pre T 0) = [] := rfl
        rw [e1] at a1 a2 ⊢
        simp only [List.length_nil, Nat.zero_add] at a1 a2 ⊢
        exact thr_first hE (show 0 < eI T 0 from hn0.1) (Int.le_of_lt (h.asc 0 (by omega))) a2 a1
      · have he := (eI_bd h n).1
        have hle : eI T n ≤ eI T 1 := eI_le (by omega) (by omega)
        have hN := thr_num h h2
        have hmul : (gI T 0 + gI T 1) * eI T n ≤ (gI T 0 + gI T 1) * eI T 1 := Int.mul_le_mul_of_nonneg_left hle (by omega)
        exact thr_run hE (ih (by omega) (by omega)) (by omega) (by omega) (by have := kI_bd h (n := n) (by omega); omega) (by omega) a2 a1
  have k := key (T.length - 1) (by omega) (Nat.le_refl _)
  rw [← hM] at k
  exact ⟨k.nn, k.hit⟩
end Go.Proofs.Ytiinceflafigeaa

/- Contract: CountBranchPoints; the law of the thresholds in the walk's words. -/
namespace Go.Proofs.Ytiinceflafigeaa
open Go.RowKit

/-- How many numbers the sequence has. -/
def cntT (T : List Int) : Nat := (seqP T).length
theorem cnt_bd {T : List Int} (h : BraOk T) : cntT T ≤ 100000000 := by
  have hpl := pre_bd h (T.length - 1) (by have := h.len; omega)
  have hl7 := bra_len h
  unfold cntT seqP; split <;> (try simp) <;> omega
theorem cnt_pos {T : List Int} (h : BraOk T) : 1 ≤ cntT T := by
  unfold cntT seqP
  split
  · simp
  · rename_i h1
    have hp := h.len
    have h2 : T.length - 1 = (T.length - 2) + 1 := by omega
    rw [h2, pre_succ, flat_app]
    have he := eI_bd h (T.length - 2)
    have hk := kI_bd h (n := T.length - 2) (by omega)
    rcases Nat.eq_zero_or_pos (flat (stB (kI T (T.length - 2)) (eI T (T.length - 2)))).length with h3 | h3
    · exfalso
      have hg := kI_gcd T (T.length - 2)
      rw [show T.length - 2 + 1 = T.length - 1 by omega, h.last] at hg
      have h4 := tl_steps _ (kI T (T.length - 2)) (eI T (T.length - 2)) (Nat.le_refl _) (by omega) (by omega) [] (by rw [hg]; exact tl_nil 1)
      rw [List.append_nil] at h4
      have h5 : flat (stB (kI T (T.length - 2)) (eI T (T.length - 2))) = [] := List.eq_nil_of_length_eq_zero h3
      rw [stB_pos (by omega), flat_cons] at h5
      have h6 := List.append_eq_nil_iff.1 h5
      have h7 : rep (kI T (T.length - 2) / eI T (T.length - 2), eI T (T.length - 2)) = [] := h6.1
      have h8 := h6.2
      unfold rep at h7
      have h9 : (kI T (T.length - 2) / eI T (T.length - 2)).toNat = 0 := by simpa using h7
      by_cases hm : 0 < kI T (T.length - 2) % eI T (T.length - 2)
      · rw [stB_pos hm, flat_cons] at h8
        have h10 := (List.append_eq_nil_iff.1 h8).1
        unfold rep at h10
        have hlt := Int.emod_lt_of_pos (kI T (T.length - 2)) (show 0 < eI T (T.length - 2) by omega)
        have h11 := div_one_le hm (Int.le_of_lt hlt)
        have h12 : (eI T (T.length - 2) / (kI T (T.length - 2) % eI T (T.length - 2))).toNat = 0 := by simpa using h10
        omega
      · have hnn := Int.emod_nonneg (kI T (T.length - 2)) (show eI T (T.length - 2) ≠ 0 by omega)
        have hd := Int.emod_add_mul_ediv (kI T (T.length - 2)) (eI T (T.length - 2))
        have h13 : kI T (T.length - 2) / eI T (T.length - 2) ≤ 0 := by omega
        have h14 := Int.mul_nonpos_of_nonneg_of_nonpos (show 0 ≤ eI T (T.length - 2) by omega) h13
        omega
    · rw [List.length_append]; omega
theorem seqL_cnt (T : List Int) : seqL T (cntT T) = seqP T := by
  unfold seqL fullL
  by_cases h1 : T.length = 1
  · have e : seqP T = [1] := by unfold seqP; rw [if_pos h1]
    have e2 : cntT T = 1 := by unfold cntT; rw [e]; rfl
    rw [e, e2, h1]
    show (flat (pre T 0) ++ List.replicate 1 1).take 1 = [1]
    rfl
  · have e : seqP T = flat (pre T (T.length - 1)) := by unfold seqP; rw [if_neg h1]
    rw [e, List.take_append_of_le_length (by unfold cntT; rw [e]; exact Nat.le_refl _), List.take_of_length_le (by unfold cntT; rw [e]; exact Nat.le_refl _)]
set_option maxRecDepth 100000 in
set_option maxHeartbeats 1000000 in
theorem countPoints_c (v : Value) (T : List Int) (w : World) (h : Rd w v T) (hok : BraOk T) :
    Calls Try.prog 21 #[.agg #[v]] w fun e w' => e = .returned (.tuple #[.int .i64 (cntT T : Int), .int .i64 0]) ∧ Below w.heap.size w w' := by
  have hx := Boxed.start w 26 #[v]
  obtain ⟨a, c, rfl⟩ := h.len0
  have c0 := hx.cell 0
  have hbr := braB_iff.2 hok
  go_enter Try.func21, Try.ntmps21
  go_wp2_with fail
  refine (implIsBranch_c _ T _ (hx.rd h)).mono ?_
  rintro e w1 ⟨rfl, hb⟩
  rw [hbr]
  have hx1 := hx.trans hb
  have c1 := hx1.cell 0
  clear c0
  go_wp2_with fail
  refine (sequence_c _ T _ (hx1.rd h) hok).mono ?_
  rintro e w2 ⟨u, rfl, hO, hb2⟩
  obtain ⟨ad, k, rfl⟩ := hO.form
  have hn : (seqP T).length = cntT T := rfl
  rw [hn]
  have hcb := cnt_bd hok
  clear hO hn
  go_wp2
  go_ret2
  exact ⟨rfl, (hx1.trans hb2).below⟩
/-- The two sides at the point j. -/
def thL (T : List Int) (n j : Nat) : Int := (1 + gI (dsL T n) j) * thB T
def thR (T : List Int) (n j : Nat) : Int := thT T * gI (orL T n) j
theorem gI_dsL {T : List Int} {n i : Nat} (h : i < n) : gI (dsL T n) i = oI (fun _ => 1) (seqL T n) i := by
  have := gI_ord (M := seqL T n) (own := fun _ => 1) h
  rw [seqL_len] at this
  exact this
theorem gI_orL' {T : List Int} {n i : Nat} (h : i < n) : gI (orL T n) i = oI (fun t => gI (seqL T n) t) (seqL T n) i := by
  have := gI_ord (M := seqL T n) (own := fun t => gI (seqL T n) t) h
  rw [seqL_len] at this
  exact this
theorem th_bd {T : List Int} (h : BraOk T) : 0 ≤ thT T ∧ thT T ≤ 4000 ∧ 0 ≤ thB T ∧ thB T ≤ 4000000 := by
  have hb := braB_iff.2 h
  by_cases h1 : T.length = 1
  · rw [(th_one hb h1).1, (th_one hb h1).2]; omega
  · have h2 : 2 ≤ T.length := by have := h.len; omega
    have a := h.num 0 (by omega)
    have b := h.num 1 (by omega)
    have hN0 : 0 ≤ gI T 0 * gI T 1 := Int.mul_nonneg (by omega) (by omega)
    have hN1 : gI T 0 * gI T 1 ≤ 2000 * 2000 := Int.mul_le_mul (by omega) (by omega) (by omega) (by omega)
    rw [(th_two hb h2).1, (th_two hb h2).2]
    have hg : 0 ≤ gcdI (gI T 0 + gI T 1) (gI T 0 * gI T 1) := by unfold gcdI; omega
    have q1 := Int.ediv_nonneg (show 0 ≤ gI T 0 + gI T 1 by omega) hg
    have q2 := Int.ediv_nonneg hN0 hg
    have q3 := Int.ediv_le_self (gcdI (gI T 0 + gI T 1) (gI T 0 * gI T 1)) (show 0 ≤ gI T 0 + gI T 1 by omega)
    have q4 := Int.ediv_le_self (gcdI (gI T 0 + gI T 1) (gI T 0 * gI T 1)) hN0
    omega
theorem thLR_bd {T : List Int} (h : BraOk T) {n j : Nat} (hn : n ≤ 400) (hj : j < n) : (0 ≤ thL T n j ∧ thL T n j ≤ 10000000000000000) ∧ (0 ≤ thR T n j ∧ thR T n j ≤ 10000000000000000) ∧ (0 ≤ gI (dsL T n) j ∧ gI (dsL T n) j ≤ 1638400) ∧ (0 ≤ gI (orL T n) j ∧ gI (orL T n) j ≤ 1638400) := by
  have hE := eu_seq h n
  have hl := seqL_len T n
  have hb := th_bd h
  have h1 := oI_small hE (by rw [hl]; exact hn) (own := fun _ => 1) (fun i _ => by omega) (n := j) (by rw [hl]; exact hj)
  have h2 := oI_small hE (by rw [hl]; exact hn) (own := fun t => gI (seqL T n) t) (fun i hi => by have := hE.pos i hi; omega) (n := j) (by rw [hl]; exact hj)
  unfold thL thR
  rw [gI_dsL hj, gI_orL' hj]
  generalize oI (fun _ => 1) (seqL T n) j = a at *
  generalize oI (fun t => gI (seqL T n) t) (seqL T n) j = v at *
  have e1 : (1 + a) * thB T ≤ 1638401 * 4000000 := Int.mul_le_mul (by omega) (by omega) (by omega) (by omega)
  have e2 : 0 ≤ (1 + a) * thB T := Int.mul_nonneg (by omega) (by omega)
  have e3 : thT T * v ≤ 4000 * 1638400 := Int.mul_le_mul (by omega) (by omega) (by omega) (by omega)
  have e4 : 0 ≤ thT T * v := Int.mul_nonneg (by omega) (by omega)
  omega
theorem thr_law {T : List Int} (h : BraOk T) : (∀ j, j < cntT T → thR T (cntT T) j ≤ thL T (cntT T) j) ∧ ∃ j, j < cntT T ∧ thL T (cntT T) j = thR T (cntT T) j := by
  have hb := braB_iff.2 h
  by_cases h1 : T.length = 1
  · have e : seqP T = [1] := by unfold seqP; rw [if_pos h1]
    have e2 : cntT T = 1 := by unfold cntT; rw [e]; rfl
    have hs := seqL_cnt T
    have key : thL T (cntT T) 0 = thR T (cntT T) 0 := by
      unfold thL thR
      rw [(th_one hb h1).1, (th_one hb h1).2, gI_dsL (by omega), gI_orL' (by omega), hs, e]
      decide
    exact ⟨fun j hj => by
      have : j = 0 := by omega
      subst this; rw [key]; exact Int.le_refl _, 0, by omega, key⟩
  · have h2 : 2 ≤ T.length := by have := h.len; omega
    have a := h.num 0 (by omega)
    have b := h.num 1 (by omega)
    have e : seqP T = flat (pre T (T.length - 1)) := by unfold seqP; rw [if_neg h1]
    have hs := seqL_cnt T
    have hE := eu_seq h (cntT T)
    rw [hs] at hE
    obtain ⟨k1, k2⟩ := thr_all h h2 e hE
    have hN0 : 0 < gI T 0 * gI T 1 := Int.mul_pos (by omega) (by omega)
    have hg0 : 0 < gcdI (gI T 0 + gI T 1) (gI T 0 * gI T 1) := by
      unfold gcdI
      have := Nat.gcd_pos_of_pos_left (m := (gI T 0 + gI T 1).natAbs) (gI T 0 * gI T 1).natAbs (by omega)
      omega
    have f1 := Int.ediv_mul_cancel (gcdI_dvd_left (gI T 0 + gI T 1) (gI T 0 * gI T 1))
    have f2 := Int.ediv_mul_cancel (gcdI_dvd_right (gI T 0 + gI T 1) (gI T 0 * gI T 1))
    rw [← (th_two hb h2).1] at f1
    rw [← (th_two hb h2).2] at f2
    have key : ∀ j, j < cntT T → dD (gI T 0 * gI T 1) (gI T 0 + gI T 1) (seqP T) j = (thL T (cntT T) j - thR T (cntT T) j) * gcdI (gI T 0 + gI T 1) (gI T 0 * gI T 1) := by
      intro j hj
      unfold thL thR dD dA dV
      rw [gI_dsL hj, gI_orL' hj, hs]
      generalize gcdI (gI T 0 + gI T 1) (gI T 0 * gI T 1) = g at *
      rw [← f1, ← f2]
      grind
    generalize gcdI (gI T 0 + gI T 1) (gI T 0 * gI T 1) = g at *
    refine ⟨fun j hj => ?_, ?_⟩
    · have q := k1 j hj
      rw [key j hj] at q
      rcases Int.lt_or_le (thL T (cntT T) j) (thR T (cntT T) j) with q2 | q2
      · have := Int.mul_neg_of_neg_of_pos (show thL T (cntT T) j - thR T (cntT T) j < 0 by omega) hg0
        omega
      · exact q2
    · obtain ⟨j, hj, q⟩ := k2
      rw [key j hj] at q
      rcases Int.mul_eq_zero.1 q with q | q
      · exact ⟨j, hj, by omega⟩
      · omega
/-- One of the first j points is reached. -/
def rchB (T : List Int) (n j : Nat) : Bool := decide (∃ i, i < j ∧ thL T n i = thR T n i)
theorem rchB_zero (T : List Int) (n : Nat) : rchB T n 0 = false := by simp only [rchB, decide_eq_false_iff_not]; rintro ⟨i, hi, _⟩; omega
theorem rchB_yes {T : List Int} {n j : Nat} (h : thL T n j = thR T n j) : rchB T n (j + 1) = true := by simp only [rchB, decide_eq_true_eq]; exact ⟨j, by omega, h⟩
theorem rchB_old {T : List Int} {n j : Nat} (h : rchB T n j = true) : rchB T n (j + 1) = true := by
  simp only [rchB, decide_eq_true_eq] at *
  obtain ⟨i, hi, e⟩ := h
  exact ⟨i, by omega, e⟩
theorem rchB_no {T : List Int} {n j : Nat} (h : rchB T n j = false) (h2 : ¬ thL T n j = thR T n j) : rchB T n (j + 1) = false := by
  simp only [rchB, decide_eq_false_iff_not] at *
  rintro ⟨i, hi, e⟩
  by_cases c : i = j
  · subst c; exact h2 e
  · exact h ⟨i, by omega, e⟩
theorem rchB_all {T : List Int} (h : BraOk T) : rchB T (cntT T) (cntT T) = true := by
  simp only [rchB, decide_eq_true_eq]
  exact (thr_law h).2
end Go.Proofs.Ytiinceflafigeaa
