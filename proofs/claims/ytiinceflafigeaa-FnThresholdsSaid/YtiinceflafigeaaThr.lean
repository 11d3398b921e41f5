/- Contracts: eqFraction, pairsOf. -/
import Derived.Test.YtiinceflafigeaaFrac
import Derived.Test.YtiinceflafigeaaGenI
namespace Go.Proofs.Ytiinceflafigeaa
open Go.RowKit

theorem pairsOf_c (v : Value) (T : List Int) (w : World) (h : Rd w v T) (hn : T.length ≤ 1000) :
    Calls Try.prog 146 #[.agg #[v]] w fun e w' => e = .returned (.int .i64 ((T.length : Int) - 1)) ∧ Below w.heap.size w w' := by
  have hx := Boxed.start w 26 #[v]
  obtain ⟨a1, k1, rfl⟩ := h.len0
  have q0 := hx.cell 0
  go_enter Try.func146, Try.ntmps146
  go_wp2
  go_ret
  exact ⟨rfl, hx.below⟩

/-- A fraction and a code. -/
def okF (c b : Bool) (x y : Int) : Int := if c then (if b then x else y) else 0
def thTop (T : List Int) : Int := if T.length = 1 then 2 else (gI T 0 + gI T 1) / gcdI (gI T 0 + gI T 1) (gI T 0 * gI T 1)
def thBot (T : List Int) : Int := if T.length = 1 then 1 else (gI T 0 * gI T 1) / gcdI (gI T 0 + gI T 1) (gI T 0 * gI T 1)

set_option maxHeartbeats 1000000 in
theorem implThreshold_no (v : Value) (T : List Int) (w : World) (h : Rd w v T) (hc : braB T = false) :
    Calls Try.prog 46 #[.agg #[v]] w fun e w' => e = .returned (.tuple #[.agg #[.int .i64 0, .int .i64 0], .int .i64 1]) ∧ Below w.heap.size w w' := by
  have hx := Boxed.start w 26 #[v]
  obtain ⟨a1, k1, rfl⟩ := h.len0
  have hx1 := hx.alloc (.cells #[.int .i64 0, .int .i64 0] 53)
  have B := Blk.new' (w := w.alloc (.cells #[.slice a1 T.length k1] 26)) (t := 53) (cs := #[.int .i64 0, .int .i64 0]) (g := w.heap.size + 1) (by simp)
  go_enter Try.func46, Try.ntmps46
  go_wp2_with fail
  refine (implIsBranch_c _ T _ (hx1.rd h)).mono ?_
  rintro e w1 ⟨rfl, hb⟩
  rw [hc]
  have B1 := B.stays hb
  have hx2 := hx1.trans hb
  have c0 := B1.cell 0
  have c1 := B1.cell 1
  have f0 := B1.free 0
  have f1 := B1.free 1
  go_wp2
  have F2 := (B1.set 0 (.int .i64 0)).set 1 (.int .i64 0)
  have q0 := F2.cell 0
  have q1 := F2.cell 1
  refine bodyPost_ret (v := .tuple #[.agg #[.int .i64 0, .int .i64 0], .int .i64 1]) (by simp [results, Try.results46, go_sem, q0, q1]) rfl ⟨rfl, ?_⟩
  exact (hx2.below.setCell (p := ⟨w.heap.size + 1, 0, none⟩) (Nat.le_succ _) _).setCell (p := ⟨w.heap.size + 1, 1, none⟩) (Nat.le_succ _) _

set_option maxHeartbeats 1000000 in
theorem implThreshold_one (v : Value) (T : List Int) (w : World) (h : Rd w v T) (hok : BraOk T) (h1 : T.length = 1) :
    Calls Try.prog 46 #[.agg #[v]] w fun e w' => e = .returned (.tuple #[.agg #[.int .i64 2, .int .i64 1], .int .i64 0]) ∧ Below w.heap.size w w' := by
  have H1 := Lib.hid h1
  clear h1
  have hx := Boxed.start w 26 #[v]
  have hp := hok.len
  have hl := bra_len hok
  obtain ⟨b, off, cap, rfl, hc1, hc2, hbk, hc⟩ := h.cells hp
  have hx1 := hx.alloc (.cells #[.int .i64 0, .int .i64 0] 53)
  have B := Blk.new' (w := w.alloc (.cells #[.slice (some ⟨b, off, none⟩) T.length cap] 26)) (t := 53) (cs := #[.int .i64 0, .int .i64 0]) (g := w.heap.size + 1) (by simp)
  go_enter Try.func46, Try.ntmps46
  go_wp2_with fail
  refine (implIsBranch_c _ T _ (hx1.rd h)).mono ?_
  rintro e w1 ⟨rfl, hb⟩
  rw [braB_iff.2 hok]
  have B1 := B.stays hb
  have hx2 := hx1.trans hb
  have c00 := hx2.cell 0
  go_wp2_with fail
  refine (pairsOf_c _ T _ (hx2.rd h) (by omega)).mono ?_
  rintro e w2 ⟨rfl, hb2⟩
  have B2 := B1.stays hb2
  have hx3 := hx2.trans hb2
  have hz2 : (T.length : Int) - 1 = 0 := by have := H1.out; omega
  rw [hz2]
  have c0 := B2.cell 0
  have c1 := B2.cell 1
  have f0 := B2.free 0
  have f1 := B2.free 1
  clear hz2 c00
  go_wp2
  have F2 := (B2.set 0 (.int .i64 2)).set 1 (.int .i64 1)
  have q0 := F2.cell 0
  have q1 := F2.cell 1
  refine bodyPost_ret (v := .tuple #[.agg #[.int .i64 2, .int .i64 1], .int .i64 0]) (by simp [results, Try.results46, go_sem, q0, q1]) rfl ⟨rfl, ?_⟩
  exact (hx3.below.setCell (p := ⟨w.heap.size + 1, 0, none⟩) (Nat.le_succ _) _).setCell (p := ⟨w.heap.size + 1, 1, none⟩) (Nat.le_succ _) _

set_option maxHeartbeats 2000000 in
theorem implThreshold_two (v : Value) (T : List Int) (w : World) (h : Rd w v T) (hok : BraOk T) (h1 : 2 ≤ T.length) :
    Calls Try.prog 46 #[.agg #[v]] w fun e w' => e = .returned (.tuple #[.agg #[.int .i64 ((gI T 0 + gI T 1) / gcdI (gI T 0 + gI T 1) (gI T 0 * gI T 1)), .int .i64 ((gI T 0 * gI T 1) / gcdI (gI T 0 + gI T 1) (gI T 0 * gI T 1))], .int .i64 0]) ∧ Below w.heap.size w w' := by
  have hx := Boxed.start w 26 #[v]
  have hp := hok.len
  have hl := bra_len hok
  obtain ⟨b, off, cap, rfl, hc1, hc2, hbk, hc⟩ := h.cells hp
  have hx1 := hx.alloc (.cells #[.int .i64 0, .int .i64 0] 53)
  have B := Blk.new' (w := w.alloc (.cells #[.slice (some ⟨b, off, none⟩) T.length cap] 26)) (t := 53) (cs := #[.int .i64 0, .int .i64 0]) (g := w.heap.size + 1) (by simp)
  go_enter Try.func46, Try.ntmps46
  go_wp2_with fail
  refine (implIsBranch_c _ T _ (hx1.rd h)).mono ?_
  rintro e w1 ⟨rfl, hb⟩
  rw [braB_iff.2 hok]
  have B1 := B.stays hb
  have hx2 := hx1.trans hb
  have c00 := hx2.cell 0
  go_wp2_with fail
  refine (pairsOf_c _ T _ (hx2.rd h) (by omega)).mono ?_
  rintro e w2 ⟨rfl, hb2⟩
  have B2 := B1.stays hb2
  have hx3 := hx2.trans hb2
  have hz : ((T.length : Int) - 1 == 0) = false := beq_false_of_ne (by omega)
  have d0 : w2.cell? ⟨b, off, none⟩ = some (.int .i64 (gI T 0)) := by rw [hx3.below.cell (p := ⟨b, off, none⟩) hbk]; exact hc 0 hp
  have d1 : w2.cell? ⟨b, off + 1, none⟩ = some (.int .i64 (gI T 1)) := by rw [hx3.below.cell (p := ⟨b, off + 1, none⟩) hbk]; exact hc 1 (by omega)
  have c00' := hx3.cell 0
  have l0 : (0 : Int) < (T.length : Int) := by omega
  have l1 : (1 : Int) < (T.length : Int) := by omega
  have n0 := hok.num 0 hp
  have n1 := hok.num 1 (by omega)
  clear c00
  have m1 := mul_bd (a := gI T 0) (A := 2000) (b := gI T 1) (B := 2000) (by omega) (by omega) (by omega) (by omega)
  have m2 : 0 < gI T 0 * gI T 1 := Int.mul_pos (by omega) (by omega)
  have wm : IntKind.i64.wrap (gI T 0 * gI T 1) = gI T 0 * gI T 1 := IntWalk.i64_in _ (by omega)
  have wa : IntKind.i64.wrap (gI T 0 + gI T 1) = gI T 0 + gI T 1 := IntWalk.i64_in _ (by omega)
  go_wp2_with fail
  go_quiet (fail)
  have hx4 : Boxed w (w2.drewN nq) 26 #[.slice (some ⟨b, off, none⟩) T.length cap] := hx3.trans (below_drewN (Below.refl _ _) nq)
  have B4 := B2.drewN nq
  generalize w2.drewN nq = w4 at hx4 B4 ⊢
  go_wp2_with fail
  refine (reduced_c _ _ _ (by omega) (by omega) (by omega) (by omega)).mono ?_
  rintro e w3 ⟨rfl, hb3⟩
  have B3 := B4.stays hb3
  have c0 := B3.cell 0
  have c1 := B3.cell 1
  have f0 := B3.free 0
  have f1 := B3.free 1
  go_wp2
  have hx5 := hx4.trans hb3
  have F2 := (B3.set 0 (.int .i64 ((gI T 0 + gI T 1) / gcdI (gI T 0 + gI T 1) (gI T 0 * gI T 1)))).set 1 (.int .i64 (gI T 0 * gI T 1 / gcdI (gI T 0 + gI T 1) (gI T 0 * gI T 1)))
  have q0 := F2.cell 0
  have q1 := F2.cell 1
  refine bodyPost_ret (v := .tuple #[.agg #[.int .i64 ((gI T 0 + gI T 1) / gcdI (gI T 0 + gI T 1) (gI T 0 * gI T 1)), .int .i64 (gI T 0 * gI T 1 / gcdI (gI T 0 + gI T 1) (gI T 0 * gI T 1))], .int .i64 0]) (by simp [results, Try.results46, go_sem, q0, q1]) rfl ⟨rfl, ?_⟩
  exact (hx5.below.setCell (p := ⟨w.heap.size + 1, 0, none⟩) (Nat.le_succ _) _).setCell (p := ⟨w.heap.size + 1, 1, none⟩) (Nat.le_succ _) _

set_option maxHeartbeats 1000000 in
theorem specThreshold_no (v : Value) (T : List Int) (w : World) (h : Rd w v T) (hc : braB T = false) :
    Calls Try.prog 47 #[.agg #[v]] w fun e w' => e = .returned (.tuple #[.agg #[.int .i64 0, .int .i64 0], .int .i64 1]) ∧ Below w.heap.size w w' := by
  have hx := Boxed.start w 26 #[v]
  obtain ⟨a1, k1, rfl⟩ := h.len0
  have hx1 := hx.alloc (.cells #[.int .i64 0, .int .i64 0] 53)
  have B := Blk.new' (w := w.alloc (.cells #[.slice a1 T.length k1] 26)) (t := 53) (cs := #[.int .i64 0, .int .i64 0]) (g := w.heap.size + 1) (by simp)
  go_enter Try.func47, Try.ntmps47
  go_wp2_with fail
  refine (l03Is_c _ T _ (hx1.rd h)).mono ?_
  rintro e w1 ⟨rfl, hb⟩
  rw [hc]
  have B1 := B.stays hb
  have hx2 := hx1.trans hb
  have c0 := B1.cell 0
  have c1 := B1.cell 1
  have f0 := B1.free 0
  have f1 := B1.free 1
  go_wp2
  have F2 := (B1.set 0 (.int .i64 0)).set 1 (.int .i64 0)
  have q0 := F2.cell 0
  have q1 := F2.cell 1
  refine bodyPost_ret (v := .tuple #[.agg #[.int .i64 0, .int .i64 0], .int .i64 1]) (by simp [results, Try.results47, go_sem, q0, q1]) rfl ⟨rfl, ?_⟩
  exact (hx2.below.setCell (p := ⟨w.heap.size + 1, 0, none⟩) (Nat.le_succ _) _).setCell (p := ⟨w.heap.size + 1, 1, none⟩) (Nat.le_succ _) _


set_option maxHeartbeats 1000000 in
theorem specThreshold_one (v : Value) (T : List Int) (w : World) (h : Rd w v T) (hok : BraOk T) (h1 : T.length = 1) :
    Calls Try.prog 47 #[.agg #[v]] w fun e w' => e = .returned (.tuple #[.agg #[.int .i64 2, .int .i64 1], .int .i64 0]) ∧ Below w.heap.size w w' := by
  have H1 := Lib.hid h1
  clear h1
  have hx := Boxed.start w 26 #[v]
  have hp := hok.len
  have hl := bra_len hok
  obtain ⟨b, off, cap, rfl, hc1, hc2, hbk, hc⟩ := h.cells hp
  have hx1 := hx.alloc (.cells #[.int .i64 0, .int .i64 0] 53)
  have B := Blk.new' (w := w.alloc (.cells #[.slice (some ⟨b, off, none⟩) T.length cap] 26)) (t := 53) (cs := #[.int .i64 0, .int .i64 0]) (g := w.heap.size + 1) (by simp)
  go_enter Try.func47, Try.ntmps47
  go_wp2_with fail
  refine (l03Is_c _ T _ (hx1.rd h)).mono ?_
  rintro e w1 ⟨rfl, hb⟩
  rw [braB_iff.2 hok]
  have B1 := B.stays hb
  have hx2 := hx1.trans hb
  have c00 := hx2.cell 0
  have hz2 : ((T.length : Int) == 1) = true := by rw [H1.out]; rfl
  have c0 := B1.cell 0
  have c1 := B1.cell 1
  have f0 := B1.free 0
  have f1 := B1.free 1
  go_wp2
  have F2 := (B1.set 0 (.int .i64 2)).set 1 (.int .i64 1)
  have q0 := F2.cell 0
  have q1 := F2.cell 1
  refine bodyPost_ret (v := .tuple #[.agg #[.int .i64 2, .int .i64 1], .int .i64 0]) (by simp [results, Try.results47, go_sem, q0, q1]) rfl ⟨rfl, ?_⟩
  exact (hx2.below.setCell (p := ⟨w.heap.size + 1, 0, none⟩) (Nat.le_succ _) _).setCell (p := ⟨w.heap.size + 1, 1, none⟩) (Nat.le_succ _) _

end Go.Proofs.Ytiinceflafigeaa
