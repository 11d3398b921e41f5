/- Contracts: ThresholdOfBranch: the reference's last case, and both joined. -/
import Derived.Test.YtiinceflafigeaaThr
import Derived.Test.YtiinceflafigeaaL03Is
import Derived.Deep.RegionHeld3
namespace Go.Proofs.Ytiinceflafigeaa
open Go.RowKit

set_option maxRecDepth 100000 in
set_option maxHeartbeats 4000000 in
theorem specThreshold_two (v : Value) (T : List Int) (w : World) (h : Rd w v T) (hok : BraOk T) (h1 : 2 ≤ T.length) :
    Calls Try.prog 47 #[.agg #[v]] w fun e w' => e = .returned (.tuple #[.agg #[.int .i64 ((gI T 0 + gI T 1) / gcdI (gI T 0 + gI T 1) (gI T 0 * gI T 1)), .int .i64 ((gI T 0 * gI T 1) / gcdI (gI T 0 + gI T 1) (gI T 0 * gI T 1))], .int .i64 0]) ∧ Below w.heap.size w w' := by
  have hx := Boxed.start w 26 #[v]
  have hp := hok.len
  have hl := bra_len hok
  obtain ⟨b, off, cap, rfl, hc1, hc2, hbk, hc⟩ := h.cells hp
  have hx1 := hx.alloc (.cells #[.int .i64 0, .int .i64 0] 53)
  have B := Blk.new' (w := w.alloc (.cells #[.slice (some ⟨b, off, none⟩) T.length cap] 26)) (t := 53) (cs := #[.int .i64 0, .int .i64 0]) (g := w.heap.size + 1) (by simp)
  have hmk : ∀ X : World, Boxed w X 26 #[.slice (some ⟨b, off, none⟩) T.length cap] → X.cell? ⟨w.heap.size, 0, none⟩ = some (.slice (some ⟨b, off, none⟩) T.length cap) ∧ X.cell? ⟨b, off, none⟩ = some (.int .i64 (gI T 0)) ∧ X.cell? ⟨b, off + 1, none⟩ = some (.int .i64 (gI T 1)) := fun X hX =>
    ⟨hX.cell 0, by rw [hX.below.cell (p := ⟨b, off, none⟩) hbk]; exact hc 0 hp, by rw [hX.below.cell (p := ⟨b, off + 1, none⟩) hbk]; exact hc 1 (by omega)⟩
  have HMK := Lib.hid hmk
  have n0 := hok.num 0 hp
  have n1 := hok.num 1 (by omega)
  have m1 := mul_bd (a := gI T 0) (A := 2000) (b := gI T 1) (B := 2000) (by omega) (by omega) (by omega) (by omega)
  have m2 : 0 < gI T 0 * gI T 1 := Int.mul_pos (by omega) (by omega)
  have wm : IntKind.i64.wrap (gI T 0 * gI T 1) = gI T 0 * gI T 1 := IntWalk.i64_in _ (by omega)
  have wa : IntKind.i64.wrap (gI T 0 + gI T 1) = gI T 0 + gI T 1 := IntWalk.i64_in _ (by omega)
  have l0 : (0 : Int) < (T.length : Int) := by omega
  have l1 : (1 : Int) < (T.length : Int) := by omega
  have hz : ((T.length : Int) == 1) = false := beq_false_of_ne (by omega)
  have r1 : 0 ≤ gI T 0 + gI T 1 := by omega
  have r2 : gI T 0 + gI T 1 ≤ 1000000000000000 := by omega
  have r3 : gI T 0 * gI T 1 ≤ 1000000000000000 := by omega
  have hyes := braB_iff.2 hok
  clear hmk hc hok n0 n1 m1
  go_enter Try.func47, Try.ntmps47
  go_wp2_with fail
  refine (l03Is_c _ T _ (hx1.rd h)).mono ?_
  rintro e w1 ⟨rfl, hb⟩
  rw [hyes]
  have B1 := B.stays hb
  have hx2 := hx1.trans hb
  have c00 := hx2.cell 0
  go_wp2_with fail
  clear c00
  have hx3 := hx2.trans (Below.refl _ _).drew
  have B3 := B1.stays (Below.refl _ _).drew
  have HD := HMK.out _ hx3
  go_region_held3 (fun X => X.cell? ⟨w.heap.size, 0, none⟩ = some (.slice (some ⟨b, off, none⟩) T.length cap) ∧ X.cell? ⟨b, off, none⟩ = some (.int .i64 (gI T 0)) ∧ X.cell? ⟨b, off + 1, none⟩ = some (.int .i64 (gI T 1)))
    (first | assumption | exact HD | exact HE _ _)
    (first
      | (go_at_call 148; (with_reducible refine (l01Make_c (gI T 0 + gI T 1) (gI T 0 * gI T 1) _ r1 r2 m2 r3).mono ?_); rintro e w2 ⟨rfl, hb2⟩; have hx4 := hx3.trans hb2; have B4 := B3.stays hb2; have HD := HMK.out _ hx4; have c0 := B4.cell 0; have c1 := B4.cell 1; have f0 := B4.free 0; have f1 := B4.free 1; have HE : ∀ u0 u1 : Value, ((w2.setCell ⟨w.heap.size + 1, 0, none⟩ u0).setCell ⟨w.heap.size + 1, 1, none⟩ u1).cell? ⟨w.heap.size, 0, none⟩ = some (.slice (some ⟨b, off, none⟩) T.length cap) ∧ ((w2.setCell ⟨w.heap.size + 1, 0, none⟩ u0).setCell ⟨w.heap.size + 1, 1, none⟩ u1).cell? ⟨b, off, none⟩ = some (.int .i64 (gI T 0)) ∧ ((w2.setCell ⟨w.heap.size + 1, 0, none⟩ u0).setCell ⟨w.heap.size + 1, 1, none⟩ u1).cell? ⟨b, off + 1, none⟩ = some (.int .i64 (gI T 1)) := fun u0 u1 => HMK.out _ (hx4.wrote (((Keeps.refl (fun k => w.heap.size + 1 ≤ k) w2).setCell (p := ⟨w.heap.size + 1, 0, none⟩) (Nat.le_refl _) u0).setCell (p := ⟨w.heap.size + 1, 1, none⟩) (Nat.le_refl _) u1))))
  go_wp2
  have F2 := (B4.set 0 (.int .i64 ((gI T 0 + gI T 1) / gcdI (gI T 0 + gI T 1) (gI T 0 * gI T 1)))).set 1 (.int .i64 (gI T 0 * gI T 1 / gcdI (gI T 0 + gI T 1) (gI T 0 * gI T 1)))
  have q0 := F2.cell 0
  have q1 := F2.cell 1
  refine bodyPost_ret (v := .tuple #[.agg #[.int .i64 ((gI T 0 + gI T 1) / gcdI (gI T 0 + gI T 1) (gI T 0 * gI T 1)), .int .i64 (gI T 0 * gI T 1 / gcdI (gI T 0 + gI T 1) (gI T 0 * gI T 1))], .int .i64 0]) (by simp [results, Try.results47, go_sem, q0, q1]) rfl ⟨rfl, ?_⟩
  exact (hx4.below.setCell (p := ⟨w.heap.size + 1, 0, none⟩) (Nat.le_succ _) _).setCell (p := ⟨w.heap.size + 1, 1, none⟩) (Nat.le_succ _) _

/-- The threshold of a branch; 0 / 0 for what is none. -/
def thT (T : List Int) : Int := if braB T then thTop T else 0
def thB (T : List Int) : Int := if braB T then thBot T else 0
theorem th_no {T : List Int} (h : braB T = false) : thT T = 0 ∧ thB T = 0 := by simp [thT, thB, h]
theorem th_one {T : List Int} (h : braB T = true) (h1 : T.length = 1) : thT T = 2 ∧ thB T = 1 := by simp [thT, thB, h, thTop, thBot, h1]
theorem th_two {T : List Int} (h : braB T = true) (h1 : 2 ≤ T.length) : thT T = (gI T 0 + gI T 1) / gcdI (gI T 0 + gI T 1) (gI T 0 * gI T 1) ∧ thB T = (gI T 0 * gI T 1) / gcdI (gI T 0 + gI T 1) (gI T 0 * gI T 1) := by
  have : ¬ T.length = 1 := by omega
  simp [thT, thB, h, thTop, thBot, this]
theorem implThreshold_c (v : Value) (T : List Int) (w : World) (h : Rd w v T) :
    Calls Try.prog 46 #[.agg #[v]] w fun e w' => e = .returned (.tuple #[.agg #[.int .i64 (thT T), .int .i64 (thB T)], .int .i64 (okC (braB T) 1)]) ∧ Below w.heap.size w w' := by
  cases hb : braB T
  · rw [(th_no hb).1, (th_no hb).2, okC_false rfl]; exact implThreshold_no v T w h hb
  · have hok := braB_iff.1 hb
    by_cases h1 : T.length = 1
    · rw [(th_one hb h1).1, (th_one hb h1).2, okC_true rfl]; exact implThreshold_one v T w h hok h1
    · have h2 : 2 ≤ T.length := by have := hok.len; omega
      rw [(th_two hb h2).1, (th_two hb h2).2, okC_true rfl]; exact implThreshold_two v T w h hok h2
theorem specThreshold_c (v : Value) (T : List Int) (w : World) (h : Rd w v T) :
    Calls Try.prog 47 #[.agg #[v]] w fun e w' => e = .returned (.tuple #[.agg #[.int .i64 (thT T), .int .i64 (thB T)], .int .i64 (okC (braB T) 1)]) ∧ Below w.heap.size w w' := by
  cases hb : braB T
  · rw [(th_no hb).1, (th_no hb).2, okC_false rfl]; exact specThreshold_no v T w h hb
  · have hok := braB_iff.1 hb
    by_cases h1 : T.length = 1
    · rw [(th_one hb h1).1, (th_one hb h1).2, okC_true rfl]; exact specThreshold_one v T w h hok h1
    · have h2 : 2 ≤ T.length := by have := hok.len; omega
      rw [(th_two hb h2).1, (th_two hb h2).2, okC_true rfl]; exact specThreshold_two v T w h hok h2
end Go.Proofs.Ytiinceflafigeaa
