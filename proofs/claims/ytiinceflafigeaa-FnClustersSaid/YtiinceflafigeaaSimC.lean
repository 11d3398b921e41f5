/- Contracts: SimpleCluster. -/
import Derived.Test.YtiinceflafigeaaInvL
import Derived.Test.YtiinceflafigeaaPath
import Derived.Deep.RegionHeld3
namespace Go.Proofs.Ytiinceflafigeaa
open Go.RowKit

set_option maxHeartbeats 1000000 in
theorem implSimple_1 (p s q : Value) (P S W : List Int) (n : Int) (w : World) (hp : Rd w p P) (hs : Rd w s S) (hq : Rd w q W) (hc : cluB P S W = false) :
    Calls Try.prog 84 #[.agg #[p, s, q], .int .i64 n] w (RetCC w [] [] [] 1) := by
  obtain ⟨a1, k1, rfl⟩ := hp.len0
  obtain ⟨a2, k2, rfl⟩ := hs.len0
  obtain ⟨a3, k3, rfl⟩ := hq.len0
  have hx := Boxed.start w 40 #[.slice a1 P.length k1, .slice a2 S.length k2, .slice a3 W.length k3]
  have hxa := hx.alloc (.cells #[.slice none 0 0, .slice none 0 0, .slice none 0 0] 40)
  have D := Blk.new' (w := w.alloc (.cells #[.slice a1 P.length k1, .slice a2 S.length k2, .slice a3 W.length k3] 40)) (t := 40) (cs := #[.slice none 0 0, .slice none 0 0, .slice none 0 0]) (g := w.heap.size + 1) (by simp)
  have c0 := hxa.cell 0
  have c1 := hxa.cell 1
  have c2 := hxa.cell 2
  go_enter Try.func84, Try.ntmps84
  go_wp2_with fail
  refine (implIsCluster_c _ _ _ P S W _ (hxa.rd hp) (hxa.rd hs) (hxa.rd hq)).mono ?_
  rintro e w1 ⟨rfl, hb⟩
  rw [hc]
  have D1 := D.stays hb
  have hx1 := hxa.trans hb
  have f0 := D1.free 0
  have f1 := D1.free 1
  have f2 := D1.free 2
  have e0 := D1.cell 0
  have e1 := D1.cell 1
  have e2 := D1.cell 2
  clear c0 c1 c2
  go_wp2
  have q0 := ((((D1).set 0 (.slice none 0 0)).set 1 (.slice none 0 0)).set 2 (.slice none 0 0)).cell 0
  have q1 := ((((D1).set 0 (.slice none 0 0)).set 1 (.slice none 0 0)).set 2 (.slice none 0 0)).cell 1
  have q2 := ((((D1).set 0 (.slice none 0 0)).set 1 (.slice none 0 0)).set 2 (.slice none 0 0)).cell 2
  refine bodyPost_ret (v := .tuple #[.agg #[.slice none 0 0, .slice none 0 0, .slice none 0 0], .int .i64 1]) (by simp [results, Try.results84, go_sem, q0, q1, q2]) rfl ⟨none, 0, none, 0, none, 0, rfl, own3_nil _ _ _, ?_⟩
  exact ((hx1.below.setCell (p := ⟨w.heap.size + 1, 0, none⟩) (Nat.le_succ _) _).setCell (p := ⟨w.heap.size + 1, 1, none⟩) (Nat.le_succ _) _).setCell (p := ⟨w.heap.size + 1, 2, none⟩) (Nat.le_succ _) _

set_option maxHeartbeats 1000000 in
theorem implSimple_2 (p s q : Value) (P S W : List Int) (n : Int) (w : World) (hp : Rd w p P) (hs : Rd w s S) (hq : Rd w q W) (hc : cluB P S W = true) (hin : inB n 0 ((P.length : Int) - 1) = false) :
    Calls Try.prog 84 #[.agg #[p, s, q], .int .i64 n] w (RetCC w [] [] [] 2) := by
  have h24 := (cluB_iff.1 hc).1.2.1
  obtain ⟨a1, k1, rfl⟩ := hp.len0
  obtain ⟨a2, k2, rfl⟩ := hs.len0
  obtain ⟨a3, k3, rfl⟩ := hq.len0
  have hx := Boxed.start w 40 #[.slice a1 P.length k1, .slice a2 S.length k2, .slice a3 W.length k3]
  have hxa := hx.alloc (.cells #[.slice none 0 0, .slice none 0 0, .slice none 0 0] 40)
  have D := Blk.new' (w := w.alloc (.cells #[.slice a1 P.length k1, .slice a2 S.length k2, .slice a3 W.length k3] 40)) (t := 40) (cs := #[.slice none 0 0, .slice none 0 0, .slice none 0 0]) (g := w.heap.size + 1) (by simp)
  have c0 := hxa.cell 0
  have c1 := hxa.cell 1
  have c2 := hxa.cell 2
  go_enter Try.func84, Try.ntmps84
  go_wp2_with fail
  refine (implIsCluster_c _ _ _ P S W _ (hxa.rd hp) (hxa.rd hs) (hxa.rd hq)).mono ?_
  rintro e w1 ⟨rfl, hb⟩
  rw [hc]
  have D1 := D.stays hb
  have hx1 := hxa.trans hb
  clear c0 c1 c2
  have c0 := hx1.cell 0
  have c1 := hx1.cell 1
  have c2 := hx1.cell 2
  go_wp2_with fail
  refine (isPoint_c _ _ _ P n _ (hx1.rd hp) h24).mono ?_
  rintro e w2 ⟨rfl, hb2⟩
  rw [hin]
  have D2 := D1.stays hb2
  have hx2 := hx1.trans hb2
  clear c0 c1 c2
  have f0 := D2.free 0
  have f1 := D2.free 1
  have f2 := D2.free 2
  have e0 := D2.cell 0
  have e1 := D2.cell 1
  have e2 := D2.cell 2
  go_wp2
  have q0 := ((((D2).set 0 (.slice none 0 0)).set 1 (.slice none 0 0)).set 2 (.slice none 0 0)).cell 0
  have q1 := ((((D2).set 0 (.slice none 0 0)).set 1 (.slice none 0 0)).set 2 (.slice none 0 0)).cell 1
  have q2 := ((((D2).set 0 (.slice none 0 0)).set 1 (.slice none 0 0)).set 2 (.slice none 0 0)).cell 2
  refine bodyPost_ret (v := .tuple #[.agg #[.slice none 0 0, .slice none 0 0, .slice none 0 0], .int .i64 2]) (by simp [results, Try.results84, go_sem, q0, q1, q2]) rfl ⟨none, 0, none, 0, none, 0, rfl, own3_nil _ _ _, ?_⟩
  exact ((hx2.below.setCell (p := ⟨w.heap.size + 1, 0, none⟩) (Nat.le_succ _) _).setCell (p := ⟨w.heap.size + 1, 1, none⟩) (Nat.le_succ _) _).setCell (p := ⟨w.heap.size + 1, 2, none⟩) (Nat.le_succ _) _

set_option maxRecDepth 100000 in
set_option maxHeartbeats 2000000 in
theorem implSimple_3 (p s q : Value) (P S W : List Int) (n : Int) (w : World) (hp : Rd w p P) (hs : Rd w s S) (hq : Rd w q W) (hc : cluB P S W = true) (hin : inB n 0 ((P.length : Int) - 1) = true) :
    Calls Try.prog 84 #[.agg #[p, s, q], .int .i64 n] w (RetCC w P S (mRow P S n.toNat) 0) := by
  have h24 := (cluB_iff.1 hc).1.2.1
  have HC := Lib.hid (cluB_iff.1 hc)
  have hn := inB_iff.1 hin
  obtain ⟨t, rfl⟩ := Int.eq_ofNat_of_zero_le hn.1
  have ht : t < P.length := by omega
  have htP : (t : Int) < (P.length : Int) := by omega
  have e0 : (t : Int).toNat = t := by omega
  rw [e0]
  have htw : (0 : Int) ≤ (t : Int) := Int.natCast_nonneg _
  clear hn e0
  obtain ⟨a1, k1, rfl⟩ := hp.len0
  obtain ⟨a2, k2, rfl⟩ := hs.len0
  obtain ⟨a3, k3, rfl⟩ := hq.len0
  have hx := Boxed.start w 40 #[.slice a1 P.length k1, .slice a2 S.length k2, .slice a3 W.length k3]
  have hxa := hx.alloc (.cells #[.slice none 0 0, .slice none 0 0, .slice none 0 0] 40)
  have D := Blk.new' (w := w.alloc (.cells #[.slice a1 P.length k1, .slice a2 S.length k2, .slice a3 W.length k3] 40)) (t := 40) (cs := #[.slice none 0 0, .slice none 0 0, .slice none 0 0]) (g := w.heap.size + 1) (by simp)
  have c0 := hxa.cell 0
  have c1 := hxa.cell 1
  have c2 := hxa.cell 2
  go_enter Try.func84, Try.ntmps84
  go_wp2_with fail
  refine (implIsCluster_c _ _ _ P S W _ (hxa.rd hp) (hxa.rd hs) (hxa.rd hq)).mono ?_
  rintro e w1 ⟨rfl, hb⟩
  rw [hc]
  have D1 := D.stays hb
  have hx1 := hxa.trans hb
  clear c0 c1 c2
  have c0 := hx1.cell 0
  have c1 := hx1.cell 1
  have c2 := hx1.cell 2
  go_wp2_with fail
  refine (isPoint_c _ _ _ P (t : Int) _ (hx1.rd hp) h24).mono ?_
  rintro e w2 ⟨rfl, hb2⟩
  rw [hin]
  have D2 := D1.stays hb2
  have hx2 := hx1.trans hb2
  clear c0 c1 c2
  have hz1 : w.heap.size + 2 ≤ w2.heap.size := Nat.le_trans (by simp) (Nat.le_trans hb.size hb2.size)
  go_wp2_with fail
  have hx0 := hx2.trans (Below.refl _ _).drew
  have D0 := D2.stays (Below.refl _ _).drew
  have c0 := hx0.cell 0
  have c1 := hx0.cell 1
  have c2 := hx0.cell 2
  go_region_with (first
      | (go_at_call 179; (with_reducible refine (inverseProximity_c _ _ _ P S W _ (hx0.rd hp) (hx0.rd hs) (hx0.rd hq) HC.out).mono ?_); rintro e v1 ⟨g, V, rfl, hrow, hq⟩; have hy1 := hx0.trans hq; have G1 := D0.stays hq; have hz2 : w2.heap.size ≤ v1.heap.size := hq.size; obtain ⟨gn, cn, hV, hgn0, hgn1, _, _⟩ := hrow.pos ht (by simp; omega); have dn := hrow.cell t ht; have hro := hrow.row t ht; rw [hV] at dn hro; rw [mRow_len] at dn hro; have d0 := hy1.cell 0; have d1 := hy1.cell 1; have d2 := hy1.cell 2)
      | (go_at_call 184; (with_reducible refine (withWeights_c _ _ _ _ _ _ P S W _ (hy1.rd hp) (hy1.rd hs) HC.out).mono ?_); rintro e v2 ⟨b1, j1, b2, j2, rfl, o1, o2, ap, hq⟩; have hy2 := hy1.trans hq; have G2 := G1.stays hq; have hz3 : v1.heap.size ≤ v2.heap.size := hq.size; have o3 := hro.below hq (Nat.le_refl _); have hv1 : w2.drew.heap.size = w2.heap.size := rfl; have HD0 : v2.cell? ⟨w.heap.size, 0, none⟩ = some (.slice a1 P.length k1) ∧ v2.cell? ⟨w.heap.size, 1, none⟩ = some (.slice a2 S.length k2) ∧ v2.cell? ⟨w.heap.size, 2, none⟩ = some (.slice a3 W.length k3) := ⟨hy2.cell 0, hy2.cell 1, hy2.cell 2⟩; have f0 := G2.free 0; have f1 := G2.free 1; have f2 := G2.free 2; have e0 := G2.cell 0; have e1 := G2.cell 1; have e2 := G2.cell 2; have HE : ∀ u0 u1 u2 : Value, (((v2.setCell ⟨w.heap.size + 1, 0, none⟩ u0).setCell ⟨w.heap.size + 1, 1, none⟩ u1).setCell ⟨w.heap.size + 1, 2, none⟩ u2).cell? ⟨w.heap.size, 0, none⟩ = some (.slice a1 P.length k1) ∧ (((v2.setCell ⟨w.heap.size + 1, 0, none⟩ u0).setCell ⟨w.heap.size + 1, 1, none⟩ u1).setCell ⟨w.heap.size + 1, 2, none⟩ u2).cell? ⟨w.heap.size, 1, none⟩ = some (.slice a2 S.length k2) ∧ (((v2.setCell ⟨w.heap.size + 1, 0, none⟩ u0).setCell ⟨w.heap.size + 1, 1, none⟩ u1).setCell ⟨w.heap.size + 1, 2, none⟩ u2).cell? ⟨w.heap.size, 2, none⟩ = some (.slice a3 W.length k3) := fun u0 u1 u2 => have h := hy2.wrote ((((Keeps.refl (fun k => w.heap.size + 1 ≤ k) v2).setCell (p := ⟨w.heap.size + 1, 0, none⟩) (Nat.le_refl _) u0).setCell (p := ⟨w.heap.size + 1, 1, none⟩) (Nat.le_refl _) u1).setCell (p := ⟨w.heap.size + 1, 2, none⟩) (Nat.le_refl _) u2); ⟨h.cell 0, h.cell 1, h.cell 2⟩))
  all_goals
    have ho3 : Own3 2 v2 w2.heap.size (.slice b1 P.length j1) (.slice b2 S.length j2) (.slice (some ⟨gn, 0, none⟩) P.length cn) P S (mRow P S t) := ⟨o1.base_le hz2, o2.base_le hz2, o3.base_le (by first | exact Nat.le_refl _ | omega), ap, (apart_of hro o1 (Nat.le_refl _)).symm, (apart_of hro o2 (Nat.le_refl _)).symm⟩
    go_wp2
    have F := ((G2.set 0 (.slice b1 (P).length j1)).set 1 (.slice b2 (S).length j2)).set 2 (.slice (some ⟨gn, 0, none⟩) P.length cn)
    have q0 := F.cell 0
    have q1 := F.cell 1
    have q2 := F.cell 2
    have hK : Keeps (fun k => k = w.heap.size + 1) v2 (((v2.setCell ⟨w.heap.size + 1, 0, none⟩ (.slice b1 (P).length j1)).setCell ⟨w.heap.size + 1, 1, none⟩ (.slice b2 (S).length j2)).setCell ⟨w.heap.size + 1, 2, none⟩ (.slice (some ⟨gn, 0, none⟩) P.length cn)) := ((((Keeps.refl (fun k => k = w.heap.size + 1) v2).setCell (p := ⟨w.heap.size + 1, 0, none⟩) rfl _).setCell (p := ⟨w.heap.size + 1, 1, none⟩) rfl _).setCell (p := ⟨w.heap.size + 1, 2, none⟩) rfl _)
    refine bodyPost_ret (v := .tuple #[.agg #[.slice b1 (P).length j1, .slice b2 (S).length j2, .slice (some ⟨gn, 0, none⟩) P.length cn], .int .i64 (0)]) (by simp [results, Try.results84, go_sem, q0, q1, q2]) rfl (retCC_len (mRow_len _ _ _) ?_ ?_)
    · exact (ho3.keeps hK (fun k hk e => by have := (ho3.block k hk).1; omega)).base_le (by omega)
    · exact hy2.below.trans (hK.below (by have := hy2.size; omega) (fun k hk => by omega))

theorem implSimple_c (p s q : Value) (P S W : List Int) (n : Int) (w : World) (hp : Rd w p P) (hs : Rd w s S) (hq : Rd w q W) :
    Calls Try.prog 84 #[.agg #[p, s, q], .int .i64 n] w (RetCC w (okL (ptB P S W n) P) (okL (ptB P S W n) S) (okL (ptB P S W n) (mRow P S n.toNat)) (ptC P S W n)) := by
  cases hc : cluB P S W
  · rw [ptB_bad hc, ptC_bad hc]; exact implSimple_1 p s q P S W n w hp hs hq hc
  · cases hin : inB n 0 ((P.length : Int) - 1)
    · rw [ptB_out hin, ptC_out hc hin]; exact implSimple_2 p s q P S W n w hp hs hq hc hin
    · rw [ptB_ok hc hin, ptC_ok hc hin]; exact implSimple_3 p s q P S W n w hp hs hq hc hin

set_option maxHeartbeats 1000000 in
theorem specSimple_1 (p s q : Value) (P S W : List Int) (n : Int) (w : World) (hp : Rd w p P) (hs : Rd w s S) (hq : Rd w q W) (hc : cluB P S W = false) :
    Calls Try.prog 85 #[.agg #[p, s, q], .int .i64 n] w (RetCC w [] [] [] 1) := by
  obtain ⟨a1, k1, rfl⟩ := hp.len0
  obtain ⟨a2, k2, rfl⟩ := hs.len0
  obtain ⟨a3, k3, rfl⟩ := hq.len0
  have hx := Boxed.start w 40 #[.slice a1 P.length k1, .slice a2 S.length k2, .slice a3 W.length k3]
  have hxa := hx.alloc (.cells #[.slice none 0 0, .slice none 0 0, .slice none 0 0] 40)
  have D := Blk.new' (w := w.alloc (.cells #[.slice a1 P.length k1, .slice a2 S.length k2, .slice a3 W.length k3] 40)) (t := 40) (cs := #[.slice none 0 0, .slice none 0 0, .slice none 0 0]) (g := w.heap.size + 1) (by simp)
  have c0 := hxa.cell 0
  have c1 := hxa.cell 1
  have c2 := hxa.cell 2
  go_enter Try.func85, Try.ntmps85
  go_wp2_with fail
  refine (l07Is_c _ _ _ P S W _ (hxa.rd hp) (hxa.rd hs) (hxa.rd hq)).mono ?_
  rintro e w1 ⟨rfl, hb⟩
  rw [hc]
  have D1 := D.stays hb
  have hx1 := hxa.trans hb
  have f0 := D1.free 0
  have f1 := D1.free 1
  have f2 := D1.free 2
  have e0 := D1.cell 0
  have e1 := D1.cell 1
  have e2 := D1.cell 2
  clear c0 c1 c2
  go_wp2
  have q0 := ((((D1).set 0 (.slice none 0 0)).set 1 (.slice none 0 0)).set 2 (.slice none 0 0)).cell 0
  have q1 := ((((D1).set 0 (.slice none 0 0)).set 1 (.slice none 0 0)).set 2 (.slice none 0 0)).cell 1
  have q2 := ((((D1).set 0 (.slice none 0 0)).set 1 (.slice none 0 0)).set 2 (.slice none 0 0)).cell 2
  refine bodyPost_ret (v := .tuple #[.agg #[.slice none 0 0, .slice none 0 0, .slice none 0 0], .int .i64 1]) (by simp [results, Try.results85, go_sem, q0, q1, q2]) rfl ⟨none, 0, none, 0, none, 0, rfl, own3_nil _ _ _, ?_⟩
  exact ((hx1.below.setCell (p := ⟨w.heap.size + 1, 0, none⟩) (Nat.le_succ _) _).setCell (p := ⟨w.heap.size + 1, 1, none⟩) (Nat.le_succ _) _).setCell (p := ⟨w.heap.size + 1, 2, none⟩) (Nat.le_succ _) _

set_option maxHeartbeats 1000000 in
theorem specSimple_2 (p s q : Value) (P S W : List Int) (n : Int) (w : World) (hp : Rd w p P) (hs : Rd w s S) (hq : Rd w q W) (hc : cluB P S W = true) (hin : inB n 0 ((P.length : Int) - 1) = false) :
    Calls Try.prog 85 #[.agg #[p, s, q], .int .i64 n] w (RetCC w [] [] [] 2) := by
  have h24 := (cluB_iff.1 hc).1.2.1
  obtain ⟨a1, k1, rfl⟩ := hp.len0
  obtain ⟨a2, k2, rfl⟩ := hs.len0
  obtain ⟨a3, k3, rfl⟩ := hq.len0
  have hx := Boxed.start w 40 #[.slice a1 P.length k1, .slice a2 S.length k2, .slice a3 W.length k3]
  have hxa := hx.alloc (.cells #[.slice none 0 0, .slice none 0 0, .slice none 0 0] 40)
  have D := Blk.new' (w := w.alloc (.cells #[.slice a1 P.length k1, .slice a2 S.length k2, .slice a3 W.length k3] 40)) (t := 40) (cs := #[.slice none 0 0, .slice none 0 0, .slice none 0 0]) (g := w.heap.size + 1) (by simp)
  have c0 := hxa.cell 0
  have c1 := hxa.cell 1
  have c2 := hxa.cell 2
  go_enter Try.func85, Try.ntmps85
  go_wp2_with fail
  refine (l07Is_c _ _ _ P S W _ (hxa.rd hp) (hxa.rd hs) (hxa.rd hq)).mono ?_
  rintro e w1 ⟨rfl, hb⟩
  rw [hc]
  have D1 := D.stays hb
  have hx1 := hxa.trans hb
  clear c0 c1 c2
  have c0 := hx1.cell 0
  have c1 := hx1.cell 1
  have c2 := hx1.cell 2
  have hwr : IntKind.i64.wrap ((P.length : Int) - 1) = (P.length : Int) - 1 := IntWalk.i64_in _ (by omega)
  go_wp2_with fail
  refine (l01In_c n 0 ((P.length : Int) - 1) _).mono ?_
  rintro e w2 ⟨rfl, hb2e⟩
  obtain rfl := hb2e
  have hb2 : Below w1.heap.size w1 w1 := Below.refl _ _
  rw [hin]
  have D2 := D1.stays hb2
  have hx2 := hx1.trans hb2
  clear c0 c1 c2
  have f0 := D2.free 0
  have f1 := D2.free 1
  have f2 := D2.free 2
  have e0 := D2.cell 0
  have e1 := D2.cell 1
  have e2 := D2.cell 2
  go_wp2
  have q0 := ((((D2).set 0 (.slice none 0 0)).set 1 (.slice none 0 0)).set 2 (.slice none 0 0)).cell 0
  have q1 := ((((D2).set 0 (.slice none 0 0)).set 1 (.slice none 0 0)).set 2 (.slice none 0 0)).cell 1
  have q2 := ((((D2).set 0 (.slice none 0 0)).set 1 (.slice none 0 0)).set 2 (.slice none 0 0)).cell 2
  refine bodyPost_ret (v := .tuple #[.agg #[.slice none 0 0, .slice none 0 0, .slice none 0 0], .int .i64 2]) (by simp [results, Try.results85, go_sem, q0, q1, q2]) rfl ⟨none, 0, none, 0, none, 0, rfl, own3_nil _ _ _, ?_⟩
  exact ((hx2.below.setCell (p := ⟨w.heap.size + 1, 0, none⟩) (Nat.le_succ _) _).setCell (p := ⟨w.heap.size + 1, 1, none⟩) (Nat.le_succ _) _).setCell (p := ⟨w.heap.size + 1, 2, none⟩) (Nat.le_succ _) _

set_option maxRecDepth 100000 in
set_option maxHeartbeats 2000000 in
theorem specSimple_3 (p s q : Value) (P S W : List Int) (n : Int) (w : World) (hp : Rd w p P) (hs : Rd w s S) (hq : Rd w q W) (hc : cluB P S W = true) (hin : inB n 0 ((P.length : Int) - 1) = true) :
    Calls Try.prog 85 #[.agg #[p, s, q], .int .i64 n] w (RetCC w P S (mRow P S n.toNat) 0) := by
  have h24 := (cluB_iff.1 hc).1.2.1
  have HC := Lib.hid (cluB_iff.1 hc)
  have hn := inB_iff.1 hin
  obtain ⟨t, rfl⟩ := Int.eq_ofNat_of_zero_le hn.1
  have ht : t < P.length := by omega
  have htP : (t : Int) < (P.length : Int) := by omega
  have e0 : (t : Int).toNat = t := by omega
  rw [e0]
  have htw : (0 : Int) ≤ (t : Int) := Int.natCast_nonneg _
  clear hn e0
  obtain ⟨a1, k1, rfl⟩ := hp.len0
  obtain ⟨a2, k2, rfl⟩ := hs.len0
  obtain ⟨a3, k3, rfl⟩ := hq.len0
  have hx := Boxed.start w 40 #[.slice a1 P.length k1, .slice a2 S.length k2, .slice a3 W.length k3]
  have hxa := hx.alloc (.cells #[.slice none 0 0, .slice none 0 0, .slice none 0 0] 40)
  have D := Blk.new' (w := w.alloc (.cells #[.slice a1 P.length k1, .slice a2 S.length k2, .slice a3 W.length k3] 40)) (t := 40) (cs := #[.slice none 0 0, .slice none 0 0, .slice none 0 0]) (g := w.heap.size + 1) (by simp)
  have c0 := hxa.cell 0
  have c1 := hxa.cell 1
  have c2 := hxa.cell 2
  go_enter Try.func85, Try.ntmps85
  go_wp2_with fail
  refine (l07Is_c _ _ _ P S W _ (hxa.rd hp) (hxa.rd hs) (hxa.rd hq)).mono ?_
  rintro e w1 ⟨rfl, hb⟩
  rw [hc]
  have D1 := D.stays hb
  have hx1 := hxa.trans hb
  clear c0 c1 c2
  have c0 := hx1.cell 0
  have c1 := hx1.cell 1
  have c2 := hx1.cell 2
  have hwr : IntKind.i64.wrap ((P.length : Int) - 1) = (P.length : Int) - 1 := IntWalk.i64_in _ (by omega)
  go_wp2_with fail
  refine (l01In_c (t : Int) 0 ((P.length : Int) - 1) _).mono ?_
  rintro e w2 ⟨rfl, hb2e⟩
  obtain rfl := hb2e
  have hb2 : Below w1.heap.size w1 w1 := Below.refl _ _
  rw [hin]
  have D2 := D1.stays hb2
  have hx2 := hx1.trans hb2
  clear c0 c1 c2
  have hz1 : w.heap.size + 2 ≤ w1.heap.size := Nat.le_trans (by simp) (Nat.le_trans hb.size hb2.size)
  go_wp2_with fail
  have hx0 := hx2.trans (Below.refl _ _).drew
  have D0 := D2.stays (Below.refl _ _).drew
  have HD : w1.drew.cell? ⟨w.heap.size, 0, none⟩ = some (.slice a1 P.length k1) ∧ w1.drew.cell? ⟨w.heap.size, 1, none⟩ = some (.slice a2 S.length k2) ∧ w1.drew.cell? ⟨w.heap.size, 2, none⟩ = some (.slice a3 W.length k3) := ⟨hx0.cell 0, hx0.cell 1, hx0.cell 2⟩
  go_region_held3 (fun w' => w'.cell? ⟨w.heap.size, 0, none⟩ = some (.slice a1 P.length k1) ∧ w'.cell? ⟨w.heap.size, 1, none⟩ = some (.slice a2 S.length k2) ∧ w'.cell? ⟨w.heap.size, 2, none⟩ = some (.slice a3 W.length k3))
    (first | assumption | exact HD | exact HE _ _ _)
    (first
      | (go_at_call 180; (with_reducible refine (l07Simple_l _ _ _ P S W t _ (hx0.rd hp) (hx0.rd hs) HC.out ht).mono ?_); rintro e v1 ⟨a, k, rfl, hro, hq⟩; have hy1 := hx0.trans hq; have G1 := D0.stays hq; have hz2 : w1.heap.size ≤ v1.heap.size := hq.size; have HD : v1.cell? ⟨w.heap.size, 0, none⟩ = some (.slice a1 P.length k1) ∧ v1.cell? ⟨w.heap.size, 1, none⟩ = some (.slice a2 S.length k2) ∧ v1.cell? ⟨w.heap.size, 2, none⟩ = some (.slice a3 W.length k3) := ⟨hy1.cell 0, hy1.cell 1, hy1.cell 2⟩)
      | (go_at_call 163; (with_reducible refine (l07With_c _ _ _ _ _ _ P S W _ (hy1.rd hp) (hy1.rd hs) HC.out).mono ?_); rintro e v2 ⟨b1, j1, b2, j2, rfl, o1, o2, ap, hq⟩; have hy2 := hy1.trans hq; have G2 := G1.stays hq; have hz3 : v1.heap.size ≤ v2.heap.size := hq.size; have o3 := hro.below hq (Nat.le_refl _); have hv1 : w1.drew.heap.size = w1.heap.size := rfl; have HD : v2.cell? ⟨w.heap.size, 0, none⟩ = some (.slice a1 P.length k1) ∧ v2.cell? ⟨w.heap.size, 1, none⟩ = some (.slice a2 S.length k2) ∧ v2.cell? ⟨w.heap.size, 2, none⟩ = some (.slice a3 W.length k3) := ⟨hy2.cell 0, hy2.cell 1, hy2.cell 2⟩; have f0 := G2.free 0; have f1 := G2.free 1; have f2 := G2.free 2; have e0 := G2.cell 0; have e1 := G2.cell 1; have e2 := G2.cell 2; have HE : ∀ u0 u1 u2 : Value, (((v2.setCell ⟨w.heap.size + 1, 0, none⟩ u0).setCell ⟨w.heap.size + 1, 1, none⟩ u1).setCell ⟨w.heap.size + 1, 2, none⟩ u2).cell? ⟨w.heap.size, 0, none⟩ = some (.slice a1 P.length k1) ∧ (((v2.setCell ⟨w.heap.size + 1, 0, none⟩ u0).setCell ⟨w.heap.size + 1, 1, none⟩ u1).setCell ⟨w.heap.size + 1, 2, none⟩ u2).cell? ⟨w.heap.size, 1, none⟩ = some (.slice a2 S.length k2) ∧ (((v2.setCell ⟨w.heap.size + 1, 0, none⟩ u0).setCell ⟨w.heap.size + 1, 1, none⟩ u1).setCell ⟨w.heap.size + 1, 2, none⟩ u2).cell? ⟨w.heap.size, 2, none⟩ = some (.slice a3 W.length k3) := fun u0 u1 u2 => have h := hy2.wrote ((((Keeps.refl (fun k => w.heap.size + 1 ≤ k) v2).setCell (p := ⟨w.heap.size + 1, 0, none⟩) (Nat.le_refl _) u0).setCell (p := ⟨w.heap.size + 1, 1, none⟩) (Nat.le_refl _) u1).setCell (p := ⟨w.heap.size + 1, 2, none⟩) (Nat.le_refl _) u2); ⟨h.cell 0, h.cell 1, h.cell 2⟩))
  have ho3 : Own3 2 v2 w1.heap.size (.slice b1 P.length j1) (.slice b2 S.length j2) (.slice a P.length k) P S (mRow P S t) := ⟨o1.base_le hz2, o2.base_le hz2, o3.base_le (by first | exact Nat.le_refl _ | omega), ap, (apart_of hro o1 (Nat.le_refl _)).symm, (apart_of hro o2 (Nat.le_refl _)).symm⟩
  go_wp2
  have F := ((G2.set 0 (.slice b1 (P).length j1)).set 1 (.slice b2 (S).length j2)).set 2 (.slice a P.length k)
  have q0 := F.cell 0
  have q1 := F.cell 1
  have q2 := F.cell 2
  have hK : Keeps (fun k => k = w.heap.size + 1) v2 (((v2.setCell ⟨w.heap.size + 1, 0, none⟩ (.slice b1 (P).length j1)).setCell ⟨w.heap.size + 1, 1, none⟩ (.slice b2 (S).length j2)).setCell ⟨w.heap.size + 1, 2, none⟩ (.slice a P.length k)) := ((((Keeps.refl (fun k => k = w.heap.size + 1) v2).setCell (p := ⟨w.heap.size + 1, 0, none⟩) rfl _).setCell (p := ⟨w.heap.size + 1, 1, none⟩) rfl _).setCell (p := ⟨w.heap.size + 1, 2, none⟩) rfl _)
  refine bodyPost_ret (v := .tuple #[.agg #[.slice b1 (P).length j1, .slice b2 (S).length j2, .slice a P.length k], .int .i64 (0)]) (by simp [results, Try.results85, go_sem, q0, q1, q2]) rfl (retCC_len (mRow_len _ _ _) ?_ ?_)
  · exact (ho3.keeps hK (fun k hk e => by have := (ho3.block k hk).1; omega)).base_le (by omega)
  · exact hy2.below.trans (hK.below (by have := hy2.size; omega) (fun k hk => by omega))

theorem specSimple_c (p s q : Value) (P S W : List Int) (n : Int) (w : World) (hp : Rd w p P) (hs : Rd w s S) (hq : Rd w q W) :
    Calls Try.prog 85 #[.agg #[p, s, q], .int .i64 n] w (RetCC w (okL (ptB P S W n) P) (okL (ptB P S W n) S) (okL (ptB P S W n) (mRow P S n.toNat)) (ptC P S W n)) := by
  cases hc : cluB P S W
  · rw [ptB_bad hc, ptC_bad hc]; exact specSimple_1 p s q P S W n w hp hs hq hc
  · cases hin : inB n 0 ((P.length : Int) - 1)
    · rw [ptB_out hin, ptC_out hc hin]; exact specSimple_2 p s q P S W n w hp hs hq hc hin
    · rw [ptB_ok hc hin, ptC_ok hc hin]; exact specSimple_3 p s q P S W n w hp hs hq hc hin

end Go.Proofs.Ytiinceflafigeaa
