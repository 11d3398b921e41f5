/- Contracts: ClusterOfExcesses. -/
import Derived.Test.YtglghdkjppcedaaGreatDoorPart10
import Derived.Test.YtglghdkjppcedaaGreatDoorPart9
import Derived.Test.YtglghdkjppcedaaGreatDoorPart6
import Derived.Deep.RegionHeld3
namespace Go.Proofs.YtglghdkjppcedaaGreatDoor
open Go.RowKit

/-- May O be the excesses of points? -/
def excB (P O : List Int) : Bool := decide (O.length = P.length) && allIn O (-1000) 1000
/-- Are there a cluster and excesses that lead to weights? -/
def oxB (P S W O : List Int) : Bool := cluB P S W && (excB P O && allIn (linTo P S O P.length) (-100000) 100000)
def oxC (P S W O : List Int) : Int := if cluB P S W then (if excB P O then okC (allIn (linTo P S O P.length) (-100000) 100000) 3 else 2) else 1
theorem oxB_1 {P S W O : List Int} (h : cluB P S W = false) : oxB P S W O = false ∧ oxC P S W O = 1 := by simp [oxB, oxC, h]
theorem oxB_2 {P S W O : List Int} (h : cluB P S W = true) (h2 : excB P O = false) : oxB P S W O = false ∧ oxC P S W O = 2 := by simp [oxB, oxC, h, h2]
theorem oxB_3 {P S W O : List Int} (h : cluB P S W = true) (h2 : excB P O = true) : oxB P S W O = allIn (linTo P S O P.length) (-100000) 100000 ∧ oxC P S W O = okC (allIn (linTo P S O P.length) (-100000) 100000) 3 := by simp [oxB, oxC, h, h2]
set_option maxHeartbeats 1000000 in
theorem implOfExc_1 (p s q v : Value) (P S W O : List Int) (w : World) (hp : Rd w p P) (hs : Rd w s S) (hq : Rd w q W) (hv : Rd w v O) (hc : cluB P S W = false) :
    Calls Tryz.prog 6 #[.agg #[p, s, q], v] w (RetCC w [] [] [] 1) := by
  obtain ⟨a1, k1, rfl⟩ := hp.len0
  obtain ⟨a2, k2, rfl⟩ := hs.len0
  obtain ⟨a3, k3, rfl⟩ := hq.len0
  obtain ⟨a4, k4, rfl⟩ := hv.len0
  have hx := Boxed.start w 26 #[.slice a1 P.length k1, .slice a2 S.length k2, .slice a3 W.length k3]
  have hxa := hx.alloc (.cells #[.slice none 0 0, .slice none 0 0, .slice none 0 0] 26)
  have D := Blk.new' (w := w.alloc (.cells #[.slice a1 P.length k1, .slice a2 S.length k2, .slice a3 W.length k3] 26)) (t := 26) (cs := #[.slice none 0 0, .slice none 0 0, .slice none 0 0]) (g := w.heap.size + 1) (by simp)
  have c0 := hxa.cell 0
  have c1 := hxa.cell 1
  have c2 := hxa.cell 2
  go_enter Tryz.func6, Tryz.ntmps6
  go_wp2_with fail
  refine (implIsCluster_c _ _ _ P S W _ (hxa.rd hp) (hxa.rd hs) (hxa.rd hq)).mono ?_
  rintro e w1 ⟨rfl, hb⟩
  rw [hc]
  have D1 := D.stays hb
  have hx1 := hxa.trans hb
  have f0 := D1.free 0
  have f1 := D1.free 1
  have f2 := D1.free 2
  have e0 := D1.cell 0
  have e1 := D1.cell 1
  have e2 := D1.cell 2
  clear c0 c1 c2
  go_wp2
  have q0 := ((((D1).set 0 (.slice none 0 0)).set 1 (.slice none 0 0)).set 2 (.slice none 0 0)).cell 0
  have q1 := ((((D1).set 0 (.slice none 0 0)).set 1 (.slice none 0 0)).set 2 (.slice none 0 0)).cell 1
  have q2 := ((((D1).set 0 (.slice none 0 0)).set 1 (.slice none 0 0)).set 2 (.slice none 0 0)).cell 2
  refine bodyPost_ret (v := .tuple #[.agg #[.slice none 0 0, .slice none 0 0, .slice none 0 0], .int .i64 1]) (by simp [results, Tryz.results6, go_sem, q0, q1, q2]) rfl ⟨none, 0, none, 0, none, 0, rfl, own3_nil _ _ _, ?_⟩
  exact ((hx1.below.setCell (p := ⟨w.heap.size + 1, 0, none⟩) (Nat.le_succ _) _).setCell (p := ⟨w.heap.size + 1, 1, none⟩) (Nat.le_succ _) _).setCell (p := ⟨w.heap.size + 1, 2, none⟩) (Nat.le_succ _) _

set_option maxHeartbeats 1000000 in
theorem implOfExc_2 (p s q v : Value) (P S W O : List Int) (w : World) (hp : Rd w p P) (hs : Rd w s S) (hq : Rd w q W) (hv : Rd w v O) (hc : cluB P S W = true) (ho : excB P O = false) :
    Calls Tryz.prog 6 #[.agg #[p, s, q], v] w (RetCC w [] [] [] 2) := by
  obtain ⟨a1, k1, rfl⟩ := hp.len0
  obtain ⟨a2, k2, rfl⟩ := hs.len0
  obtain ⟨a3, k3, rfl⟩ := hq.len0
  obtain ⟨a4, k4, rfl⟩ := hv.len0
  have hx := Boxed.start w 26 #[.slice a1 P.length k1, .slice a2 S.length k2, .slice a3 W.length k3]
  have hxa := hx.alloc (.cells #[.slice none 0 0, .slice none 0 0, .slice none 0 0] 26)
  have D := Blk.new' (w := w.alloc (.cells #[.slice a1 P.length k1, .slice a2 S.length k2, .slice a3 W.length k3] 26)) (t := 26) (cs := #[.slice none 0 0, .slice none 0 0, .slice none 0 0]) (g := w.heap.size + 1) (by simp)
  have c0 := hxa.cell 0
  have c1 := hxa.cell 1
  have c2 := hxa.cell 2
  by_cases hl : O.length = P.length
  · have hd : ((O.length : Int) != (P.length : Int)) = false := by simp [hl]
    have ha : allIn O (-1000) 1000 = false := by simpa [excB, hl] using ho
    clear ho
    go_enter Tryz.func6, Tryz.ntmps6
    go_wp2_with fail
    refine (implIsCluster_c _ _ _ P S W _ (hxa.rd hp) (hxa.rd hs) (hxa.rd hq)).mono ?_
    rintro e w1 ⟨rfl, hb⟩
    rw [hc]
    have D1 := D.stays hb
    have hx1 := hxa.trans hb
    clear c0 c1 c2 hl
    have c0 := hx1.cell 0
    have c1 := hx1.cell 1
    have c2 := hx1.cell 2
    go_wp2_with fail
    refine (within_c _ O _ _ _ (hx1.rd hv)).mono ?_
    rintro e w2 ⟨rfl, rfl⟩
    rw [ha]
    have f0 := D1.free 0
    have f1 := D1.free 1
    have f2 := D1.free 2
    have e0 := D1.cell 0
    have e1 := D1.cell 1
    have e2 := D1.cell 2
    go_wp2
    have q0 := ((((D1).set 0 (.slice none 0 0)).set 1 (.slice none 0 0)).set 2 (.slice none 0 0)).cell 0
    have q1 := ((((D1).set 0 (.slice none 0 0)).set 1 (.slice none 0 0)).set 2 (.slice none 0 0)).cell 1
    have q2 := ((((D1).set 0 (.slice none 0 0)).set 1 (.slice none 0 0)).set 2 (.slice none 0 0)).cell 2
    refine bodyPost_ret (v := .tuple #[.agg #[.slice none 0 0, .slice none 0 0, .slice none 0 0], .int .i64 2]) (by simp [results, Tryz.results6, go_sem, q0, q1, q2]) rfl ⟨none, 0, none, 0, none, 0, rfl, own3_nil _ _ _, ?_⟩
    exact ((hx1.below.setCell (p := ⟨w.heap.size + 1, 0, none⟩) (Nat.le_succ _) _).setCell (p := ⟨w.heap.size + 1, 1, none⟩) (Nat.le_succ _) _).setCell (p := ⟨w.heap.size + 1, 2, none⟩) (Nat.le_succ _) _
  · have hd : ((O.length : Int) != (P.length : Int)) = true := by simp; omega
    clear ho
    go_enter Tryz.func6, Tryz.ntmps6
    go_wp2_with fail
    refine (implIsCluster_c _ _ _ P S W _ (hxa.rd hp) (hxa.rd hs) (hxa.rd hq)).mono ?_
    rintro e w1 ⟨rfl, hb⟩
    rw [hc]
    have D1 := D.stays hb
    have hx1 := hxa.trans hb
    clear c0 c1 c2 hl
    have c0 := hx1.cell 0
    have c1 := hx1.cell 1
    have c2 := hx1.cell 2
    have f0 := D1.free 0
    have f1 := D1.free 1
    have f2 := D1.free 2
    have e0 := D1.cell 0
    have e1 := D1.cell 1
    have e2 := D1.cell 2
    go_wp2
    have q0 := ((((D1).set 0 (.slice none 0 0)).set 1 (.slice none 0 0)).set 2 (.slice none 0 0)).cell 0
    have q1 := ((((D1).set 0 (.slice none 0 0)).set 1 (.slice none 0 0)).set 2 (.slice none 0 0)).cell 1
    have q2 := ((((D1).set 0 (.slice none 0 0)).set 1 (.slice none 0 0)).set 2 (.slice none 0 0)).cell 2
    refine bodyPost_ret (v := .tuple #[.agg #[.slice none 0 0, .slice none 0 0, .slice none 0 0], .int .i64 2]) (by simp [results, Tryz.results6, go_sem, q0, q1, q2]) rfl ⟨none, 0, none, 0, none, 0, rfl, own3_nil _ _ _, ?_⟩
    exact ((hx1.below.setCell (p := ⟨w.heap.size + 1, 0, none⟩) (Nat.le_succ _) _).setCell (p := ⟨w.heap.size + 1, 1, none⟩) (Nat.le_succ _) _).setCell (p := ⟨w.heap.size + 1, 2, none⟩) (Nat.le_succ _) _

set_option maxRecDepth 100000 in
set_option maxHeartbeats 600000 in
theorem implOfExc_3 (p s q v : Value) (P S W O : List Int) (w : World) (hp : Rd w p P) (hs : Rd w s S) (hq : Rd w q W) (hv : Rd w v O) (hc : cluB P S W = true) (ho : excB P O = true) :
    Calls Tryz.prog 6 #[.agg #[p, s, q], v] w (RetCC w (okL (allIn (linTo P S O P.length) (-100000) 100000) P) (okL (allIn (linTo P S O P.length) (-100000) 100000) S) (okL (allIn (linTo P S O P.length) (-100000) 100000) (linTo P S O P.length)) (okC (allIn (linTo P S O P.length) (-100000) 100000) 3)) := by
  obtain ⟨a1, k1, rfl⟩ := hp.len0
  obtain ⟨a2, k2, rfl⟩ := hs.len0
  obtain ⟨a3, k3, rfl⟩ := hq.len0
  obtain ⟨a4, k4, rfl⟩ := hv.len0
  have ho' : O.length = P.length ∧ allIn O (-1000) 1000 = true := by simpa [excB] using ho
  obtain ⟨hl, ha⟩ := ho'
  have hcl := cluB_iff.1 hc
  have hd : ((O.length : Int) != (P.length : Int)) = false := by simp [hl]
  have hO := allIn_iff.1 ha
  have hok := Lib.hid (show O.length = P.length ∧ ∀ i, i < O.length → -1000 ≤ gI O i ∧ gI O i ≤ 1000 from ⟨hl, hO⟩)
  have hLL := Lib.hid (show (linTo P S O P.length).length = O.length by rw [linTo_len]; exact hl.symm)
  have hO0 : 0 < O.length := by have := hcl.1; omega
  have hcl1 := Lib.hid (show S.length = P.length from hcl.1.2.2.1)
  have hcl2 : 0 < P.length := hcl.1.1
  have hcl3 : P.length ≤ 24 := hcl.1.2.1
  have hcl4 : P.length ≤ 9223372036854775807 := by omega
  have HCL := Lib.hid hcl
  clear ho hl hcl hO
  have hx := Boxed.start w 26 #[.slice a1 P.length k1, .slice a2 S.length k2, .slice a3 W.length k3]
  have hxa := hx.alloc (.cells #[.slice none 0 0, .slice none 0 0, .slice none 0 0] 26)
  have D := Blk.new' (w := w.alloc (.cells #[.slice a1 P.length k1, .slice a2 S.length k2, .slice a3 W.length k3] 26)) (t := 26) (cs := #[.slice none 0 0, .slice none 0 0, .slice none 0 0]) (g := w.heap.size + 1) (by simp)
  have c0 := hxa.cell 0
  have c1 := hxa.cell 1
  have c2 := hxa.cell 2
  go_enter Tryz.func6, Tryz.ntmps6
  go_wp2_with fail
  refine (implIsCluster_c _ _ _ P S W _ (hxa.rd hp) (hxa.rd hs) (hxa.rd hq)).mono ?_
  rintro e w1 ⟨rfl, hb⟩
  rw [hc]
  have D1 := D.stays hb
  have hx1 := hxa.trans hb
  clear c0 c1 c2
  have c0 := hx1.cell 0
  have c1 := hx1.cell 1
  have c2 := hx1.cell 2
  go_wp2_with fail
  refine (within_c _ O _ _ _ (hx1.rd hv)).mono ?_
  rintro e w2 ⟨rfl, rfl⟩
  rw [ha]
  go_wp2_with fail
  clear c0 c1 c2
  have hz1 : w.heap.size + 2 ≤ w1.heap.size := Nat.le_trans (by simp) hb.size
  have hx0 := hx1.trans (Below.refl _ _).drew
  have D0 := D1.stays (Below.refl _ _).drew
  have HD : w1.drew.cell? ⟨w.heap.size, 0, none⟩ = some (.slice a1 P.length k1) ∧ w1.drew.cell? ⟨w.heap.size, 1, none⟩ = some (.slice a2 S.length k2) ∧ w1.drew.cell? ⟨w.heap.size, 2, none⟩ = some (.slice a3 W.length k3) := ⟨hx0.cell 0, hx0.cell 1, hx0.cell 2⟩
  go_region_held3 (fun w' => w'.cell? ⟨w.heap.size, 0, none⟩ = some (.slice a1 P.length k1) ∧ w'.cell? ⟨w.heap.size, 1, none⟩ = some (.slice a2 S.length k2) ∧ w'.cell? ⟨w.heap.size, 2, none⟩ = some (.slice a3 W.length k3))
    (first | assumption | exact HD | exact HE _ _ _)
    (first
      | (go_at_call 36; (with_reducible refine (clusterProximates_c _ _ _ P S W _ (hx0.rd hp) (hx0.rd hs) (hx0.rd hq) hcl1.out hcl2 hcl3).mono ?_); rintro e w2 ⟨g, V, rfl, hrow, hq⟩; have hx2 := hx0.trans hq; have D2 := D0.stays hq; have hrd := hrow.rd (cap := P.length) (Nat.le_refl _) hcl4; have hz2 : w1.heap.size ≤ w2.heap.size := hq.size; have HD : w2.cell? ⟨w.heap.size, 0, none⟩ = some (.slice a1 P.length k1) ∧ w2.cell? ⟨w.heap.size, 1, none⟩ = some (.slice a2 S.length k2) ∧ w2.cell? ⟨w.heap.size, 2, none⟩ = some (.slice a3 W.length k3) := ⟨hx2.cell 0, hx2.cell 1, hx2.cell 2⟩)
      | (go_at_call 34; (with_reducible refine (checkedWeightsN_c O.length _ _ _ _ _ P S W (linTo P S O P.length) w2.heap.size _ (hx3.rd hp) (hx3.rd hs) HCL.out ho hz3 hLL.out).mono ?_); rintro e w4 ⟨b1, j1, b2, j2, b3, j3, rfl, ho3, hq⟩; have hx4 := hx3.trans hq; have D4 := D3.stays hq; have HD : w4.cell? ⟨w.heap.size, 0, none⟩ = some (.slice a1 P.length k1) ∧ w4.cell? ⟨w.heap.size, 1, none⟩ = some (.slice a2 S.length k2) ∧ w4.cell? ⟨w.heap.size, 2, none⟩ = some (.slice a3 W.length k3) := ⟨hx4.cell 0, hx4.cell 1, hx4.cell 2⟩; have f0 := D4.free 0; have f1 := D4.free 1; have f2 := D4.free 2; have e0 := D4.cell 0; have e1 := D4.cell 1; have e2 := D4.cell 2; have HE : ∀ u0 u1 u2 : Value, (((w4.setCell ⟨w.heap.size + 1, 0, none⟩ u0).setCell ⟨w.heap.size + 1, 1, none⟩ u1).setCell ⟨w.heap.size + 1, 2, none⟩ u2).cell? ⟨w.heap.size, 0, none⟩ = some (.slice a1 P.length k1) ∧ (((w4.setCell ⟨w.heap.size + 1, 0, none⟩ u0).setCell ⟨w.heap.size + 1, 1, none⟩ u1).setCell ⟨w.heap.size + 1, 2, none⟩ u2).cell? ⟨w.heap.size, 1, none⟩ = some (.slice a2 S.length k2) ∧ (((w4.setCell ⟨w.heap.size + 1, 0, none⟩ u0).setCell ⟨w.heap.size + 1, 1, none⟩ u1).setCell ⟨w.heap.size + 1, 2, none⟩ u2).cell? ⟨w.heap.size, 2, none⟩ = some (.slice a3 W.length k3) := fun u0 u1 u2 => have h := hx4.wrote ((((Keeps.refl (fun k => w.heap.size + 1 ≤ k) w4).setCell (p := ⟨w.heap.size + 1, 0, none⟩) (Nat.le_refl _) u0).setCell (p := ⟨w.heap.size + 1, 1, none⟩) (Nat.le_refl _) u1).setCell (p := ⟨w.heap.size + 1, 2, none⟩) (Nat.le_refl _) u2); ⟨h.cell 0, h.cell 1, h.cell 2⟩)
      | (go_at_call 35; (with_reducible refine (weightsOfExcesses_c _ _ P S W O _ hrd (hx2.rd hv) HCL.out hok.out.1 hok.out.2).mono ?_); rintro e w3 ⟨a, k, rfl, ho, hq⟩; have hx3 := hx2.trans hq; have D3 := D2.stays hq; have hz3 : w2.heap.size ≤ w3.heap.size := hq.size; have HD : w3.cell? ⟨w.heap.size, 0, none⟩ = some (.slice a1 P.length k1) ∧ w3.cell? ⟨w.heap.size, 1, none⟩ = some (.slice a2 S.length k2) ∧ w3.cell? ⟨w.heap.size, 2, none⟩ = some (.slice a3 W.length k3) := ⟨hx3.cell 0, hx3.cell 1, hx3.cell 2⟩))
  go_wp2
  have F := ((D4.set 0 (.slice b1 (okL (allIn (linTo P S O P.length) (-100000) 100000) P).length j1)).set 1 (.slice b2 (okL (allIn (linTo P S O P.length) (-100000) 100000) S).length j2)).set 2 (.slice b3 (okL (allIn (linTo P S O P.length) (-100000) 100000) (linTo P S O P.length)).length j3)
  have q0 := F.cell 0
  have q1 := F.cell 1
  have q2 := F.cell 2
  have hK : Keeps (fun k => k = w.heap.size + 1) w4 (((w4.setCell ⟨w.heap.size + 1, 0, none⟩ (.slice b1 (okL (allIn (linTo P S O P.length) (-100000) 100000) P).length j1)).setCell ⟨w.heap.size + 1, 1, none⟩ (.slice b2 (okL (allIn (linTo P S O P.length) (-100000) 100000) S).length j2)).setCell ⟨w.heap.size + 1, 2, none⟩ (.slice b3 (okL (allIn (linTo P S O P.length) (-100000) 100000) (linTo P S O P.length)).length j3)) := ((((Keeps.refl (fun k => k = w.heap.size + 1) w4).setCell (p := ⟨w.heap.size + 1, 0, none⟩) rfl _).setCell (p := ⟨w.heap.size + 1, 1, none⟩) rfl _).setCell (p := ⟨w.heap.size + 1, 2, none⟩) rfl _)
  refine bodyPost_ret (v := .tuple #[.agg #[.slice b1 (okL (allIn (linTo P S O P.length) (-100000) 100000) P).length j1, .slice b2 (okL (allIn (linTo P S O P.length) (-100000) 100000) S).length j2, .slice b3 (okL (allIn (linTo P S O P.length) (-100000) 100000) (linTo P S O P.length)).length j3], .int .i64 (okC (allIn (linTo P S O P.length) (-100000) 100000) 3)]) (by simp [results, Tryz.results6, go_sem, q0, q1, q2]) rfl ⟨_, _, _, _, _, _, rfl, ?_, ?_⟩
  · exact (ho3.keeps hK (fun k hk e => by have := (ho3.block k hk).1; omega)).base_le (by omega)
  · exact hx4.below.trans (hK.below (by have := hx4.size; omega) (fun k hk => by omega))

set_option maxHeartbeats 1000000 in
theorem specOfExc_1 (p s q v : Value) (P S W O : List Int) (w : World) (hp : Rd w p P) (hs : Rd w s S) (hq : Rd w q W) (hv : Rd w v O) (hc : cluB P S W = false) :
    Calls Tryz.prog 7 #[.agg #[p, s, q], v] w (RetCC w [] [] [] 1) := by
  obtain ⟨a1, k1, rfl⟩ := hp.len0
  obtain ⟨a2, k2, rfl⟩ := hs.len0
  obtain ⟨a3, k3, rfl⟩ := hq.len0
  obtain ⟨a4, k4, rfl⟩ := hv.len0
  have hx := Boxed.start w 26 #[.slice a1 P.length k1, .slice a2 S.length k2, .slice a3 W.length k3]
  have hxa := hx.alloc (.cells #[.slice none 0 0, .slice none 0 0, .slice none 0 0] 26)
  have D := Blk.new' (w := w.alloc (.cells #[.slice a1 P.length k1, .slice a2 S.length k2, .slice a3 W.length k3] 26)) (t := 26) (cs := #[.slice none 0 0, .slice none 0 0, .slice none 0 0]) (g := w.heap.size + 1) (by simp)
  have c0 := hxa.cell 0
  have c1 := hxa.cell 1
  have c2 := hxa.cell 2
  go_enter Tryz.func7, Tryz.ntmps7
  go_wp2_with fail
  refine (l07Is_c _ _ _ P S W _ (hxa.rd hp) (hxa.rd hs) (hxa.rd hq)).mono ?_
  rintro e w1 ⟨rfl, hb⟩
  rw [hc]
  have D1 := D.stays hb
  have hx1 := hxa.trans hb
  have f0 := D1.free 0
  have f1 := D1.free 1
  have f2 := D1.free 2
  have e0 := D1.cell 0
  have e1 := D1.cell 1
  have e2 := D1.cell 2
  clear c0 c1 c2
  go_wp2
  have q0 := ((((D1).set 0 (.slice none 0 0)).set 1 (.slice none 0 0)).set 2 (.slice none 0 0)).cell 0
  have q1 := ((((D1).set 0 (.slice none 0 0)).set 1 (.slice none 0 0)).set 2 (.slice none 0 0)).cell 1
  have q2 := ((((D1).set 0 (.slice none 0 0)).set 1 (.slice none 0 0)).set 2 (.slice none 0 0)).cell 2
  refine bodyPost_ret (v := .tuple #[.agg #[.slice none 0 0, .slice none 0 0, .slice none 0 0], .int .i64 1]) (by simp [results, Tryz.results7, go_sem, q0, q1, q2]) rfl ⟨none, 0, none, 0, none, 0, rfl, own3_nil _ _ _, ?_⟩
  exact ((hx1.below.setCell (p := ⟨w.heap.size + 1, 0, none⟩) (Nat.le_succ _) _).setCell (p := ⟨w.heap.size + 1, 1, none⟩) (Nat.le_succ _) _).setCell (p := ⟨w.heap.size + 1, 2, none⟩) (Nat.le_succ _) _

set_option maxRecDepth 100000 in
set_option maxHeartbeats 600000 in
theorem specOfExc_2a (p s q v : Value) (P S W O : List Int) (w : World) (hp : Rd w p P) (hs : Rd w s S) (hq : Rd w q W) (hv : Rd w v O) (hc : cluB P S W = true) (hd : ((O.length : Int) != (P.length : Int)) = true) :
    Calls Tryz.prog 7 #[.agg #[p, s, q], v] w (RetCC w [] [] [] 2) := by
  obtain ⟨a1, k1, rfl⟩ := hp.len0
  obtain ⟨a2, k2, rfl⟩ := hs.len0
  obtain ⟨a3, k3, rfl⟩ := hq.len0
  obtain ⟨a4, k4, rfl⟩ := hv.len0
  have hx := Boxed.start w 26 #[.slice a1 P.length k1, .slice a2 S.length k2, .slice a3 W.length k3]
  have hxa := hx.alloc (.cells #[.slice none 0 0, .slice none 0 0, .slice none 0 0] 26)
  have D := Blk.new' (w := w.alloc (.cells #[.slice a1 P.length k1, .slice a2 S.length k2, .slice a3 W.length k3] 26)) (t := 26) (cs := #[.slice none 0 0, .slice none 0 0, .slice none 0 0]) (g := w.heap.size + 1) (by simp)
  have c0 := hxa.cell 0
  have c1 := hxa.cell 1
  have c2 := hxa.cell 2
  go_enter Tryz.func7, Tryz.ntmps7
  go_wp2_with fail
  refine (l07Is_c _ _ _ P S W _ (hxa.rd hp) (hxa.rd hs) (hxa.rd hq)).mono ?_
  rintro e w1 ⟨rfl, hb⟩
  rw [hc]
  have D1 := D.stays hb
  have hx1 := hxa.trans hb
  clear c0 c1 c2
  have c0 := hx1.cell 0
  have c1 := hx1.cell 1
  have c2 := hx1.cell 2
  have f0 := D1.free 0
  have f1 := D1.free 1
  have f2 := D1.free 2
  have e0 := D1.cell 0
  have e1 := D1.cell 1
  have e2 := D1.cell 2
  go_wp2
  have q0 := ((((D1).set 0 (.slice none 0 0)).set 1 (.slice none 0 0)).set 2 (.slice none 0 0)).cell 0
  have q1 := ((((D1).set 0 (.slice none 0 0)).set 1 (.slice none 0 0)).set 2 (.slice none 0 0)).cell 1
  have q2 := ((((D1).set 0 (.slice none 0 0)).set 1 (.slice none 0 0)).set 2 (.slice none 0 0)).cell 2
  refine bodyPost_ret (v := .tuple #[.agg #[.slice none 0 0, .slice none 0 0, .slice none 0 0], .int .i64 2]) (by simp [results, Tryz.results7, go_sem, q0, q1, q2]) rfl ⟨none, 0, none, 0, none, 0, rfl, own3_nil _ _ _, ?_⟩
  exact ((hx1.below.setCell (p := ⟨w.heap.size + 1, 0, none⟩) (Nat.le_succ _) _).setCell (p := ⟨w.heap.size + 1, 1, none⟩) (Nat.le_succ _) _).setCell (p := ⟨w.heap.size + 1, 2, none⟩) (Nat.le_succ _) _

set_option maxRecDepth 100000 in
set_option maxHeartbeats 600000 in
theorem specOfExc_2b (p s q v : Value) (P S W O : List Int) (w : World) (hp : Rd w p P) (hs : Rd w s S) (hq : Rd w q W) (hv : Rd w v O) (hc : cluB P S W = true) (hd : ((O.length : Int) != (P.length : Int)) = false) (ha0 : allIn O (-1000) 1000 = false) (hO0 : 0 < O.length) :
    Calls Tryz.prog 7 #[.agg #[p, s, q], v] w (RetCC w [] [] [] 2) := by
  obtain ⟨a1, k1, rfl⟩ := hp.len0
  obtain ⟨a2, k2, rfl⟩ := hs.len0
  obtain ⟨a3, k3, rfl⟩ := hq.len0
  obtain ⟨bv, ov, k4, rfl, hv1, hv2, hvb, hvc⟩ := hv.cells hO0
  have HA := Lib.hid ha0
  clear ha0
  have hx := Boxed.start w 26 #[.slice a1 P.length k1, .slice a2 S.length k2, .slice a3 W.length k3]
  have hxa := hx.alloc (.cells #[.slice none 0 0, .slice none 0 0, .slice none 0 0] 26)
  have D := Blk.new' (w := w.alloc (.cells #[.slice a1 P.length k1, .slice a2 S.length k2, .slice a3 W.length k3] 26)) (t := 26) (cs := #[.slice none 0 0, .slice none 0 0, .slice none 0 0]) (g := w.heap.size + 1) (by simp)
  have c0 := hxa.cell 0
  have c1 := hxa.cell 1
  have c2 := hxa.cell 2
  go_enter Tryz.func7, Tryz.ntmps7
  go_wp2_with fail
  refine (l07Is_c _ _ _ P S W _ (hxa.rd hp) (hxa.rd hs) (hxa.rd hq)).mono ?_
  rintro e w1 ⟨rfl, hb⟩
  rw [hc]
  have D1 := D.stays hb
  have hx1 := hxa.trans hb
  clear c0 c1 c2
  have c0 := hx1.cell 0
  have c1 := hx1.cell 1
  have c2 := hx1.cell 2
  go_wp2_with fail
  go_loop [6] (fun i => ∃ k : Nat, k ≤ O.length ∧ i = .int .i64 k ∧ (∀ j, j < k → -1000 ≤ gI O j ∧ gI O j ≤ 1000)) (fun i => O.length - (intOf i).toNat)
  case atStart => exact ⟨0, Nat.zero_le _, rfl, fun j hj => absurd hj (by omega)⟩
  case round =>
    obtain ⟨k, hk, rfl, hg⟩ := hrel
    by_cases hlt : k < O.length
    · have hck := hvc k hlt
      have hck' : w1.cell? ⟨bv, ov + k, none⟩ = some (.int .i64 (gI O k)) := by rw [hx1.below.cell (p := ⟨bv, ov + k, none⟩) hvb]; exact hck
      have HG : Hid (inB (gI O k) (-1000) 1000 = true → ∀ j, j < k + 1 → -1000 ≤ gI O j ∧ gI O j ≤ 1000) := Lib.hid (by
        intro hb j hj
        by_cases e : j = k
        · rw [e]; exact inB_iff.1 hb
        · exact hg j (by omega))
      have HB := Lib.hid (@allIn_no O (-1000) 1000 k hlt)
      clear hck hvc hg
      generalize gI O k = y at hck' HG HB
      cases hin : inB y (-1000) 1000
      · have hfalse := Lib.hid (HB.out hin)
        clear HG HB
        go_wp2_with fail
        refine (l01In_c _ _ _ _).mono ?_
        rintro e w' ⟨rfl, rfl⟩
        rw [hin]
        clear c0 c1 c2
        have f0 := D1.free 0
        have f1 := D1.free 1
        have f2 := D1.free 2
        have e0 := D1.cell 0
        have e1 := D1.cell 1
        have e2 := D1.cell 2
        go_wp2
        have q0 := ((((D1).set 0 (.slice none 0 0)).set 1 (.slice none 0 0)).set 2 (.slice none 0 0)).cell 0
        have q1 := ((((D1).set 0 (.slice none 0 0)).set 1 (.slice none 0 0)).set 2 (.slice none 0 0)).cell 1
        have q2 := ((((D1).set 0 (.slice none 0 0)).set 1 (.slice none 0 0)).set 2 (.slice none 0 0)).cell 2
        refine bodyPost_ret (v := .tuple #[.agg #[.slice none 0 0, .slice none 0 0, .slice none 0 0], .int .i64 2]) (by simp [results, Tryz.results7, go_sem, q0, q1, q2]) rfl ⟨none, 0, none, 0, none, 0, rfl, own3_nil _ _ _, ?_⟩
        exact ((hx1.below.setCell (p := ⟨w.heap.size + 1, 0, none⟩) (Nat.le_succ _) _).setCell (p := ⟨w.heap.size + 1, 1, none⟩) (Nat.le_succ _) _).setCell (p := ⟨w.heap.size + 1, 2, none⟩) (Nat.le_succ _) _
      · have HG' := Lib.hid (HG.out hin)
        clear HG HB
        go_wp2_with fail
        refine (l01In_c _ _ _ _).mono ?_
        rintro e w' ⟨rfl, rfl⟩
        rw [hin]
        go_wp2
        go_round
        case rel => exact ⟨k + 1, by omega, by go_num, HG'.out⟩
        case measure => simp [intOf]; omega
    · have hk' : k = O.length := by omega
      subst hk'
      have hall := Lib.hid (allIn_iff.2 hg)
      clear hg
      exact absurd (hall.out.symm.trans HA.out) (by simp)

end Go.Proofs.YtglghdkjppcedaaGreatDoor
