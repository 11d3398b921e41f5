/- Contracts: UnloadCluster, the program and the reference. -/
import Derived.Test.YtiinceflafigeaaUnloaded
import Derived.Test.YtiinceflafigeaaProx
import Derived.Deep.RegionHeld3
namespace Go.Proofs.Ytiinceflafigeaa
open Go.RowKit

/-- Do the weights of the unloaded cluster stay in their range? -/
def uwB (P S W : List Int) : Bool := allIn (unlL P S W) (-100000) 100000
def ucB (P S W : List Int) : Bool := cluB P S W && uwB P S W
def ucC (P S W : List Int) : Int := if cluB P S W then okC (uwB P S W) 3 else 1
theorem ucB_1 {P S W : List Int} (h : cluB P S W = false) : ucB P S W = false ∧ ucC P S W = 1 := by simp [ucB, ucC, h]
theorem ucB_2 {P S W : List Int} (h : cluB P S W = true) : ucB P S W = uwB P S W ∧ ucC P S W = okC (uwB P S W) 3 := by simp [ucB, ucC, h]
theorem clu_unlOk {P S W : List Int} (h : CluOk P S W) : W.length = P.length ∧ UnlOk P S (fun i => gI W i) := ⟨h.1.2.2.2, unlOk_of h fun i hi => h.2.1 i (by have := h.1.2.2.2; omega)⟩
theorem unlL_len {P S W : List Int} (h : CluOk P S W) : (unlL P S W).length = P.length := (unlL_ok h (clu_unlOk h).2 (clu_unlOk h).1).1.1
theorem l01OwnN_c (n : Nat) (v : Value) (xs : List Int) (w : World) (h : Rd w v xs) (hp : 0 < n) (hn : n ≤ 1000000) (hl : xs.length = n) : Calls Try.prog 164 #[v] w (RetL n w xs) :=
  (l01Own_c v xs w h (by omega) (by omega)).mono fun e w' h2 => retL_of h2 hl
theorem checkedU_c (p s q : Value) (a4 : Option Addr) (k4 : Nat) (P S W : List Int) (base : Nat) (w : World) (hp : Rd w p P) (hs : Rd w s S) (hc : CluOk P S W) (hL : OwnI w base (.slice a4 P.length k4) (unlL P S W)) (hB : base ≤ w.heap.size) :
    Calls Try.prog 174 #[.agg #[p, s, q], .slice a4 P.length k4] w (RetCX base w (okL (uwB P S W) P) (okL (uwB P S W) S) (okL (uwB P S W) (unlL P S W)) (okC (uwB P S W) 3)) :=
  checkedWeightsN_c P.length p s q a4 k4 P S W (unlL P S W) base w hp hs hc hL hB (unlL_len hc)

set_option maxRecDepth 100000 in
set_option maxHeartbeats 600000 in
theorem unloadedCluster_c (p s q : Value) (P S W : List Int) (w : World) (hp : Rd w p P) (hs : Rd w s S) (hq : Rd w q W) (hc : cluB P S W = true) :
    Calls Try.prog 161 #[.agg #[p, s, q]] w (RetCC w (okL (uwB P S W) P) (okL (uwB P S W) S) (okL (uwB P S W) (unlL P S W)) (okC (uwB P S W) 3)) := by
  obtain ⟨a1, k1, rfl⟩ := hp.len0
  obtain ⟨a2, k2, rfl⟩ := hs.len0
  obtain ⟨a3, k3, rfl⟩ := hq.len0
  have hqq := hq
  have hcl := cluB_iff.1 hc
  have hl := Lib.hid (clu_unlOk hcl).1
  have hu := Lib.hid (clu_unlOk hcl).2
  have hul := Lib.hid (unlL_len hcl)
  have hcl1 := Lib.hid (show S.length = P.length from hcl.1.2.2.1)
  have hcl2 : 0 < P.length := hcl.1.1
  have hcl3 : P.length ≤ 24 := hcl.1.2.1
  have hcl4 : P.length ≤ 9223372036854775807 := by omega
  have hcl5 : P.length ≤ 1000000 := by omega
  have HCL := Lib.hid hcl
  clear hcl
  have hx := Boxed.start w 40 #[.slice a1 P.length k1, .slice a2 S.length k2, .slice a3 W.length k3]
  have hxa := hx.alloc (.cells #[.slice none 0 0, .slice none 0 0, .slice none 0 0] 40)
  have D := Blk.new' (w := w.alloc (.cells #[.slice a1 P.length k1, .slice a2 S.length k2, .slice a3 W.length k3] 40)) (t := 40) (cs := #[.slice none 0 0, .slice none 0 0, .slice none 0 0]) (g := w.heap.size + 1) (by simp)
  obtain ⟨w1, hw1⟩ : ∃ w1 : World, w1 = ((w.alloc (.cells #[.slice a1 P.length k1, .slice a2 S.length k2, .slice a3 W.length k3] 40)).alloc (.cells #[.slice none 0 0, .slice none 0 0, .slice none 0 0] 40)) := ⟨_, rfl⟩
  have hz1 : w.heap.size + 2 ≤ ((w.alloc (.cells #[.slice a1 P.length k1, .slice a2 S.length k2, .slice a3 W.length k3] 40)).alloc (.cells #[.slice none 0 0, .slice none 0 0, .slice none 0 0] 40)).heap.size := by simp
  clear hw1
  go_enter Try.func161, Try.ntmps161
  go_wp2_with fail
  have hx0 := hxa.trans (Below.refl _ _).drew
  have D0 := D.stays (Below.refl _ _).drew
  have HD : ((w.alloc (.cells #[.slice a1 P.length k1, .slice a2 S.length k2, .slice a3 W.length k3] 40)).alloc (.cells #[.slice none 0 0, .slice none 0 0, .slice none 0 0] 40)).drew.cell? ⟨w.heap.size, 0, none⟩ = some (.slice a1 P.length k1) ∧ ((w.alloc (.cells #[.slice a1 P.length k1, .slice a2 S.length k2, .slice a3 W.length k3] 40)).alloc (.cells #[.slice none 0 0, .slice none 0 0, .slice none 0 0] 40)).drew.cell? ⟨w.heap.size, 1, none⟩ = some (.slice a2 S.length k2) ∧ ((w.alloc (.cells #[.slice a1 P.length k1, .slice a2 S.length k2, .slice a3 W.length k3] 40)).alloc (.cells #[.slice none 0 0, .slice none 0 0, .slice none 0 0] 40)).drew.cell? ⟨w.heap.size, 2, none⟩ = some (.slice a3 W.length k3) := ⟨hx0.cell 0, hx0.cell 1, hx0.cell 2⟩
  go_region_held3 (fun w' => w'.cell? ⟨w.heap.size, 0, none⟩ = some (.slice a1 P.length k1) ∧ w'.cell? ⟨w.heap.size, 1, none⟩ = some (.slice a2 S.length k2) ∧ w'.cell? ⟨w.heap.size, 2, none⟩ = some (.slice a3 W.length k3))
    (first | assumption | exact HD | exact HE _ _ _)
    (first
      | (go_at_call 168; (with_reducible refine (clusterProximates_c _ _ _ P S W _ (hx0.rd hp) (hx0.rd hs) (hx0.rd hqq) hcl1.out hcl2 hcl3).mono ?_); rintro e w2 ⟨g, V, rfl, hrow, hq⟩; have hx2 := hx0.trans hq; have D2 := D0.stays hq; have hrd := hrow.rd (cap := P.length) (Nat.le_refl _) hcl4; have hz2 : ((w.alloc (.cells #[.slice a1 P.length k1, .slice a2 S.length k2, .slice a3 W.length k3] 40)).alloc (.cells #[.slice none 0 0, .slice none 0 0, .slice none 0 0] 40)).heap.size ≤ w2.heap.size := hq.size; have HD : w2.cell? ⟨w.heap.size, 0, none⟩ = some (.slice a1 P.length k1) ∧ w2.cell? ⟨w.heap.size, 1, none⟩ = some (.slice a2 S.length k2) ∧ w2.cell? ⟨w.heap.size, 2, none⟩ = some (.slice a3 W.length k3) := ⟨hx2.cell 0, hx2.cell 1, hx2.cell 2⟩)
      | (go_at_call 174; (with_reducible refine (checkedU_c _ _ _ _ _ P S W w2.heap.size _ (hx3.rd hp) (hx3.rd hs) HCL.out ho hz3).mono ?_); rintro e w4 ⟨b1, j1, b2, j2, b3, j3, rfl, ho3, hq⟩; have hx4 := hx3.trans hq; have D4 := D3.stays hq; have HD : w4.cell? ⟨w.heap.size, 0, none⟩ = some (.slice a1 P.length k1) ∧ w4.cell? ⟨w.heap.size, 1, none⟩ = some (.slice a2 S.length k2) ∧ w4.cell? ⟨w.heap.size, 2, none⟩ = some (.slice a3 W.length k3) := ⟨hx4.cell 0, hx4.cell 1, hx4.cell 2⟩; have f0 := D4.free 0; have f1 := D4.free 1; have f2 := D4.free 2; have e0 := D4.cell 0; have e1 := D4.cell 1; have e2 := D4.cell 2; have HE : ∀ u0 u1 u2 : Value, (((w4.setCell ⟨w.heap.size + 1, 0, none⟩ u0).setCell ⟨w.heap.size + 1, 1, none⟩ u1).setCell ⟨w.heap.size + 1, 2, none⟩ u2).cell? ⟨w.heap.size, 0, none⟩ = some (.slice a1 P.length k1) ∧ (((w4.setCell ⟨w.heap.size + 1, 0, none⟩ u0).setCell ⟨w.heap.size + 1, 1, none⟩ u1).setCell ⟨w.heap.size + 1, 2, none⟩ u2).cell? ⟨w.heap.size, 1, none⟩ = some (.slice a2 S.length k2) ∧ (((w4.setCell ⟨w.heap.size + 1, 0, none⟩ u0).setCell ⟨w.heap.size + 1, 1, none⟩ u1).setCell ⟨w.heap.size + 1, 2, none⟩ u2).cell? ⟨w.heap.size, 2, none⟩ = some (.slice a3 W.length k3) := fun u0 u1 u2 => have h := hx4.wrote ((((Keeps.refl (fun k => w.heap.size + 1 ≤ k) w4).setCell (p := ⟨w.heap.size + 1, 0, none⟩) (Nat.le_refl _) u0).setCell (p := ⟨w.heap.size + 1, 1, none⟩) (Nat.le_refl _) u1).setCell (p := ⟨w.heap.size + 1, 2, none⟩) (Nat.le_refl _) u2); ⟨h.cell 0, h.cell 1, h.cell 2⟩)
      | (go_at_call 213; (with_reducible refine (unloaded_c _ _ P S W W _ hrd (hx2.rd hqq) HCL.out hl.out hu.out).mono ?_); rintro e w3 ⟨a, k, rfl, ho, hq⟩; have hx3 := hx2.trans hq; have D3 := D2.stays hq; have hz3 : w2.heap.size ≤ w3.heap.size := hq.size; have HD : w3.cell? ⟨w.heap.size, 0, none⟩ = some (.slice a1 P.length k1) ∧ w3.cell? ⟨w.heap.size, 1, none⟩ = some (.slice a2 S.length k2) ∧ w3.cell? ⟨w.heap.size, 2, none⟩ = some (.slice a3 W.length k3) := ⟨hx3.cell 0, hx3.cell 1, hx3.cell 2⟩))
  go_wp2
  have F := ((D4.set 0 (.slice b1 (okL (uwB P S W) P).length j1)).set 1 (.slice b2 (okL (uwB P S W) S).length j2)).set 2 (.slice b3 (okL (uwB P S W) (unlL P S W)).length j3)
  have q0 := F.cell 0
  have q1 := F.cell 1
  have q2 := F.cell 2
  have hK : Keeps (fun k => k = w.heap.size + 1) w4 (((w4.setCell ⟨w.heap.size + 1, 0, none⟩ (.slice b1 (okL (uwB P S W) P).length j1)).setCell ⟨w.heap.size + 1, 1, none⟩ (.slice b2 (okL (uwB P S W) S).length j2)).setCell ⟨w.heap.size + 1, 2, none⟩ (.slice b3 (okL (uwB P S W) (unlL P S W)).length j3)) := ((((Keeps.refl (fun k => k = w.heap.size + 1) w4).setCell (p := ⟨w.heap.size + 1, 0, none⟩) rfl _).setCell (p := ⟨w.heap.size + 1, 1, none⟩) rfl _).setCell (p := ⟨w.heap.size + 1, 2, none⟩) rfl _)
  refine bodyPost_ret (v := .tuple #[.agg #[.slice b1 (okL (uwB P S W) P).length j1, .slice b2 (okL (uwB P S W) S).length j2, .slice b3 (okL (uwB P S W) (unlL P S W)).length j3], .int .i64 (okC (uwB P S W) 3)]) (by simp [results, Try.results161, go_sem, q0, q1, q2]) rfl ⟨_, _, _, _, _, _, rfl, ?_, ?_⟩
  · exact (ho3.keeps hK (fun k hk e => by have := (ho3.block k hk).1; omega)).base_le (by omega)
  · exact hx4.below.trans (hK.below (by have := hx4.size; omega) (fun k hk => by omega))

set_option maxHeartbeats 1000000 in
theorem implUC_1 (p s q : Value) (P S W : List Int) (w : World) (hp : Rd w p P) (hs : Rd w s S) (hq : Rd w q W) (hc : cluB P S W = false) :
    Calls Try.prog 62 #[.agg #[p, s, q]] w (RetCC w [] [] [] 1) := by
  obtain ⟨a1, k1, rfl⟩ := hp.len0
  obtain ⟨a2, k2, rfl⟩ := hs.len0
  obtain ⟨a3, k3, rfl⟩ := hq.len0
  have hqq := hq
  have hx := Boxed.start w 40 #[.slice a1 P.length k1, .slice a2 S.length k2, .slice a3 W.length k3]
  have hxa := hx.alloc (.cells #[.slice none 0 0, .slice none 0 0, .slice none 0 0] 40)
  have D := Blk.new' (w := w.alloc (.cells #[.slice a1 P.length k1, .slice a2 S.length k2, .slice a3 W.length k3] 40)) (t := 40) (cs := #[.slice none 0 0, .slice none 0 0, .slice none 0 0]) (g := w.heap.size + 1) (by simp)
  have c0 := hxa.cell 0
  have c1 := hxa.cell 1
  have c2 := hxa.cell 2
  go_enter Try.func62, Try.ntmps62
  go_wp2_with fail
  refine (implIsCluster_c _ _ _ P S W _ (hxa.rd hp) (hxa.rd hs) (hxa.rd hq)).mono ?_
  rintro e w1 ⟨rfl, hb⟩
  rw [hc]
  have D1 := D.stays hb
  have hx1 := hxa.trans hb
  have f0 := D1.free 0
  have f1 := D1.free 1
  have f2 := D1.free 2
  have e0 := D1.cell 0
  have e1 := D1.cell 1
  have e2 := D1.cell 2
  clear c0 c1 c2
  go_wp2
  have q0 := ((((D1).set 0 (.slice none 0 0)).set 1 (.slice none 0 0)).set 2 (.slice none 0 0)).cell 0
  have q1 := ((((D1).set 0 (.slice none 0 0)).set 1 (.slice none 0 0)).set 2 (.slice none 0 0)).cell 1
  have q2 := ((((D1).set 0 (.slice none 0 0)).set 1 (.slice none 0 0)).set 2 (.slice none 0 0)).cell 2
  refine bodyPost_ret (v := .tuple #[.agg #[.slice none 0 0, .slice none 0 0, .slice none 0 0], .int .i64 1]) (by simp [results, Try.results62, go_sem, q0, q1, q2]) rfl ⟨none, 0, none, 0, none, 0, rfl, own3_nil _ _ _, ?_⟩
  exact ((hx1.below.setCell (p := ⟨w.heap.size + 1, 0, none⟩) (Nat.le_succ _) _).setCell (p := ⟨w.heap.size + 1, 1, none⟩) (Nat.le_succ _) _).setCell (p := ⟨w.heap.size + 1, 2, none⟩) (Nat.le_succ _) _

set_option maxRecDepth 100000 in
set_option maxHeartbeats 600000 in
theorem implUC_2 (p s q : Value) (P S W : List Int) (w : World) (hp : Rd w p P) (hs : Rd w s S) (hq : Rd w q W) (hc : cluB P S W = true) :
    Calls Try.prog 62 #[.agg #[p, s, q]] w (RetCC w (okL (uwB P S W) P) (okL (uwB P S W) S) (okL (uwB P S W) (unlL P S W)) (okC (uwB P S W) 3)) := by
  obtain ⟨a1, k1, rfl⟩ := hp.len0
  obtain ⟨a2, k2, rfl⟩ := hs.len0
  obtain ⟨a3, k3, rfl⟩ := hq.len0
  have hqq := hq
  have hx := Boxed.start w 40 #[.slice a1 P.length k1, .slice a2 S.length k2, .slice a3 W.length k3]
  have hxa := hx.alloc (.cells #[.slice none 0 0, .slice none 0 0, .slice none 0 0] 40)
  have D := Blk.new' (w := w.alloc (.cells #[.slice a1 P.length k1, .slice a2 S.length k2, .slice a3 W.length k3] 40)) (t := 40) (cs := #[.slice none 0 0, .slice none 0 0, .slice none 0 0]) (g := w.heap.size + 1) (by simp)
  have c0 := hxa.cell 0
  have c1 := hxa.cell 1
  have c2 := hxa.cell 2
  go_enter Try.func62, Try.ntmps62
  go_wp2_with fail
  refine (implIsCluster_c _ _ _ P S W _ (hxa.rd hp) (hxa.rd hs) (hxa.rd hq)).mono ?_
  rintro e w1 ⟨rfl, hb⟩
  rw [hc]
  have D1 := D.stays hb
  have hx1 := hxa.trans hb
  have hz1 : w.heap.size + 2 ≤ w1.heap.size := Nat.le_trans (by simp) hb.size
  clear c0 c1 c2
  have c0 := hx1.cell 0
  have c1 := hx1.cell 1
  have c2 := hx1.cell 2
  go_wp2_with fail
  refine (unloadedCluster_c _ _ _ P S W _ (hx1.rd hp) (hx1.rd hs) (hx1.rd hq) hc).mono ?_
  rintro e w4 ⟨b1, j1, b2, j2, b3, j3, rfl, ho3, hq4⟩
  have hx4 := hx1.trans hq4
  have D4 := D1.stays hq4
  clear c0 c1 c2
  have f0 := D4.free 0
  have f1 := D4.free 1
  have f2 := D4.free 2
  have e0 := D4.cell 0
  have e1 := D4.cell 1
  have e2 := D4.cell 2
  go_wp2
  have F := ((D4.set 0 (.slice b1 (okL (uwB P S W) P).length j1)).set 1 (.slice b2 (okL (uwB P S W) S).length j2)).set 2 (.slice b3 (okL (uwB P S W) (unlL P S W)).length j3)
  have q0 := F.cell 0
  have q1 := F.cell 1
  have q2 := F.cell 2
  have hK : Keeps (fun k => k = w.heap.size + 1) w4 (((w4.setCell ⟨w.heap.size + 1, 0, none⟩ (.slice b1 (okL (uwB P S W) P).length j1)).setCell ⟨w.heap.size + 1, 1, none⟩ (.slice b2 (okL (uwB P S W) S).length j2)).setCell ⟨w.heap.size + 1, 2, none⟩ (.slice b3 (okL (uwB P S W) (unlL P S W)).length j3)) := ((((Keeps.refl (fun k => k = w.heap.size + 1) w4).setCell (p := ⟨w.heap.size + 1, 0, none⟩) rfl _).setCell (p := ⟨w.heap.size + 1, 1, none⟩) rfl _).setCell (p := ⟨w.heap.size + 1, 2, none⟩) rfl _)
  refine bodyPost_ret (v := .tuple #[.agg #[.slice b1 (okL (uwB P S W) P).length j1, .slice b2 (okL (uwB P S W) S).length j2, .slice b3 (okL (uwB P S W) (unlL P S W)).length j3], .int .i64 (okC (uwB P S W) 3)]) (by simp [results, Try.results62, go_sem, q0, q1, q2]) rfl ⟨_, _, _, _, _, _, rfl, ?_, ?_⟩
  · exact (ho3.keeps hK (fun k hk e => by have := (ho3.block k hk).1; omega)).base_le (by omega)
  · exact hx4.below.trans (hK.below (by have := hx4.size; omega) (fun k hk => by omega))

set_option maxHeartbeats 1000000 in
theorem specUC_1 (p s q : Value) (P S W : List Int) (w : World) (hp : Rd w p P) (hs : Rd w s S) (hq : Rd w q W) (hc : cluB P S W = false) :
    Calls Try.prog 63 #[.agg #[p, s, q]] w (RetCC w [] [] [] 1) := by
  obtain ⟨a1, k1, rfl⟩ := hp.len0
  obtain ⟨a2, k2, rfl⟩ := hs.len0
  obtain ⟨a3, k3, rfl⟩ := hq.len0
  have hqq := hq
  have hx := Boxed.start w 40 #[.slice a1 P.length k1, .slice a2 S.length k2, .slice a3 W.length k3]
  have hxa := hx.alloc (.cells #[.slice none 0 0, .slice none 0 0, .slice none 0 0] 40)
  have D := Blk.new' (w := w.alloc (.cells #[.slice a1 P.length k1, .slice a2 S.length k2, .slice a3 W.length k3] 40)) (t := 40) (cs := #[.slice none 0 0, .slice none 0 0, .slice none 0 0]) (g := w.heap.size + 1) (by simp)
  have c0 := hxa.cell 0
  have c1 := hxa.cell 1
  have c2 := hxa.cell 2
  go_enter Try.func63, Try.ntmps63
  go_wp2_with fail
  refine (l07Is_c _ _ _ P S W _ (hxa.rd hp) (hxa.rd hs) (hxa.rd hq)).mono ?_
  rintro e w1 ⟨rfl, hb⟩
  rw [hc]
  have D1 := D.stays hb
  have hx1 := hxa.trans hb
  have f0 := D1.free 0
  have f1 := D1.free 1
  have f2 := D1.free 2
  have e0 := D1.cell 0
  have e1 := D1.cell 1
  have e2 := D1.cell 2
  clear c0 c1 c2
  go_wp2
  have q0 := ((((D1).set 0 (.slice none 0 0)).set 1 (.slice none 0 0)).set 2 (.slice none 0 0)).cell 0
  have q1 := ((((D1).set 0 (.slice none 0 0)).set 1 (.slice none 0 0)).set 2 (.slice none 0 0)).cell 1
  have q2 := ((((D1).set 0 (.slice none 0 0)).set 1 (.slice none 0 0)).set 2 (.slice none 0 0)).cell 2
  refine bodyPost_ret (v := .tuple #[.agg #[.slice none 0 0, .slice none 0 0, .slice none 0 0], .int .i64 1]) (by simp [results, Try.results63, go_sem, q0, q1, q2]) rfl ⟨none, 0, none, 0, none, 0, rfl, own3_nil _ _ _, ?_⟩
  exact ((hx1.below.setCell (p := ⟨w.heap.size + 1, 0, none⟩) (Nat.le_succ _) _).setCell (p := ⟨w.heap.size + 1, 1, none⟩) (Nat.le_succ _) _).setCell (p := ⟨w.heap.size + 1, 2, none⟩) (Nat.le_succ _) _

set_option maxRecDepth 100000 in
set_option maxHeartbeats 4000000 in
theorem specUC_2 (p s q : Value) (P S W : List Int) (w : World) (hp : Rd w p P) (hs : Rd w s S) (hq : Rd w q W) (fb : Bool) (hc : cluB P S W = true) (hw0 : cluB P S (unlL P S W) = fb) :
    Calls Try.prog 63 #[.agg #[p, s, q]] w (RetCC w (okL fb P) (okL fb S) (okL fb (unlL P S W)) (okC fb 3)) := by
  obtain ⟨a1, k1, rfl⟩ := hp.len0
  obtain ⟨a2, k2, rfl⟩ := hs.len0
  obtain ⟨a3, k3, rfl⟩ := hq.len0
  have hqq := hq
  have hcl := cluB_iff.1 hc
  have hl := Lib.hid (clu_unlOk hcl).1
  have hu := Lib.hid (clu_unlOk hcl).2
  have hul := Lib.hid (unlL_len hcl)
  have hcl1 := Lib.hid (show S.length = P.length from hcl.1.2.2.1)
  have hcl2 : 0 < P.length := hcl.1.1
  have hcl3 : P.length ≤ 24 := hcl.1.2.1
  have hcl4 : P.length ≤ 9223372036854775807 := by omega
  have hcl5 : P.length ≤ 1000000 := by omega
  have HCL := Lib.hid hcl
  clear hcl
  have hwy := Lib.hid hw0
  clear hw0
  have hx := Boxed.start w 40 #[.slice a1 P.length k1, .slice a2 S.length k2, .slice a3 W.length k3]
  have hxa := hx.alloc (.cells #[.slice none 0 0, .slice none 0 0, .slice none 0 0] 40)
  have D := Blk.new' (w := w.alloc (.cells #[.slice a1 P.length k1, .slice a2 S.length k2, .slice a3 W.length k3] 40)) (t := 40) (cs := #[.slice none 0 0, .slice none 0 0, .slice none 0 0]) (g := w.heap.size + 1) (by simp)
  have c0 := hxa.cell 0
  have c1 := hxa.cell 1
  have c2 := hxa.cell 2
  go_enter Try.func63, Try.ntmps63
  go_wp2_with fail
  refine (l07Is_c _ _ _ P S W _ (hxa.rd hp) (hxa.rd hs) (hxa.rd hq)).mono ?_
  rintro e w1 ⟨rfl, hb⟩
  rw [hc]
  have D1 := D.stays hb
  have hx1 := hxa.trans hb
  clear c0 c1 c2
  have c0 := hx1.cell 0
  have c1 := hx1.cell 1
  have c2 := hx1.cell 2
  go_wp2_with fail
  clear c0 c1 c2
  have hz1 : w.heap.size + 2 ≤ w1.heap.size := Nat.le_trans (by simp) hb.size
  have hx0 := hx1.trans (Below.refl _ _).drew
  have D0 := D1.stays (Below.refl _ _).drew
  obtain ⟨wd, hwd⟩ : ∃ wd : World, wd = w1.drew := ⟨_, rfl⟩
  have hzd : w.heap.size + 2 ≤ wd.heap.size := by rw [hwd]; exact hz1
  have hxd : Boxed w wd 40 #[.slice a1 P.length k1, .slice a2 S.length k2, .slice a3 W.length k3] := by rw [hwd]; exact hx0
  have Dd : Blk wd (w.heap.size + 1) 40 #[.slice none 0 0, .slice none 0 0, .slice none 0 0] := by rw [hwd]; exact D0
  subst hwd
  have HD : w1.drew.cell? ⟨w.heap.size, 0, none⟩ = some (.slice a1 P.length k1) ∧ w1.drew.cell? ⟨w.heap.size, 1, none⟩ = some (.slice a2 S.length k2) ∧ w1.drew.cell? ⟨w.heap.size, 2, none⟩ = some (.slice a3 W.length k3) := ⟨hx0.cell 0, hx0.cell 1, hx0.cell 2⟩; have HA : ∀ u0 u1 u2 : Value, (w1.drew.alloc (.cells #[u0, u1, u2] 40)).cell? ⟨w.heap.size, 0, none⟩ = some (.slice a1 P.length k1) ∧ (w1.drew.alloc (.cells #[u0, u1, u2] 40)).cell? ⟨w.heap.size, 1, none⟩ = some (.slice a2 S.length k2) ∧ (w1.drew.alloc (.cells #[u0, u1, u2] 40)).cell? ⟨w.heap.size, 2, none⟩ = some (.slice a3 W.length k3) := fun u0 u1 u2 => have h := hx0.alloc (.cells #[u0, u1, u2] 40); ⟨h.cell 0, h.cell 1, h.cell 2⟩
  go_region_held3 (fun w' => w'.cell? ⟨w.heap.size, 0, none⟩ = some (.slice a1 P.length k1) ∧ w'.cell? ⟨w.heap.size, 1, none⟩ = some (.slice a2 S.length k2) ∧ w'.cell? ⟨w.heap.size, 2, none⟩ = some (.slice a3 W.length k3))
    (first | assumption | exact HD | exact HA _ _ _ | exact HE _ _ _)
    (first
      | (go_at_call 165; have hst : Below w1.drew.heap.size w1.drew w1.drew := Below.refl _ _; have hsa : w1.drew.heap.size = w1.drew.heap.size := rfl; (with_reducible refine (l08Unload_c _ _ _ _ _ _ _ P S W W _ (hx0.rd hp) (hx0.rd hs) rfl (hx0.rd hqq) HCL.out hl.out hu.out).mono ?_); rintro e v1 ⟨a', k', rfl, hr, hq⟩; have hy1 := hx0.trans hq; have G1 := (D0).stays hq; have hz2 := hq.size; (try have E := Blk.stays E hq); have HD : v1.cell? ⟨w.heap.size, 0, none⟩ = some (.slice a1 P.length k1) ∧ v1.cell? ⟨w.heap.size, 1, none⟩ = some (.slice a2 S.length k2) ∧ v1.cell? ⟨w.heap.size, 2, none⟩ = some (.slice a3 W.length k3) := ⟨hy1.cell 0, hy1.cell 1, hy1.cell 2⟩; have HA : ∀ u0 u1 u2 : Value, (v1.alloc (.cells #[u0, u1, u2] 40)).cell? ⟨w.heap.size, 0, none⟩ = some (.slice a1 P.length k1) ∧ (v1.alloc (.cells #[u0, u1, u2] 40)).cell? ⟨w.heap.size, 1, none⟩ = some (.slice a2 S.length k2) ∧ (v1.alloc (.cells #[u0, u1, u2] 40)).cell? ⟨w.heap.size, 2, none⟩ = some (.slice a3 W.length k3) := fun u0 u1 u2 => have h := hy1.alloc (.cells #[u0, u1, u2] 40); ⟨h.cell 0, h.cell 1, h.cell 2⟩)
      | (go_at_call 164; have hst : Below v1.heap.size v1 v1 := Below.refl _ _; have hsa : v1.heap.size = v1.heap.size := rfl; (with_reducible refine (l01OwnN_c P.length _ (unlL P S W) _ (hr.below hst (Nat.le_refl _)) hcl2 hcl5 hul.out).mono ?_); rintro e v2 ⟨a, k, rfl, ho, hq⟩; have hy2 := hy1.trans hq; have G2 := (G1).stays hq; have hz3 := hq.size; (try have E := Blk.stays E hq); have pL := ho.block; have HD : v2.cell? ⟨w.heap.size, 0, none⟩ = some (.slice a1 P.length k1) ∧ v2.cell? ⟨w.heap.size, 1, none⟩ = some (.slice a2 S.length k2) ∧ v2.cell? ⟨w.heap.size, 2, none⟩ = some (.slice a3 W.length k3) := ⟨hy2.cell 0, hy2.cell 1, hy2.cell 2⟩; have HA : ∀ u0 u1 u2 : Value, (v2.alloc (.cells #[u0, u1, u2] 40)).cell? ⟨w.heap.size, 0, none⟩ = some (.slice a1 P.length k1) ∧ (v2.alloc (.cells #[u0, u1, u2] 40)).cell? ⟨w.heap.size, 1, none⟩ = some (.slice a2 S.length k2) ∧ (v2.alloc (.cells #[u0, u1, u2] 40)).cell? ⟨w.heap.size, 2, none⟩ = some (.slice a3 W.length k3) := fun u0 u1 u2 => have h := hy2.alloc (.cells #[u0, u1, u2] 40); ⟨h.cell 0, h.cell 1, h.cell 2⟩)
      | (go_at_call 164; have hst : Below v1.heap.size v1 (v1.alloc (.cells #[.slice none 0 0, .slice none 0 0, .slice none 0 0] 40)) := (Below.refl _ _).alloc (Nat.le_refl _) _; have hsa : (v1.alloc (.cells #[.slice none 0 0, .slice none 0 0, .slice none 0 0] 40)).heap.size = v1.heap.size + 1 := (by simp); (with_reducible refine (l01OwnN_c P.length _ (unlL P S W) _ (hr.below hst (Nat.le_refl _)) hcl2 hcl5 hul.out).mono ?_); rintro e v2 ⟨a, k, rfl, ho, hq⟩; have hy2 := (hy1.alloc (.cells #[.slice none 0 0, .slice none 0 0, .slice none 0 0] 40)).trans hq; have G2 := (G1.alloc (.cells #[.slice none 0 0, .slice none 0 0, .slice none 0 0] 40)).stays hq; have hz3 := hq.size; have hN : w.heap.size + 2 ≤ v1.heap.size := (by (first | exact hz1 | omega)); have E := (Blk.new v1 40 #[.slice none 0 0, .slice none 0 0, .slice none 0 0]).stays hq; have pL := ho.block; have HD : v2.cell? ⟨w.heap.size, 0, none⟩ = some (.slice a1 P.length k1) ∧ v2.cell? ⟨w.heap.size, 1, none⟩ = some (.slice a2 S.length k2) ∧ v2.cell? ⟨w.heap.size, 2, none⟩ = some (.slice a3 W.length k3) := ⟨hy2.cell 0, hy2.cell 1, hy2.cell 2⟩; have HA : ∀ u0 u1 u2 : Value, (v2.alloc (.cells #[u0, u1, u2] 40)).cell? ⟨w.heap.size, 0, none⟩ = some (.slice a1 P.length k1) ∧ (v2.alloc (.cells #[u0, u1, u2] 40)).cell? ⟨w.heap.size, 1, none⟩ = some (.slice a2 S.length k2) ∧ (v2.alloc (.cells #[u0, u1, u2] 40)).cell? ⟨w.heap.size, 2, none⟩ = some (.slice a3 W.length k3) := fun u0 u1 u2 => have h := hy2.alloc (.cells #[u0, u1, u2] 40); ⟨h.cell 0, h.cell 1, h.cell 2⟩)
      | (go_at_call 163; have hst : Below v2.heap.size v2 v2 := Below.refl _ _; have hsa : v2.heap.size = v2.heap.size := rfl; (with_reducible refine (l07With_c _ _ _ _ _ _ P S W _ (hy2.rd hp) (hy2.rd hs) HCL.out).mono ?_); rintro e v3 ⟨b1, j1, b2, j2, rfl, o1, o2, ap, hq⟩; have hy3 := hy2.trans hq; have G3 := (G2).stays hq; have hz4 := hq.size; (try have E := Blk.stays E hq); have pP := o1.block; have pS := o2.block; have o3 := (ho.below hst (Nat.le_refl _)).below hq (Nat.le_refl _); have HD : v3.cell? ⟨w.heap.size, 0, none⟩ = some (.slice a1 P.length k1) ∧ v3.cell? ⟨w.heap.size, 1, none⟩ = some (.slice a2 S.length k2) ∧ v3.cell? ⟨w.heap.size, 2, none⟩ = some (.slice a3 W.length k3) := ⟨hy3.cell 0, hy3.cell 1, hy3.cell 2⟩; have HA : ∀ u0 u1 u2 : Value, (v3.alloc (.cells #[u0, u1, u2] 40)).cell? ⟨w.heap.size, 0, none⟩ = some (.slice a1 P.length k1) ∧ (v3.alloc (.cells #[u0, u1, u2] 40)).cell? ⟨w.heap.size, 1, none⟩ = some (.slice a2 S.length k2) ∧ (v3.alloc (.cells #[u0, u1, u2] 40)).cell? ⟨w.heap.size, 2, none⟩ = some (.slice a3 W.length k3) := fun u0 u1 u2 => have h := hy3.alloc (.cells #[u0, u1, u2] 40); ⟨h.cell 0, h.cell 1, h.cell 2⟩)
      | (go_at_call 163; have hst : Below v2.heap.size v2 (v2.alloc (.cells #[.slice none 0 0, .slice none 0 0, .slice none 0 0] 40)) := (Below.refl _ _).alloc (Nat.le_refl _) _; have hsa : (v2.alloc (.cells #[.slice none 0 0, .slice none 0 0, .slice none 0 0] 40)).heap.size = v2.heap.size + 1 := (by simp); (with_reducible refine (l07With_c _ _ _ _ _ _ P S W _ ((hy2.alloc (.cells #[.slice none 0 0, .slice none 0 0, .slice none 0 0] 40)).rd hp) ((hy2.alloc (.cells #[.slice none 0 0, .slice none 0 0, .slice none 0 0] 40)).rd hs) HCL.out).mono ?_); rintro e v3 ⟨b1, j1, b2, j2, rfl, o1, o2, ap, hq⟩; have hy3 := (hy2.alloc (.cells #[.slice none 0 0, .slice none 0 0, .slice none 0 0] 40)).trans hq; have G3 := (G2.alloc (.cells #[.slice none 0 0, .slice none 0 0, .slice none 0 0] 40)).stays hq; have hz4 := hq.size; have hN : w.heap.size + 2 ≤ v2.heap.size := (by (first | exact hz1 | omega)); have E := (Blk.new v2 40 #[.slice none 0 0, .slice none 0 0, .slice none 0 0]).stays hq; have pP := o1.block; have pS := o2.block; have o3 := (ho.below hst (Nat.le_refl _)).below hq (Nat.le_refl _); have HD : v3.cell? ⟨w.heap.size, 0, none⟩ = some (.slice a1 P.length k1) ∧ v3.cell? ⟨w.heap.size, 1, none⟩ = some (.slice a2 S.length k2) ∧ v3.cell? ⟨w.heap.size, 2, none⟩ = some (.slice a3 W.length k3) := ⟨hy3.cell 0, hy3.cell 1, hy3.cell 2⟩; have HA : ∀ u0 u1 u2 : Value, (v3.alloc (.cells #[u0, u1, u2] 40)).cell? ⟨w.heap.size, 0, none⟩ = some (.slice a1 P.length k1) ∧ (v3.alloc (.cells #[u0, u1, u2] 40)).cell? ⟨w.heap.size, 1, none⟩ = some (.slice a2 S.length k2) ∧ (v3.alloc (.cells #[u0, u1, u2] 40)).cell? ⟨w.heap.size, 2, none⟩ = some (.slice a3 W.length k3) := fun u0 u1 u2 => have h := hy3.alloc (.cells #[u0, u1, u2] 40); ⟨h.cell 0, h.cell 1, h.cell 2⟩)
      | (go_at_call 162; have hst : Below v3.heap.size v3 v3 := Below.refl _ _; have hsa : v3.heap.size = v3.heap.size := rfl; (with_reducible refine (l07Fit_v fb _ _ _ _ _ _ _ P S (unlL P S W) _ (o1.rd.below hst (Nat.le_refl _)) (o2.rd.below hst (Nat.le_refl _)) (o3.rd.below hst (Nat.le_refl _)) hul.out hwy.out).mono ?_); rintro e v4 ⟨rfl, hq⟩; have hy4 := hy3.trans hq; have G4 := (G3).stays hq; have hz5 := hq.size; (try have E := Blk.stays E hq); have o4 := (o1.below hst (Nat.le_refl _)).below hq (Nat.le_refl _); have o5 := (o2.below hst (Nat.le_refl _)).below hq (Nat.le_refl _); have o6 := (o3.below hst (Nat.le_refl _)).below hq (Nat.le_refl _); have HD : v4.cell? ⟨w.heap.size, 0, none⟩ = some (.slice a1 P.length k1) ∧ v4.cell? ⟨w.heap.size, 1, none⟩ = some (.slice a2 S.length k2) ∧ v4.cell? ⟨w.heap.size, 2, none⟩ = some (.slice a3 W.length k3) := ⟨hy4.cell 0, hy4.cell 1, hy4.cell 2⟩; have HA : ∀ u0 u1 u2 : Value, (v4.alloc (.cells #[u0, u1, u2] 40)).cell? ⟨w.heap.size, 0, none⟩ = some (.slice a1 P.length k1) ∧ (v4.alloc (.cells #[u0, u1, u2] 40)).cell? ⟨w.heap.size, 1, none⟩ = some (.slice a2 S.length k2) ∧ (v4.alloc (.cells #[u0, u1, u2] 40)).cell? ⟨w.heap.size, 2, none⟩ = some (.slice a3 W.length k3) := fun u0 u1 u2 => have h := hy4.alloc (.cells #[u0, u1, u2] 40); ⟨h.cell 0, h.cell 1, h.cell 2⟩; (try have HE := fun u0 u1 u2 => have h := (store3 E G4 hy4 (by omega) (by omega) u0 u1 u2).2.2.1; And.intro (h.cell 0) (And.intro (h.cell 1) (h.cell 2))); (try have r0 := Blk.free E 0); (try have r1 := Blk.free E 1); (try have r2 := Blk.free E 2); (try have s0 := Blk.cell E 0); (try have s1 := Blk.cell E 1); (try have s2 := Blk.cell E 2))
      | (go_at_call 162; have hst : Below v3.heap.size v3 (v3.alloc (.cells #[.slice none 0 0, .slice none 0 0, .slice none 0 0] 40)) := (Below.refl _ _).alloc (Nat.le_refl _) _; have hsa : (v3.alloc (.cells #[.slice none 0 0, .slice none 0 0, .slice none 0 0] 40)).heap.size = v3.heap.size + 1 := (by simp); (with_reducible refine (l07Fit_v fb _ _ _ _ _ _ _ P S (unlL P S W) _ (o1.rd.below hst (Nat.le_refl _)) (o2.rd.below hst (Nat.le_refl _)) (o3.rd.below hst (Nat.le_refl _)) hul.out hwy.out).mono ?_); rintro e v4 ⟨rfl, hq⟩; have hy4 := (hy3.alloc (.cells #[.slice none 0 0, .slice none 0 0, .slice none 0 0] 40)).trans hq; have G4 := (G3.alloc (.cells #[.slice none 0 0, .slice none 0 0, .slice none 0 0] 40)).stays hq; have hz5 := hq.size; have hN : w.heap.size + 2 ≤ v3.heap.size := (by (first | exact hz1 | omega)); have E := (Blk.new v3 40 #[.slice none 0 0, .slice none 0 0, .slice none 0 0]).stays hq; have o4 := (o1.below hst (Nat.le_refl _)).below hq (Nat.le_refl _); have o5 := (o2.below hst (Nat.le_refl _)).below hq (Nat.le_refl _); have o6 := (o3.below hst (Nat.le_refl _)).below hq (Nat.le_refl _); have HD : v4.cell? ⟨w.heap.size, 0, none⟩ = some (.slice a1 P.length k1) ∧ v4.cell? ⟨w.heap.size, 1, none⟩ = some (.slice a2 S.length k2) ∧ v4.cell? ⟨w.heap.size, 2, none⟩ = some (.slice a3 W.length k3) := ⟨hy4.cell 0, hy4.cell 1, hy4.cell 2⟩; have HA : ∀ u0 u1 u2 : Value, (v4.alloc (.cells #[u0, u1, u2] 40)).cell? ⟨w.heap.size, 0, none⟩ = some (.slice a1 P.length k1) ∧ (v4.alloc (.cells #[u0, u1, u2] 40)).cell? ⟨w.heap.size, 1, none⟩ = some (.slice a2 S.length k2) ∧ (v4.alloc (.cells #[u0, u1, u2] 40)).cell? ⟨w.heap.size, 2, none⟩ = some (.slice a3 W.length k3) := fun u0 u1 u2 => have h := hy4.alloc (.cells #[u0, u1, u2] 40); ⟨h.cell 0, h.cell 1, h.cell 2⟩; (try have HE := fun u0 u1 u2 => have h := (store3 E G4 hy4 (by omega) (by omega) u0 u1 u2).2.2.1; And.intro (h.cell 0) (And.intro (h.cell 1) (h.cell 2))); (try have r0 := Blk.free E 0); (try have r1 := Blk.free E 1); (try have r2 := Blk.free E 2); (try have s0 := Blk.cell E 0); (try have s1 := Blk.cell E 1); (try have s2 := Blk.cell E 2))
      | (go_at_call 165; have hsa : (w1.alloc (.cells #[.slice none 0 0, .slice none 0 0, .slice none 0 0] 40)).drew.heap.size = w1.drew.heap.size + 1 := (by simp); (with_reducible refine (l08Unload_c _ _ _ _ _ _ _ P S W W _ (((hx1.alloc (.cells #[.slice none 0 0, .slice none 0 0, .slice none 0 0] 40)).trans (show Below (w1.alloc (.cells #[.slice none 0 0, .slice none 0 0, .slice none 0 0] 40)).heap.size (w1.alloc (.cells #[.slice none 0 0, .slice none 0 0, .slice none 0 0] 40)) (w1.alloc (.cells #[.slice none 0 0, .slice none 0 0, .slice none 0 0] 40)).drew from (Below.refl _ _).drew)).rd hp) (((hx1.alloc (.cells #[.slice none 0 0, .slice none 0 0, .slice none 0 0] 40)).trans (show Below (w1.alloc (.cells #[.slice none 0 0, .slice none 0 0, .slice none 0 0] 40)).heap.size (w1.alloc (.cells #[.slice none 0 0, .slice none 0 0, .slice none 0 0] 40)) (w1.alloc (.cells #[.slice none 0 0, .slice none 0 0, .slice none 0 0] 40)).drew from (Below.refl _ _).drew)).rd hs) rfl (((hx1.alloc (.cells #[.slice none 0 0, .slice none 0 0, .slice none 0 0] 40)).trans (show Below (w1.alloc (.cells #[.slice none 0 0, .slice none 0 0, .slice none 0 0] 40)).heap.size (w1.alloc (.cells #[.slice none 0 0, .slice none 0 0, .slice none 0 0] 40)) (w1.alloc (.cells #[.slice none 0 0, .slice none 0 0, .slice none 0 0] 40)).drew from (Below.refl _ _).drew)).rd hqq) HCL.out hl.out hu.out).mono ?_); rintro e v1 ⟨a', k', rfl, hr, hq⟩; have hy1 := ((hx1.alloc (.cells #[.slice none 0 0, .slice none 0 0, .slice none 0 0] 40)).trans (show Below (w1.alloc (.cells #[.slice none 0 0, .slice none 0 0, .slice none 0 0] 40)).heap.size (w1.alloc (.cells #[.slice none 0 0, .slice none 0 0, .slice none 0 0] 40)) (w1.alloc (.cells #[.slice none 0 0, .slice none 0 0, .slice none 0 0] 40)).drew from (Below.refl _ _).drew)).trans hq; have G1 := ((D1.alloc (.cells #[.slice none 0 0, .slice none 0 0, .slice none 0 0] 40)).stays (show Below (w1.alloc (.cells #[.slice none 0 0, .slice none 0 0, .slice none 0 0] 40)).heap.size (w1.alloc (.cells #[.slice none 0 0, .slice none 0 0, .slice none 0 0] 40)) (w1.alloc (.cells #[.slice none 0 0, .slice none 0 0, .slice none 0 0] 40)).drew from (Below.refl _ _).drew)).stays hq; have hz2 := hq.size; have hN : w.heap.size + 2 ≤ w1.drew.heap.size := (by (first | exact hz1 | omega)); have E := ((Blk.new w1 40 #[.slice none 0 0, .slice none 0 0, .slice none 0 0]).stays (show Below (w1.alloc (.cells #[.slice none 0 0, .slice none 0 0, .slice none 0 0] 40)).heap.size (w1.alloc (.cells #[.slice none 0 0, .slice none 0 0, .slice none 0 0] 40)) (w1.alloc (.cells #[.slice none 0 0, .slice none 0 0, .slice none 0 0] 40)).drew from (Below.refl _ _).drew)).stays hq; have HD : v1.cell? ⟨w.heap.size, 0, none⟩ = some (.slice a1 P.length k1) ∧ v1.cell? ⟨w.heap.size, 1, none⟩ = some (.slice a2 S.length k2) ∧ v1.cell? ⟨w.heap.size, 2, none⟩ = some (.slice a3 W.length k3) := ⟨hy1.cell 0, hy1.cell 1, hy1.cell 2⟩; have HA : ∀ u0 u1 u2 : Value, (v1.alloc (.cells #[u0, u1, u2] 40)).cell? ⟨w.heap.size, 0, none⟩ = some (.slice a1 P.length k1) ∧ (v1.alloc (.cells #[u0, u1, u2] 40)).cell? ⟨w.heap.size, 1, none⟩ = some (.slice a2 S.length k2) ∧ (v1.alloc (.cells #[u0, u1, u2] 40)).cell? ⟨w.heap.size, 2, none⟩ = some (.slice a3 W.length k3) := fun u0 u1 u2 => have h := hy1.alloc (.cells #[u0, u1, u2] 40); ⟨h.cell 0, h.cell 1, h.cell 2⟩))
  · have hdr : w1.drew.heap.size = w1.heap.size := rfl
    have E5 := Blk.new v4 40 #[.slice (oA fb b1) (oN fb P.length) (oN fb j1), .slice (oA fb b2) (oN fb S.length) (oN fb j2), .slice (oA fb a) (oN fb P.length) (oN fb k)]
    have D5 := G4.alloc (.cells #[.slice (oA fb b1) (oN fb P.length) (oN fb j1), .slice (oA fb b2) (oN fb S.length) (oN fb j2), .slice (oA fb a) (oN fb P.length) (oN fb k)] 40)
    have hx5 := hy4.alloc (.cells #[.slice (oA fb b1) (oN fb P.length) (oN fb j1), .slice (oA fb b2) (oN fb S.length) (oN fb j2), .slice (oA fb a) (oN fb P.length) (oN fb k)] 40)
    have hk5 : Keeps (fun k => k = v4.heap.size) v4 (v4.alloc (.cells #[.slice (oA fb b1) (oN fb P.length) (oN fb j1), .slice (oA fb b2) (oN fb S.length) (oN fb j2), .slice (oA fb a) (oN fb P.length) (oN fb k)] 40)) := Keeps.of_below ((Below.refl _ _).alloc (Nat.le_refl _) _)
    have o7 := o4.below (show Below v4.heap.size v4 (v4.alloc (.cells #[.slice (oA fb b1) (oN fb P.length) (oN fb j1), .slice (oA fb b2) (oN fb S.length) (oN fb j2), .slice (oA fb a) (oN fb P.length) (oN fb k)] 40)) from (Below.refl _ _).alloc (Nat.le_refl _) _) (Nat.le_refl _)
    have o8 := o5.below (show Below v4.heap.size v4 (v4.alloc (.cells #[.slice (oA fb b1) (oN fb P.length) (oN fb j1), .slice (oA fb b2) (oN fb S.length) (oN fb j2), .slice (oA fb a) (oN fb P.length) (oN fb k)] 40)) from (Below.refl _ _).alloc (Nat.le_refl _) _) (Nat.le_refl _)
    have o9 := o6.below (show Below v4.heap.size v4 (v4.alloc (.cells #[.slice (oA fb b1) (oN fb P.length) (oN fb j1), .slice (oA fb b2) (oN fb S.length) (oN fb j2), .slice (oA fb a) (oN fb P.length) (oN fb k)] 40)) from (Below.refl _ _).alloc (Nat.le_refl _) _) (Nat.le_refl _)
    generalize hw5 : (v4.alloc (.cells #[.slice (oA fb b1) (oN fb P.length) (oN fb j1), .slice (oA fb b2) (oN fb S.length) (oN fb j2), .slice (oA fb a) (oN fb P.length) (oN fb k)] 40)) = w5 at E5 D5 hx5 hk5 o7 o8 o9 ⊢
    clear hw5
    have ho5 : Own3 2 w5 w1.heap.size (.slice (oA fb b1) (oN fb P.length) (oN fb j1)) (.slice (oA fb b2) (oN fb S.length) (oN fb j2)) (.slice (oA fb a) (oN fb P.length) (oN fb k)) (okL fb P) (okL fb S) (okL fb (unlL P S W)) := own3_fit fb ⟨o7.base_le (by omega), o8.base_le (by omega), o9.base_le (by omega), ap, fun k h1 h2 => by have := pP k h1; have := pL k h2; omega, fun k h1 h2 => by have := pS k h1; have := pL k h2; omega⟩
    have g0 : w5.cell? ⟨v4.heap.size, 0, none⟩ = some (.slice (oA fb b1) (oN fb P.length) (oN fb j1)) := by have := E5.cell 0; simpa using this
    have g1 : w5.cell? ⟨v4.heap.size, 1, none⟩ = some (.slice (oA fb b2) (oN fb S.length) (oN fb j2)) := by have := E5.cell 1; simpa using this
    have g2 : w5.cell? ⟨v4.heap.size, 2, none⟩ = some (.slice (oA fb a) (oN fb P.length) (oN fb k)) := by have := E5.cell 2; simpa using this
    have f0 := D5.free 0
    have f1 := D5.free 1
    have f2 := D5.free 2
    have e0 := D5.cell 0
    have e1 := D5.cell 1
    have e2 := D5.cell 2
    go_wp2
    have F := ((D5.set 0 (.slice (oA fb b1) (oN fb P.length) (oN fb j1))).set 1 (.slice (oA fb b2) (oN fb S.length) (oN fb j2))).set 2 (.slice (oA fb a) (oN fb P.length) (oN fb k))
    have q0 := F.cell 0
    have q1 := F.cell 1
    have q2 := F.cell 2
    have hK : Keeps (fun k => k = w.heap.size + 1) w5 (((w5.setCell ⟨w.heap.size + 1, 0, none⟩ (.slice (oA fb b1) (oN fb P.length) (oN fb j1))).setCell ⟨w.heap.size + 1, 1, none⟩ (.slice (oA fb b2) (oN fb S.length) (oN fb j2))).setCell ⟨w.heap.size + 1, 2, none⟩ (.slice (oA fb a) (oN fb P.length) (oN fb k))) := ((((Keeps.refl (fun k => k = w.heap.size + 1) w5).setCell (p := ⟨w.heap.size + 1, 0, none⟩) rfl _).setCell (p := ⟨w.heap.size + 1, 1, none⟩) rfl _).setCell (p := ⟨w.heap.size + 1, 2, none⟩) rfl _)
    refine bodyPost_ret (v := .tuple #[.agg #[.slice (oA fb b1) (oN fb P.length) (oN fb j1), .slice (oA fb b2) (oN fb S.length) (oN fb j2), .slice (oA fb a) (oN fb P.length) (oN fb k)], .int .i64 (okC fb 3)]) (by simp [results, Try.results63, go_sem, q0, q1, q2]) rfl (retCC_fit (hul.out) ?_ ?_)
    · exact (ho5.keeps hK (fun k hk e => by have := (ho5.block k hk).1; omega)).base_le (by omega)
    · exact hx5.below.trans (hK.below (by have := hx5.size; omega) (fun k hk => by omega))
  · have hdr : w1.drew.heap.size = w1.heap.size := rfl
    obtain ⟨E5, D5, hx5, hk5⟩ := store3 E G4 hy4 (by omega) (by omega) (.slice (oA fb b1) (oN fb P.length) (oN fb j1)) (.slice (oA fb b2) (oN fb S.length) (oN fb j2)) (.slice (oA fb a) (oN fb P.length) (oN fb k))
    have o7 := o4.keeps hk5 (fun k hk e => by have := pP k hk; omega)
    have o8 := o5.keeps hk5 (fun k hk e => by have := pS k hk; omega)
    have o9 := o6.keeps hk5 (fun k hk e => by have := pL k hk; omega)
    generalize hw5 : (((v4.setCell ⟨v3.heap.size, 0, none⟩ (.slice (oA fb b1) (oN fb P.length) (oN fb j1))).setCell ⟨v3.heap.size, 1, none⟩ (.slice (oA fb b2) (oN fb S.length) (oN fb j2))).setCell ⟨v3.heap.size, 2, none⟩ (.slice (oA fb a) (oN fb P.length) (oN fb k))) = w5 at E5 D5 hx5 hk5 o7 o8 o9 ⊢
    clear hw5
    have ho5 : Own3 2 w5 w1.heap.size (.slice (oA fb b1) (oN fb P.length) (oN fb j1)) (.slice (oA fb b2) (oN fb S.length) (oN fb j2)) (.slice (oA fb a) (oN fb P.length) (oN fb k)) (okL fb P) (okL fb S) (okL fb (unlL P S W)) := own3_fit fb ⟨o7.base_le (by omega), o8.base_le (by omega), o9.base_le (by omega), ap, fun k h1 h2 => by have := pP k h1; have := pL k h2; omega, fun k h1 h2 => by have := pS k h1; have := pL k h2; omega⟩
    have g0 : w5.cell? ⟨v3.heap.size, 0, none⟩ = some (.slice (oA fb b1) (oN fb P.length) (oN fb j1)) := by have := E5.cell 0; simpa using this
    have g1 : w5.cell? ⟨v3.heap.size, 1, none⟩ = some (.slice (oA fb b2) (oN fb S.length) (oN fb j2)) := by have := E5.cell 1; simpa using this
    have g2 : w5.cell? ⟨v3.heap.size, 2, none⟩ = some (.slice (oA fb a) (oN fb P.length) (oN fb k)) := by have := E5.cell 2; simpa using this
    have f0 := D5.free 0
    have f1 := D5.free 1
    have f2 := D5.free 2
    have e0 := D5.cell 0
    have e1 := D5.cell 1
    have e2 := D5.cell 2
    go_wp2
    have F := ((D5.set 0 (.slice (oA fb b1) (oN fb P.length) (oN fb j1))).set 1 (.slice (oA fb b2) (oN fb S.length) (oN fb j2))).set 2 (.slice (oA fb a) (oN fb P.length) (oN fb k))
    have q0 := F.cell 0
    have q1 := F.cell 1
    have q2 := F.cell 2
    have hK : Keeps (fun k => k = w.heap.size + 1) w5 (((w5.setCell ⟨w.heap.size + 1, 0, none⟩ (.slice (oA fb b1) (oN fb P.length) (oN fb j1))).setCell ⟨w.heap.size + 1, 1, none⟩ (.slice (oA fb b2) (oN fb S.length) (oN fb j2))).setCell ⟨w.heap.size + 1, 2, none⟩ (.slice (oA fb a) (oN fb P.length) (oN fb k))) := ((((Keeps.refl (fun k => k = w.heap.size + 1) w5).setCell (p := ⟨w.heap.size + 1, 0, none⟩) rfl _).setCell (p := ⟨w.heap.size + 1, 1, none⟩) rfl _).setCell (p := ⟨w.heap.size + 1, 2, none⟩) rfl _)
    refine bodyPost_ret (v := .tuple #[.agg #[.slice (oA fb b1) (oN fb P.length) (oN fb j1), .slice (oA fb b2) (oN fb S.length) (oN fb j2), .slice (oA fb a) (oN fb P.length) (oN fb k)], .int .i64 (okC fb 3)]) (by simp [results, Try.results63, go_sem, q0, q1, q2]) rfl (retCC_fit (hul.out) ?_ ?_)
    · exact (ho5.keeps hK (fun k hk e => by have := (ho5.block k hk).1; omega)).base_le (by omega)
    · exact hx5.below.trans (hK.below (by have := hx5.size; omega) (fun k hk => by omega))
  · have hdr : w1.drew.heap.size = w1.heap.size := rfl
    obtain ⟨E5, D5, hx5, hk5⟩ := store3 E G4 hy4 (by omega) (by omega) (.slice (oA fb b1) (oN fb P.length) (oN fb j1)) (.slice (oA fb b2) (oN fb S.length) (oN fb j2)) (.slice (oA fb a) (oN fb P.length) (oN fb k))
    have o7 := o4.keeps hk5 (fun k hk e => by have := pP k hk; omega)
    have o8 := o5.keeps hk5 (fun k hk e => by have := pS k hk; omega)
    have o9 := o6.keeps hk5 (fun k hk e => by have := pL k hk; omega)
    generalize hw5 : (((v4.setCell ⟨v2.heap.size, 0, none⟩ (.slice (oA fb b1) (oN fb P.length) (oN fb j1))).setCell ⟨v2.heap.size, 1, none⟩ (.slice (oA fb b2) (oN fb S.length) (oN fb j2))).setCell ⟨v2.heap.size, 2, none⟩ (.slice (oA fb a) (oN fb P.length) (oN fb k))) = w5 at E5 D5 hx5 hk5 o7 o8 o9 ⊢
    clear hw5
    have ho5 : Own3 2 w5 w1.heap.size (.slice (oA fb b1) (oN fb P.length) (oN fb j1)) (.slice (oA fb b2) (oN fb S.length) (oN fb j2)) (.slice (oA fb a) (oN fb P.length) (oN fb k)) (okL fb P) (okL fb S) (okL fb (unlL P S W)) := own3_fit fb ⟨o7.base_le (by omega), o8.base_le (by omega), o9.base_le (by omega), ap, fun k h1 h2 => by have := pP k h1; have := pL k h2; omega, fun k h1 h2 => by have := pS k h1; have := pL k h2; omega⟩
    have g0 : w5.cell? ⟨v2.heap.size, 0, none⟩ = some (.slice (oA fb b1) (oN fb P.length) (oN fb j1)) := by have := E5.cell 0; simpa using this
    have g1 : w5.cell? ⟨v2.heap.size, 1, none⟩ = some (.slice (oA fb b2) (oN fb S.length) (oN fb j2)) := by have := E5.cell 1; simpa using this
    have g2 : w5.cell? ⟨v2.heap.size, 2, none⟩ = some (.slice (oA fb a) (oN fb P.length) (oN fb k)) := by have := E5.cell 2; simpa using this
    have f0 := D5.free 0
    have f1 := D5.free 1
    have f2 := D5.free 2
    have e0 := D5.cell 0
    have e1 := D5.cell 1
    have e2 := D5.cell 2
    go_wp2
    have F := ((D5.set 0 (.slice (oA fb b1) (oN fb P.length) (oN fb j1))).set 1 (.slice (oA fb b2) (oN fb S.length) (oN fb j2))).set 2 (.slice (oA fb a) (oN fb P.length) (oN fb k))
    have q0 := F.cell 0
    have q1 := F.cell 1
    have q2 := F.cell 2
    have hK : Keeps (fun k => k = w.heap.size + 1) w5 (((w5.setCell ⟨w.heap.size + 1, 0, none⟩ (.slice (oA fb b1) (oN fb P.length) (oN fb j1))).setCell ⟨w.heap.size + 1, 1, none⟩ (.slice (oA fb b2) (oN fb S.length) (oN fb j2))).setCell ⟨w.heap.size + 1, 2, none⟩ (.slice (oA fb a) (oN fb P.length) (oN fb k))) := ((((Keeps.refl (fun k => k = w.heap.size + 1) w5).setCell (p := ⟨w.heap.size + 1, 0, none⟩) rfl _).setCell (p := ⟨w.heap.size + 1, 1, none⟩) rfl _).setCell (p := ⟨w.heap.size + 1, 2, none⟩) rfl _)
    refine bodyPost_ret (v := .tuple #[.agg #[.slice (oA fb b1) (oN fb P.length) (oN fb j1), .slice (oA fb b2) (oN fb S.length) (oN fb j2), .slice (oA fb a) (oN fb P.length) (oN fb k)], .int .i64 (okC fb 3)]) (by simp [results, Try.results63, go_sem, q0, q1, q2]) rfl (retCC_fit (hul.out) ?_ ?_)
    · exact (ho5.keeps hK (fun k hk e => by have := (ho5.block k hk).1; omega)).base_le (by omega)
    · exact hx5.below.trans (hK.below (by have := hx5.size; omega) (fun k hk => by omega))
  · have hdr : w1.drew.heap.size = w1.heap.size := rfl
    obtain ⟨E5, D5, hx5, hk5⟩ := store3 E G4 hy4 (by omega) (by omega) (.slice (oA fb b1) (oN fb P.length) (oN fb j1)) (.slice (oA fb b2) (oN fb S.length) (oN fb j2)) (.slice (oA fb a) (oN fb P.length) (oN fb k))
    have o7 := o4.keeps hk5 (fun k hk e => by have := pP k hk; omega)
    have o8 := o5.keeps hk5 (fun k hk e => by have := pS k hk; omega)
    have o9 := o6.keeps hk5 (fun k hk e => by have := pL k hk; omega)
    generalize hw5 : (((v4.setCell ⟨v1.heap.size, 0, none⟩ (.slice (oA fb b1) (oN fb P.length) (oN fb j1))).setCell ⟨v1.heap.size, 1, none⟩ (.slice (oA fb b2) (oN fb S.length) (oN fb j2))).setCell ⟨v1.heap.size, 2, none⟩ (.slice (oA fb a) (oN fb P.length) (oN fb k))) = w5 at E5 D5 hx5 hk5 o7 o8 o9 ⊢
    clear hw5
    have ho5 : Own3 2 w5 w1.heap.size (.slice (oA fb b1) (oN fb P.length) (oN fb j1)) (.slice (oA fb b2) (oN fb S.length) (oN fb j2)) (.slice (oA fb a) (oN fb P.length) (oN fb k)) (okL fb P) (okL fb S) (okL fb (unlL P S W)) := own3_fit fb ⟨o7.base_le (by omega), o8.base_le (by omega), o9.base_le (by omega), ap, fun k h1 h2 => by have := pP k h1; have := pL k h2; omega, fun k h1 h2 => by have := pS k h1; have := pL k h2; omega⟩
    have g0 : w5.cell? ⟨v1.heap.size, 0, none⟩ = some (.slice (oA fb b1) (oN fb P.length) (oN fb j1)) := by have := E5.cell 0; simpa using this
    have g1 : w5.cell? ⟨v1.heap.size, 1, none⟩ = some (.slice (oA fb b2) (oN fb S.length) (oN fb j2)) := by have := E5.cell 1; simpa using this
    have g2 : w5.cell? ⟨v1.heap.size, 2, none⟩ = some (.slice (oA fb a) (oN fb P.length) (oN fb k)) := by have := E5.cell 2; simpa using this
    have f0 := D5.free 0
    have f1 := D5.free 1
    have f2 := D5.free 2
    have e0 := D5.cell 0
    have e1 := D5.cell 1
    have e2 := D5.cell 2
    go_wp2
    have F := ((D5.set 0 (.slice (oA fb b1) (oN fb P.length) (oN fb j1))).set 1 (.slice (oA fb b2) (oN fb S.length) (oN fb j2))).set 2 (.slice (oA fb a) (oN fb P.length) (oN fb k))
    have q0 := F.cell 0
    have q1 := F.cell 1
    have q2 := F.cell 2
    have hK : Keeps (fun k => k = w.heap.size + 1) w5 (((w5.setCell ⟨w.heap.size + 1, 0, none⟩ (.slice (oA fb b1) (oN fb P.length) (oN fb j1))).setCell ⟨w.heap.size + 1, 1, none⟩ (.slice (oA fb b2) (oN fb S.length) (oN fb j2))).setCell ⟨w.heap.size + 1, 2, none⟩ (.slice (oA fb a) (oN fb P.length) (oN fb k))) := ((((Keeps.refl (fun k => k = w.heap.size + 1) w5).setCell (p := ⟨w.heap.size + 1, 0, none⟩) rfl _).setCell (p := ⟨w.heap.size + 1, 1, none⟩) rfl _).setCell (p := ⟨w.heap.size + 1, 2, none⟩) rfl _)
    refine bodyPost_ret (v := .tuple #[.agg #[.slice (oA fb b1) (oN fb P.length) (oN fb j1), .slice (oA fb b2) (oN fb S.length) (oN fb j2), .slice (oA fb a) (oN fb P.length) (oN fb k)], .int .i64 (okC fb 3)]) (by simp [results, Try.results63, go_sem, q0, q1, q2]) rfl (retCC_fit (hul.out) ?_ ?_)
    · exact (ho5.keeps hK (fun k hk e => by have := (ho5.block k hk).1; omega)).base_le (by omega)
    · exact hx5.below.trans (hK.below (by have := hx5.size; omega) (fun k hk => by omega))
  · have hdr : w1.drew.heap.size = w1.heap.size := rfl
    obtain ⟨E5, D5, hx5, hk5⟩ := store3 E G4 hy4 (by omega) (by omega) (.slice (oA fb b1) (oN fb P.length) (oN fb j1)) (.slice (oA fb b2) (oN fb S.length) (oN fb j2)) (.slice (oA fb a) (oN fb P.length) (oN fb k))
    have o7 := o4.keeps hk5 (fun k hk e => by have := pP k hk; omega)
    have o8 := o5.keeps hk5 (fun k hk e => by have := pS k hk; omega)
    have o9 := o6.keeps hk5 (fun k hk e => by have := pL k hk; omega)
    generalize hw5 : (((v4.setCell ⟨w1.heap.size, 0, none⟩ (.slice (oA fb b1) (oN fb P.length) (oN fb j1))).setCell ⟨w1.heap.size, 1, none⟩ (.slice (oA fb b2) (oN fb S.length) (oN fb j2))).setCell ⟨w1.heap.size, 2, none⟩ (.slice (oA fb a) (oN fb P.length) (oN fb k))) = w5 at E5 D5 hx5 hk5 o7 o8 o9 ⊢
    clear hw5
    have ho5 : Own3 2 w5 w1.heap.size (.slice (oA fb b1) (oN fb P.length) (oN fb j1)) (.slice (oA fb b2) (oN fb S.length) (oN fb j2)) (.slice (oA fb a) (oN fb P.length) (oN fb k)) (okL fb P) (okL fb S) (okL fb (unlL P S W)) := own3_fit fb ⟨o7.base_le (by omega), o8.base_le (by omega), o9.base_le (by omega), ap, fun k h1 h2 => by have := pP k h1; have := pL k h2; omega, fun k h1 h2 => by have := pS k h1; have := pL k h2; omega⟩
    have g0 : w5.cell? ⟨w1.heap.size, 0, none⟩ = some (.slice (oA fb b1) (oN fb P.length) (oN fb j1)) := by have := E5.cell 0; simpa using this
    have g1 : w5.cell? ⟨w1.heap.size, 1, none⟩ = some (.slice (oA fb b2) (oN fb S.length) (oN fb j2)) := by have := E5.cell 1; simpa using this
    have g2 : w5.cell? ⟨w1.heap.size, 2, none⟩ = some (.slice (oA fb a) (oN fb P.length) (oN fb k)) := by have := E5.cell 2; simpa using this
    have f0 := D5.free 0
    have f1 := D5.free 1
    have f2 := D5.free 2
    have e0 := D5.cell 0
    have e1 := D5.cell 1
    have e2 := D5.cell 2
    go_wp2
    have F := ((D5.set 0 (.slice (oA fb b1) (oN fb P.length) (oN fb j1))).set 1 (.slice (oA fb b2) (oN fb S.length) (oN fb j2))).set 2 (.slice (oA fb a) (oN fb P.length) (oN fb k))
    have q0 := F.cell 0
    have q1 := F.cell 1
    have q2 := F.cell 2
    have hK : Keeps (fun k => k = w.heap.size + 1) w5 (((w5.setCell ⟨w.heap.size + 1, 0, none⟩ (.slice (oA fb b1) (oN fb P.length) (oN fb j1))).setCell ⟨w.heap.size + 1, 1, none⟩ (.slice (oA fb b2) (oN fb S.length) (oN fb j2))).setCell ⟨w.heap.size + 1, 2, none⟩ (.slice (oA fb a) (oN fb P.length) (oN fb k))) := ((((Keeps.refl (fun k => k = w.heap.size + 1) w5).setCell (p := ⟨w.heap.size + 1, 0, none⟩) rfl _).setCell (p := ⟨w.heap.size + 1, 1, none⟩) rfl _).setCell (p := ⟨w.heap.size + 1, 2, none⟩) rfl _)
    refine bodyPost_ret (v := .tuple #[.agg #[.slice (oA fb b1) (oN fb P.length) (oN fb j1), .slice (oA fb b2) (oN fb S.length) (oN fb j2), .slice (oA fb a) (oN fb P.length) (oN fb k)], .int .i64 (okC fb 3)]) (by simp [results, Try.results63, go_sem, q0, q1, q2]) rfl (retCC_fit (hul.out) ?_ ?_)
    · exact (ho5.keeps hK (fun k hk e => by have := (ho5.block k hk).1; omega)).base_le (by omega)
    · exact hx5.below.trans (hK.below (by have := hx5.size; omega) (fun k hk => by omega))

theorem implUC_c (p s q : Value) (P S W : List Int) (w : World) (hp : Rd w p P) (hs : Rd w s S) (hq : Rd w q W) :
    Calls Try.prog 62 #[.agg #[p, s, q]] w (RetCC w (okL (ucB P S W) P) (okL (ucB P S W) S) (okL (ucB P S W) (unlL P S W)) (ucC P S W)) := by
  cases hc : cluB P S W
  · obtain ⟨e1, e2⟩ := ucB_1 hc
    rw [e1, e2]
    exact implUC_1 p s q P S W w hp hs hq hc
  · obtain ⟨e1, e2⟩ := ucB_2 hc
    rw [e1, e2]
    exact implUC_2 p s q P S W w hp hs hq hc
theorem specUC_c (p s q : Value) (P S W : List Int) (w : World) (hp : Rd w p P) (hs : Rd w s S) (hq : Rd w q W) :
    Calls Try.prog 63 #[.agg #[p, s, q]] w (RetCC w (okL (ucB P S W) P) (okL (ucB P S W) S) (okL (ucB P S W) (unlL P S W)) (ucC P S W)) := by
  cases hc : cluB P S W
  · obtain ⟨e1, e2⟩ := ucB_1 hc
    rw [e1, e2]
    exact specUC_1 p s q P S W w hp hs hq hc
  · obtain ⟨e1, e2⟩ := ucB_2 hc
    rw [e1, e2]
    have hcl := cluB_iff.1 hc
    exact specUC_2 p s q P S W w hp hs hq _ hc (cluB_with hcl (unlL_len hcl))
end Go.Proofs.Ytiinceflafigeaa

/- UnloadCluster: the size of what is handed back. -/
namespace Go.Proofs.Ytiinceflafigeaa
open Go.RowKit
theorem ucB_clu {P S W : List Int} (h : ucB P S W = true) : CluOk P S W := cluB_iff.1 (by simp [ucB] at h; exact h.1)
theorem uc_len (P S W : List Int) : (okL (ucB P S W) (unlL P S W)).length ≤ 1048576 := okL_len fun h => by
  have hc := ucB_clu h
  rw [unlL_len hc]
  have := hc.1.2.1
  omega
end Go.Proofs.Ytiinceflafigeaa
