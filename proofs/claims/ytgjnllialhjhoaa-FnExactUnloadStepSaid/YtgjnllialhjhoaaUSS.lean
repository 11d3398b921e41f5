/- Contracts: UnloadStep, the reference. -/
import Derived.Test.YtgjnllialhjhoaaUS
import Derived.Deep.RegionHeld3
namespace Go.Proofs.Ytgjnllialhjhoaa
open Go.RowKit

set_option maxHeartbeats 1000000 in
theorem specUS_1 (p s q : Value) (P S W : List Int) (w : World) (hp : Rd w p P) (hs : Rd w s S) (hq : Rd w q W) (hc : cluB P S W = false) :
    Calls Try.prog 56 #[.agg #[p, s, q]] w (RetCC w [] [] [] 1) := by
  obtain ⟨a1, k1, rfl⟩ := hp.len0
  obtain ⟨a2, k2, rfl⟩ := hs.len0
  obtain ⟨a3, k3, rfl⟩ := hq.len0
  have hqq := hq
  have hx := Boxed.start w 51 #[.slice a1 P.length k1, .slice a2 S.length k2, .slice a3 W.length k3]
  have hxa := hx.alloc (.cells #[.slice none 0 0, .slice none 0 0, .slice none 0 0] 51)
  have D := Blk.new' (w := w.alloc (.cells #[.slice a1 P.length k1, .slice a2 S.length k2, .slice a3 W.length k3] 51)) (t := 51) (cs := #[.slice none 0 0, .slice none 0 0, .slice none 0 0]) (g := w.heap.size + 1) (by simp)
  have c0 := hxa.cell 0
  have c1 := hxa.cell 1
  have c2 := hxa.cell 2
  go_enter Try.func56, Try.ntmps56
  go_wp2_with fail
  refine (l07Is_c _ _ _ P S W _ (hxa.rd hp) (hxa.rd hs) (hxa.rd hq)).mono ?_
  rintro e w1 ⟨rfl, hb⟩
  rw [hc]
  have D1 := D.stays hb
  have hx1 := hxa.trans hb
  have f0 := D1.free 0
  have f1 := D1.free 1
  have f2 := D1.free 2
  have e0 := D1.cell 0
  have e1 := D1.cell 1
  have e2 := D1.cell 2
  clear c0 c1 c2
  go_wp2
  have q0 := ((((D1).set 0 (.slice none 0 0)).set 1 (.slice none 0 0)).set 2 (.slice none 0 0)).cell 0
  have q1 := ((((D1).set 0 (.slice none 0 0)).set 1 (.slice none 0 0)).set 2 (.slice none 0 0)).cell 1
  have q2 := ((((D1).set 0 (.slice none 0 0)).set 1 (.slice none 0 0)).set 2 (.slice none 0 0)).cell 2
  refine bodyPost_ret (v := .tuple #[.agg #[.slice none 0 0, .slice none 0 0, .slice none 0 0], .int .i64 1]) (by simp [results, Try.results56, go_sem, q0, q1, q2]) rfl ⟨none, 0, none, 0, none, 0, rfl, own3_nil _ _ _, ?_⟩
  exact ((hx1.below.setCell (p := ⟨w.heap.size + 1, 0, none⟩) (Nat.le_succ _) _).setCell (p := ⟨w.heap.size + 1, 1, none⟩) (Nat.le_succ _) _).setCell (p := ⟨w.heap.size + 1, 2, none⟩) (Nat.le_succ _) _

set_option maxRecDepth 100000 in
set_option maxHeartbeats 1000000 in
theorem specUS_2 (p s q : Value) (P S W : List Int) (w : World) (hp : Rd w p P) (hs : Rd w s S) (hq : Rd w q W) (hc : cluB P S W = true) (hn : ¬ 0 ≤ usN P S W) :
    Calls Try.prog 56 #[.agg #[p, s, q]] w (RetCC w [] [] [] 4) := by
  obtain ⟨a1, k1, rfl⟩ := hp.len0
  obtain ⟨a2, k2, rfl⟩ := hs.len0
  obtain ⟨a3, k3, rfl⟩ := hq.len0
  have hqq := hq
  have hcl := cluB_iff.1 hc
  have hl := Lib.hid (clu_unlOk hcl).1
  have hcl1 := Lib.hid (show S.length = P.length from hcl.1.2.2.1)
  have hcl2 : 0 < P.length := hcl.1.1
  have hcl3 : P.length ≤ 24 := hcl.1.2.1
  have hcl4 : P.length ≤ 9223372036854775807 := by omega
  have hnum := Lib.hid (show ∀ i, i < W.length → -1000000000000 ≤ gI W i ∧ gI W i ≤ 1000000000000 from fun i hi => by have := hcl.2.1 i hi; omega)
  have hex := Lib.hid (exOk_clu hcl hl.out hnum.out)
  have HCL := Lib.hid hcl
  clear hcl
  have hn1 : usN P S W = -1 := by
    rcases leastTo_spec (exL P S W) P.length with h | h
    · exact h.1
    · exact absurd h.1 hn
  clear hn
  have hx := Boxed.start w 51 #[.slice a1 P.length k1, .slice a2 S.length k2, .slice a3 W.length k3]
  have hxa := hx.alloc (.cells #[.slice none 0 0, .slice none 0 0, .slice none 0 0] 51)
  have D := Blk.new' (w := w.alloc (.cells #[.slice a1 P.length k1, .slice a2 S.length k2, .slice a3 W.length k3] 51)) (t := 51) (cs := #[.slice none 0 0, .slice none 0 0, .slice none 0 0]) (g := w.heap.size + 1) (by simp)
  have c0 := hxa.cell 0
  have c1 := hxa.cell 1
  have c2 := hxa.cell 2
  go_enter Try.func56, Try.ntmps56
  go_wp2_with fail
  refine (l07Is_c _ _ _ P S W _ (hxa.rd hp) (hxa.rd hs) (hxa.rd hq)).mono ?_
  rintro e w0 ⟨rfl, hb⟩
  rw [hc]
  have D1 := D.stays hb
  have hx1 := hxa.trans hb
  clear c0 c1 c2
  have c0 := hx1.cell 0
  have c1 := hx1.cell 1
  have c2 := hx1.cell 2
  go_wp2_with fail
  refine (l08Least_c _ _ _ _ P S W W _ (hx1.rd hp) (hx1.rd hs) (hx1.rd hqq) ⟨_, _, _, rfl⟩ HCL.out hl.out hnum.out).mono ?_
  rintro e w1 ⟨rfl, hb2⟩
  have D1 := D1.stays hb2
  have hz1 : w.heap.size + 2 ≤ w1.heap.size := Nat.le_trans (Nat.le_trans (by simp) hb.size) hb2.size
  have hx1 := hx1.trans hb2
  have heq : leastTo (exL P S W) P.length = usN P S W := rfl
  rw [heq]
  clear heq c0 c1 c2 hb2
  rw [hn1]
  have f0 := D1.free 0
  have f1 := D1.free 1
  have f2 := D1.free 2
  have e0 := D1.cell 0
  have e1 := D1.cell 1
  have e2 := D1.cell 2
  go_wp2
  have q0 := ((((D1).set 0 (.slice none 0 0)).set 1 (.slice none 0 0)).set 2 (.slice none 0 0)).cell 0
  have q1 := ((((D1).set 0 (.slice none 0 0)).set 1 (.slice none 0 0)).set 2 (.slice none 0 0)).cell 1
  have q2 := ((((D1).set 0 (.slice none 0 0)).set 1 (.slice none 0 0)).set 2 (.slice none 0 0)).cell 2
  refine bodyPost_ret (v := .tuple #[.agg #[.slice none 0 0, .slice none 0 0, .slice none 0 0], .int .i64 4]) (by simp [results, Try.results56, go_sem, q0, q1, q2]) rfl ⟨none, 0, none, 0, none, 0, rfl, own3_nil _ _ _, ?_⟩
  exact ((hx1.below.setCell (p := ⟨w.heap.size + 1, 0, none⟩) (Nat.le_succ _) _).setCell (p := ⟨w.heap.size + 1, 1, none⟩) (Nat.le_succ _) _).setCell (p := ⟨w.heap.size + 1, 2, none⟩) (Nat.le_succ _) _

set_option maxRecDepth 100000 in
set_option maxHeartbeats 4000000 in
theorem specUS_3 (p s q : Value) (P S W : List Int) (w : World) (hp : Rd w p P) (hs : Rd w s S) (hq : Rd w q W) (fb : Bool) (t : Nat) (hc : cluB P S W = true) (ht : usN P S W = (t : Int)) (hw0 : cluB P S (stL P S W t) = fb) :
    Calls Try.prog 56 #[.agg #[p, s, q]] w (RetCC w (okL fb P) (okL fb S) (okL fb (stL P S W t)) (okC fb 3)) := by
  obtain ⟨a1, k1, rfl⟩ := hp.len0
  obtain ⟨a2, k2, rfl⟩ := hs.len0
  obtain ⟨a3, k3, rfl⟩ := hq.len0
  have hqq := hq
  have hcl := cluB_iff.1 hc
  have hl := Lib.hid (clu_unlOk hcl).1
  have hcl1 := Lib.hid (show S.length = P.length from hcl.1.2.2.1)
  have hcl2 : 0 < P.length := hcl.1.1
  have hcl3 : P.length ≤ 24 := hcl.1.2.1
  have hcl4 : P.length ≤ 9223372036854775807 := by omega
  have hnum := Lib.hid (show ∀ i, i < W.length → -1000000000000 ≤ gI W i ∧ gI W i ≤ 1000000000000 from fun i hi => by have := hcl.2.1 i hi; omega)
  have hex := Lib.hid (exOk_clu hcl hl.out hnum.out)
  have HCL := Lib.hid hcl
  clear hcl
  have hwy := Lib.hid hw0
  have hsp : t < P.length ∧ gI (exL P S W) t < 0 := by
    rcases leastTo_spec (exL P S W) P.length with h | h
    · have : usN P S W = -1 := h.1
      omega
    · have h2 : usN P S W < P.length := h.2.1
      have h3 : gI (exL P S W) (usN P S W).toNat < 0 := h.2.2.1
      have e : (usN P S W).toNat = t := by omega
      rw [e] at h3
      exact ⟨by omega, h3⟩
  obtain ⟨htP, hneg0⟩ := hsp
  have hneg := Lib.hid hneg0
  have hul := Lib.hid (stL_len P S W t)
  have ht1 : ¬ (t : Int) < 0 := by omega
  clear hw0 hneg0
  have hx := Boxed.start w 51 #[.slice a1 P.length k1, .slice a2 S.length k2, .slice a3 W.length k3]
  have hxa := hx.alloc (.cells #[.slice none 0 0, .slice none 0 0, .slice none 0 0] 51)
  have D := Blk.new' (w := w.alloc (.cells #[.slice a1 P.length k1, .slice a2 S.length k2, .slice a3 W.length k3] 51)) (t := 51) (cs := #[.slice none 0 0, .slice none 0 0, .slice none 0 0]) (g := w.heap.size + 1) (by simp)
  have c0 := hxa.cell 0
  have c1 := hxa.cell 1
  have c2 := hxa.cell 2
  go_enter Try.func56, Try.ntmps56
  go_wp2_with fail
  refine (l07Is_c _ _ _ P S W _ (hxa.rd hp) (hxa.rd hs) (hxa.rd hq)).mono ?_
  rintro e w0 ⟨rfl, hb⟩
  rw [hc]
  have D1 := D.stays hb
  have hx1 := hxa.trans hb
  clear c0 c1 c2
  have c0 := hx1.cell 0
  have c1 := hx1.cell 1
  have c2 := hx1.cell 2
  go_wp2_with fail
  refine (l08Least_c _ _ _ _ P S W W _ (hx1.rd hp) (hx1.rd hs) (hx1.rd hqq) ⟨_, _, _, rfl⟩ HCL.out hl.out hnum.out).mono ?_
  rintro e w1 ⟨rfl, hb2⟩
  have D1 := D1.stays hb2
  have hz1 : w.heap.size + 2 ≤ w1.heap.size := Nat.le_trans (Nat.le_trans (by simp) hb.size) hb2.size
  have hx1 := hx1.trans hb2
  have heq : leastTo (exL P S W) P.length = usN P S W := rfl
  rw [heq]
  clear heq c0 c1 c2 hb2
  rw [ht]
  have c0 := hx1.cell 0
  have c1 := hx1.cell 1
  have c2 := hx1.cell 2
  go_wp2_with fail
  clear c0 c1 c2
  have hx0 := hx1.trans (Below.refl _ _).drew
  have D0 := D1.stays (Below.refl _ _).drew
  obtain ⟨wd, hwd⟩ : ∃ wd : World, wd = w1.drew := ⟨_, rfl⟩
  have hzd : w.heap.size + 2 ≤ wd.heap.size := by rw [hwd]; exact hz1
  have hxd : Boxed w wd 51 #[.slice a1 P.length k1, .slice a2 S.length k2, .slice a3 W.length k3] := by rw [hwd]; exact hx0
  have Dd : Blk wd (w.heap.size + 1) 51 #[.slice none 0 0, .slice none 0 0, .slice none 0 0] := by rw [hwd]; exact D0
  subst hwd
  have HD : w1.drew.cell? ⟨w.heap.size, 0, none⟩ = some (.slice a1 P.length k1) ∧ w1.drew.cell? ⟨w.heap.size, 1, none⟩ = some (.slice a2 S.length k2) ∧ w1.drew.cell? ⟨w.heap.size, 2, none⟩ = some (.slice a3 W.length k3) := ⟨hx0.cell 0, hx0.cell 1, hx0.cell 2⟩; have HA : ∀ u0 u1 u2 : Value, (w1.drew.alloc (.cells #[u0, u1, u2] 51)).cell? ⟨w.heap.size, 0, none⟩ = some (.slice a1 P.length k1) ∧ (w1.drew.alloc (.cells #[u0, u1, u2] 51)).cell? ⟨w.heap.size, 1, none⟩ = some (.slice a2 S.length k2) ∧ (w1.drew.alloc (.cells #[u0, u1, u2] 51)).cell? ⟨w.heap.size, 2, none⟩ = some (.slice a3 W.length k3) := fun u0 u1 u2 => have h := hx0.alloc (.cells #[u0, u1, u2] 51); ⟨h.cell 0, h.cell 1, h.cell 2⟩
  go_region_held3 (fun w' => w'.cell? ⟨w.heap.size, 0, none⟩ = some (.slice a1 P.length k1) ∧ w'.cell? ⟨w.heap.size, 1, none⟩ = some (.slice a2 S.length k2) ∧ w'.cell? ⟨w.heap.size, 2, none⟩ = some (.slice a3 W.length k3))
    (first | assumption | exact HD | exact HA _ _ _ | exact HE _ _ _)
    (first
      | (go_at_call 97; have hst : Below w1.drew.heap.size w1.drew w1.drew := Below.refl _ _; have hsa : w1.drew.heap.size = w1.drew.heap.size := rfl; (with_reducible refine (l08Step_c _ _ _ _ _ _ _ P S W W t _ (hx0.rd hp) (hx0.rd hs) rfl (hx0.rd hqq) HCL.out hl.out hnum.out htP hneg.out).mono ?_); rintro e v1 ⟨a, k, rfl, ho, hq⟩; have hy1 := hx0.trans hq; have G1 := (D0).stays hq; have hz2 := hq.size; (try have E := Blk.stays E hq); have pL := ho.block; have HD : v1.cell? ⟨w.heap.size, 0, none⟩ = some (.slice a1 P.length k1) ∧ v1.cell? ⟨w.heap.size, 1, none⟩ = some (.slice a2 S.length k2) ∧ v1.cell? ⟨w.heap.size, 2, none⟩ = some (.slice a3 W.length k3) := ⟨hy1.cell 0, hy1.cell 1, hy1.cell 2⟩; have HA : ∀ u0 u1 u2 : Value, (v1.alloc (.cells #[u0, u1, u2] 51)).cell? ⟨w.heap.size, 0, none⟩ = some (.slice a1 P.length k1) ∧ (v1.alloc (.cells #[u0, u1, u2] 51)).cell? ⟨w.heap.size, 1, none⟩ = some (.slice a2 S.length k2) ∧ (v1.alloc (.cells #[u0, u1, u2] 51)).cell? ⟨w.heap.size, 2, none⟩ = some (.slice a3 W.length k3) := fun u0 u1 u2 => have h := hy1.alloc (.cells #[u0, u1, u2] 51); ⟨h.cell 0, h.cell 1, h.cell 2⟩)
      | (go_at_call 88; have hst : Below v1.heap.size v1 v1 := Below.refl _ _; have hsa : v1.heap.size = v1.heap.size := rfl; (with_reducible refine (l07With_c _ _ _ _ _ _ P S W _ (hy1.rd hp) (hy1.rd hs) HCL.out).mono ?_); rintro e v2 ⟨b1, j1, b2, j2, rfl, o1, o2, ap, hq⟩; have hy2 := hy1.trans hq; have G2 := (G1).stays hq; have hz3 := hq.size; (try have E := Blk.stays E hq); have pP := o1.block; have pS := o2.block; have o3 := (ho.below hst (Nat.le_refl _)).below hq (Nat.le_refl _); have HD : v2.cell? ⟨w.heap.size, 0, none⟩ = some (.slice a1 P.length k1) ∧ v2.cell? ⟨w.heap.size, 1, none⟩ = some (.slice a2 S.length k2) ∧ v2.cell? ⟨w.heap.size, 2, none⟩ = some (.slice a3 W.length k3) := ⟨hy2.cell 0, hy2.cell 1, hy2.cell 2⟩; have HA : ∀ u0 u1 u2 : Value, (v2.alloc (.cells #[u0, u1, u2] 51)).cell? ⟨w.heap.size, 0, none⟩ = some (.slice a1 P.length k1) ∧ (v2.alloc (.cells #[u0, u1, u2] 51)).cell? ⟨w.heap.size, 1, none⟩ = some (.slice a2 S.length k2) ∧ (v2.alloc (.cells #[u0, u1, u2] 51)).cell? ⟨w.heap.size, 2, none⟩ = some (.slice a3 W.length k3) := fun u0 u1 u2 => have h := hy2.alloc (.cells #[u0, u1, u2] 51); ⟨h.cell 0, h.cell 1, h.cell 2⟩)
      | (go_at_call 88; have hst : Below v1.heap.size v1 (v1.alloc (.cells #[.slice none 0 0, .slice none 0 0, .slice none 0 0] 51)) := (Below.refl _ _).alloc (Nat.le_refl _) _; have hsa : (v1.alloc (.cells #[.slice none 0 0, .slice none 0 0, .slice none 0 0] 51)).heap.size = v1.heap.size + 1 := (by simp); (with_reducible refine (l07With_c _ _ _ _ _ _ P S W _ ((hy1.alloc (.cells #[.slice none 0 0, .slice none 0 0, .slice none 0 0] 51)).rd hp) ((hy1.alloc (.cells #[.slice none 0 0, .slice none 0 0, .slice none 0 0] 51)).rd hs) HCL.out).mono ?_); rintro e v2 ⟨b1, j1, b2, j2, rfl, o1, o2, ap, hq⟩; have hy2 := (hy1.alloc (.cells #[.slice none 0 0, .slice none 0 0, .slice none 0 0] 51)).trans hq; have G2 := (G1.alloc (.cells #[.slice none 0 0, .slice none 0 0, .slice none 0 0] 51)).stays hq; have hz3 := hq.size; have hN : w.heap.size + 2 ≤ v1.heap.size := (by (first | exact hz1 | omega)); have E := (Blk.new v1 51 #[.slice none 0 0, .slice none 0 0, .slice none 0 0]).stays hq; have pP := o1.block; have pS := o2.block; have o3 := (ho.below hst (Nat.le_refl _)).below hq (Nat.le_refl _); have HD : v2.cell? ⟨w.heap.size, 0, none⟩ = some (.slice a1 P.length k1) ∧ v2.cell? ⟨w.heap.size, 1, none⟩ = some (.slice a2 S.length k2) ∧ v2.cell? ⟨w.heap.size, 2, none⟩ = some (.slice a3 W.length k3) := ⟨hy2.cell 0, hy2.cell 1, hy2.cell 2⟩; have HA : ∀ u0 u1 u2 : Value, (v2.alloc (.cells #[u0, u1, u2] 51)).cell? ⟨w.heap.size, 0, none⟩ = some (.slice a1 P.length k1) ∧ (v2.alloc (.cells #[u0, u1, u2] 51)).cell? ⟨w.heap.size, 1, none⟩ = some (.slice a2 S.length k2) ∧ (v2.alloc (.cells #[u0, u1, u2] 51)).cell? ⟨w.heap.size, 2, none⟩ = some (.slice a3 W.length k3) := fun u0 u1 u2 => have h := hy2.alloc (.cells #[u0, u1, u2] 51); ⟨h.cell 0, h.cell 1, h.cell 2⟩)
      | (go_at_call 87; have hst : Below v2.heap.size v2 v2 := Below.refl _ _; have hsa : v2.heap.size = v2.heap.size := rfl; (with_reducible refine (l07Fit_v fb _ _ _ _ _ _ _ P S (stL P S W t) _ (o1.rd.below hst (Nat.le_refl _)) (o2.rd.below hst (Nat.le_refl _)) (o3.rd.below hst (Nat.le_refl _)) hul.out hwy.out).mono ?_); rintro e v3 ⟨rfl, hq⟩; have hy3 := hy2.trans hq; have G3 := (G2).stays hq; have hz4 := hq.size; (try have E := Blk.stays E hq); have o4 := (o1.below hst (Nat.le_refl _)).below hq (Nat.le_refl _); have o5 := (o2.below hst (Nat.le_refl _)).below hq (Nat.le_refl _); have o6 := (o3.below hst (Nat.le_refl _)).below hq (Nat.le_refl _); have HD : v3.cell? ⟨w.heap.size, 0, none⟩ = some (.slice a1 P.length k1) ∧ v3.cell? ⟨w.heap.size, 1, none⟩ = some (.slice a2 S.length k2) ∧ v3.cell? ⟨w.heap.size, 2, none⟩ = some (.slice a3 W.length k3) := ⟨hy3.cell 0, hy3.cell 1, hy3.cell 2⟩; have HA : ∀ u0 u1 u2 : Value, (v3.alloc (.cells #[u0, u1, u2] 51)).cell? ⟨w.heap.size, 0, none⟩ = some (.slice a1 P.length k1) ∧ (v3.alloc (.cells #[u0, u1, u2] 51)).cell? ⟨w.heap.size, 1, none⟩ = some (.slice a2 S.length k2) ∧ (v3.alloc (.cells #[u0, u1, u2] 51)).cell? ⟨w.heap.size, 2, none⟩ = some (.slice a3 W.length k3) := fun u0 u1 u2 => have h := hy3.alloc (.cells #[u0, u1, u2] 51); ⟨h.cell 0, h.cell 1, h.cell 2⟩; (try have HE := fun u0 u1 u2 => have h := (store3 E G3 hy3 (by omega) (by omega) u0 u1 u2).2.2.1; And.intro (h.cell 0) (And.intro (h.cell 1) (h.cell 2))); (try have r0 := Blk.free E 0); (try have r1 := Blk.free E 1); (try have r2 := Blk.free E 2); (try have s0 := Blk.cell E 0); (try have s1 := Blk.cell E 1); (try have s2 := Blk.cell E 2))
      | (go_at_call 87; have hst : Below v2.heap.size v2 (v2.alloc (.cells #[.slice none 0 0, .slice none 0 0, .slice none 0 0] 51)) := (Below.refl _ _).alloc (Nat.le_refl _) _; have hsa : (v2.alloc (.cells #[.slice none 0 0, .slice none 0 0, .slice none 0 0] 51)).heap.size = v2.heap.size + 1 := (by simp); (with_reducible refine (l07Fit_v fb _ _ _ _ _ _ _ P S (stL P S W t) _ (o1.rd.below hst (Nat.le_refl _)) (o2.rd.below hst (Nat.le_refl _)) (o3.rd.below hst (Nat.le_refl _)) hul.out hwy.out).mono ?_); rintro e v3 ⟨rfl, hq⟩; have hy3 := (hy2.alloc (.cells #[.slice none 0 0, .slice none 0 0, .slice none 0 0] 51)).trans hq; have G3 := (G2.alloc (.cells #[.slice none 0 0, .slice none 0 0, .slice none 0 0] 51)).stays hq; have hz4 := hq.size; have hN : w.heap.size + 2 ≤ v2.heap.size := (by (first | exact hz1 | omega)); have E := (Blk.new v2 51 #[.slice none 0 0, .slice none 0 0, .slice none 0 0]).stays hq; have o4 := (o1.below hst (Nat.le_refl _)).below hq (Nat.le_refl _); have o5 := (o2.below hst (Nat.le_refl _)).below hq (Nat.le_refl _); have o6 := (o3.below hst (Nat.le_refl _)).below hq (Nat.le_refl _); have HD : v3.cell? ⟨w.heap.size, 0, none⟩ = some (.slice a1 P.length k1) ∧ v3.cell? ⟨w.heap.size, 1, none⟩ = some (.slice a2 S.length k2) ∧ v3.cell? ⟨w.heap.size, 2, none⟩ = some (.slice a3 W.length k3) := ⟨hy3.cell 0, hy3.cell 1, hy3.cell 2⟩; have HA : ∀ u0 u1 u2 : Value, (v3.alloc (.cells #[u0, u1, u2] 51)).cell? ⟨w.heap.size, 0, none⟩ = some (.slice a1 P.length k1) ∧ (v3.alloc (.cells #[u0, u1, u2] 51)).cell? ⟨w.heap.size, 1, none⟩ = some (.slice a2 S.length k2) ∧ (v3.alloc (.cells #[u0, u1, u2] 51)).cell? ⟨w.heap.size, 2, none⟩ = some (.slice a3 W.length k3) := fun u0 u1 u2 => have h := hy3.alloc (.cells #[u0, u1, u2] 51); ⟨h.cell 0, h.cell 1, h.cell 2⟩; (try have HE := fun u0 u1 u2 => have h := (store3 E G3 hy3 (by omega) (by omega) u0 u1 u2).2.2.1; And.intro (h.cell 0) (And.intro (h.cell 1) (h.cell 2))); (try have r0 := Blk.free E 0); (try have r1 := Blk.free E 1); (try have r2 := Blk.free E 2); (try have s0 := Blk.cell E 0); (try have s1 := Blk.cell E 1); (try have s2 := Blk.cell E 2))
      | (go_at_call 97; have hsa : (w1.alloc (.cells #[.slice none 0 0, .slice none 0 0, .slice none 0 0] 51)).drew.heap.size = w1.drew.heap.size + 1 := (by simp); (with_reducible refine (l08Step_c _ _ _ _ _ _ _ P S W W t _ (((hx1.alloc (.cells #[.slice none 0 0, .slice none 0 0, .slice none 0 0] 51)).trans (show Below (w1.alloc (.cells #[.slice none 0 0, .slice none 0 0, .slice none 0 0] 51)).heap.size (w1.alloc (.cells #[.slice none 0 0, .slice none 0 0, .slice none 0 0] 51)) (w1.alloc (.cells #[.slice none 0 0, .slice none 0 0, .slice none 0 0] 51)).drew from (Below.refl _ _).drew)).rd hp) (((hx1.alloc (.cells #[.slice none 0 0, .slice none 0 0, .slice none 0 0] 51)).trans (show Below (w1.alloc (.cells #[.slice none 0 0, .slice none 0 0, .slice none 0 0] 51)).heap.size (w1.alloc (.cells #[.slice none 0 0, .slice none 0 0, .slice none 0 0] 51)) (w1.alloc (.cells #[.slice none 0 0, .slice none 0 0, .slice none 0 0] 51)).drew from (Below.refl _ _).drew)).rd hs) rfl (((hx1.alloc (.cells #[.slice none 0 0, .slice none 0 0, .slice none 0 0] 51)).trans (show Below (w1.alloc (.cells #[.slice none 0 0, .slice none 0 0, .slice none 0 0] 51)).heap.size (w1.alloc (.cells #[.slice none 0 0, .slice none 0 0, .slice none 0 0] 51)) (w1.alloc (.cells #[.slice none 0 0, .slice none 0 0, .slice none 0 0] 51)).drew from (Below.refl _ _).drew)).rd hqq) HCL.out hl.out hnum.out htP hneg.out).mono ?_); rintro e v1 ⟨a, k, rfl, ho, hq⟩; have hy1 := ((hx1.alloc (.cells #[.slice none 0 0, .slice none 0 0, .slice none 0 0] 51)).trans (show Below (w1.alloc (.cells #[.slice none 0 0, .slice none 0 0, .slice none 0 0] 51)).heap.size (w1.alloc (.cells #[.slice none 0 0, .slice none 0 0, .slice none 0 0] 51)) (w1.alloc (.cells #[.slice none 0 0, .slice none 0 0, .slice none 0 0] 51)).drew from (Below.refl _ _).drew)).trans hq; have G1 := ((D1.alloc (.cells #[.slice none 0 0, .slice none 0 0, .slice none 0 0] 51)).stays (show Below (w1.alloc (.cells #[.slice none 0 0, .slice none 0 0, .slice none 0 0] 51)).heap.size (w1.alloc (.cells #[.slice none 0 0, .slice none 0 0, .slice none 0 0] 51)) (w1.alloc (.cells #[.slice none 0 0, .slice none 0 0, .slice none 0 0] 51)).drew from (Below.refl _ _).drew)).stays hq; have hz2 := hq.size; have hN : w.heap.size + 2 ≤ w1.drew.heap.size := (by (first | exact hz1 | omega)); have E := ((Blk.new w1 51 #[.slice none 0 0, .slice none 0 0, .slice none 0 0]).stays (show Below (w1.alloc (.cells #[.slice none 0 0, .slice none 0 0, .slice none 0 0] 51)).heap.size (w1.alloc (.cells #[.slice none 0 0, .slice none 0 0, .slice none 0 0] 51)) (w1.alloc (.cells #[.slice none 0 0, .slice none 0 0, .slice none 0 0] 51)).drew from (Below.refl _ _).drew)).stays hq; have pL := ho.block; have HD : v1.cell? ⟨w.heap.size, 0, none⟩ = some (.slice a1 P.length k1) ∧ v1.cell? ⟨w.heap.size, 1, none⟩ = some (.slice a2 S.length k2) ∧ v1.cell? ⟨w.heap.size, 2, none⟩ = some (.slice a3 W.length k3) := ⟨hy1.cell 0, hy1.cell 1, hy1.cell 2⟩; have HA : ∀ u0 u1 u2 : Value, (v1.alloc (.cells #[u0, u1, u2] 51)).cell? ⟨w.heap.size, 0, none⟩ = some (.slice a1 P.length k1) ∧ (v1.alloc (.cells #[u0, u1, u2] 51)).cell? ⟨w.heap.size, 1, none⟩ = some (.slice a2 S.length k2) ∧ (v1.alloc (.cells #[u0, u1, u2] 51)).cell? ⟨w.heap.size, 2, none⟩ = some (.slice a3 W.length k3) := fun u0 u1 u2 => have h := hy1.alloc (.cells #[u0, u1, u2] 51); ⟨h.cell 0, h.cell 1, h.cell 2⟩))
  · have hdr : w1.drew.heap.size = w1.heap.size := rfl
    have E5 := Blk.new v3 51 #[.slice (oA fb b1) (oN fb P.length) (oN fb j1), .slice (oA fb b2) (oN fb S.length) (oN fb j2), .slice (oA fb a) (oN fb P.length) (oN fb k)]
    have D5 := G3.alloc (.cells #[.slice (oA fb b1) (oN fb P.length) (oN fb j1), .slice (oA fb b2) (oN fb S.length) (oN fb j2), .slice (oA fb a) (oN fb P.length) (oN fb k)] 51)
    have hx5 := hy3.alloc (.cells #[.slice (oA fb b1) (oN fb P.length) (oN fb j1), .slice (oA fb b2) (oN fb S.length) (oN fb j2), .slice (oA fb a) (oN fb P.length) (oN fb k)] 51)
    have hk5 : Keeps (fun k => k = v3.heap.size) v3 (v3.alloc (.cells #[.slice (oA fb b1) (oN fb P.length) (oN fb j1), .slice (oA fb b2) (oN fb S.length) (oN fb j2), .slice (oA fb a) (oN fb P.length) (oN fb k)] 51)) := Keeps.of_below ((Below.refl _ _).alloc (Nat.le_refl _) _)
    have o7 := o4.below (show Below v3.heap.size v3 (v3.alloc (.cells #[.slice (oA fb b1) (oN fb P.length) (oN fb j1), .slice (oA fb b2) (oN fb S.length) (oN fb j2), .slice (oA fb a) (oN fb P.length) (oN fb k)] 51)) from (Below.refl _ _).alloc (Nat.le_refl _) _) (Nat.le_refl _)
    have o8 := o5.below (show Below v3.heap.size v3 (v3.alloc (.cells #[.slice (oA fb b1) (oN fb P.length) (oN fb j1), .slice (oA fb b2) (oN fb S.length) (oN fb j2), .slice (oA fb a) (oN fb P.length) (oN fb k)] 51)) from (Below.refl _ _).alloc (Nat.le_refl _) _) (Nat.le_refl _)
    have o9 := o6.below (show Below v3.heap.size v3 (v3.alloc (.cells #[.slice (oA fb b1) (oN fb P.length) (oN fb j1), .slice (oA fb b2) (oN fb S.length) (oN fb j2), .slice (oA fb a) (oN fb P.length) (oN fb k)] 51)) from (Below.refl _ _).alloc (Nat.le_refl _) _) (Nat.le_refl _)
    generalize hw5 : (v3.alloc (.cells #[.slice (oA fb b1) (oN fb P.length) (oN fb j1), .slice (oA fb b2) (oN fb S.length) (oN fb j2), .slice (oA fb a) (oN fb P.length) (oN fb k)] 51)) = w5 at E5 D5 hx5 hk5 o7 o8 o9 ⊢
    clear hw5
    have ho5 : Own3 2 w5 w1.heap.size (.slice (oA fb b1) (oN fb P.length) (oN fb j1)) (.slice (oA fb b2) (oN fb S.length) (oN fb j2)) (.slice (oA fb a) (oN fb P.length) (oN fb k)) (okL fb P) (okL fb S) (okL fb (stL P S W t)) := own3_fit fb ⟨o7.base_le (by omega), o8.base_le (by omega), o9.base_le (by omega), ap, fun k h1 h2 => by have := pP k h1; have := pL k h2; omega, fun k h1 h2 => by have := pS k h1; have := pL k h2; omega⟩
    have g0 : w5.cell? ⟨v3.heap.size, 0, none⟩ = some (.slice (oA fb b1) (oN fb P.length) (oN fb j1)) := by have := E5.cell 0; simpa using this
    have g1 : w5.cell? ⟨v3.heap.size, 1, none⟩ = some (.slice (oA fb b2) (oN fb S.length) (oN fb j2)) := by have := E5.cell 1; simpa using this
    have g2 : w5.cell? ⟨v3.heap.size, 2, none⟩ = some (.slice (oA fb a) (oN fb P.length) (oN fb k)) := by have := E5.cell 2; simpa using this
    have f0 := D5.free 0
    have f1 := D5.free 1
    have f2 := D5.free 2
    have e0 := D5.cell 0
    have e1 := D5.cell 1
    have e2 := D5.cell 2
    go_wp2
    have F := ((D5.set 0 (.slice (oA fb b1) (oN fb P.length) (oN fb j1))).set 1 (.slice (oA fb b2) (oN fb S.length) (oN fb j2))).set 2 (.slice (oA fb a) (oN fb P.length) (oN fb k))
    have q0 := F.cell 0
    have q1 := F.cell 1
    have q2 := F.cell 2
    have hK : Keeps (fun k => k = w.heap.size + 1) w5 (((w5.setCell ⟨w.heap.size + 1, 0, none⟩ (.slice (oA fb b1) (oN fb P.length) (oN fb j1))).setCell ⟨w.heap.size + 1, 1, none⟩ (.slice (oA fb b2) (oN fb S.length) (oN fb j2))).setCell ⟨w.heap.size + 1, 2, none⟩ (.slice (oA fb a) (oN fb P.length) (oN fb k))) := ((((Keeps.refl (fun k => k = w.heap.size + 1) w5).setCell (p := ⟨w.heap.size + 1, 0, none⟩) rfl _).setCell (p := ⟨w.heap.size + 1, 1, none⟩) rfl _).setCell (p := ⟨w.heap.size + 1, 2, none⟩) rfl _)
    refine bodyPost_ret (v := .tuple #[.agg #[.slice (oA fb b1) (oN fb P.length) (oN fb j1), .slice (oA fb b2) (oN fb S.length) (oN fb j2), .slice (oA fb a) (oN fb P.length) (oN fb k)], .int .i64 (okC fb 3)]) (by simp [results, Try.results56, go_sem, q0, q1, q2]) rfl (retCC_fit (hul.out) ?_ ?_)
    · exact (ho5.keeps hK (fun k hk e => by have := (ho5.block k hk).1; omega)).base_le (by omega)
    · exact hx5.below.trans (hK.below (by have := hx5.size; omega) (fun k hk => by omega))
  · have hdr : w1.drew.heap.size = w1.heap.size := rfl
    obtain ⟨E5, D5, hx5, hk5⟩ := store3 E G3 hy3 (by omega) (by omega) (.slice (oA fb b1) (oN fb P.length) (oN fb j1)) (.slice (oA fb b2) (oN fb S.length) (oN fb j2)) (.slice (oA fb a) (oN fb P.length) (oN fb k))
    have o7 := o4.keeps hk5 (fun k hk e => by have := pP k hk; omega)
    have o8 := o5.keeps hk5 (fun k hk e => by have := pS k hk; omega)
    have o9 := o6.keeps hk5 (fun k hk e => by have := pL k hk; omega)
    generalize hw5 : (((v3.setCell ⟨v2.heap.size, 0, none⟩ (.slice (oA fb b1) (oN fb P.length) (oN fb j1))).setCell ⟨v2.heap.size, 1, none⟩ (.slice (oA fb b2) (oN fb S.length) (oN fb j2))).setCell ⟨v2.heap.size, 2, none⟩ (.slice (oA fb a) (oN fb P.length) (oN fb k))) = w5 at E5 D5 hx5 hk5 o7 o8 o9 ⊢
    clear hw5
    have ho5 : Own3 2 w5 w1.heap.size (.slice (oA fb b1) (oN fb P.length) (oN fb j1)) (.slice (oA fb b2) (oN fb S.length) (oN fb j2)) (.slice (oA fb a) (oN fb P.length) (oN fb k)) (okL fb P) (okL fb S) (okL fb (stL P S W t)) := own3_fit fb ⟨o7.base_le (by omega), o8.base_le (by omega), o9.base_le (by omega), ap, fun k h1 h2 => by have := pP k h1; have := pL k h2; omega, fun k h1 h2 => by have := pS k h1; have := pL k h2; omega⟩
    have g0 : w5.cell? ⟨v2.heap.size, 0, none⟩ = some (.slice (oA fb b1) (oN fb P.length) (oN fb j1)) := by have := E5.cell 0; simpa using this
    have g1 : w5.cell? ⟨v2.heap.size, 1, none⟩ = some (.slice (oA fb b2) (oN fb S.length) (oN fb j2)) := by have := E5.cell 1; simpa using this
    have g2 : w5.cell? ⟨v2.heap.size, 2, none⟩ = some (.slice (oA fb a) (oN fb P.length) (oN fb k)) := by have := E5.cell 2; simpa using this
    have f0 := D5.free 0
    have f1 := D5.free 1
    have f2 := D5.free 2
    have e0 := D5.cell 0
    have e1 := D5.cell 1
    have e2 := D5.cell 2
    go_wp2
    have F := ((D5.set 0 (.slice (oA fb b1) (oN fb P.length) (oN fb j1))).set 1 (.slice (oA fb b2) (oN fb S.length) (oN fb j2))).set 2 (.slice (oA fb a) (oN fb P.length) (oN fb k))
    have q0 := F.cell 0
    have q1 := F.cell 1
    have q2 := F.cell 2
    have hK : Keeps (fun k => k = w.heap.size + 1) w5 (((w5.setCell ⟨w.heap.size + 1, 0, none⟩ (.slice (oA fb b1) (oN fb P.length) (oN fb j1))).setCell ⟨w.heap.size + 1, 1, none⟩ (.slice (oA fb b2) (oN fb S.length) (oN fb j2))).setCell ⟨w.heap.size + 1, 2, none⟩ (.slice (oA fb a) (oN fb P.length) (oN fb k))) := ((((Keeps.refl (fun k => k = w.heap.size + 1) w5).setCell (p := ⟨w.heap.size + 1, 0, none⟩) rfl _).setCell (p := ⟨w.heap.size + 1, 1, none⟩) rfl _).setCell (p := ⟨w.heap.size + 1, 2, none⟩) rfl _)
    refine bodyPost_ret (v := .tuple #[.agg #[.slice (oA fb b1) (oN fb P.length) (oN fb j1), .slice (oA fb b2) (oN fb S.length) (oN fb j2), .slice (oA fb a) (oN fb P.length) (oN fb k)], .int .i64 (okC fb 3)]) (by simp [results, Try.results56, go_sem, q0, q1, q2]) rfl (retCC_fit (hul.out) ?_ ?_)
    · exact (ho5.keeps hK (fun k hk e => by have := (ho5.block k hk).1; omega)).base_le (by omega)
    · exact hx5.below.trans (hK.below (by have := hx5.size; omega) (fun k hk => by omega))
  · have hdr : w1.drew.heap.size = w1.heap.size := rfl
    obtain ⟨E5, D5, hx5, hk5⟩ := store3 E G3 hy3 (by omega) (by omega) (.slice (oA fb b1) (oN fb P.length) (oN fb j1)) (.slice (oA fb b2) (oN fb S.length) (oN fb j2)) (.slice (oA fb a) (oN fb P.length) (oN fb k))
    have o7 := o4.keeps hk5 (fun k hk e => by have := pP k hk; omega)
    have o8 := o5.keeps hk5 (fun k hk e => by have := pS k hk; omega)
    have o9 := o6.keeps hk5 (fun k hk e => by have := pL k hk; omega)
    generalize hw5 : (((v3.setCell ⟨v1.heap.size, 0, none⟩ (.slice (oA fb b1) (oN fb P.length) (oN fb j1))).setCell ⟨v1.heap.size, 1, none⟩ (.slice (oA fb b2) (oN fb S.length) (oN fb j2))).setCell ⟨v1.heap.size, 2, none⟩ (.slice (oA fb a) (oN fb P.length) (oN fb k))) = w5 at E5 D5 hx5 hk5 o7 o8 o9 ⊢
    clear hw5
    have ho5 : Own3 2 w5 w1.heap.size (.slice (oA fb b1) (oN fb P.length) (oN fb j1)) (.slice (oA fb b2) (oN fb S.length) (oN fb j2)) (.slice (oA fb a) (oN fb P.length) (oN fb k)) (okL fb P) (okL fb S) (okL fb (stL P S W t)) := own3_fit fb ⟨o7.base_le (by omega), o8.base_le (by omega), o9.base_le (by omega), ap, fun k h1 h2 => by have := pP k h1; have := pL k h2; omega, fun k h1 h2 => by have := pS k h1; have := pL k h2; omega⟩
    have g0 : w5.cell? ⟨v1.heap.size, 0, none⟩ = some (.slice (oA fb b1) (oN fb P.length) (oN fb j1)) := by have := E5.cell 0; simpa using this
    have g1 : w5.cell? ⟨v1.heap.size, 1, none⟩ = some (.slice (oA fb b2) (oN fb S.length) (oN fb j2)) := by have := E5.cell 1; simpa using this
    have g2 : w5.cell? ⟨v1.heap.size, 2, none⟩ = some (.slice (oA fb a) (oN fb P.length) (oN fb k)) := by have := E5.cell 2; simpa using this
    have f0 := D5.free 0
    have f1 := D5.free 1
    have f2 := D5.free 2
    have e0 := D5.cell 0
    have e1 := D5.cell 1
    have e2 := D5.cell 2
    go_wp2
    have F := ((D5.set 0 (.slice (oA fb b1) (oN fb P.length) (oN fb j1))).set 1 (.slice (oA fb b2) (oN fb S.length) (oN fb j2))).set 2 (.slice (oA fb a) (oN fb P.length) (oN fb k))
    have q0 := F.cell 0
    have q1 := F.cell 1
    have q2 := F.cell 2
    have hK : Keeps (fun k => k = w.heap.size + 1) w5 (((w5.setCell ⟨w.heap.size + 1, 0, none⟩ (.slice (oA fb b1) (oN fb P.length) (oN fb j1))).setCell ⟨w.heap.size + 1, 1, none⟩ (.slice (oA fb b2) (oN fb S.length) (oN fb j2))).setCell ⟨w.heap.size + 1, 2, none⟩ (.slice (oA fb a) (oN fb P.length) (oN fb k))) := ((((Keeps.refl (fun k => k = w.heap.size + 1) w5).setCell (p := ⟨w.heap.size + 1, 0, none⟩) rfl _).setCell (p := ⟨w.heap.size + 1, 1, none⟩) rfl _).setCell (p := ⟨w.heap.size + 1, 2, none⟩) rfl _)
    refine bodyPost_ret (v := .tuple #[.agg #[.slice (oA fb b1) (oN fb P.length) (oN fb j1), .slice (oA fb b2) (oN fb S.length) (oN fb j2), .slice (oA fb a) (oN fb P.length) (oN fb k)], .int .i64 (okC fb 3)]) (by simp [results, Try.results56, go_sem, q0, q1, q2]) rfl (retCC_fit (hul.out) ?_ ?_)
    · exact (ho5.keeps hK (fun k hk e => by have := (ho5.block k hk).1; omega)).base_le (by omega)
    · exact hx5.below.trans (hK.below (by have := hx5.size; omega) (fun k hk => by omega))
  · have hdr : w1.drew.heap.size = w1.heap.size := rfl
    obtain ⟨E5, D5, hx5, hk5⟩ := store3 E G3 hy3 (by omega) (by omega) (.slice (oA fb b1) (oN fb P.length) (oN fb j1)) (.slice (oA fb b2) (oN fb S.length) (oN fb j2)) (.slice (oA fb a) (oN fb P.length) (oN fb k))
    have o7 := o4.keeps hk5 (fun k hk e => by have := pP k hk; omega)
    have o8 := o5.keeps hk5 (fun k hk e => by have := pS k hk; omega)
    have o9 := o6.keeps hk5 (fun k hk e => by have := pL k hk; omega)
    generalize hw5 : (((v3.setCell ⟨w1.heap.size, 0, none⟩ (.slice (oA fb b1) (oN fb P.length) (oN fb j1))).setCell ⟨w1.heap.size, 1, none⟩ (.slice (oA fb b2) (oN fb S.length) (oN fb j2))).setCell ⟨w1.heap.size, 2, none⟩ (.slice (oA fb a) (oN fb P.length) (oN fb k))) = w5 at E5 D5 hx5 hk5 o7 o8 o9 ⊢
    clear hw5
    have ho5 : Own3 2 w5 w1.heap.size (.slice (oA fb b1) (oN fb P.length) (oN fb j1)) (.slice (oA fb b2) (oN fb S.length) (oN fb j2)) (.slice (oA fb a) (oN fb P.length) (oN fb k)) (okL fb P) (okL fb S) (okL fb (stL P S W t)) := own3_fit fb ⟨o7.base_le (by omega), o8.base_le (by omega), o9.base_le (by omega), ap, fun k h1 h2 => by have := pP k h1; have := pL k h2; omega, fun k h1 h2 => by have := pS k h1; have := pL k h2; omega⟩
    have g0 : w5.cell? ⟨w1.heap.size, 0, none⟩ = some (.slice (oA fb b1) (oN fb P.length) (oN fb j1)) := by have := E5.cell 0; simpa using this
    have g1 : w5.cell? ⟨w1.heap.size, 1, none⟩ = some (.slice (oA fb b2) (oN fb S.length) (oN fb j2)) := by have := E5.cell 1; simpa using this
    have g2 : w5.cell? ⟨w1.heap.size, 2, none⟩ = some (.slice (oA fb a) (oN fb P.length) (oN fb k)) := by have := E5.cell 2; simpa using this
    have f0 := D5.free 0
    have f1 := D5.free 1
    have f2 := D5.free 2
    have e0 := D5.cell 0
    have e1 := D5.cell 1
    have e2 := D5.cell 2
    go_wp2
    have F := ((D5.set 0 (.slice (oA fb b1) (oN fb P.length) (oN fb j1))).set 1 (.slice (oA fb b2) (oN fb S.length) (oN fb j2))).set 2 (.slice (oA fb a) (oN fb P.length) (oN fb k))
    have q0 := F.cell 0
    have q1 := F.cell 1
    have q2 := F.cell 2
    have hK : Keeps (fun k => k = w.heap.size + 1) w5 (((w5.setCell ⟨w.heap.size + 1, 0, none⟩ (.slice (oA fb b1) (oN fb P.length) (oN fb j1))).setCell ⟨w.heap.size + 1, 1, none⟩ (.slice (oA fb b2) (oN fb S.length) (oN fb j2))).setCell ⟨w.heap.size + 1, 2, none⟩ (.slice (oA fb a) (oN fb P.length) (oN fb k))) := ((((Keeps.refl (fun k => k = w.heap.size + 1) w5).setCell (p := ⟨w.heap.size + 1, 0, none⟩) rfl _).setCell (p := ⟨w.heap.size + 1, 1, none⟩) rfl _).setCell (p := ⟨w.heap.size + 1, 2, none⟩) rfl _)
    refine bodyPost_ret (v := .tuple #[.agg #[.slice (oA fb b1) (oN fb P.length) (oN fb j1), .slice (oA fb b2) (oN fb S.length) (oN fb j2), .slice (oA fb a) (oN fb P.length) (oN fb k)], .int .i64 (okC fb 3)]) (by simp [results, Try.results56, go_sem, q0, q1, q2]) rfl (retCC_fit (hul.out) ?_ ?_)
    · exact (ho5.keeps hK (fun k hk e => by have := (ho5.block k hk).1; omega)).base_le (by omega)
    · exact hx5.below.trans (hK.below (by have := hx5.size; omega) (fun k hk => by omega))

theorem implUS_c (p s q : Value) (P S W : List Int) (w : World) (hp : Rd w p P) (hs : Rd w s S) (hq : Rd w q W) :
    Calls Try.prog 57 #[.agg #[p, s, q]] w (RetCC w (okL (usB P S W) P) (okL (usB P S W) S) (okL (usB P S W) (usL P S W)) (usC P S W)) := by
  cases hc : cluB P S W
  · obtain ⟨e1, e2⟩ := usB_1 hc
    rw [e1, e2]
    exact implUS_1 p s q P S W w hp hs hq hc
  · by_cases hn : 0 ≤ usN P S W
    · obtain ⟨e1, e2⟩ := usB_3 hc hn
      rw [e1, e2]
      exact implUS_3 p s q P S W w hp hs hq hc hn
    · obtain ⟨e1, e2⟩ := usB_2 hc hn
      rw [e1, e2]
      exact implUS_2 p s q P S W w hp hs hq hc hn
theorem specUS_c (p s q : Value) (P S W : List Int) (w : World) (hp : Rd w p P) (hs : Rd w s S) (hq : Rd w q W) :
    Calls Try.prog 56 #[.agg #[p, s, q]] w (RetCC w (okL (usB P S W) P) (okL (usB P S W) S) (okL (usB P S W) (usL P S W)) (usC P S W)) := by
  cases hc : cluB P S W
  · obtain ⟨e1, e2⟩ := usB_1 hc
    rw [e1, e2]
    exact specUS_1 p s q P S W w hp hs hq hc
  · by_cases hn : 0 ≤ usN P S W
    · obtain ⟨e1, e2⟩ := usB_3 hc hn
      rw [e1, e2]
      obtain ⟨t, ht⟩ := Int.eq_ofNat_of_zero_le hn
      have e : usL P S W = stL P S W t := by unfold usL; rw [ht]; rfl
      rw [e]
      exact specUS_3 p s q P S W w hp hs hq _ t hc ht (cluB_with (cluB_iff.1 hc) (stL_len _ _ _ _))
    · obtain ⟨e1, e2⟩ := usB_2 hc hn
      rw [e1, e2]
      exact specUS_2 p s q P S W w hp hs hq hc hn
end Go.Proofs.Ytgjnllialhjhoaa
