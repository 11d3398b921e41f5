/- Contracts: ClusterOfOrders, the reference. -/
import Derived.Test.YthfdkigljbdogaaCOrd
namespace Go.Proofs.Ythfdkigljbdogaa
open Go.RowKit

set_option maxRecDepth 100000 in
set_option maxHeartbeats 4000000 in
theorem specOfOrders_3 (p s q v : Value) (P S W O : List Int) (w : World) (hp : Rd w p P) (hs : Rd w s S) (hq : Rd w q W) (hv : Rd w v O) (fb : Bool) (hc : cluB P S W = true) (hd : ((O.length : Int) != (P.length : Int)) = false) (hl0 : O.length = P.length) (ha0 : allIn O (-100000) 100000 = true) (hO0 : 0 < O.length) (hw0 : cluB P S (woTo (proxL P S) O P.length) = fb) :
    Calls Try.prog 57 #[.agg #[p, s, q], v] w (RetCC w (okL fb P) (okL fb S) (okL fb (woTo (proxL P S) O P.length)) (okC fb 3)) := by
  obtain ⟨a1, k1, rfl⟩ := hp.len0
  obtain ⟨a2, k2, rfl⟩ := hs.len0
  obtain ⟨a3, k3, rfl⟩ := hq.len0
  obtain ⟨bv, ov, k4, rfl, hv1, hv2, hvb, hvc⟩ := hv.cells hO0
  have HA0 := Lib.hid ha0
  have hcl := cluB_iff.1 hc
  have HCL := Lib.hid hcl
  have hl := Lib.hid hl0
  have hwy := Lib.hid hw0
  have hnum := Lib.hid (show ∀ i, i < O.length → -1000000000000 ≤ gI O i ∧ gI O i ≤ 1000000000000 from fun i hi => by have := allIn_iff.1 ha0 i hi; omega)
  clear ha0 hcl hl0 hw0
  have hx := Boxed.start w 47 #[.slice a1 P.length k1, .slice a2 S.length k2, .slice a3 W.length k3]
  have hxa := hx.alloc (.cells #[.slice none 0 0, .slice none 0 0, .slice none 0 0] 47)
  have D := Blk.new' (w := w.alloc (.cells #[.slice a1 P.length k1, .slice a2 S.length k2, .slice a3 W.length k3] 47)) (t := 47) (cs := #[.slice none 0 0, .slice none 0 0, .slice none 0 0]) (g := w.heap.size + 1) (by simp)
  have c0 := hxa.cell 0
  have c1 := hxa.cell 1
  have c2 := hxa.cell 2
  go_enter Try.func57, Try.ntmps57
  go_wp2_with fail
  refine (l07Is_c _ _ _ P S W _ (hxa.rd hp) (hxa.rd hs) (hxa.rd hq)).mono ?_
  rintro e w1 ⟨rfl, hb⟩
  rw [hc]
  have D1 := D.stays hb
  have hx1 := hxa.trans hb
  clear c0 c1 c2
  have c0 := hx1.cell 0
  have c1 := hx1.cell 1
  have c2 := hx1.cell 2
  go_wp2_with fail
  go_loop [6] (fun i => ∃ k : Nat, k ≤ O.length ∧ i = .int .i64 k ∧ (∀ j, j < k → -100000 ≤ gI O j ∧ gI O j ≤ 100000)) (fun i => O.length - (intOf i).toNat)
  case atStart => exact ⟨0, Nat.zero_le _, rfl, fun j hj => absurd hj (by omega)⟩
  case round =>
    obtain ⟨k, hk, rfl, hg⟩ := hrel
    by_cases hlt : k < O.length
    · have hck := hvc k hlt
      have hck' : w1.cell? ⟨bv, ov + k, none⟩ = some (.int .i64 (gI O k)) := by rw [hx1.below.cell (p := ⟨bv, ov + k, none⟩) hvb]; exact hck
      have HG : Hid (inB (gI O k) (-100000) 100000 = true → ∀ j, j < k + 1 → -100000 ≤ gI O j ∧ gI O j ≤ 100000) := Lib.hid (by
        intro hb j hj
        by_cases e : j = k
        · rw [e]; exact inB_iff.1 hb
        · exact hg j (by omega))
      have HB := Lib.hid (@allIn_no O (-100000) 100000 k hlt)
      clear hck hvc hg
      generalize gI O k = y at hck' HG HB
      cases hin : inB y (-100000) 100000
      · have hfalse := Lib.hid (HB.out hin)
        clear HG HB
        go_wp2_with fail
        refine (l01In_c _ _ _ _).mono ?_
        rintro e w' ⟨rfl, rfl⟩
        rw [hin]
        clear c0 c1 c2
        exact absurd (hfalse.out.symm.trans HA0.out) (by simp)
      · have HG' := Lib.hid (HG.out hin)
        clear HG HB
        go_wp2_with fail
        refine (l01In_c _ _ _ _).mono ?_
        rintro e w' ⟨rfl, rfl⟩
        rw [hin]
        go_wp2
        go_round
        case rel => exact ⟨k + 1, by omega, by go_num, HG'.out⟩
        case measure => simp [intOf]; omega
    · have hk' : k = O.length := by omega
      subst hk'
      have hall := Lib.hid (allIn_iff.2 hg)
      clear hg
      go_wp2_with fail
      clear c0 c1 c2
      have hz1 : w.heap.size + 2 ≤ w1.heap.size := Nat.le_trans (by simp) hb.size
      have hx0 := hx1.trans (Below.refl _ _).drew
      have D0 := D1.stays (Below.refl _ _).drew
      obtain ⟨wd, hwd⟩ : ∃ wd : World, wd = w1.drew := ⟨_, rfl⟩
      have hzd : w.heap.size + 2 ≤ wd.heap.size := by rw [hwd]; exact hz1
      have hxd : Boxed w wd 47 #[.slice a1 P.length k1, .slice a2 S.length k2, .slice a3 W.length k3] := by rw [hwd]; exact hx0
      have Dd : Blk wd (w.heap.size + 1) 47 #[.slice none 0 0, .slice none 0 0, .slice none 0 0] := by rw [hwd]; exact D0
      subst hwd
      have HD : w1.drew.cell? ⟨w.heap.size, 0, none⟩ = some (.slice a1 P.length k1) ∧ w1.drew.cell? ⟨w.heap.size, 1, none⟩ = some (.slice a2 S.length k2) ∧ w1.drew.cell? ⟨w.heap.size, 2, none⟩ = some (.slice a3 W.length k3) := ⟨hx0.cell 0, hx0.cell 1, hx0.cell 2⟩; have HA : ∀ u0 u1 u2 : Value, (w1.drew.alloc (.cells #[u0, u1, u2] 47)).cell? ⟨w.heap.size, 0, none⟩ = some (.slice a1 P.length k1) ∧ (w1.drew.alloc (.cells #[u0, u1, u2] 47)).cell? ⟨w.heap.size, 1, none⟩ = some (.slice a2 S.length k2) ∧ (w1.drew.alloc (.cells #[u0, u1, u2] 47)).cell? ⟨w.heap.size, 2, none⟩ = some (.slice a3 W.length k3) := fun u0 u1 u2 => have h := hx0.alloc (.cells #[u0, u1, u2] 47); ⟨h.cell 0, h.cell 1, h.cell 2⟩
      go_region_held3 (fun w' => w'.cell? ⟨w.heap.size, 0, none⟩ = some (.slice a1 P.length k1) ∧ w'.cell? ⟨w.heap.size, 1, none⟩ = some (.slice a2 S.length k2) ∧ w'.cell? ⟨w.heap.size, 2, none⟩ = some (.slice a3 W.length k3))
        (first | assumption | exact HD | exact HA _ _ _ | exact HE _ _ _)
        (first
          | (go_at_call 112; have hst : Below w1.drew.heap.size w1.drew w1.drew := Below.refl _ _; have hsa : w1.drew.heap.size = w1.drew.heap.size := rfl; (with_reducible refine (l08OfOrders_l _ _ _ _ P S W O _ (hx0.rd hp) (hx0.rd hs) (hx0.rd hv) HCL.out hl.out hnum.out).mono ?_); rintro e v1 ⟨a, k, rfl, ho, hq⟩; have hy1 := hx0.trans hq; have G1 := (D0).stays hq; have hz2 := hq.size; (try have E := Blk.stays E hq); have pL := ho.block; have HD : v1.cell? ⟨w.heap.size, 0, none⟩ = some (.slice a1 P.length k1) ∧ v1.cell? ⟨w.heap.size, 1, none⟩ = some (.slice a2 S.length k2) ∧ v1.cell? ⟨w.heap.size, 2, none⟩ = some (.slice a3 W.length k3) := ⟨hy1.cell 0, hy1.cell 1, hy1.cell 2⟩; have HA : ∀ u0 u1 u2 : Value, (v1.alloc (.cells #[u0, u1, u2] 47)).cell? ⟨w.heap.size, 0, none⟩ = some (.slice a1 P.length k1) ∧ (v1.alloc (.cells #[u0, u1, u2] 47)).cell? ⟨w.heap.size, 1, none⟩ = some (.slice a2 S.length k2) ∧ (v1.alloc (.cells #[u0, u1, u2] 47)).cell? ⟨w.heap.size, 2, none⟩ = some (.slice a3 W.length k3) := fun u0 u1 u2 => have h := hy1.alloc (.cells #[u0, u1, u2] 47); ⟨h.cell 0, h.cell 1, h.cell 2⟩)
          | (go_at_call 108; have hst : Below v1.heap.size v1 v1 := Below.refl _ _; have hsa : v1.heap.size = v1.heap.size := rfl; (with_reducible refine (l07With_c _ _ _ _ _ _ P S W _ (hy1.rd hp) (hy1.rd hs) HCL.out).mono ?_); rintro e v2 ⟨b1, j1, b2, j2, rfl, o1, o2, ap, hq⟩; have hy2 := hy1.trans hq; have G2 := (G1).stays hq; have hz3 := hq.size; (try have E := Blk.stays E hq); have pP := o1.block; have pS := o2.block; have o3 := (ho.below hst (Nat.le_refl _)).below hq (Nat.le_refl _); have HD : v2.cell? ⟨w.heap.size, 0, none⟩ = some (.slice a1 P.length k1) ∧ v2.cell? ⟨w.heap.size, 1, none⟩ = some (.slice a2 S.length k2) ∧ v2.cell? ⟨w.heap.size, 2, none⟩ = some (.slice a3 W.length k3) := ⟨hy2.cell 0, hy2.cell 1, hy2.cell 2⟩; have HA : ∀ u0 u1 u2 : Value, (v2.alloc (.cells #[u0, u1, u2] 47)).cell? ⟨w.heap.size, 0, none⟩ = some (.slice a1 P.length k1) ∧ (v2.alloc (.cells #[u0, u1, u2] 47)).cell? ⟨w.heap.size, 1, none⟩ = some (.slice a2 S.length k2) ∧ (v2.alloc (.cells #[u0, u1, u2] 47)).cell? ⟨w.heap.size, 2, none⟩ = some (.slice a3 W.length k3) := fun u0 u1 u2 => have h := hy2.alloc (.cells #[u0, u1, u2] 47); ⟨h.cell 0, h.cell 1, h.cell 2⟩)
          | (go_at_call 108; have hst : Below v1.heap.size v1 (v1.alloc (.cells #[.slice none 0 0, .slice none 0 0, .slice none 0 0] 47)) := (Below.refl _ _).alloc (Nat.le_refl _) _; have hsa : (v1.alloc (.cells #[.slice none 0 0, .slice none 0 0, .slice none 0 0] 47)).heap.size = v1.heap.size + 1 := (by simp); (with_reducible refine (l07With_c _ _ _ _ _ _ P S W _ ((hy1.alloc (.cells #[.slice none 0 0, .slice none 0 0, .slice none 0 0] 47)).rd hp) ((hy1.alloc (.cells #[.slice none 0 0, .slice none 0 0, .slice none 0 0] 47)).rd hs) HCL.out).mono ?_); rintro e v2 ⟨b1, j1, b2, j2, rfl, o1, o2, ap, hq⟩; have hy2 := (hy1.alloc (.cells #[.slice none 0 0, .slice none 0 0, .slice none 0 0] 47)).trans hq; have G2 := (G1.alloc (.cells #[.slice none 0 0, .slice none 0 0, .slice none 0 0] 47)).stays hq; have hz3 := hq.size; have hN : w.heap.size + 2 ≤ v1.heap.size := (by (first | exact hz1 | omega)); have E := (Blk.new v1 47 #[.slice none 0 0, .slice none 0 0, .slice none 0 0]).stays hq; have pP := o1.block; have pS := o2.block; have o3 := (ho.below hst (Nat.le_refl _)).below hq (Nat.le_refl _); have HD : v2.cell? ⟨w.heap.size, 0, none⟩ = some (.slice a1 P.length k1) ∧ v2.cell? ⟨w.heap.size, 1, none⟩ = some (.slice a2 S.length k2) ∧ v2.cell? ⟨w.heap.size, 2, none⟩ = some (.slice a3 W.length k3) := ⟨hy2.cell 0, hy2.cell 1, hy2.cell 2⟩; have HA : ∀ u0 u1 u2 : Value, (v2.alloc (.cells #[u0, u1, u2] 47)).cell? ⟨w.heap.size, 0, none⟩ = some (.slice a1 P.length k1) ∧ (v2.alloc (.cells #[u0, u1, u2] 47)).cell? ⟨w.heap.size, 1, none⟩ = some (.slice a2 S.length k2) ∧ (v2.alloc (.cells #[u0, u1, u2] 47)).cell? ⟨w.heap.size, 2, none⟩ = some (.slice a3 W.length k3) := fun u0 u1 u2 => have h := hy2.alloc (.cells #[u0, u1, u2] 47); ⟨h.cell 0, h.cell 1, h.cell 2⟩)
          | (go_at_call 111; have hst : Below v2.heap.size v2 v2 := Below.refl _ _; have hsa : v2.heap.size = v2.heap.size := rfl; (with_reducible refine (l07Fit_v fb _ _ _ _ _ _ _ P S (woTo (proxL P S) O P.length) _ (o1.rd.below hst (Nat.le_refl _)) (o2.rd.below hst (Nat.le_refl _)) (o3.rd.below hst (Nat.le_refl _)) (woTo_len _ _ _) hwy.out).mono ?_); rintro e v3 ⟨rfl, hq⟩; have hy3 := hy2.trans hq; have G3 := (G2).stays hq; have hz4 := hq.size; (try have E := Blk.stays E hq); have o4 := (o1.below hst (Nat.le_refl _)).below hq (Nat.le_refl _); have o5 := (o2.below hst (Nat.le_refl _)).below hq (Nat.le_refl _); have o6 := (o3.below hst (Nat.le_refl _)).below hq (Nat.le_refl _); have HD : v3.cell? ⟨w.heap.size, 0, none⟩ = some (.slice a1 P.length k1) ∧ v3.cell? ⟨w.heap.size, 1, none⟩ = some (.slice a2 S.length k2) ∧ v3.cell? ⟨w.heap.size, 2, none⟩ = some (.slice a3 W.length k3) := ⟨hy3.cell 0, hy3.cell 1, hy3.cell 2⟩; have HA : ∀ u0 u1 u2 : Value, (v3.alloc (.cells #[u0, u1, u2] 47)).cell? ⟨w.heap.size, 0, none⟩ = some (.slice a1 P.length k1) ∧ (v3.alloc (.cells #[u0, u1, u2] 47)).cell? ⟨w.heap.size, 1, none⟩ = some (.slice a2 S.length k2) ∧ (v3.alloc (.cells #[u0, u1, u2] 47)).cell? ⟨w.heap.size, 2, none⟩ = some (.slice a3 W.length k3) := fun u0 u1 u2 => have h := hy3.alloc (.cells #[u0, u1, u2] 47); ⟨h.cell 0, h.cell 1, h.cell 2⟩; (try have HE := fun u0 u1 u2 => have h := (store3 E G3 hy3 (by omega) (by omega) u0 u1 u2).2.2.1; And.intro (h.cell 0) (And.intro (h.cell 1) (h.cell 2))); (try have r0 := Blk.free E 0); (try have r1 := Blk.free E 1); (try have r2 := Blk.free E 2); (try have s0 := Blk.cell E 0); (try have s1 := Blk.cell E 1); (try have s2 := Blk.cell E 2))
          | (go_at_call 111; have hst : Below v2.heap.size v2 (v2.alloc (.cells #[.slice none 0 0, .slice none 0 0, .slice none 0 0] 47)) := (Below.refl _ _).alloc (Nat.le_refl _) _; have hsa : (v2.alloc (.cells #[.slice none 0 0, .slice none 0 0, .slice none 0 0] 47)).heap.size = v2.heap.size + 1 := (by simp); (with_reducible refine (l07Fit_v fb _ _ _ _ _ _ _ P S (woTo (proxL P S) O P.length) _ (o1.rd.below hst (Nat.le_refl _)) (o2.rd.below hst (Nat.le_refl _)) (o3.rd.below hst (Nat.le_refl _)) (woTo_len _ _ _) hwy.out).mono ?_); rintro e v3 ⟨rfl, hq⟩; have hy3 := (hy2.alloc (.cells #[.slice none 0 0, .slice none 0 0, .slice none 0 0] 47)).trans hq; have G3 := (G2.alloc (.cells #[.slice none 0 0, .slice none 0 0, .slice none 0 0] 47)).stays hq; have hz4 := hq.size; have hN : w.heap.size + 2 ≤ v2.heap.size := (by (first | exact hz1 | omega)); have E := (Blk.new v2 47 #[.slice none 0 0, .slice none 0 0, .slice none 0 0]).stays hq; have o4 := (o1.below hst (Nat.le_refl _)).below hq (Nat.le_refl _); have o5 := (o2.below hst (Nat.le_refl _)).below hq (Nat.le_refl _); have o6 := (o3.below hst (Nat.le_refl _)).below hq (Nat.le_refl _); have HD : v3.cell? ⟨w.heap.size, 0, none⟩ = some (.slice a1 P.length k1) ∧ v3.cell? ⟨w.heap.size, 1, none⟩ = some (.slice a2 S.length k2) ∧ v3.cell? ⟨w.heap.size, 2, none⟩ = some (.slice a3 W.length k3) := ⟨hy3.cell 0, hy3.cell 1, hy3.cell 2⟩; have HA : ∀ u0 u1 u2 : Value, (v3.alloc (.cells #[u0, u1, u2] 47)).cell? ⟨w.heap.size, 0, none⟩ = some (.slice a1 P.length k1) ∧ (v3.alloc (.cells #[u0, u1, u2] 47)).cell? ⟨w.heap.size, 1, none⟩ = some (.slice a2 S.length k2) ∧ (v3.alloc (.cells #[u0, u1, u2] 47)).cell? ⟨w.heap.size, 2, none⟩ = some (.slice a3 W.length k3) := fun u0 u1 u2 => have h := hy3.alloc (.cells #[u0, u1, u2] 47); ⟨h.cell 0, h.cell 1, h.cell 2⟩; (try have HE := fun u0 u1 u2 => have h := (store3 E G3 hy3 (by omega) (by omega) u0 u1 u2).2.2.1; And.intro (h.cell 0) (And.intro (h.cell 1) (h.cell 2))); (try have r0 := Blk.free E 0); (try have r1 := Blk.free E 1); (try have r2 := Blk.free E 2); (try have s0 := Blk.cell E 0); (try have s1 := Blk.cell E 1); (try have s2 := Blk.cell E 2))
          | (go_at_call 112; have hsa : (w1.alloc (.cells #[.slice none 0 0, .slice none 0 0, .slice none 0 0] 47)).drew.heap.size = w1.drew.heap.size + 1 := (by simp); (with_reducible refine (l08OfOrders_l _ _ _ _ P S W O _ (((hx1.alloc (.cells #[.slice none 0 0, .slice none 0 0, .slice none 0 0] 47)).trans (show Below (w1.alloc (.cells #[.slice none 0 0, .slice none 0 0, .slice none 0 0] 47)).heap.size (w1.alloc (.cells #[.slice none 0 0, .slice none 0 0, .slice none 0 0] 47)) (w1.alloc (.cells #[.slice none 0 0, .slice none 0 0, .slice none 0 0] 47)).drew from (Below.refl _ _).drew)).rd hp) (((hx1.alloc (.cells #[.slice none 0 0, .slice none 0 0, .slice none 0 0] 47)).trans (show Below (w1.alloc (.cells #[.slice none 0 0, .slice none 0 0, .slice none 0 0] 47)).heap.size (w1.alloc (.cells #[.slice none 0 0, .slice none 0 0, .slice none 0 0] 47)) (w1.alloc (.cells #[.slice none 0 0, .slice none 0 0, .slice none 0 0] 47)).drew from (Below.refl _ _).drew)).rd hs) (((hx1.alloc (.cells #[.slice none 0 0, .slice none 0 0, .slice none 0 0] 47)).trans (show Below (w1.alloc (.cells #[.slice none 0 0, .slice none 0 0, .slice none 0 0] 47)).heap.size (w1.alloc (.cells #[.slice none 0 0, .slice none 0 0, .slice none 0 0] 47)) (w1.alloc (.cells #[.slice none 0 0, .slice none 0 0, .slice none 0 0] 47)).drew from (Below.refl _ _).drew)).rd hv) HCL.out hl.out hnum.out).mono ?_); rintro e v1 ⟨a, k, rfl, ho, hq⟩; have hy1 := ((hx1.alloc (.cells #[.slice none 0 0, .slice none 0 0, .slice none 0 0] 47)).trans (show Below (w1.alloc (.cells #[.slice none 0 0, .slice none 0 0, .slice none 0 0] 47)).heap.size (w1.alloc (.cells #[.slice none 0 0, .slice none 0 0, .slice none 0 0] 47)) (w1.alloc (.cells #[.slice none 0 0, .slice none 0 0, .slice none 0 0] 47)).drew from (Below.refl _ _).drew)).trans hq; have G1 := ((D1.alloc (.cells #[.slice none 0 0, .slice none 0 0, .slice none 0 0] 47)).stays (show Below (w1.alloc (.cells #[.slice none 0 0, .slice none 0 0, .slice none 0 0] 47)).heap.size (w1.alloc (.cells #[.slice none 0 0, .slice none 0 0, .slice none 0 0] 47)) (w1.alloc (.cells #[.slice none 0 0, .slice none 0 0, .slice none 0 0] 47)).drew from (Below.refl _ _).drew)).stays hq; have hz2 := hq.size; have hN : w.heap.size + 2 ≤ w1.drew.heap.size := (by (first | exact hz1 | omega)); have E := ((Blk.new w1 47 #[.slice none 0 0, .slice none 0 0, .slice none 0 0]).stays (show Below (w1.alloc (.cells #[.slice none 0 0, .slice none 0 0, .slice none 0 0] 47)).heap.size (w1.alloc (.cells #[.slice none 0 0, .slice none 0 0, .slice none 0 0] 47)) (w1.alloc (.cells #[.slice none 0 0, .slice none 0 0, .slice none 0 0] 47)).drew from (Below.refl _ _).drew)).stays hq; have pL := ho.block; have HD : v1.cell? ⟨w.heap.size, 0, none⟩ = some (.slice a1 P.length k1) ∧ v1.cell? ⟨w.heap.size, 1, none⟩ = some (.slice a2 S.length k2) ∧ v1.cell? ⟨w.heap.size, 2, none⟩ = some (.slice a3 W.length k3) := ⟨hy1.cell 0, hy1.cell 1, hy1.cell 2⟩; have HA : ∀ u0 u1 u2 : Value, (v1.alloc (.cells #[u0, u1, u2] 47)).cell? ⟨w.heap.size, 0, none⟩ = some (.slice a1 P.length k1) ∧ (v1.alloc (.cells #[u0, u1, u2] 47)).cell? ⟨w.heap.size, 1, none⟩ = some (.slice a2 S.length k2) ∧ (v1.alloc (.cells #[u0, u1, u2] 47)).cell? ⟨w.heap.size, 2, none⟩ = some (.slice a3 W.length k3) := fun u0 u1 u2 => have h := hy1.alloc (.cells #[u0, u1, u2] 47); ⟨h.cell 0, h.cell 1, h.cell 2⟩))
      · have hdr : w1.drew.heap.size = w1.heap.size := rfl
        have E5 := Blk.new v3 47 #[.slice (oA fb b1) (oN fb P.length) (oN fb j1), .slice (oA fb b2) (oN fb S.length) (oN fb j2), .slice (oA fb a) (oN fb O.length) (oN fb k)]
        have D5 := G3.alloc (.cells #[.slice (oA fb b1) (oN fb P.length) (oN fb j1), .slice (oA fb b2) (oN fb S.length) (oN fb j2), .slice (oA fb a) (oN fb O.length) (oN fb k)] 47)
        have hx5 := hy3.alloc (.cells #[.slice (oA fb b1) (oN fb P.length) (oN fb j1), .slice (oA fb b2) (oN fb S.length) (oN fb j2), .slice (oA fb a) (oN fb O.length) (oN fb k)] 47)
        have hk5 : Keeps (fun k => k = v3.heap.size) v3 (v3.alloc (.cells #[.slice (oA fb b1) (oN fb P.length) (oN fb j1), .slice (oA fb b2) (oN fb S.length) (oN fb j2), .slice (oA fb a) (oN fb O.length) (oN fb k)] 47)) := Keeps.of_below ((Below.refl _ _).alloc (Nat.le_refl _) _)
        have o7 := o4.below (show Below v3.heap.size v3 (v3.alloc (.cells #[.slice (oA fb b1) (oN fb P.length) (oN fb j1), .slice (oA fb b2) (oN fb S.length) (oN fb j2), .slice (oA fb a) (oN fb O.length) (oN fb k)] 47)) from (Below.refl _ _).alloc (Nat.le_refl _) _) (Nat.le_refl _)
        have o8 := o5.below (show Below v3.heap.size v3 (v3.alloc (.cells #[.slice (oA fb b1) (oN fb P.length) (oN fb j1), .slice (oA fb b2) (oN fb S.length) (oN fb j2), .slice (oA fb a) (oN fb O.length) (oN fb k)] 47)) from (Below.refl _ _).alloc (Nat.le_refl _) _) (Nat.le_refl _)
        have o9 := o6.below (show Below v3.heap.size v3 (v3.alloc (.cells #[.slice (oA fb b1) (oN fb P.length) (oN fb j1), .slice (oA fb b2) (oN fb S.length) (oN fb j2), .slice (oA fb a) (oN fb O.length) (oN fb k)] 47)) from (Below.refl _ _).alloc (Nat.le_refl _) _) (Nat.le_refl _)
        generalize hw5 : (v3.alloc (.cells #[.slice (oA fb b1) (oN fb P.length) (oN fb j1), .slice (oA fb b2) (oN fb S.length) (oN fb j2), .slice (oA fb a) (oN fb O.length) (oN fb k)] 47)) = w5 at E5 D5 hx5 hk5 o7 o8 o9 ⊢
        clear hw5
        have ho5 : Own3 2 w5 w1.heap.size (.slice (oA fb b1) (oN fb P.length) (oN fb j1)) (.slice (oA fb b2) (oN fb S.length) (oN fb j2)) (.slice (oA fb a) (oN fb O.length) (oN fb k)) (okL fb P) (okL fb S) (okL fb (woTo (proxL P S) O P.length)) := own3_fit fb ⟨o7.base_le (by omega), o8.base_le (by omega), o9.base_le (by omega), ap, fun k h1 h2 => by have := pP k h1; have := pL k h2; omega, fun k h1 h2 => by have := pS k h1; have := pL k h2; omega⟩
        have g0 : w5.cell? ⟨v3.heap.size, 0, none⟩ = some (.slice (oA fb b1) (oN fb P.length) (oN fb j1)) := by have := E5.cell 0; simpa using this
        have g1 : w5.cell? ⟨v3.heap.size, 1, none⟩ = some (.slice (oA fb b2) (oN fb S.length) (oN fb j2)) := by have := E5.cell 1; simpa using this
        have g2 : w5.cell? ⟨v3.heap.size, 2, none⟩ = some (.slice (oA fb a) (oN fb O.length) (oN fb k)) := by have := E5.cell 2; simpa using this
        have f0 := D5.free 0
        have f1 := D5.free 1
        have f2 := D5.free 2
        have e0 := D5.cell 0
        have e1 := D5.cell 1
        have e2 := D5.cell 2
        go_wp2
        have F := ((D5.set 0 (.slice (oA fb b1) (oN fb P.length) (oN fb j1))).set 1 (.slice (oA fb b2) (oN fb S.length) (oN fb j2))).set 2 (.slice (oA fb a) (oN fb O.length) (oN fb k))
        have q0 := F.cell 0
        have q1 := F.cell 1
        have q2 := F.cell 2
        have hK : Keeps (fun k => k = w.heap.size + 1) w5 (((w5.setCell ⟨w.heap.size + 1, 0, none⟩ (.slice (oA fb b1) (oN fb P.length) (oN fb j1))).setCell ⟨w.heap.size + 1, 1, none⟩ (.slice (oA fb b2) (oN fb S.length) (oN fb j2))).setCell ⟨w.heap.size + 1, 2, none⟩ (.slice (oA fb a) (oN fb O.length) (oN fb k))) := ((((Keeps.refl (fun k => k = w.heap.size + 1) w5).setCell (p := ⟨w.heap.size + 1, 0, none⟩) rfl _).setCell (p := ⟨w.heap.size + 1, 1, none⟩) rfl _).setCell (p := ⟨w.heap.size + 1, 2, none⟩) rfl _)
        refine bodyPost_ret (v := .tuple #[.agg #[.slice (oA fb b1) (oN fb P.length) (oN fb j1), .slice (oA fb b2) (oN fb S.length) (oN fb j2), .slice (oA fb a) (oN fb O.length) (oN fb k)], .int .i64 (okC fb 3)]) (by simp [results, Try.results57, go_sem, q0, q1, q2]) rfl (retCC_fit (woTo_len _ _ _) ?_ ?_)
        · exact (ho5.keeps hK (fun k hk e => by have := (ho5.block k hk).1; omega)).base_le (by omega)
        · exact hx5.below.trans (hK.below (by have := hx5.size; omega) (fun k hk => by omega))
      · have hdr : w1.drew.heap.size = w1.heap.size := rfl
        obtain ⟨E5, D5, hx5, hk5⟩ := store3 E G3 hy3 (by omega) (by omega) (.slice (oA fb b1) (oN fb P.length) (oN fb j1)) (.slice (oA fb b2) (oN fb S.length) (oN fb j2)) (.slice (oA fb a) (oN fb O.length) (oN fb k))
        have o7 := o4.keeps hk5 (fun k hk e => by have := pP k hk; omega)
        have o8 := o5.keeps hk5 (fun k hk e => by have := pS k hk; omega)
        have o9 := o6.keeps hk5 (fun k hk e => by have := pL k hk; omega)
        generalize hw5 : (((v3.setCell ⟨v2.heap.size, 0, none⟩ (.slice (oA fb b1) (oN fb P.length) (oN fb j1))).setCell ⟨v2.heap.size, 1, none⟩ (.slice (oA fb b2) (oN fb S.length) (oN fb j2))).setCell ⟨v2.heap.size, 2, none⟩ (.slice (oA fb a) (oN fb O.length) (oN fb k))) = w5 at E5 D5 hx5 hk5 o7 o8 o9 ⊢
        clear hw5
        have ho5 : Own3 2 w5 w1.heap.size (.slice (oA fb b1) (oN fb P.length) (oN fb j1)) (.slice (oA fb b2) (oN fb S.length) (oN fb j2)) (.slice (oA fb a) (oN fb O.length) (oN fb k)) (okL fb P) (okL fb S) (okL fb (woTo (proxL P S) O P.length)) := own3_fit fb ⟨o7.base_le (by omega), o8.base_le (by omega), o9.base_le (by omega), ap, fun k h1 h2 => by have := pP k h1; have := pL k h2; omega, fun k h1 h2 => by have := pS k h1; have := pL k h2; omega⟩
        have g0 : w5.cell? ⟨v2.heap.size, 0, none⟩ = some (.slice (oA fb b1) (oN fb P.length) (oN fb j1)) := by have := E5.cell 0; simpa using this
        have g1 : w5.cell? ⟨v2.heap.size, 1, none⟩ = some (.slice (oA fb b2) (oN fb S.length) (oN fb j2)) := by have := E5.cell 1; simpa using this
        have g2 : w5.cell? ⟨v2.heap.size, 2, none⟩ = some (.slice (oA fb a) (oN fb O.length) (oN fb k)) := by have := E5.cell 2; simpa using this
        have f0 := D5.free 0
        have f1 := D5.free 1
        have f2 := D5.free 2
        have e0 := D5.cell 0
        have e1 := D5.cell 1
        have e2 := D5.cell 2
        go_wp2
        have F := ((D5.set 0 (.slice (oA fb b1) (oN fb P.length) (oN fb j1))).set 1 (.slice (oA fb b2) (oN fb S.length) (oN fb j2))).set 2 (.slice (oA fb a) (oN fb O.length) (oN fb k))
        have q0 := F.cell 0
        have q1 := F.cell 1
        have q2 := F.cell 2
        have hK : Keeps (fun k => k = w.heap.size + 1) w5 (((w5.setCell ⟨w.heap.size + 1, 0, none⟩ (.slice (oA fb b1) (oN fb P.length) (oN fb j1))).setCell ⟨w.heap.size + 1, 1, none⟩ (.slice (oA fb b2) (oN fb S.length) (oN fb j2))).setCell ⟨w.heap.size + 1, 2, none⟩ (.slice (oA fb a) (oN fb O.length) (oN fb k))) := ((((Keeps.refl (fun k => k = w.heap.size + 1) w5).setCell (p := ⟨w.heap.size + 1, 0, none⟩) rfl _).setCell (p := ⟨w.heap.size + 1, 1, none⟩) rfl _).setCell (p := ⟨w.heap.size + 1, 2, none⟩) rfl _)
        refine bodyPost_ret (v := .tuple #[.agg #[.slice (oA fb b1) (oN fb P.length) (oN fb j1), .slice (oA fb b2) (oN fb S.length) (oN fb j2), .slice (oA fb a) (oN fb O.length) (oN fb k)], .int .i64 (okC fb 3)]) (by simp [results, Try.results57, go_sem, q0, q1, q2]) rfl (retCC_fit (woTo_len _ _ _) ?_ ?_)
        · exact (ho5.keeps hK (fun k hk e => by have := (ho5.block k hk).1; omega)).base_le (by omega)
        · exact hx5.below.trans (hK.below (by have := hx5.size; omega) (fun k hk => by omega))
      · have hdr : w1.drew.heap.size = w1.heap.size := rfl
        obtain ⟨E5, D5, hx5, hk5⟩ := store3 E G3 hy3 (by omega) (by omega) (.slice (oA fb b1) (oN fb P.length) (oN fb j1)) (.slice (oA fb b2) (oN fb S.length) (oN fb j2)) (.slice (oA fb a) (oN fb O.length) (oN fb k))
        have o7 := o4.keeps hk5 (fun k hk e => by have := pP k hk; omega)
        have o8 := o5.keeps hk5 (fun k hk e => by have := pS k hk; omega)
        have o9 := o6.keeps hk5 (fun k hk e => by have := pL k hk; omega)
        generalize hw5 : (((v3.setCell ⟨v1.heap.size, 0, none⟩ (.slice (oA fb b1) (oN fb P.length) (oN fb j1))).setCell ⟨v1.heap.size, 1, none⟩ (.slice (oA fb b2) (oN fb S.length) (oN fb j2))).setCell ⟨v1.heap.size, 2, none⟩ (.slice (oA fb a) (oN fb O.length) (oN fb k))) = w5 at E5 D5 hx5 hk5 o7 o8 o9 ⊢
        clear hw5
        have ho5 : Own3 2 w5 w1.heap.size (.slice (oA fb b1) (oN fb P.length) (oN fb j1)) (.slice (oA fb b2) (oN fb S.length) (oN fb j2)) (.slice (oA fb a) (oN fb O.length) (oN fb k)) (okL fb P) (okL fb S) (okL fb (woTo (proxL P S) O P.length)) := own3_fit fb ⟨o7.base_le (by omega), o8.base_le (by omega), o9.base_le (by omega), ap, fun k h1 h2 => by have := pP k h1; have := pL k h2; omega, fun k h1 h2 => by have := pS k h1; have := pL k h2; omega⟩
        have g0 : w5.cell? ⟨v1.heap.size, 0, none⟩ = some (.slice (oA fb b1) (oN fb P.length) (oN fb j1)) := by have := E5.cell 0; simpa using this
        have g1 : w5.cell? ⟨v1.heap.size, 1, none⟩ = some (.slice (oA fb b2) (oN fb S.length) (oN fb j2)) := by have := E5.cell 1; simpa using this
        have g2 : w5.cell? ⟨v1.heap.size, 2, none⟩ = some (.slice (oA fb a) (oN fb O.length) (oN fb k)) := by have := E5.cell 2; simpa using this
        have f0 := D5.free 0
        have f1 := D5.free 1
        have f2 := D5.free 2
        have e0 := D5.cell 0
        have e1 := D5.cell 1
        have e2 := D5.cell 2
        go_wp2
        have F := ((D5.set 0 (.slice (oA fb b1) (oN fb P.length) (oN fb j1))).set 1 (.slice (oA fb b2) (oN fb S.length) (oN fb j2))).set 2 (.slice (oA fb a) (oN fb O.length) (oN fb k))
        have q0 := F.cell 0
        have q1 := F.cell 1
        have q2 := F.cell 2
        have hK : Keeps (fun k => k = w.heap.size + 1) w5 (((w5.setCell ⟨w.heap.size + 1, 0, none⟩ (.slice (oA fb b1) (oN fb P.length) (oN fb j1))).setCell ⟨w.heap.size + 1, 1, none⟩ (.slice (oA fb b2) (oN fb S.length) (oN fb j2))).setCell ⟨w.heap.size + 1, 2, none⟩ (.slice (oA fb a) (oN fb O.length) (oN fb k))) := ((((Keeps.refl (fun k => k = w.heap.size + 1) w5).setCell (p := ⟨w.heap.size + 1, 0, none⟩) rfl _).setCell (p := ⟨w.heap.size + 1, 1, none⟩) rfl _).setCell (p := ⟨w.heap.size + 1, 2, none⟩) rfl _)
        refine bodyPost_ret (v := .tuple #[.agg #[.slice (oA fb b1) (oN fb P.length) (oN fb j1), .slice (oA fb b2) (oN fb S.length) (oN fb j2), .slice (oA fb a) (oN fb O.length) (oN fb k)], .int .i64 (okC fb 3)]) (by simp [results, Try.results57, go_sem, q0, q1, q2]) rfl (retCC_fit (woTo_len _ _ _) ?_ ?_)
        · exact (ho5.keeps hK (fun k hk e => by have := (ho5.block k hk).1; omega)).base_le (by omega)
        · exact hx5.below.trans (hK.below (by have := hx5.size; omega) (fun k hk => by omega))
      · have hdr : w1.drew.heap.size = w1.heap.size := rfl
        obtain ⟨E5, D5, hx5, hk5⟩ := store3 E G3 hy3 (by omega) (by omega) (.slice (oA fb b1) (oN fb P.length) (oN fb j1)) (.slice (oA fb b2) (oN fb S.length) (oN fb j2)) (.slice (oA fb a) (oN fb O.length) (oN fb k))
        have o7 := o4.keeps hk5 (fun k hk e => by have := pP k hk; omega)
        have o8 := o5.keeps hk5 (fun k hk e => by have := pS k hk; omega)
        have o9 := o6.keeps hk5 (fun k hk e => by have := pL k hk; omega)
        generalize hw5 : (((v3.setCell ⟨w1.heap.size, 0, none⟩ (.slice (oA fb b1) (oN fb P.length) (oN fb j1))).setCell ⟨w1.heap.size, 1, none⟩ (.slice (oA fb b2) (oN fb S.length) (oN fb j2))).setCell ⟨w1.heap.size, 2, none⟩ (.slice (oA fb a) (oN fb O.length) (oN fb k))) = w5 at E5 D5 hx5 hk5 o7 o8 o9 ⊢
        clear hw5
        have ho5 : Own3 2 w5 w1.heap.size (.slice (oA fb b1) (oN fb P.length) (oN fb j1)) (.slice (oA fb b2) (oN fb S.length) (oN fb j2)) (.slice (oA fb a) (oN fb O.length) (oN fb k)) (okL fb P) (okL fb S) (okL fb (woTo (proxL P S) O P.length)) := own3_fit fb ⟨o7.base_le (by omega), o8.base_le (by omega), o9.base_le (by omega), ap, fun k h1 h2 => by have := pP k h1; have := pL k h2; omega, fun k h1 h2 => by have := pS k h1; have := pL k h2; omega⟩
        have g0 : w5.cell? ⟨w1.heap.size, 0, none⟩ = some (.slice (oA fb b1) (oN fb P.length) (oN fb j1)) := by have := E5.cell 0; simpa using this
        have g1 : w5.cell? ⟨w1.heap.size, 1, none⟩ = some (.slice (oA fb b2) (oN fb S.length) (oN fb j2)) := by have := E5.cell 1; simpa using this
        have g2 : w5.cell? ⟨w1.heap.size, 2, none⟩ = some (.slice (oA fb a) (oN fb O.length) (oN fb k)) := by have := E5.cell 2; simpa using this
        have f0 := D5.free 0
        have f1 := D5.free 1
        have f2 := D5.free 2
        have e0 := D5.cell 0
        have e1 := D5.cell 1
        have e2 := D5.cell 2
        go_wp2
        have F := ((D5.set 0 (.slice (oA fb b1) (oN fb P.length) (oN fb j1))).set 1 (.slice (oA fb b2) (oN fb S.length) (oN fb j2))).set 2 (.slice (oA fb a) (oN fb O.length) (oN fb k))
        have q0 := F.cell 0
        have q1 := F.cell 1
        have q2 := F.cell 2
        have hK : Keeps (fun k => k = w.heap.size + 1) w5 (((w5.setCell ⟨w.heap.size + 1, 0, none⟩ (.slice (oA fb b1) (oN fb P.length) (oN fb j1))).setCell ⟨w.heap.size + 1, 1, none⟩ (.slice (oA fb b2) (oN fb S.length) (oN fb j2))).setCell ⟨w.heap.size + 1, 2, none⟩ (.slice (oA fb a) (oN fb O.length) (oN fb k))) := ((((Keeps.refl (fun k => k = w.heap.size + 1) w5).setCell (p := ⟨w.heap.size + 1, 0, none⟩) rfl _).setCell (p := ⟨w.heap.size + 1, 1, none⟩) rfl _).setCell (p := ⟨w.heap.size + 1, 2, none⟩) rfl _)
        refine bodyPost_ret (v := .tuple #[.agg #[.slice (oA fb b1) (oN fb P.length) (oN fb j1), .slice (oA fb b2) (oN fb S.length) (oN fb j2), .slice (oA fb a) (oN fb O.length) (oN fb k)], .int .i64 (okC fb 3)]) (by simp [results, Try.results57, go_sem, q0, q1, q2]) rfl (retCC_fit (woTo_len _ _ _) ?_ ?_)
        · exact (ho5.keeps hK (fun k hk e => by have := (ho5.block k hk).1; omega)).base_le (by omega)
        · exact hx5.below.trans (hK.below (by have := hx5.size; omega) (fun k hk => by omega))

end Go.Proofs.Ythfdkigljbdogaa
