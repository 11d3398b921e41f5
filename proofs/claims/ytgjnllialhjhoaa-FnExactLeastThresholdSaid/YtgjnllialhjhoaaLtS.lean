/- Contracts: LeastThreshold, the reference. -/
import Derived.Test.YtgjnllialhjhoaaLt
import Derived.Test.YtgjnllialhjhoaaPDiscL
import Derived.Test.YtgjnllialhjhoaaWith
import Derived.Deep.RegionHeld3
import Derived.Deep.DeepCutAuto
namespace Go.Proofs.Ytgjnllialhjhoaa
open Go.RowKit

theorem below1 (w : World) (o1 : Obj) : Below w.heap.size w (w.alloc o1).drew := ((Below.refl _ _).alloc (Nat.le_refl _) o1).drew
theorem rdF_bd {p : Int × Int} (h : 1 ≤ p.1 ∧ p.1 ≤ 2000001 ∧ 0 ≤ p.2 ∧ p.2 ≤ 120000000000) : 0 ≤ (rdF p).1 ∧ (rdF p).1 ≤ 2000001 ∧ 0 ≤ (rdF p).2 ∧ (rdF p).2 ≤ 120000000000 := by
  by_cases h0 : p.2 = 0
  · rw [rdF_zero h0]; show (0 : Int) ≤ 0 ∧ (0 : Int) ≤ 2000001 ∧ (0 : Int) ≤ 0 ∧ (0 : Int) ≤ 120000000000; omega
  · have hp : 0 < p.2 := by omega
    have hb := red_bot (a := p.1) (b := p.2) (by omega) hp
    rw [rdF_pos hp]
    show 0 ≤ p.1 / gcdI p.1 p.2 ∧ p.1 / gcdI p.1 p.2 ≤ 2000001 ∧ 0 ≤ p.2 / gcdI p.1 p.2 ∧ p.2 / gcdI p.1 p.2 ≤ 120000000000
    omega
set_option maxHeartbeats 1000000 in
theorem l01Fraction_c (x y : Int) (w : World) (h1 : -1000000000000 ≤ x ∧ x ≤ 1000000000000) (h2 : -1000000000000 ≤ y ∧ y ≤ 1000000000000) (hg : gcdI x y = 1) :
    Calls Try.prog 111 #[.agg #[.int .i64 x, .int .i64 y]] w fun e w' => e = .returned (.bool (fitB x y)) ∧ Below w.heap.size w w' := by
  have hx := Boxed.start w 63 #[.int .i64 x, .int .i64 y]
  have c0 := hx.cell 0
  have c1 := hx.cell 1
  cases i1 : inB x (-1000000000) 1000000000
  · have hf : fitB x y = false := by simp [fitB, i1]
    rw [hf]
    go_enter Try.func111, Try.ntmps111
    go_wp2_with fail
    refine (l01Integer_c _ _).mono ?_
    rintro e w1 ⟨rfl, rfl⟩
    rw [i1]
    go_wp2
    go_ret
    exact ⟨rfl, hx.below⟩
  · cases i2 : inB y 1 1000000000
    · have hf : fitB x y = false := by simp [fitB, i1, i2]
      rw [hf]
      go_enter Try.func111, Try.ntmps111
      go_wp2_with fail
      refine (l01Integer_c _ _).mono ?_
      rintro e w1 ⟨rfl, rfl⟩
      rw [i1]
      go_wp2_with fail
      refine (l01Natural_c _ _).mono ?_
      rintro e w1 ⟨rfl, rfl⟩
      rw [i2]
      go_wp2
      go_ret
      exact ⟨rfl, hx.below⟩
    · have hf : fitB x y = true := by simp [fitB, i1, i2]
      rw [hf]
      go_enter Try.func111, Try.ntmps111
      go_wp2_with fail
      refine (l01Integer_c _ _).mono ?_
      rintro e w1 ⟨rfl, rfl⟩
      rw [i1]
      go_wp2_with fail
      refine (l01Natural_c _ _).mono ?_
      rintro e w1 ⟨rfl, rfl⟩
      rw [i2]
      go_wp2_with fail
      refine (l01Gcd_c x y _ (by omega) (by omega) (by omega) (by omega)).mono ?_
      rintro e w1 ⟨rfl, rfl⟩
      rw [hg]
      go_wp2
      go_ret
      exact ⟨rfl, hx.below⟩

/-- The orders of ones are the discrepancies. -/
theorem l07Ones_c (p s q v : Value) (P S W : List Int) (w : World) (hp : Rd w p P) (hs : Rd w s S) (hv : Rd w v (onesTo P.length)) (hc : CluOk P S W) :
    Calls Try.prog 108 #[.agg #[p, s, q], v] w (RetL P.length w (discTo P S P.length)) := by
  have h1 := l07Orders_c p s q v P S W (onesTo P.length) w hp hs hv hc (by simp) (fun j hj => by rw [gI_ones (by simpa using hj)]; omega)
  rw [ord_own_congrL (own' := fun _ => 1) (fun j hj => gI_ones hj)] at h1
  exact h1.mono fun _ _ h2 => retL_of h2 (discTo_len _ _ _)
theorem l06OnesL_c (n : Nat) (w : World) (hn : n ≤ 100000) : Calls Try.prog 109 #[.int .i64 (n : Int)] w (RetL n w (onesTo n)) := (l06Ones_c n w hn).mono fun _ _ h2 => retL_of h2 (onesTo_len n)
theorem l07OrdersL_c (p s q v : Value) (P S W : List Int) (w : World) (hp : Rd w p P) (hs : Rd w s S) (hv : Rd w v W) (hc : CluOk P S W) :
    Calls Try.prog 108 #[.agg #[p, s, q], v] w (RetL P.length w (ordTo (fun j => gI W j) P S P.length)) :=
  (l07Orders_c p s q v P S W W w hp hs hv hc hc.1.2.2.2 hc.2.1).mono fun _ _ h2 => retL_of h2 (ordTo_len _ _ _ _)

set_option maxRecDepth 100000 in
set_option maxHeartbeats 1000000 in
theorem specLt_1 (p s q : Value) (P S W : List Int) (w : World) (hp : Rd w p P) (hs : Rd w s S) (hq : Rd w q W) (hc : cluB P S W = false) :
    Calls Try.prog 62 #[.agg #[p, s, q]] w fun e w' => e = .returned (.tuple #[.agg #[.int .i64 0, .int .i64 0], .int .i64 1]) ∧ Below w.heap.size w w' := by
  obtain ⟨a1, k1, rfl⟩ := hp.len0
  obtain ⟨a2, k2, rfl⟩ := hs.len0
  obtain ⟨a3, k3, rfl⟩ := hq.len0
  have hx := Boxed.start w 51 #[.slice a1 P.length k1, .slice a2 S.length k2, .slice a3 W.length k3]
  have hxa := hx.alloc (.cells #[.int .i64 0, .int .i64 0] 63)
  have D := Blk.new' (w := w.alloc (.cells #[.slice a1 P.length k1, .slice a2 S.length k2, .slice a3 W.length k3] 51)) (t := 63) (cs := #[.int .i64 0, .int .i64 0]) (g := w.heap.size + 1) (by simp)
  have c0 := hxa.cell 0
  have c1 := hxa.cell 1
  have c2 := hxa.cell 2
  go_enter Try.func62, Try.ntmps62
  go_wp2_with fail
  refine (l07Is_c _ _ _ P S W _ (hxa.rd hp) (hxa.rd hs) (hxa.rd hq)).mono ?_
  rintro e w1 ⟨rfl, hb⟩
  rw [hc]
  have D1 := D.stays hb
  have hx1 := hxa.trans hb
  have f0 := D1.free 0
  have f1 := D1.free 1
  have e0 := D1.cell 0
  have e1 := D1.cell 1
  clear c0 c1 c2
  go_wp2
  have F := (D1.set 0 (.int .i64 0)).set 1 (.int .i64 0)
  have q0 := F.cell 0
  have q1 := F.cell 1
  refine bodyPost_ret (v := .tuple #[.agg #[.int .i64 0, .int .i64 0], .int .i64 1]) (by simp [results, Try.results62, go_sem, q0, q1]) rfl (lt_zero hx1.below)

set_option maxRecDepth 100000 in
set_option maxHeartbeats 1000000 in
theorem specLt_2 (p s q : Value) (P S W : List Int) (w : World) (hp : Rd w p P) (hs : Rd w s S) (hq : Rd w q W) (hc : cluB P S W = true) (hn : nonNeg (exTo (proxL P S) W P.length) = false) :
    Calls Try.prog 62 #[.agg #[p, s, q]] w fun e w' => e = .returned (.tuple #[.agg #[.int .i64 0, .int .i64 0], .int .i64 5]) ∧ Below w.heap.size w w' := by
  obtain ⟨a1, k1, rfl⟩ := hp.len0
  obtain ⟨a2, k2, rfl⟩ := hs.len0
  obtain ⟨a3, k3, rfl⟩ := hq.len0
  have hx := Boxed.start w 51 #[.slice a1 P.length k1, .slice a2 S.length k2, .slice a3 W.length k3]
  have hxa := hx.alloc (.cells #[.int .i64 0, .int .i64 0] 63)
  have D := Blk.new' (w := w.alloc (.cells #[.slice a1 P.length k1, .slice a2 S.length k2, .slice a3 W.length k3] 51)) (t := 63) (cs := #[.int .i64 0, .int .i64 0]) (g := w.heap.size + 1) (by simp)
  have HCL := Lib.hid (cluB_iff.1 hc)
  have c0 := hxa.cell 0
  have c1 := hxa.cell 1
  have c2 := hxa.cell 2
  go_enter Try.func62, Try.ntmps62
  go_wp2_with fail
  refine (l07Is_c _ _ _ P S W _ (hxa.rd hp) (hxa.rd hs) (hxa.rd hq)).mono ?_
  rintro e w1 ⟨rfl, hb⟩
  rw [hc]
  have D1 := D.stays hb
  have hx1 := hxa.trans hb
  clear c0 c1 c2
  have c0 := hx1.cell 0
  have c1 := hx1.cell 1
  have c2 := hx1.cell 2
  go_wp2_with fail
  refine (l07Consistent_c _ _ _ P S W _ (hx1.rd hp) (hx1.rd hs) (hx1.rd hq) HCL.out).mono ?_
  rintro e w2 ⟨rfl, hb2⟩
  rw [hn]
  have D2 := D1.stays hb2
  have hx2 := hx1.trans hb2
  have f0 := D2.free 0
  have f1 := D2.free 1
  have e0 := D2.cell 0
  have e1 := D2.cell 1
  clear c0 c1 c2
  go_wp2
  have F := (D2.set 0 (.int .i64 0)).set 1 (.int .i64 0)
  have q0 := F.cell 0
  have q1 := F.cell 1
  refine bodyPost_ret (v := .tuple #[.agg #[.int .i64 0, .int .i64 0], .int .i64 5]) (by simp [results, Try.results62, go_sem, q0, q1]) rfl (lt_zero hx2.below)

set_option maxRecDepth 100000 in
set_option maxHeartbeats 4000000 in
theorem specLt_3 (p s q : Value) (P S W : List Int) (w : World) (hp : Rd w p P) (hs : Rd w s S) (hq : Rd w q W) (hc : cluB P S W = true) (hn : nonNeg (exTo (proxL P S) W P.length) = true) :
    Calls Try.prog 62 #[.agg #[p, s, q]] w fun e w' => e = .returned (.tuple #[.agg #[.int .i64 (okN (ltB P S W) (ltR P S W).1), .int .i64 (okN (ltB P S W) (ltR P S W).2)], .int .i64 (ltC P S W)]) ∧ Below w.heap.size w w' := by
  obtain ⟨a1, k1, rfl⟩ := hp.len0
  obtain ⟨a2, k2, rfl⟩ := hs.len0
  obtain ⟨a3, k3, rfl⟩ := hq.len0
  have hx := Boxed.start w 51 #[.slice a1 P.length k1, .slice a2 S.length k2, .slice a3 W.length k3]
  have hxa := hx.alloc (.cells #[.int .i64 0, .int .i64 0] 63)
  have D := Blk.new' (w := w.alloc (.cells #[.slice a1 P.length k1, .slice a2 S.length k2, .slice a3 W.length k3] 51)) (t := 63) (cs := #[.int .i64 0, .int .i64 0]) (g := w.heap.size + 1) (by simp)
  have hcl := cluB_iff.1 hc
  have HCL := Lib.hid hcl
  obtain ⟨hV0, hD0⟩ := lt_num hcl hn
  have HV := Lib.hid hV0
  have HD := Lib.hid hD0
  have hP0 : 0 < P.length := hcl.1.1
  have h24 : P.length ≤ 24 := hcl.1.2.1
  have hlV : (ordTo (fun j => gI W j) P S P.length).length = P.length := ordTo_len _ _ _ _
  have hlD : (discTo P S P.length).length = P.length := discTo_len _ _ _
  have HBD := Lib.hid (ltTo_bd (V := ordTo (fun j => gI W j) P S P.length) (D := discTo P S P.length) (n := P.length) (fun i hi => (hV0 i hi).2) hD0)
  have HR := Lib.hid (show ∀ r, ltTo (ordTo (fun j => gI W j) P S P.length) (discTo P S P.length) P.length = r → (r.2 = 0 → ltB P S W = false ∧ ltC P S W = 5) ∧ (r.2 ≠ 0 → ltB P S W = fitB (rdF r).1 (rdF r).2 ∧ ltC P S W = okC (fitB (rdF r).1 (rdF r).2) 3 ∧ ltR P S W = rdF r) from fun r hr => by
    subst hr
    exact ⟨fun h => lt_3 hc hn h, fun h => ⟨(lt_4 hc hn h).1, (lt_4 hc hn h).2, rfl⟩⟩)
  have hn100 : P.length ≤ 100000 := by omega
  clear hV0 hD0 hcl
  have c0 := hxa.cell 0
  have c1 := hxa.cell 1
  have c2 := hxa.cell 2
  go_enter Try.func62, Try.ntmps62
  go_wp2_with fail
  refine (l07Is_c _ _ _ P S W _ (hxa.rd hp) (hxa.rd hs) (hxa.rd hq)).mono ?_
  rintro e w1 ⟨rfl, hb⟩
  rw [hc]
  have D1 := D.stays hb
  have hx1 := hxa.trans hb
  clear c0 c1 c2
  have c0 := hx1.cell 0
  have c1 := hx1.cell 1
  have c2 := hx1.cell 2
  go_wp2_with fail
  refine (l07Consistent_c _ _ _ P S W _ (hx1.rd hp) (hx1.rd hs) (hx1.rd hq) HCL.out).mono ?_
  rintro e w2 ⟨rfl, hb2⟩
  rw [hn]
  have D2 := D1.stays hb2
  have hx2 := hx1.trans hb2
  have hz2 : w.heap.size + 2 ≤ w2.heap.size := Nat.le_trans (Nat.le_trans (by simp) hb.size) hb2.size
  clear c0 c1 c2
  go_wp2_with fail
  go_cut [4, 5, 6] from 17 to 27 (fun s4 s5 s6 wc => ∃ gV kV gD kD gb : Nat, s4 = .slice (some ⟨gV, 0, none⟩) P.length kV ∧ s5 = .slice (some ⟨gD, 0, none⟩) P.length kD ∧ s6 = .pointer (some ⟨gb, 0, none⟩) ∧ OwnI wc 0 (.slice (some ⟨gV, 0, none⟩) P.length kV) (ordTo (fun j => gI W j) P S P.length) ∧ OwnI wc 0 (.slice (some ⟨gD, 0, none⟩) P.length kD) (discTo P S P.length) ∧ Blk wc gb 63 #[.int .i64 0, .int .i64 0] ∧ gb ≠ gV ∧ gb ≠ gD ∧ w.heap.size + 2 ≤ gb ∧ Boxed w wc 51 #[.slice a1 P.length k1, .slice a2 S.length k2, .slice a3 W.length k3] ∧ Blk wc (w.heap.size + 1) 63 #[.int .i64 0, .int .i64 0])
  case first =>
    have HC : w2.cell? ⟨w.heap.size, 0, none⟩ = some (.slice a1 P.length k1) ∧ w2.cell? ⟨w.heap.size, 1, none⟩ = some (.slice a2 S.length k2) ∧ w2.cell? ⟨w.heap.size, 2, none⟩ = some (.slice a3 W.length k3) := ⟨hx2.cell 0, hx2.cell 1, hx2.cell 2⟩
    have HA : (w2.alloc (.cells #[.int .i64 0, .int .i64 0] 63)).cell? ⟨w.heap.size, 0, none⟩ = some (.slice a1 P.length k1) ∧ (w2.alloc (.cells #[.int .i64 0, .int .i64 0] 63)).cell? ⟨w.heap.size, 1, none⟩ = some (.slice a2 S.length k2) ∧ (w2.alloc (.cells #[.int .i64 0, .int .i64 0] 63)).cell? ⟨w.heap.size, 2, none⟩ = some (.slice a3 W.length k3) := ⟨(hx2.alloc (.cells #[.int .i64 0, .int .i64 0] 63)).cell 0, (hx2.alloc (.cells #[.int .i64 0, .int .i64 0] 63)).cell 1, (hx2.alloc (.cells #[.int .i64 0, .int .i64 0] 63)).cell 2⟩
    go_region_held3 (fun w' => w'.cell? ⟨w.heap.size, 0, none⟩ = some (.slice a1 P.length k1) ∧ w'.cell? ⟨w.heap.size, 1, none⟩ = some (.slice a2 S.length k2) ∧ w'.cell? ⟨w.heap.size, 2, none⟩ = some (.slice a3 W.length k3))
      (first | assumption | exact HC | exact HA | exact HE _ _)
      (first
        | (go_at_call 108; have hst : Below wA.heap.size wA wA := Below.refl _ _; have hsC : wA.heap.size ≤ wA.heap.size := Nat.le_refl _; have hX := hxA; have oA := oA.below hst (Nat.le_refl _); have oB := oB.below hst (Nat.le_refl _); (with_reducible refine (l07Ones_c _ _ _ _ P S W _ (hX.rd hp) (hX.rd hs) oB.rd HCL.out).mono ?_); rintro e wC ⟨gC, kC, rfl, oC, hq⟩; have hxC := hX.trans hq; have rgC := oC.block; have htC := hq.size; have DC := (DA.stays hst).stays hq; have oA := oA.below hq (Nat.le_refl _); have oB := oB.below hq (Nat.le_refl _); (try have E := Blk.stays E hq); have HC : wC.cell? ⟨w.heap.size, 0, none⟩ = some (.slice a1 P.length k1) ∧ wC.cell? ⟨w.heap.size, 1, none⟩ = some (.slice a2 S.length k2) ∧ wC.cell? ⟨w.heap.size, 2, none⟩ = some (.slice a3 W.length k3) := ⟨hxC.cell 0, hxC.cell 1, hxC.cell 2⟩; have HA : (wC.alloc (.cells #[.int .i64 0, .int .i64 0] 63)).cell? ⟨w.heap.size, 0, none⟩ = some (.slice a1 P.length k1) ∧ (wC.alloc (.cells #[.int .i64 0, .int .i64 0] 63)).cell? ⟨w.heap.size, 1, none⟩ = some (.slice a2 S.length k2) ∧ (wC.alloc (.cells #[.int .i64 0, .int .i64 0] 63)).cell? ⟨w.heap.size, 2, none⟩ = some (.slice a3 W.length k3) := ⟨(hxC.alloc (.cells #[.int .i64 0, .int .i64 0] 63)).cell 0, (hxC.alloc (.cells #[.int .i64 0, .int .i64 0] 63)).cell 1, (hxC.alloc (.cells #[.int .i64 0, .int .i64 0] 63)).cell 2⟩; have HEof : ∀ EN : Nat, w.heap.size + 2 ≤ EN → Blk wC EN 63 #[.int .i64 0, .int .i64 0] → ∀ u0 u1 : Value, ((wC.setCell ⟨EN, 0, none⟩ u0).setCell ⟨EN, 1, none⟩ u1).cell? ⟨w.heap.size, 0, none⟩ = some (.slice a1 P.length k1) ∧ ((wC.setCell ⟨EN, 0, none⟩ u0).setCell ⟨EN, 1, none⟩ u1).cell? ⟨w.heap.size, 1, none⟩ = some (.slice a2 S.length k2) ∧ ((wC.setCell ⟨EN, 0, none⟩ u0).setCell ⟨EN, 1, none⟩ u1).cell? ⟨w.heap.size, 2, none⟩ = some (.slice a3 W.length k3) := fun EN hEN _ u0 u1 => have h := hxC.wrote (((Keeps.refl (fun k => w.heap.size + 1 ≤ k) wC).setCell (p := ⟨EN, 0, none⟩) (by show w.heap.size + 1 ≤ EN; omega) u0).setCell (p := ⟨EN, 1, none⟩) (by show w.heap.size + 1 ≤ EN; omega) u1); ⟨h.cell 0, h.cell 1, h.cell 2⟩; (try have HE := fun (u0 u1 : Value) => HEof _ (by first | exact hz2 | omega) E u0 u1); (try have r0 := Blk.free E 0); (try have r1 := Blk.free E 1); (try have t0 := Blk.cell E 0); (try have t1 := Blk.cell E 1))
        | (go_at_call 108; have hst : Below wC.heap.size wC wC := Below.refl _ _; have hsA : wC.heap.size ≤ wC.heap.size := Nat.le_refl _; have hX := hxC; have oB := oB.below hst (Nat.le_refl _); have oC := oC.below hst (Nat.le_refl _); (with_reducible refine (l07OrdersL_c _ _ _ _ P S W _ (hX.rd hp) (hX.rd hs) (hX.rd hq) HCL.out).mono ?_); rintro e wA ⟨gA, kA, rfl, oA, hq⟩; have hxA := hX.trans hq; have rgA := oA.block; have htA := hq.size; have DA := (DC.stays hst).stays hq; have oB := oB.below hq (Nat.le_refl _); have oC := oC.below hq (Nat.le_refl _); (try have E := Blk.stays E hq); have HC : wA.cell? ⟨w.heap.size, 0, none⟩ = some (.slice a1 P.length k1) ∧ wA.cell? ⟨w.heap.size, 1, none⟩ = some (.slice a2 S.length k2) ∧ wA.cell? ⟨w.heap.size, 2, none⟩ = some (.slice a3 W.length k3) := ⟨hxA.cell 0, hxA.cell 1, hxA.cell 2⟩; have HA : (wA.alloc (.cells #[.int .i64 0, .int .i64 0] 63)).cell? ⟨w.heap.size, 0, none⟩ = some (.slice a1 P.length k1) ∧ (wA.alloc (.cells #[.int .i64 0, .int .i64 0] 63)).cell? ⟨w.heap.size, 1, none⟩ = some (.slice a2 S.length k2) ∧ (wA.alloc (.cells #[.int .i64 0, .int .i64 0] 63)).cell? ⟨w.heap.size, 2, none⟩ = some (.slice a3 W.length k3) := ⟨(hxA.alloc (.cells #[.int .i64 0, .int .i64 0] 63)).cell 0, (hxA.alloc (.cells #[.int .i64 0, .int .i64 0] 63)).cell 1, (hxA.alloc (.cells #[.int .i64 0, .int .i64 0] 63)).cell 2⟩; have HEof : ∀ EN : Nat, w.heap.size + 2 ≤ EN → Blk wA EN 63 #[.int .i64 0, .int .i64 0] → ∀ u0 u1 : Value, ((wA.setCell ⟨EN, 0, none⟩ u0).setCell ⟨EN, 1, none⟩ u1).cell? ⟨w.heap.size, 0, none⟩ = some (.slice a1 P.length k1) ∧ ((wA.setCell ⟨EN, 0, none⟩ u0).setCell ⟨EN, 1, none⟩ u1).cell? ⟨w.heap.size, 1, none⟩ = some (.slice a2 S.length k2) ∧ ((wA.setCell ⟨EN, 0, none⟩ u0).setCell ⟨EN, 1, none⟩ u1).cell? ⟨w.heap.size, 2, none⟩ = some (.slice a3 W.length k3) := fun EN hEN _ u0 u1 => have h := hxA.wrote (((Keeps.refl (fun k => w.heap.size + 1 ≤ k) wA).setCell (p := ⟨EN, 0, none⟩) (by show w.heap.size + 1 ≤ EN; omega) u0).setCell (p := ⟨EN, 1, none⟩) (by show w.heap.size + 1 ≤ EN; omega) u1); ⟨h.cell 0, h.cell 1, h.cell 2⟩; (try have HE := fun (u0 u1 : Value) => HEof _ (by first | exact hz2 | omega) E u0 u1); (try have r0 := Blk.free E 0); (try have r1 := Blk.free E 1); (try have t0 := Blk.cell E 0); (try have t1 := Blk.cell E 1))
        | (go_at_call 108; have hst : Below wB.heap.size wB wB := Below.refl _ _; have hsC : wB.heap.size ≤ wB.heap.size := Nat.le_refl _; have hX := hxB; have oA := oA.below hst (Nat.le_refl _); have oB := oB.below hst (Nat.le_refl _); (with_reducible refine (l07Ones_c _ _ _ _ P S W _ (hX.rd hp) (hX.rd hs) oB.rd HCL.out).mono ?_); rintro e wC ⟨gC, kC, rfl, oC, hq⟩; have hxC := hX.trans hq; have rgC := oC.block; have htC := hq.size; have DC := (DB.stays hst).stays hq; have oA := oA.below hq (Nat.le_refl _); have oB := oB.below hq (Nat.le_refl _); (try have E := Blk.stays E hq); have HC : wC.cell? ⟨w.heap.size, 0, none⟩ = some (.slice a1 P.length k1) ∧ wC.cell? ⟨w.heap.size, 1, none⟩ = some (.slice a2 S.length k2) ∧ wC.cell? ⟨w.heap.size, 2, none⟩ = some (.slice a3 W.length k3) := ⟨hxC.cell 0, hxC.cell 1, hxC.cell 2⟩; have HA : (wC.alloc (.cells #[.int .i64 0, .int .i64 0] 63)).cell? ⟨w.heap.size, 0, none⟩ = some (.slice a1 P.length k1) ∧ (wC.alloc (.cells #[.int .i64 0, .int .i64 0] 63)).cell? ⟨w.heap.size, 1, none⟩ = some (.slice a2 S.length k2) ∧ (wC.alloc (.cells #[.int .i64 0, .int .i64 0] 63)).cell? ⟨w.heap.size, 2, none⟩ = some (.slice a3 W.length k3) := ⟨(hxC.alloc (.cells #[.int .i64 0, .int .i64 0] 63)).cell 0, (hxC.alloc (.cells #[.int .i64 0, .int .i64 0] 63)).cell 1, (hxC.alloc (.cells #[.int .i64 0, .int .i64 0] 63)).cell 2⟩; have HEof : ∀ EN : Nat, w.heap.size + 2 ≤ EN → Blk wC EN 63 #[.int .i64 0, .int .i64 0] → ∀ u0 u1 : Value, ((wC.setCell ⟨EN, 0, none⟩ u0).setCell ⟨EN, 1, none⟩ u1).cell? ⟨w.heap.size, 0, none⟩ = some (.slice a1 P.length k1) ∧ ((wC.setCell ⟨EN, 0, none⟩ u0).setCell ⟨EN, 1, none⟩ u1).cell? ⟨w.heap.size, 1, none⟩ = some (.slice a2 S.length k2) ∧ ((wC.setCell ⟨EN, 0, none⟩ u0).setCell ⟨EN, 1, none⟩ u1).cell? ⟨w.heap.size, 2, none⟩ = some (.slice a3 W.length k3) := fun EN hEN _ u0 u1 => have h := hxC.wrote (((Keeps.refl (fun k => w.heap.size + 1 ≤ k) wC).setCell (p := ⟨EN, 0, none⟩) (by show w.heap.size + 1 ≤ EN; omega) u0).setCell (p := ⟨EN, 1, none⟩) (by show w.heap.size + 1 ≤ EN; omega) u1); ⟨h.cell 0, h.cell 1, h.cell 2⟩; (try have HE := fun (u0 u1 : Value) => HEof _ (by first | exact hz2 | omega) E u0 u1); (try have r0 := Blk.free E 0); (try have r1 := Blk.free E 1); (try have t0 := Blk.cell E 0); (try have t1 := Blk.cell E 1))
        | (go_at_call 108; have hst : Below wB.heap.size wB wB := Below.refl _ _; have hsC : wB.heap.size ≤ wB.heap.size := Nat.le_refl _; have hX := hxB; have oB := oB.below hst (Nat.le_refl _); (with_reducible refine (l07Ones_c _ _ _ _ P S W _ (hX.rd hp) (hX.rd hs) oB.rd HCL.out).mono ?_); rintro e wC ⟨gC, kC, rfl, oC, hq⟩; have hxC := hX.trans hq; have rgC := oC.block; have htC := hq.size; have DC := (DB.stays hst).stays hq; have oB := oB.below hq (Nat.le_refl _); (try have E := Blk.stays E hq); have HC : wC.cell? ⟨w.heap.size, 0, none⟩ = some (.slice a1 P.length k1) ∧ wC.cell? ⟨w.heap.size, 1, none⟩ = some (.slice a2 S.length k2) ∧ wC.cell? ⟨w.heap.size, 2, none⟩ = some (.slice a3 W.length k3) := ⟨hxC.cell 0, hxC.cell 1, hxC.cell 2⟩; have HA : (wC.alloc (.cells #[.int .i64 0, .int .i64 0] 63)).cell? ⟨w.heap.size, 0, none⟩ = some (.slice a1 P.length k1) ∧ (wC.alloc (.cells #[.int .i64 0, .int .i64 0] 63)).cell? ⟨w.heap.size, 1, none⟩ = some (.slice a2 S.length k2) ∧ (wC.alloc (.cells #[.int .i64 0, .int .i64 0] 63)).cell? ⟨w.heap.size, 2, none⟩ = some (.slice a3 W.length k3) := ⟨(hxC.alloc (.cells #[.int .i64 0, .int .i64 0] 63)).cell 0, (hxC.alloc (.cells #[.int .i64 0, .int .i64 0] 63)).cell 1, (hxC.alloc (.cells #[.int .i64 0, .int .i64 0] 63)).cell 2⟩; have HEof : ∀ EN : Nat, w.heap.size + 2 ≤ EN → Blk wC EN 63 #[.int .i64 0, .int .i64 0] → ∀ u0 u1 : Value, ((wC.setCell ⟨EN, 0, none⟩ u0).setCell ⟨EN, 1, none⟩ u1).cell? ⟨w.heap.size, 0, none⟩ = some (.slice a1 P.length k1) ∧ ((wC.setCell ⟨EN, 0, none⟩ u0).setCell ⟨EN, 1, none⟩ u1).cell? ⟨w.heap.size, 1, none⟩ = some (.slice a2 S.length k2) ∧ ((wC.setCell ⟨EN, 0, none⟩ u0).setCell ⟨EN, 1, none⟩ u1).cell? ⟨w.heap.size, 2, none⟩ = some (.slice a3 W.length k3) := fun EN hEN _ u0 u1 => have h := hxC.wrote (((Keeps.refl (fun k => w.heap.size + 1 ≤ k) wC).setCell (p := ⟨EN, 0, none⟩) (by show w.heap.size + 1 ≤ EN; omega) u0).setCell (p := ⟨EN, 1, none⟩) (by show w.heap.size + 1 ≤ EN; omega) u1); ⟨h.cell 0, h.cell 1, h.cell 2⟩; (try have HE := fun (u0 u1 : Value) => HEof _ (by first | exact hz2 | omega) E u0 u1); (try have r0 := Blk.free E 0); (try have r1 := Blk.free E 1); (try have t0 := Blk.cell E 0); (try have t1 := Blk.cell E 1))
        | (go_at_call 108; have hst : Below wB.heap.size wB wB := Below.refl _ _; have hsA : wB.heap.size ≤ wB.heap.size := Nat.le_refl _; have hX := hxB; have oB := oB.below hst (Nat.le_refl _); (with_reducible refine (l07OrdersL_c _ _ _ _ P S W _ (hX.rd hp) (hX.rd hs) (hX.rd hq) HCL.out).mono ?_); rintro e wA ⟨gA, kA, rfl, oA, hq⟩; have hxA := hX.trans hq; have rgA := oA.block; have htA := hq.size; have DA := (DB.stays hst).stays hq; have oB := oB.below hq (Nat.le_refl _); (try have E := Blk.stays E hq); have HC : wA.cell? ⟨w.heap.size, 0, none⟩ = some (.slice a1 P.length k1) ∧ wA.cell? ⟨w.heap.size, 1, none⟩ = some (.slice a2 S.length k2) ∧ wA.cell? ⟨w.heap.size, 2, none⟩ = some (.slice a3 W.length k3) := ⟨hxA.cell 0, hxA.cell 1, hxA.cell 2⟩; have HA : (wA.alloc (.cells #[.int .i64 0, .int .i64 0] 63)).cell? ⟨w.heap.size, 0, none⟩ = some (.slice a1 P.length k1) ∧ (wA.alloc (.cells #[.int .i64 0, .int .i64 0] 63)).cell? ⟨w.heap.size, 1, none⟩ = some (.slice a2 S.length k2) ∧ (wA.alloc (.cells #[.int .i64 0, .int .i64 0] 63)).cell? ⟨w.heap.size, 2, none⟩ = some (.slice a3 W.length k3) := ⟨(hxA.alloc (.cells #[.int .i64 0, .int .i64 0] 63)).cell 0, (hxA.alloc (.cells #[.int .i64 0, .int .i64 0] 63)).cell 1, (hxA.alloc (.cells #[.int .i64 0, .int .i64 0] 63)).cell 2⟩; have HEof : ∀ EN : Nat, w.heap.size + 2 ≤ EN → Blk wA EN 63 #[.int .i64 0, .int .i64 0] → ∀ u0 u1 : Value, ((wA.setCell ⟨EN, 0, none⟩ u0).setCell ⟨EN, 1, none⟩ u1).cell? ⟨w.heap.size, 0, none⟩ = some (.slice a1 P.length k1) ∧ ((wA.setCell ⟨EN, 0, none⟩ u0).setCell ⟨EN, 1, none⟩ u1).cell? ⟨w.heap.size, 1, none⟩ = some (.slice a2 S.length k2) ∧ ((wA.setCell ⟨EN, 0, none⟩ u0).setCell ⟨EN, 1, none⟩ u1).cell? ⟨w.heap.size, 2, none⟩ = some (.slice a3 W.length k3) := fun EN hEN _ u0 u1 => have h := hxA.wrote (((Keeps.refl (fun k => w.heap.size + 1 ≤ k) wA).setCell (p := ⟨EN, 0, none⟩) (by show w.heap.size + 1 ≤ EN; omega) u0).setCell (p := ⟨EN, 1, none⟩) (by show w.heap.size + 1 ≤ EN; omega) u1); ⟨h.cell 0, h.cell 1, h.cell 2⟩; (try have HE := fun (u0 u1 : Value) => HEof _ (by first | exact hz2 | omega) E u0 u1); (try have r0 := Blk.free E 0); (try have r1 := Blk.free E 1); (try have t0 := Blk.cell E 0); (try have t1 := Blk.cell E 1))
        | (go_at_call 109; have hst : Below wA.heap.size wA wA := Below.refl _ _; have hsB : wA.heap.size ≤ wA.heap.size := Nat.le_refl _; have hX := hxA; have oA := oA.below hst (Nat.le_refl _); (with_reducible refine (l06OnesL_c P.length _ hn100).mono ?_); rintro e wB ⟨gB, kB, rfl, oB, hq⟩; have hxB := hX.trans hq; have rgB := oB.block; have htB := hq.size; have DB := (DA.stays hst).stays hq; have oA := oA.below hq (Nat.le_refl _); (try have E := Blk.stays E hq); have HC : wB.cell? ⟨w.heap.size, 0, none⟩ = some (.slice a1 P.length k1) ∧ wB.cell? ⟨w.heap.size, 1, none⟩ = some (.slice a2 S.length k2) ∧ wB.cell? ⟨w.heap.size, 2, none⟩ = some (.slice a3 W.length k3) := ⟨hxB.cell 0, hxB.cell 1, hxB.cell 2⟩; have HA : (wB.alloc (.cells #[.int .i64 0, .int .i64 0] 63)).cell? ⟨w.heap.size, 0, none⟩ = some (.slice a1 P.length k1) ∧ (wB.alloc (.cells #[.int .i64 0, .int .i64 0] 63)).cell? ⟨w.heap.size, 1, none⟩ = some (.slice a2 S.length k2) ∧ (wB.alloc (.cells #[.int .i64 0, .int .i64 0] 63)).cell? ⟨w.heap.size, 2, none⟩ = some (.slice a3 W.length k3) := ⟨(hxB.alloc (.cells #[.int .i64 0, .int .i64 0] 63)).cell 0, (hxB.alloc (.cells #[.int .i64 0, .int .i64 0] 63)).cell 1, (hxB.alloc (.cells #[.int .i64 0, .int .i64 0] 63)).cell 2⟩)
        | (go_at_call 108; have hst : Below wA.heap.size wA (wA.alloc (.cells #[.int .i64 0, .int .i64 0] 63)) := (Below.refl _ _).alloc (Nat.le_refl _) _; have hsC : wA.heap.size + 1 ≤ (wA.alloc (.cells #[.int .i64 0, .int .i64 0] 63)).heap.size := (by simp); have hX := hxA.alloc (.cells #[.int .i64 0, .int .i64 0] 63); have oA := oA.below hst (Nat.le_refl _); have oB := oB.below hst (Nat.le_refl _); (with_reducible refine (l07Ones_c _ _ _ _ P S W _ (hX.rd hp) (hX.rd hs) oB.rd HCL.out).mono ?_); rintro e wC ⟨gC, kC, rfl, oC, hq⟩; have hxC := hX.trans hq; have rgC := oC.block; have htC := hq.size; have DC := (DA.stays hst).stays hq; have oA := oA.below hq (Nat.le_refl _); have oB := oB.below hq (Nat.le_refl _); have E := (Blk.new wA 63 #[.int .i64 0, .int .i64 0]).stays hq; have HC : wC.cell? ⟨w.heap.size, 0, none⟩ = some (.slice a1 P.length k1) ∧ wC.cell? ⟨w.heap.size, 1, none⟩ = some (.slice a2 S.length k2) ∧ wC.cell? ⟨w.heap.size, 2, none⟩ = some (.slice a3 W.length k3) := ⟨hxC.cell 0, hxC.cell 1, hxC.cell 2⟩; have HA : (wC.alloc (.cells #[.int .i64 0, .int .i64 0] 63)).cell? ⟨w.heap.size, 0, none⟩ = some (.slice a1 P.length k1) ∧ (wC.alloc (.cells #[.int .i64 0, .int .i64 0] 63)).cell? ⟨w.heap.size, 1, none⟩ = some (.slice a2 S.length k2) ∧ (wC.alloc (.cells #[.int .i64 0, .int .i64 0] 63)).cell? ⟨w.heap.size, 2, none⟩ = some (.slice a3 W.length k3) := ⟨(hxC.alloc (.cells #[.int .i64 0, .int .i64 0] 63)).cell 0, (hxC.alloc (.cells #[.int .i64 0, .int .i64 0] 63)).cell 1, (hxC.alloc (.cells #[.int .i64 0, .int .i64 0] 63)).cell 2⟩; have HEof : ∀ EN : Nat, w.heap.size + 2 ≤ EN → Blk wC EN 63 #[.int .i64 0, .int .i64 0] → ∀ u0 u1 : Value, ((wC.setCell ⟨EN, 0, none⟩ u0).setCell ⟨EN, 1, none⟩ u1).cell? ⟨w.heap.size, 0, none⟩ = some (.slice a1 P.length k1) ∧ ((wC.setCell ⟨EN, 0, none⟩ u0).setCell ⟨EN, 1, none⟩ u1).cell? ⟨w.heap.size, 1, none⟩ = some (.slice a2 S.length k2) ∧ ((wC.setCell ⟨EN, 0, none⟩ u0).setCell ⟨EN, 1, none⟩ u1).cell? ⟨w.heap.size, 2, none⟩ = some (.slice a3 W.length k3) := fun EN hEN _ u0 u1 => have h := hxC.wrote (((Keeps.refl (fun k => w.heap.size + 1 ≤ k) wC).setCell (p := ⟨EN, 0, none⟩) (by show w.heap.size + 1 ≤ EN; omega) u0).setCell (p := ⟨EN, 1, none⟩) (by show w.heap.size + 1 ≤ EN; omega) u1); ⟨h.cell 0, h.cell 1, h.cell 2⟩; (try have HE := fun (u0 u1 : Value) => HEof _ (by first | exact hz2 | omega) E u0 u1); (try have r0 := Blk.free E 0); (try have r1 := Blk.free E 1); (try have t0 := Blk.cell E 0); (try have t1 := Blk.cell E 1))
        | (go_at_call 108; have hst : Below wC.heap.size wC (wC.alloc (.cells #[.int .i64 0, .int .i64 0] 63)) := (Below.refl _ _).alloc (Nat.le_refl _) _; have hsA : wC.heap.size + 1 ≤ (wC.alloc (.cells #[.int .i64 0, .int .i64 0] 63)).heap.size := (by simp); have hX := hxC.alloc (.cells #[.int .i64 0, .int .i64 0] 63); have oB := oB.below hst (Nat.le_refl _); have oC := oC.below hst (Nat.le_refl _); (with_reducible refine (l07OrdersL_c _ _ _ _ P S W _ (hX.rd hp) (hX.rd hs) (hX.rd hq) HCL.out).mono ?_); rintro e wA ⟨gA, kA, rfl, oA, hq⟩; have hxA := hX.trans hq; have rgA := oA.block; have htA := hq.size; have DA := (DC.stays hst).stays hq; have oB := oB.below hq (Nat.le_refl _); have oC := oC.below hq (Nat.le_refl _); have E := (Blk.new wC 63 #[.int .i64 0, .int .i64 0]).stays hq; have HC : wA.cell? ⟨w.heap.size, 0, none⟩ = some (.slice a1 P.length k1) ∧ wA.cell? ⟨w.heap.size, 1, none⟩ = some (.slice a2 S.length k2) ∧ wA.cell? ⟨w.heap.size, 2, none⟩ = some (.slice a3 W.length k3) := ⟨hxA.cell 0, hxA.cell 1, hxA.cell 2⟩; have HA : (wA.alloc (.cells #[.int .i64 0, .int .i64 0] 63)).cell? ⟨w.heap.size, 0, none⟩ = some (.slice a1 P.length k1) ∧ (wA.alloc (.cells #[.int .i64 0, .int .i64 0] 63)).cell? ⟨w.heap.size, 1, none⟩ = some (.slice a2 S.length k2) ∧ (wA.alloc (.cells #[.int .i64 0, .int .i64 0] 63)).cell? ⟨w.heap.size, 2, none⟩ = some (.slice a3 W.length k3) := ⟨(hxA.alloc (.cells #[.int .i64 0, .int .i64 0] 63)).cell 0, (hxA.alloc (.cells #[.int .i64 0, .int .i64 0] 63)).cell 1, (hxA.alloc (.cells #[.int .i64 0, .int .i64 0] 63)).cell 2⟩; have HEof : ∀ EN : Nat, w.heap.size + 2 ≤ EN → Blk wA EN 63 #[.int .i64 0, .int .i64 0] → ∀ u0 u1 : Value, ((wA.setCell ⟨EN, 0, none⟩ u0).setCell ⟨EN, 1, none⟩ u1).cell? ⟨w.heap.size, 0, none⟩ = some (.slice a1 P.length k1) ∧ ((wA.setCell ⟨EN, 0, none⟩ u0).setCell ⟨EN, 1, none⟩ u1).cell? ⟨w.heap.size, 1, none⟩ = some (.slice a2 S.length k2) ∧ ((wA.setCell ⟨EN, 0, none⟩ u0).setCell ⟨EN, 1, none⟩ u1).cell? ⟨w.heap.size, 2, none⟩ = some (.slice a3 W.length k3) := fun EN hEN _ u0 u1 => have h := hxA.wrote (((Keeps.refl (fun k => w.heap.size + 1 ≤ k) wA).setCell (p := ⟨EN, 0, none⟩) (by show w.heap.size + 1 ≤ EN; omega) u0).setCell (p := ⟨EN, 1, none⟩) (by show w.heap.size + 1 ≤ EN; omega) u1); ⟨h.cell 0, h.cell 1, h.cell 2⟩; (try have HE := fun (u0 u1 : Value) => HEof _ (by first | exact hz2 | omega) E u0 u1); (try have r0 := Blk.free E 0); (try have r1 := Blk.free E 1); (try have t0 := Blk.cell E 0); (try have t1 := Blk.cell E 1))
        | (go_at_call 108; have hst : Below wB.heap.size wB (wB.alloc (.cells #[.int .i64 0, .int .i64 0] 63)) := (Below.refl _ _).alloc (Nat.le_refl _) _; have hsC : wB.heap.size + 1 ≤ (wB.alloc (.cells #[.int .i64 0, .int .i64 0] 63)).heap.size := (by simp); have hX := hxB.alloc (.cells #[.int .i64 0, .int .i64 0] 63); have oA := oA.below hst (Nat.le_refl _); have oB := oB.below hst (Nat.le_refl _); (with_reducible refine (l07Ones_c _ _ _ _ P S W _ (hX.rd hp) (hX.rd hs) oB.rd HCL.out).mono ?_); rintro e wC ⟨gC, kC, rfl, oC, hq⟩; have hxC := hX.trans hq; have rgC := oC.block; have htC := hq.size; have DC := (DB.stays hst).stays hq; have oA := oA.below hq (Nat.le_refl _); have oB := oB.below hq (Nat.le_refl _); have E := (Blk.new wB 63 #[.int .i64 0, .int .i64 0]).stays hq; have HC : wC.cell? ⟨w.heap.size, 0, none⟩ = some (.slice a1 P.length k1) ∧ wC.cell? ⟨w.heap.size, 1, none⟩ = some (.slice a2 S.length k2) ∧ wC.cell? ⟨w.heap.size, 2, none⟩ = some (.slice a3 W.length k3) := ⟨hxC.cell 0, hxC.cell 1, hxC.cell 2⟩; have HA : (wC.alloc (.cells #[.int .i64 0, .int .i64 0] 63)).cell? ⟨w.heap.size, 0, none⟩ = some (.slice a1 P.length k1) ∧ (wC.alloc (.cells #[.int .i64 0, .int .i64 0] 63)).cell? ⟨w.heap.size, 1, none⟩ = some (.slice a2 S.length k2) ∧ (wC.alloc (.cells #[.int .i64 0, .int .i64 0] 63)).cell? ⟨w.heap.size, 2, none⟩ = some (.slice a3 W.length k3) := ⟨(hxC.alloc (.cells #[.int .i64 0, .int .i64 0] 63)).cell 0, (hxC.alloc (.cells #[.int .i64 0, .int .i64 0] 63)).cell 1, (hxC.alloc (.cells #[.int .i64 0, .int .i64 0] 63)).cell 2⟩; have HEof : ∀ EN : Nat, w.heap.size + 2 ≤ EN → Blk wC EN 63 #[.int .i64 0, .int .i64 0] → ∀ u0 u1 : Value, ((wC.setCell ⟨EN, 0, none⟩ u0).setCell ⟨EN, 1, none⟩ u1).cell? ⟨w.heap.size, 0, none⟩ = some (.slice a1 P.length k1) ∧ ((wC.setCell ⟨EN, 0, none⟩ u0).setCell ⟨EN, 1, none⟩ u1).cell? ⟨w.heap.size, 1, none⟩ = some (.slice a2 S.length k2) ∧ ((wC.setCell ⟨EN, 0, none⟩ u0).setCell ⟨EN, 1, none⟩ u1).cell? ⟨w.heap.size, 2, none⟩ = some (.slice a3 W.length k3) := fun EN hEN _ u0 u1 => have h := hxC.wrote (((Keeps.refl (fun k => w.heap.size + 1 ≤ k) wC).setCell (p := ⟨EN, 0, none⟩) (by show w.heap.size + 1 ≤ EN; omega) u0).setCell (p := ⟨EN, 1, none⟩) (by show w.heap.size + 1 ≤ EN; omega) u1); ⟨h.cell 0, h.cell 1, h.cell 2⟩; (try have HE := fun (u0 u1 : Value) => HEof _ (by first | exact hz2 | omega) E u0 u1); (try have r0 := Blk.free E 0); (try have r1 := Blk.free E 1); (try have t0 := Blk.cell E 0); (try have t1 := Blk.cell E 1))
        | (go_at_call 108; have hst : Below wB.heap.size wB (wB.alloc (.cells #[.int .i64 0, .int .i64 0] 63)) := (Below.refl _ _).alloc (Nat.le_refl _) _; have hsC : wB.heap.size + 1 ≤ (wB.alloc (.cells #[.int .i64 0, .int .i64 0] 63)).heap.size := (by simp); have hX := hxB.alloc (.cells #[.int .i64 0, .int .i64 0] 63); have oB := oB.below hst (Nat.le_refl _); (with_reducible refine (l07Ones_c _ _ _ _ P S W _ (hX.rd hp) (hX.rd hs) oB.rd HCL.out).mono ?_); rintro e wC ⟨gC, kC, rfl, oC, hq⟩; have hxC := hX.trans hq; have rgC := oC.block; have htC := hq.size; have DC := (DB.stays hst).stays hq; have oB := oB.below hq (Nat.le_refl _); have E := (Blk.new wB 63 #[.int .i64 0, .int .i64 0]).stays hq; have HC : wC.cell? ⟨w.heap.size, 0, none⟩ = some (.slice a1 P.length k1) ∧ wC.cell? ⟨w.heap.size, 1, none⟩ = some (.slice a2 S.length k2) ∧ wC.cell? ⟨w.heap.size, 2, none⟩ = some (.slice a3 W.length k3) := ⟨hxC.cell 0, hxC.cell 1, hxC.cell 2⟩; have HA : (wC.alloc (.cells #[.int .i64 0, .int .i64 0] 63)).cell? ⟨w.heap.size, 0, none⟩ = some (.slice a1 P.length k1) ∧ (wC.alloc (.cells #[.int .i64 0, .int .i64 0] 63)).cell? ⟨w.heap.size, 1, none⟩ = some (.slice a2 S.length k2) ∧ (wC.alloc (.cells #[.int .i64 0, .int .i64 0] 63)).cell? ⟨w.heap.size, 2, none⟩ = some (.slice a3 W.length k3) := ⟨(hxC.alloc (.cells #[.int .i64 0, .int .i64 0] 63)).cell 0, (hxC.alloc (.cells #[.int .i64 0, .int .i64 0] 63)).cell 1, (hxC.alloc (.cells #[.int .i64 0, .int .i64 0] 63)).cell 2⟩; have HEof : ∀ EN : Nat, w.heap.size + 2 ≤ EN → Blk wC EN 63 #[.int .i64 0, .int .i64 0] → ∀ u0 u1 : Value, ((wC.setCell ⟨EN, 0, none⟩ u0).setCell ⟨EN, 1, none⟩ u1).cell? ⟨w.heap.size, 0, none⟩ = some (.slice a1 P.length k1) ∧ ((wC.setCell ⟨EN, 0, none⟩ u0).setCell ⟨EN, 1, none⟩ u1).cell? ⟨w.heap.size, 1, none⟩ = some (.slice a2 S.length k2) ∧ ((wC.setCell ⟨EN, 0, none⟩ u0).setCell ⟨EN, 1, none⟩ u1).cell? ⟨w.heap.size, 2, none⟩ = some (.slice a3 W.length k3) := fun EN hEN _ u0 u1 => have h := hxC.wrote (((Keeps.refl (fun k => w.heap.size + 1 ≤ k) wC).setCell (p := ⟨EN, 0, none⟩) (by show w.heap.size + 1 ≤ EN; omega) u0).setCell (p := ⟨EN, 1, none⟩) (by show w.heap.size + 1 ≤ EN; omega) u1); ⟨h.cell 0, h.cell 1, h.cell 2⟩; (try have HE := fun (u0 u1 : Value) => HEof _ (by first | exact hz2 | omega) E u0 u1); (try have r0 := Blk.free E 0); (try have r1 := Blk.free E 1); (try have t0 := Blk.cell E 0); (try have t1 := Blk.cell E 1))
        | (go_at_call 108; have hst : Below wB.heap.size wB (wB.alloc (.cells #[.int .i64 0, .int .i64 0] 63)) := (Below.refl _ _).alloc (Nat.le_refl _) _; have hsA : wB.heap.size + 1 ≤ (wB.alloc (.cells #[.int .i64 0, .int .i64 0] 63)).heap.size := (by simp); have hX := hxB.alloc (.cells #[.int .i64 0, .int .i64 0] 63); have oB := oB.below hst (Nat.le_refl _); (with_reducible refine (l07OrdersL_c _ _ _ _ P S W _ (hX.rd hp) (hX.rd hs) (hX.rd hq) HCL.out).mono ?_); rintro e wA ⟨gA, kA, rfl, oA, hq⟩; have hxA := hX.trans hq; have rgA := oA.block; have htA := hq.size; have DA := (DB.stays hst).stays hq; have oB := oB.below hq (Nat.le_refl _); have E := (Blk.new wB 63 #[.int .i64 0, .int .i64 0]).stays hq; have HC : wA.cell? ⟨w.heap.size, 0, none⟩ = some (.slice a1 P.length k1) ∧ wA.cell? ⟨w.heap.size, 1, none⟩ = some (.slice a2 S.length k2) ∧ wA.cell? ⟨w.heap.size, 2, none⟩ = some (.slice a3 W.length k3) := ⟨hxA.cell 0, hxA.cell 1, hxA.cell 2⟩; have HA : (wA.alloc (.cells #[.int .i64 0, .int .i64 0] 63)).cell? ⟨w.heap.size, 0, none⟩ = some (.slice a1 P.length k1) ∧ (wA.alloc (.cells #[.int .i64 0, .int .i64 0] 63)).cell? ⟨w.heap.size, 1, none⟩ = some (.slice a2 S.length k2) ∧ (wA.alloc (.cells #[.int .i64 0, .int .i64 0] 63)).cell? ⟨w.heap.size, 2, none⟩ = some (.slice a3 W.length k3) := ⟨(hxA.alloc (.cells #[.int .i64 0, .int .i64 0] 63)).cell 0, (hxA.alloc (.cells #[.int .i64 0, .int .i64 0] 63)).cell 1, (hxA.alloc (.cells #[.int .i64 0, .int .i64 0] 63)).cell 2⟩; have HEof : ∀ EN : Nat, w.heap.size + 2 ≤ EN → Blk wA EN 63 #[.int .i64 0, .int .i64 0] → ∀ u0 u1 : Value, ((wA.setCell ⟨EN, 0, none⟩ u0).setCell ⟨EN, 1, none⟩ u1).cell? ⟨w.heap.size, 0, none⟩ = some (.slice a1 P.length k1) ∧ ((wA.setCell ⟨EN, 0, none⟩ u0).setCell ⟨EN, 1, none⟩ u1).cell? ⟨w.heap.size, 1, none⟩ = some (.slice a2 S.length k2) ∧ ((wA.setCell ⟨EN, 0, none⟩ u0).setCell ⟨EN, 1, none⟩ u1).cell? ⟨w.heap.size, 2, none⟩ = some (.slice a3 W.length k3) := fun EN hEN _ u0 u1 => have h := hxA.wrote (((Keeps.refl (fun k => w.heap.size + 1 ≤ k) wA).setCell (p := ⟨EN, 0, none⟩) (by show w.heap.size + 1 ≤ EN; omega) u0).setCell (p := ⟨EN, 1, none⟩) (by show w.heap.size + 1 ≤ EN; omega) u1); ⟨h.cell 0, h.cell 1, h.cell 2⟩; (try have HE := fun (u0 u1 : Value) => HEof _ (by first | exact hz2 | omega) E u0 u1); (try have r0 := Blk.free E 0); (try have r1 := Blk.free E 1); (try have t0 := Blk.cell E 0); (try have t1 := Blk.cell E 1))
        | (go_at_call 109; have hst : Below wA.heap.size wA (wA.alloc (.cells #[.int .i64 0, .int .i64 0] 63)) := (Below.refl _ _).alloc (Nat.le_refl _) _; have hsB : wA.heap.size + 1 ≤ (wA.alloc (.cells #[.int .i64 0, .int .i64 0] 63)).heap.size := (by simp); have hX := hxA.alloc (.cells #[.int .i64 0, .int .i64 0] 63); have oA := oA.below hst (Nat.le_refl _); (with_reducible refine (l06OnesL_c P.length _ hn100).mono ?_); rintro e wB ⟨gB, kB, rfl, oB, hq⟩; have hxB := hX.trans hq; have rgB := oB.block; have htB := hq.size; have DB := (DA.stays hst).stays hq; have oA := oA.below hq (Nat.le_refl _); have E := (Blk.new wA 63 #[.int .i64 0, .int .i64 0]).stays hq; have HC : wB.cell? ⟨w.heap.size, 0, none⟩ = some (.slice a1 P.length k1) ∧ wB.cell? ⟨w.heap.size, 1, none⟩ = some (.slice a2 S.length k2) ∧ wB.cell? ⟨w.heap.size, 2, none⟩ = some (.slice a3 W.length k3) := ⟨hxB.cell 0, hxB.cell 1, hxB.cell 2⟩; have HA : (wB.alloc (.cells #[.int .i64 0, .int .i64 0] 63)).cell? ⟨w.heap.size, 0, none⟩ = some (.slice a1 P.length k1) ∧ (wB.alloc (.cells #[.int .i64 0, .int .i64 0] 63)).cell? ⟨w.heap.size, 1, none⟩ = some (.slice a2 S.length k2) ∧ (wB.alloc (.cells #[.int .i64 0, .int .i64 0] 63)).cell? ⟨w.heap.size, 2, none⟩ = some (.slice a3 W.length k3) := ⟨(hxB.alloc (.cells #[.int .i64 0, .int .i64 0] 63)).cell 0, (hxB.alloc (.cells #[.int .i64 0, .int .i64 0] 63)).cell 1, (hxB.alloc (.cells #[.int .i64 0, .int .i64 0] 63)).cell 2⟩)
        | (go_at_call 108; have hst : Below w2.heap.size w2 w2.drew := (Below.refl _ _).drew; have hsA : w2.heap.size ≤ w2.drew.heap.size := Nat.le_refl _; have hX := (hx2).trans (show Below w2.heap.size w2 w2.drew from (Below.refl _ _).drew); (with_reducible refine (l07OrdersL_c _ _ _ _ P S W _ (hX.rd hp) (hX.rd hs) (hX.rd hq) HCL.out).mono ?_); rintro e wA ⟨gA, kA, rfl, oA, hq⟩; have hxA := hX.trans hq; have rgA := oA.block; have htA := hq.size; have DA := (D2.stays hst).stays hq; (try have E := Blk.stays E hq); have HC : wA.cell? ⟨w.heap.size, 0, none⟩ = some (.slice a1 P.length k1) ∧ wA.cell? ⟨w.heap.size, 1, none⟩ = some (.slice a2 S.length k2) ∧ wA.cell? ⟨w.heap.size, 2, none⟩ = some (.slice a3 W.length k3) := ⟨hxA.cell 0, hxA.cell 1, hxA.cell 2⟩; have HA : (wA.alloc (.cells #[.int .i64 0, .int .i64 0] 63)).cell? ⟨w.heap.size, 0, none⟩ = some (.slice a1 P.length k1) ∧ (wA.alloc (.cells #[.int .i64 0, .int .i64 0] 63)).cell? ⟨w.heap.size, 1, none⟩ = some (.slice a2 S.length k2) ∧ (wA.alloc (.cells #[.int .i64 0, .int .i64 0] 63)).cell? ⟨w.heap.size, 2, none⟩ = some (.slice a3 W.length k3) := ⟨(hxA.alloc (.cells #[.int .i64 0, .int .i64 0] 63)).cell 0, (hxA.alloc (.cells #[.int .i64 0, .int .i64 0] 63)).cell 1, (hxA.alloc (.cells #[.int .i64 0, .int .i64 0] 63)).cell 2⟩; have HEof : ∀ EN : Nat, w.heap.size + 2 ≤ EN → Blk wA EN 63 #[.int .i64 0, .int .i64 0] → ∀ u0 u1 : Value, ((wA.setCell ⟨EN, 0, none⟩ u0).setCell ⟨EN, 1, none⟩ u1).cell? ⟨w.heap.size, 0, none⟩ = some (.slice a1 P.length k1) ∧ ((wA.setCell ⟨EN, 0, none⟩ u0).setCell ⟨EN, 1, none⟩ u1).cell? ⟨w.heap.size, 1, none⟩ = some (.slice a2 S.length k2) ∧ ((wA.setCell ⟨EN, 0, none⟩ u0).setCell ⟨EN, 1, none⟩ u1).cell? ⟨w.heap.size, 2, none⟩ = some (.slice a3 W.length k3) := fun EN hEN _ u0 u1 => have h := hxA.wrote (((Keeps.refl (fun k => w.heap.size + 1 ≤ k) wA).setCell (p := ⟨EN, 0, none⟩) (by show w.heap.size + 1 ≤ EN; omega) u0).setCell (p := ⟨EN, 1, none⟩) (by show w.heap.size + 1 ≤ EN; omega) u1); ⟨h.cell 0, h.cell 1, h.cell 2⟩; (try have HE := fun (u0 u1 : Value) => HEof _ (by first | exact hz2 | omega) E u0 u1); (try have r0 := Blk.free E 0); (try have r1 := Blk.free E 1); (try have t0 := Blk.cell E 0); (try have t1 := Blk.cell E 1))
        | (go_at_call 109; have hst : Below w2.heap.size w2 w2.drew := (Below.refl _ _).drew; have hsB : w2.heap.size ≤ w2.drew.heap.size := Nat.le_refl _; have hX := (hx2).trans (show Below w2.heap.size w2 w2.drew from (Below.refl _ _).drew); (with_reducible refine (l06OnesL_c P.length _ hn100).mono ?_); rintro e wB ⟨gB, kB, rfl, oB, hq⟩; have hxB := hX.trans hq; have rgB := oB.block; have htB := hq.size; have DB := (D2.stays hst).stays hq; (try have E := Blk.stays E hq); have HC : wB.cell? ⟨w.heap.size, 0, none⟩ = some (.slice a1 P.length k1) ∧ wB.cell? ⟨w.heap.size, 1, none⟩ = some (.slice a2 S.length k2) ∧ wB.cell? ⟨w.heap.size, 2, none⟩ = some (.slice a3 W.length k3) := ⟨hxB.cell 0, hxB.cell 1, hxB.cell 2⟩; have HA : (wB.alloc (.cells #[.int .i64 0, .int .i64 0] 63)).cell? ⟨w.heap.size, 0, none⟩ = some (.slice a1 P.length k1) ∧ (wB.alloc (.cells #[.int .i64 0, .int .i64 0] 63)).cell? ⟨w.heap.size, 1, none⟩ = some (.slice a2 S.length k2) ∧ (wB.alloc (.cells #[.int .i64 0, .int .i64 0] 63)).cell? ⟨w.heap.size, 2, none⟩ = some (.slice a3 W.length k3) := ⟨(hxB.alloc (.cells #[.int .i64 0, .int .i64 0] 63)).cell 0, (hxB.alloc (.cells #[.int .i64 0, .int .i64 0] 63)).cell 1, (hxB.alloc (.cells #[.int .i64 0, .int .i64 0] 63)).cell 2⟩)
        | (go_at_call 108; have hst : Below w2.heap.size w2 (w2.alloc (.cells #[.int .i64 0, .int .i64 0] 63)).drew := ((Below.refl _ _).alloc (Nat.le_refl _) _).drew; have hsA : w2.heap.size + 1 ≤ (w2.alloc (.cells #[.int .i64 0, .int .i64 0] 63)).drew.heap.size := (by simp); have hX := (hx2.alloc (.cells #[.int .i64 0, .int .i64 0] 63)).trans (show Below (w2.alloc (.cells #[.int .i64 0, .int .i64 0] 63)).heap.size (w2.alloc (.cells #[.int .i64 0, .int .i64 0] 63)) (w2.alloc (.cells #[.int .i64 0, .int .i64 0] 63)).drew from (Below.refl _ _).drew); (with_reducible refine (l07OrdersL_c _ _ _ _ P S W _ (hX.rd hp) (hX.rd hs) (hX.rd hq) HCL.out).mono ?_); rintro e wA ⟨gA, kA, rfl, oA, hq⟩; have hxA := hX.trans hq; have rgA := oA.block; have htA := hq.size; have DA := (D2.stays hst).stays hq; have E := ((Blk.new w2 63 #[.int .i64 0, .int .i64 0]).drewN 1).stays hq; have HC : wA.cell? ⟨w.heap.size, 0, none⟩ = some (.slice a1 P.length k1) ∧ wA.cell? ⟨w.heap.size, 1, none⟩ = some (.slice a2 S.length k2) ∧ wA.cell? ⟨w.heap.size, 2, none⟩ = some (.slice a3 W.length k3) := ⟨hxA.cell 0, hxA.cell 1, hxA.cell 2⟩; have HA : (wA.alloc (.cells #[.int .i64 0, .int .i64 0] 63)).cell? ⟨w.heap.size, 0, none⟩ = some (.slice a1 P.length k1) ∧ (wA.alloc (.cells #[.int .i64 0, .int .i64 0] 63)).cell? ⟨w.heap.size, 1, none⟩ = some (.slice a2 S.length k2) ∧ (wA.alloc (.cells #[.int .i64 0, .int .i64 0] 63)).cell? ⟨w.heap.size, 2, none⟩ = some (.slice a3 W.length k3) := ⟨(hxA.alloc (.cells #[.int .i64 0, .int .i64 0] 63)).cell 0, (hxA.alloc (.cells #[.int .i64 0, .int .i64 0] 63)).cell 1, (hxA.alloc (.cells #[.int .i64 0, .int .i64 0] 63)).cell 2⟩; have HEof : ∀ EN : Nat, w.heap.size + 2 ≤ EN → Blk wA EN 63 #[.int .i64 0, .int .i64 0] → ∀ u0 u1 : Value, ((wA.setCell ⟨EN, 0, none⟩ u0).setCell ⟨EN, 1, none⟩ u1).cell? ⟨w.heap.size, 0, none⟩ = some (.slice a1 P.length k1) ∧ ((wA.setCell ⟨EN, 0, none⟩ u0).setCell ⟨EN, 1, none⟩ u1).cell? ⟨w.heap.size, 1, none⟩ = some (.slice a2 S.length k2) ∧ ((wA.setCell ⟨EN, 0, none⟩ u0).setCell ⟨EN, 1, none⟩ u1).cell? ⟨w.heap.size, 2, none⟩ = some (.slice a3 W.length k3) := fun EN hEN _ u0 u1 => have h := hxA.wrote (((Keeps.refl (fun k => w.heap.size + 1 ≤ k) wA).setCell (p := ⟨EN, 0, none⟩) (by show w.heap.size + 1 ≤ EN; omega) u0).setCell (p := ⟨EN, 1, none⟩) (by show w.heap.size + 1 ≤ EN; omega) u1); ⟨h.cell 0, h.cell 1, h.cell 2⟩; (try have HE := fun (u0 u1 : Value) => HEof _ (by first | exact hz2 | omega) E u0 u1); (try have r0 := Blk.free E 0); (try have r1 := Blk.free E 1); (try have t0 := Blk.cell E 0); (try have t1 := Blk.cell E 1))
        | (go_at_call 109; have hst : Below w2.heap.size w2 (w2.alloc (.cells #[.int .i64 0, .int .i64 0] 63)).drew := ((Below.refl _ _).alloc (Nat.le_refl _) _).drew; have hsB : w2.heap.size + 1 ≤ (w2.alloc (.cells #[.int .i64 0, .int .i64 0] 63)).drew.heap.size := (by simp); have hX := (hx2.alloc (.cells #[.int .i64 0, .int .i64 0] 63)).trans (show Below (w2.alloc (.cells #[.int .i64 0, .int .i64 0] 63)).heap.size (w2.alloc (.cells #[.int .i64 0, .int .i64 0] 63)) (w2.alloc (.cells #[.int .i64 0, .int .i64 0] 63)).drew from (Below.refl _ _).drew); (with_reducible refine (l06OnesL_c P.length _ hn100).mono ?_); rintro e wB ⟨gB, kB, rfl, oB, hq⟩; have hxB := hX.trans hq; have rgB := oB.block; have htB := hq.size; have DB := (D2.stays hst).stays hq; have E := ((Blk.new w2 63 #[.int .i64 0, .int .i64 0]).drewN 1).stays hq; have HC : wB.cell? ⟨w.heap.size, 0, none⟩ = some (.slice a1 P.length k1) ∧ wB.cell? ⟨w.heap.size, 1, none⟩ = some (.slice a2 S.length k2) ∧ wB.cell? ⟨w.heap.size, 2, none⟩ = some (.slice a3 W.length k3) := ⟨hxB.cell 0, hxB.cell 1, hxB.cell 2⟩; have HA : (wB.alloc (.cells #[.int .i64 0, .int .i64 0] 63)).cell? ⟨w.heap.size, 0, none⟩ = some (.slice a1 P.length k1) ∧ (wB.alloc (.cells #[.int .i64 0, .int .i64 0] 63)).cell? ⟨w.heap.size, 1, none⟩ = some (.slice a2 S.length k2) ∧ (wB.alloc (.cells #[.int .i64 0, .int .i64 0] 63)).cell? ⟨w.heap.size, 2, none⟩ = some (.slice a3 W.length k3) := ⟨(hxB.alloc (.cells #[.int .i64 0, .int .i64 0] 63)).cell 0, (hxB.alloc (.cells #[.int .i64 0, .int .i64 0] 63)).cell 1, (hxB.alloc (.cells #[.int .i64 0, .int .i64 0] 63)).cell 2⟩))
    all_goals
      obtain ⟨ea, ec, he1, _, _, _, _⟩ := Own.pos oA (by rw [hlV]; exact hP0)
      obtain ⟨eb, ed, he2, _, _, _, _⟩ := Own.pos oC (by rw [hlD]; exact hP0)
      injection he1 with u1 u2 u3
      injection he2 with v1 v2 v3
      subst u1 v1
      have ra := rgA ea rfl
      have rb := rgC eb rfl
      have oA := oA.base_le (Nat.zero_le _)
      have oC := oC.base_le (Nat.zero_le _)
      clear HC HA rgA rgC u2 v2
      go_wp2
      go_meet
      first
        | exact ⟨ea, _, eb, _, _, rfl, rfl, rfl, oA.below ((Below.refl _ _).alloc (Nat.le_refl _) _) (Nat.le_refl _), oC.below ((Below.refl _ _).alloc (Nat.le_refl _) _) (Nat.le_refl _), Blk.new wC _ _, by omega, by omega, by omega, hxC.alloc _, DC.alloc _⟩
        | exact ⟨ea, _, eb, _, _, rfl, rfl, rfl, oA.below ((Below.refl _ _).alloc (Nat.le_refl _) _) (Nat.le_refl _), oC.below ((Below.refl _ _).alloc (Nat.le_refl _) _) (Nat.le_refl _), Blk.new wA _ _, by omega, by omega, by omega, hxA.alloc _, DA.alloc _⟩
        | exact ⟨ea, _, eb, _, _, rfl, rfl, rfl, (oA.other (fun k hk => by simp [Value.ownBlock] at hk; omega) 0 _).other (fun k hk => by simp [Value.ownBlock] at hk; omega) 1 _, (oC.other (fun k hk => by simp [Value.ownBlock] at hk; omega) 0 _).other (fun k hk => by simp [Value.ownBlock] at hk; omega) 1 _, (E.set 0 _).set 1 _, by omega, by omega, by omega, hxA.wrote (((Keeps.refl (fun k => w.heap.size + 1 ≤ k) wA).setCell (p := ⟨_, 0, none⟩) (by dsimp only; omega) _).setCell (p := ⟨_, 1, none⟩) (by dsimp only; omega) _), (DA.other (by omega) 0 _).other (by omega) 1 _⟩
        | exact ⟨ea, _, eb, _, _, rfl, rfl, rfl, (oA.other (fun k hk => by simp [Value.ownBlock] at hk; omega) 0 _).other (fun k hk => by simp [Value.ownBlock] at hk; omega) 1 _, (oC.other (fun k hk => by simp [Value.ownBlock] at hk; omega) 0 _).other (fun k hk => by simp [Value.ownBlock] at hk; omega) 1 _, (E.set 0 _).set 1 _, by omega, by omega, by omega, hxC.wrote (((Keeps.refl (fun k => w.heap.size + 1 ≤ k) wC).setCell (p := ⟨_, 0, none⟩) (by dsimp only; omega) _).setCell (p := ⟨_, 1, none⟩) (by dsimp only; omega) _), (DC.other (by omega) 0 _).other (by omega) 1 _⟩
  case rest =>
    obtain ⟨gV, kV, gD, kD, gb, rfl, rfl, rfl, oV, oD, B1, n1, n2, hgb, hbx, D3⟩ := hcut
    have hV24 : ∀ k, k ≤ P.length → 0 ≤ (rdF (ltTo (ordTo (fun j => gI W j) P S P.length) (discTo P S P.length) k)).1 ∧ (rdF (ltTo (ordTo (fun j => gI W j) P S P.length) (discTo P S P.length) k)).1 ≤ 2000001 ∧ 0 ≤ (rdF (ltTo (ordTo (fun j => gI W j) P S P.length) (discTo P S P.length) k)).2 ∧ (rdF (ltTo (ordTo (fun j => gI W j) P S P.length) (discTo P S P.length) k)).2 ≤ 120000000000 := fun k hk => rdF_bd (HBD.out k hk)
    have HRB := Lib.hid hV24
    have HST := Lib.hid (fun k (hk : k < P.length) (hv : 0 < gI (ordTo (fun j => gI W j) P S P.length) k) => rdF_step (V := ordTo (fun j => gI W j) P S P.length) (D := discTo P S P.length) (n := P.length) (fun i hi => (HV.out i hi).2) HD.out hk hv)
    clear hV24
    generalize ordTo (fun j => gI W j) P S P.length = V at HV HBD HR hlV oV HRB HST
    generalize discTo P S P.length = E at HD HBD HR hlD oD HRB HST
    obtain ⟨wd, rfl⟩ : ∃ wo : World, wo = wc := ⟨_, rfl⟩
    have B1' : Blk wd gb 63 #[.int .i64 (rdF (ltTo V E 0)).1, .int .i64 (rdF (ltTo V E 0)).2] := B1
    clear B1 D1 D2 hx1 hx2 hb hb2 hxa D hx
    go_wp2_with fail
    go_loopw [7] (fun iv wr => ∃ k : Nat, k ≤ P.length ∧ iv = .int .i64 k ∧ Blk wr gb 63 #[.int .i64 (rdF (ltTo V E k)).1, .int .i64 (rdF (ltTo V E k)).2] ∧ OwnI wr 0 (.slice (some ⟨gV, 0, none⟩) P.length kV) V ∧ OwnI wr 0 (.slice (some ⟨gD, 0, none⟩) P.length kD) E ∧ Boxed w wr 51 #[.slice a1 P.length k1, .slice a2 S.length k2, .slice a3 W.length k3] ∧ Blk wr (w.heap.size + 1) 63 #[.int .i64 0, .int .i64 0]) (fun iv _ => P.length - (intOf iv).toNat)
    case atStart => exact ⟨0, Nat.zero_le _, rfl, B1', oV, oD, hbx, D3⟩
    case round =>
      obtain ⟨k, hk, rfl, B2, oV2, oD2, hbx2, D4⟩ := hrel
      clear B1' oV oD hbx D3
      obtain ⟨wo, rfl⟩ : ∃ wo : World, wo = wr := ⟨_, rfl⟩
      have lV := (oV2.block gV rfl).2
      have lD := (oD2.block gD rfl).2
      have lB := B2.lt
      have hsl : w.heap.size + 1 ≤ wo.heap.size := hbx2.size
      by_cases hlt : k < P.length
      · have hki : (k : Int) < (P.length : Int) := by omega
        have hk0 : (0 : Int) ≤ (k : Int) := Int.natCast_nonneg _
        have dV := Own.cell (e := 2) (w := wo) (base := 0) (g := gV) (xs := V) (cap := kV) (by rw [hlV]; exact oV2) k (by omega)
        have dD := Own.cell (e := 2) (w := wo) (base := 0) (g := gD) (xs := E) (cap := kD) (by rw [hlD]; exact oD2) k (by omega)
        have bV := HV.out k hlt
        have bD := HD.out k hlt
        have bR := HRB.out k hk
        have HY := Lib.hid (HST.out k hlt)
        have HN := Lib.hid (@rdF_skip V E k)
        generalize gI V k = v at dV bV HY HN
        generalize gI E k = d at dD bD HY
        generalize hr : rdF (ltTo V E k) = r at B2 bR HY
        obtain ⟨tt, bb⟩ := r
        have HRK := Lib.hid hr
        clear hr
        have bR : 0 ≤ tt ∧ tt ≤ 2000001 ∧ 0 ≤ bb ∧ bb ≤ 120000000000 := bR
        have B2 : Blk wo gb 63 #[.int .i64 tt, .int .i64 bb] := B2
        by_cases hv0 : v = 0
        · have hs := Lib.hid (HN.out (by omega))
          have hvb : (v == 0) = true := by simp [hv0]
          clear HY HN
          subst hv0
          go_wp2
          go_roundw
          case rel => exact ⟨k + 1, by omega, by go_num, by rw [hs.out, HRK.out]; exact B2, oV2, oD2, hbx2, D4⟩
          case measure => simp [intOf]; omega
        · have hvp : 0 < v := by omega
          have hvb : (v == 0) = false := beq_false_of_ne hv0
          have HY2 := Lib.hid (HY.out hvp)
          have w1' : IntKind.i64.wrap (1 + d) = 1 + d := IntWalk.i64_in _ (by omega)
          have hrb := red_bot (a := 1 + d) (b := v) (by omega) hvp
          clear HY HN
          have SS : ∀ wr : World, Below wo.heap.size wo wr → wr.cell? ⟨gV, k, none⟩ = some (.int .i64 v) ∧ wr.cell? ⟨gD, k, none⟩ = some (.int .i64 d) := fun wr hk => ⟨by rw [hk.cell (p := ⟨gV, k, none⟩) lV]; exact dV, by rw [hk.cell (p := ⟨gD, k, none⟩) lD]; exact dD⟩
          go_wp2_with fail
          go_cut [7, 8] from 34 to 48 (fun s7 s8 wc => s7 = .int .i64 (k : Int) ∧ ∃ gf : Nat, s8 = .pointer (some ⟨gf, 0, none⟩) ∧ Blk wc gf 63 #[.int .i64 ((1 + d) / gcdI (1 + d) v), .int .i64 (v / gcdI (1 + d) v)] ∧ gf ≠ gb ∧ gf ≠ w.heap.size + 1 ∧ Below wo.heap.size wo wc)
          case first =>
            have hv00 : (1 + d) ≤ 1000000000000000 := by omega
            have HS0 := SS _ (Below.refl wo.heap.size wo).drew
            have HS1 := SS _ (below1 wo (.cells #[.int .i64 0, .int .i64 0] 63))
            go_region_held3 (fun w' => w'.cell? ⟨gV, k, none⟩ = some (.int .i64 v) ∧ w'.cell? ⟨gD, k, none⟩ = some (.int .i64 d))
              (first | assumption | exact HS0 | exact HS1 | exact HA _ _ | exact HE _ _)
              (first
                | (go_at_call 110; have hst : Below wo.heap.size wo wo.drew := (Below.refl _ _).drew; (with_reducible refine (l01Make_c (1 + d) v _ (by omega) hv00 hvp (by omega)).mono ?_); rintro e wm ⟨rfl, hq⟩; have hbm := below_step hst hq; have HS0 := SS _ hbm; have HA : ∀ u0 u1 : Value, (wm.alloc (.cells #[u0, u1] 63)).cell? ⟨gV, k, none⟩ = some (.int .i64 v) ∧ (wm.alloc (.cells #[u0, u1] 63)).cell? ⟨gD, k, none⟩ = some (.int .i64 d) := fun u0 u1 => SS _ (below_step hbm ((Below.refl _ _).alloc (Nat.le_refl _) _)))
                | (go_at_call 110; have hst : Below wo.heap.size wo (wo.alloc (.cells #[.int .i64 0, .int .i64 0] 63)).drew := below1 _ _; (with_reducible refine (l01Make_c (1 + d) v _ (by omega) hv00 hvp (by omega)).mono ?_); rintro e wm ⟨rfl, hq⟩; have hbm := below_step hst hq; have HS0 := SS _ hbm; have E1 := ((Blk.new wo 63 #[.int .i64 0, .int .i64 0]).drewN 1).stays hq; have r0 := E1.free 0; have r1 := E1.free 1; have t0 := E1.cell 0; have t1 := E1.cell 1; have HE : ∀ u0 u1 : Value, ((wm.setCell ⟨wo.heap.size, 0, none⟩ u0).setCell ⟨wo.heap.size, 1, none⟩ u1).cell? ⟨gV, k, none⟩ = some (.int .i64 v) ∧ ((wm.setCell ⟨wo.heap.size, 0, none⟩ u0).setCell ⟨wo.heap.size, 1, none⟩ u1).cell? ⟨gD, k, none⟩ = some (.int .i64 d) := fun u0 u1 => SS _ ((hbm.setCell (p := ⟨wo.heap.size, 0, none⟩) (Nat.le_refl _) u0).setCell (p := ⟨wo.heap.size, 1, none⟩) (Nat.le_refl _) u1)))
            all_goals
              go_wp2
              go_meet
              first
                | exact ⟨by go_num, _, rfl, Blk.new wm _ _, by have := hbm.size; omega, by have := hbm.size; omega, below_step hbm ((Below.refl _ _).alloc (Nat.le_refl _) _)⟩
                | exact ⟨by go_num, _, rfl, (E1.set 0 _).set 1 _, by omega, by omega, (hbm.setCell (p := ⟨wo.heap.size, 0, none⟩) (Nat.le_refl _) _).setCell (p := ⟨wo.heap.size, 1, none⟩) (Nat.le_refl _) _⟩
          case rest =>
            obtain ⟨rfl, gf, rfl, F1, nf1, nf2, hbq⟩ := hcut
            obtain ⟨wq, rfl⟩ : ∃ wo : World, wo = wc := ⟨_, rfl⟩
            have B3 := B2.stays hbq
            have oV3 := oV2.below hbq (Nat.le_refl _)
            have oD3 := oD2.below hbq (Nat.le_refl _)
            have hbx3 := hbx2.trans hbq
            have D5 := D4.stays hbq
            clear B2 oV2 oD2 hbx2 D4 SS dV dD hbq
            generalize (1 + d) / gcdI (1 + d) v = x at F1 HY2 hrb
            generalize v / gcdI (1 + d) v = y at F1 HY2 hrb
            obtain ⟨y1, y2, x1, x2⟩ := hrb
            obtain ⟨q1, q2, q3, q4⟩ := bR
            have c0 := B3.cell 0
            have c1 := B3.cell 1
            have c2 := F1.cell 0
            have c3 := F1.cell 1
            have f0 := B3.free 0
            have f1 := B3.free 1
            have m1 := Int.mul_le_mul (show x ≤ 2000001 by omega) q4 q3 (by omega)
            have m2 : 0 ≤ x * bb := Int.mul_nonneg (by omega) q3
            have m3 := Int.mul_le_mul q2 (show y ≤ 120000000000 by omega) (by omega) (by omega)
            have m4 : 0 ≤ tt * y := Int.mul_nonneg q1 (by omega)
            have w2' : IntKind.i64.wrap (x * bb) = x * bb := IntWalk.i64_in _ (by omega)
            have w3' : IntKind.i64.wrap (tt * y) = tt * y := IntWalk.i64_in _ (by omega)
            have HY3 : Hid (rdF (ltTo V E (k + 1)) = if bb = 0 ∨ x * bb < tt * y then (x, y) else (tt, bb)) := Lib.hid HY2.out
            clear HY2
            have K1 : Keeps (fun q => q = gb) wq ((wq.setCell ⟨gb, 0, none⟩ (.int .i64 x)).setCell ⟨gb, 1, none⟩ (.int .i64 y)) := ((Keeps.refl (fun q => q = gb) wq).setCell (p := ⟨gb, 0, none⟩) rfl (.int .i64 x)).setCell (p := ⟨gb, 1, none⟩) rfl (.int .i64 y)
            have B6 : Blk ((wq.setCell ⟨gb, 0, none⟩ (.int .i64 x)).setCell ⟨gb, 1, none⟩ (.int .i64 y)) gb 63 #[.int .i64 x, .int .i64 y] := (B3.set 0 (.int .i64 x)).set 1 (.int .i64 y)
            have oV6 := oV3.keeps K1 (fun q h1 h2 => by simp [Value.ownBlock] at h1; omega)
            have oD6 := oD3.keeps K1 (fun q h1 h2 => by simp [Value.ownBlock] at h1; omega)
            have hbx6 := hbx3.wrote (K1.mono (M' := fun q => w.heap.size + 1 ≤ q) (fun q hq => by omega))
            have D6 := D5.keeps K1 (by omega)
            have H6 := Lib.hid B6
            have OV6 := Lib.hid oV6
            have OD6 := Lib.hid oD6
            have HX6 := Lib.hid hbx6
            have HD6 := Lib.hid D6
            clear K1 B6 oV6 oD6 hbx6 D6
            by_cases hb0 : bb = 0
            · have h1 : Hid (rdF (ltTo V E (k + 1)) = (x, y)) := Lib.hid (by rw [HY3.out, if_pos (.inl hb0)])
              have hbt : (bb == 0) = true := by simp [hb0]
              subst hb0
              clear HY3
              go_wp2
              go_roundw
              case rel => exact ⟨k + 1, by omega, by go_num, by rw [h1.out]; exact H6.out, OV6.out, OD6.out, HX6.out, HD6.out⟩
              case measure => simp [intOf]; omega
            · have hbt : (bb == 0) = false := beq_false_of_ne hb0
              by_cases hlt2 : x * bb < tt * y
              · have h1 : Hid (rdF (ltTo V E (k + 1)) = (x, y)) := Lib.hid (by rw [HY3.out, if_pos (.inr hlt2)])
                clear HY3
                go_wp2
                go_roundw
                case rel => exact ⟨k + 1, by omega, by go_num, by rw [h1.out]; exact H6.out, OV6.out, OD6.out, HX6.out, HD6.out⟩
                case measure => simp [intOf]; omega
              · have h1 : Hid (rdF (ltTo V E (k + 1)) = (tt, bb)) := Lib.hid (by rw [HY3.out, if_neg (fun h => h.elim hb0 hlt2)])
                clear HY3 H6 OV6 OD6 HX6 HD6
                go_wp2
                go_roundw
                case rel => exact ⟨k + 1, by omega, by go_num, by rw [h1.out]; exact B3, oV3, oD3, hbx3, D5⟩
                case measure => simp [intOf]; omega
      · have hk' : k = P.length := by omega
        subst hk'
        have bT := HBD.out P.length (Nat.le_refl _)
        have HQ := Lib.hid (HR.out (ltTo V E P.length) rfl)
        generalize ltTo V E P.length = r at bT HQ B2 ⊢
        clear HR HV HD HBD HRB HST oV2 oD2
        obtain ⟨r1, r2⟩ := r
        have HQ1 := Lib.hid (HQ.out.1)
        have HQ2 := Lib.hid (HQ.out.2)
        have bT : 1 ≤ r1 ∧ r1 ≤ 2000001 ∧ 0 ≤ r2 ∧ r2 ≤ 120000000000 := bT
        clear HQ
        have f0 := D4.free 0
        have f1 := D4.free 1
        have e0 := D4.cell 0
        have e1 := D4.cell 1
        by_cases hz : r2 = 0
        · subst hz
          obtain ⟨z1, z2⟩ := HQ1.out rfl
          have Z1 := Lib.hid z1
          have Z2 := Lib.hid z2
          have hrd : rdF (r1, 0) = (0, 0) := rdF_zero rfl
          rw [hrd] at B2
          have b0 := B2.cell 0
          have b1 := B2.cell 1
          clear z1 z2 HQ1 HQ2 hrd
          go_wp2
          have F := (D4.set 0 (.int .i64 0)).set 1 (.int .i64 0)
          have q0 := F.cell 0
          have q1 := F.cell 1
          refine bodyPost_ret (v := .tuple #[.agg #[.int .i64 0, .int .i64 0], .int .i64 5]) (by simp [results, Try.results62, go_sem, q0, q1]) rfl ?_
          rw [Z1.out, Z2.out]
          exact lt_zero hbx2.below
        · obtain ⟨z1, z2, z3⟩ := HQ2.out hz
          have hred : rdF (r1, r2) = (r1 / gcdI r1 r2, r2 / gcdI r1 r2) := rdF_pos (p := (r1, r2)) (by show 0 < r2; omega)
          rw [hred] at z1 z2 z3 B2
          have Z1 := Lib.hid z1
          have Z2 := Lib.hid z2
          have Z3 := Lib.hid z3
          obtain ⟨x1, x2, y1, y2⟩ := bT
          have hrb := red_bot (a := r1) (b := r2) (by omega) (by omega)
          have hgc := red_gcd (a := r1) (b := r2) (by omega)
          have B2 : Blk wo gb 63 #[.int .i64 (r1 / gcdI r1 r2), .int .i64 (r2 / gcdI r1 r2)] := B2
          clear z1 z2 z3 HQ1 HQ2 hred
          generalize r1 / gcdI r1 r2 = x at B2 Z1 Z2 Z3 hrb hgc
          generalize r2 / gcdI r1 r2 = y at B2 Z1 Z2 Z3 hrb hgc
          obtain ⟨u1, u2, u3, u4⟩ := hrb
          have hyb : (y == 0) = false := beq_false_of_ne (by omega)
          have hyn : ¬ y = 0 := by omega
          have b0 := B2.cell 0
          have b1 := B2.cell 1
          clear f0 f1 e0 e1
          go_wp2_with fail
          refine (l01Fraction_c x y _ (by omega) (by omega) hgc).mono ?_
          rintro e w5 ⟨rfl, hb5⟩
          have D5 := D4.stays hb5
          have hx5 := hbx2.trans hb5
          have B5 := B2.stays hb5
          have f0 := D5.free 0
          have f1 := D5.free 1
          have e0 := D5.cell 0
          have e1 := D5.cell 1
          clear b0 b1
          have b0 := B5.cell 0
          have b1 := B5.cell 1
          cases hfit : fitB x y
          · go_wp2
            have F := (D5.set 0 (.int .i64 0)).set 1 (.int .i64 0)
            have q0 := F.cell 0
            have q1 := F.cell 1
            refine bodyPost_ret (v := .tuple #[.agg #[.int .i64 0, .int .i64 0], .int .i64 3]) (by simp [results, Try.results62, go_sem, q0, q1]) rfl ?_
            rw [Z1.out, Z2.out, Z3.out, hfit]
            exact lt_zero hx5.below
          · go_wp2
            have F := (D5.set 0 (.int .i64 x)).set 1 (.int .i64 y)
            have q0 := F.cell 0
            have q1 := F.cell 1
            refine bodyPost_ret (v := .tuple #[.agg #[.int .i64 x, .int .i64 y], .int .i64 0]) (by simp [results, Try.results62, go_sem, q0, q1]) rfl ?_
            rw [Z1.out, Z2.out, Z3.out, hfit]
            exact ⟨rfl, (hx5.below.setCell (p := ⟨w.heap.size + 1, 0, none⟩) (Nat.le_succ _) _).setCell (p := ⟨w.heap.size + 1, 1, none⟩) (Nat.le_succ _) _⟩

theorem implLt_c (p s q : Value) (P S W : List Int) (w : World) (hp : Rd w p P) (hs : Rd w s S) (hq : Rd w q W) :
    Calls Try.prog 63 #[.agg #[p, s, q]] w fun e w' => e = .returned (.tuple #[.agg #[.int .i64 (okN (ltB P S W) (ltR P S W).1), .int .i64 (okN (ltB P S W) (ltR P S W).2)], .int .i64 (ltC P S W)]) ∧ Below w.heap.size w w' := by
  cases hc : cluB P S W
  · rw [(lt_1 hc).1, (lt_1 hc).2, okN_false rfl, okN_false rfl]; exact implLt_1 p s q P S W w hp hs hq hc
  · cases hn : nonNeg (exTo (proxL P S) W P.length)
    · rw [(lt_2 hc hn).1, (lt_2 hc hn).2, okN_false rfl, okN_false rfl]; exact implLt_2 p s q P S W w hp hs hq hc hn
    · exact implLt_3 p s q P S W w hp hs hq hc hn
theorem specLt_c (p s q : Value) (P S W : List Int) (w : World) (hp : Rd w p P) (hs : Rd w s S) (hq : Rd w q W) :
    Calls Try.prog 62 #[.agg #[p, s, q]] w fun e w' => e = .returned (.tuple #[.agg #[.int .i64 (okN (ltB P S W) (ltR P S W).1), .int .i64 (okN (ltB P S W) (ltR P S W).2)], .int .i64 (ltC P S W)]) ∧ Below w.heap.size w w' := by
  cases hc : cluB P S W
  · rw [(lt_1 hc).1, (lt_1 hc).2, okN_false rfl, okN_false rfl]; exact specLt_1 p s q P S W w hp hs hq hc
  · cases hn : nonNeg (exTo (proxL P S) W P.length)
    · rw [(lt_2 hc hn).1, (lt_2 hc hn).2, okN_false rfl, okN_false rfl]; exact specLt_2 p s q P S W w hp hs hq hc hn
    · exact specLt_3 p s q P S W w hp hs hq hc hn
end Go.Proofs.Ytgjnllialhjhoaa
