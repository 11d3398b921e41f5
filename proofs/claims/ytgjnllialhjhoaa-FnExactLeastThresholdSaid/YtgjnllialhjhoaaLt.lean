/- Contracts: LeastThreshold, the program. -/
import Derived.Test.YtgjnllialhjhoaaLtPure
import Derived.Test.YtgjnllialhjhoaaFrac
import Derived.Test.YtgjnllialhjhoaaCons
import Derived.Test.YtgjnllialhjhoaaOrd
namespace Go.Proofs.Ytgjnllialhjhoaa
open Go.RowKit

theorem isInteger_c (n : Int) (w : World) : Calls Try.prog 140 #[.int .i64 n] w fun e w' => e = .returned (.bool (inB n (-1000000000) 1000000000)) ∧ w = w' := by
  go_enter Try.func140, Try.ntmps140
  go_wp2_with fail
  refine (inRange_c _ _ _ _).mono ?_
  rintro e w1 ⟨rfl, rfl⟩
  go_wp2
  go_ret
  exact ⟨rfl, rfl⟩
theorem isNatural_c (n : Int) (w : World) : Calls Try.prog 141 #[.int .i64 n] w fun e w' => e = .returned (.bool (inB n 1 1000000000)) ∧ w = w' := by
  go_enter Try.func141, Try.ntmps141
  go_wp2_with fail
  refine (inRange_c _ _ _ _).mono ?_
  rintro e w1 ⟨rfl, rfl⟩
  go_wp2
  go_ret
  exact ⟨rfl, rfl⟩
theorem l01Integer_c (n : Int) (w : World) : Calls Try.prog 134 #[.int .i64 n] w fun e w' => e = .returned (.bool (inB n (-1000000000) 1000000000)) ∧ w = w' := by
  go_enter Try.func134, Try.ntmps134
  go_wp2_with fail
  refine (l01In_c _ _ _ _).mono ?_
  rintro e w1 ⟨rfl, rfl⟩
  go_wp2
  go_ret
  exact ⟨rfl, rfl⟩
theorem l01Natural_c (n : Int) (w : World) : Calls Try.prog 135 #[.int .i64 n] w fun e w' => e = .returned (.bool (inB n 1 1000000000)) ∧ w = w' := by
  go_enter Try.func135, Try.ntmps135
  go_wp2_with fail
  refine (l01In_c _ _ _ _).mono ?_
  rintro e w1 ⟨rfl, rfl⟩
  go_wp2
  go_ret
  exact ⟨rfl, rfl⟩

theorem fits_c (x y : Int) (w : World) : Calls Try.prog 115 #[.agg #[.int .i64 x, .int .i64 y]] w fun e w' => e = .returned (.tuple #[.agg #[.int .i64 (okN (fitB x y) x), .int .i64 (okN (fitB x y) y)], .int .i64 (okC (fitB x y) 3)]) ∧ Below w.heap.size w w' := by
  have hx := Boxed.start w 63 #[.int .i64 x, .int .i64 y]
  have hxa := hx.alloc (.cells #[.int .i64 0, .int .i64 0] 63)
  have B := Blk.new' (w := w.alloc (.cells #[.int .i64 x, .int .i64 y] 63)) (t := 63) (cs := #[.int .i64 0, .int .i64 0]) (g := w.heap.size + 1) (by simp)
  have c0 := hxa.cell 0
  have c1 := hxa.cell 1
  have e0 := B.cell 0
  have e1 := B.cell 1
  have f0 := B.free 0
  have f1 := B.free 1
  cases h1 : inB x (-1000000000) 1000000000
  · have hf : fitB x y = false := by simp [fitB, h1]
    rw [hf]
    go_enter Try.func115, Try.ntmps115
    go_wp2_with fail
    refine (isInteger_c _ _).mono ?_
    rintro e w1 ⟨rfl, rfl⟩
    rw [h1]
    go_wp2
    refine bodyPost_ret (v := .tuple #[.agg #[.int .i64 0, .int .i64 0], .int .i64 3]) (by simp [results, Try.results115, go_sem, e0, e1]) rfl ⟨rfl, hxa.below⟩
  · cases h2 : inB y 1 1000000000
    · have hf : fitB x y = false := by simp [fitB, h1, h2]
      rw [hf]
      go_enter Try.func115, Try.ntmps115
      go_wp2_with fail
      refine (isInteger_c _ _).mono ?_
      rintro e w1 ⟨rfl, rfl⟩
      rw [h1]
      go_wp2_with fail
      refine (isNatural_c _ _).mono ?_
      rintro e w1 ⟨rfl, rfl⟩
      rw [h2]
      go_wp2
      refine bodyPost_ret (v := .tuple #[.agg #[.int .i64 0, .int .i64 0], .int .i64 3]) (by simp [results, Try.results115, go_sem, e0, e1]) rfl ⟨rfl, hxa.below⟩
    · have hf : fitB x y = true := by simp [fitB, h1, h2]
      rw [hf]
      have F := Blk.new' (w := w.alloc (.cells #[.int .i64 x, .int .i64 y] 63)) (t := 63) (cs := #[.int .i64 x, .int .i64 y]) (g := w.heap.size + 1) (by simp)
      have q0 := F.cell 0
      have q1 := F.cell 1
      go_enter Try.func115, Try.ntmps115
      go_wp2_with fail
      refine (isInteger_c _ _).mono ?_
      rintro e w1 ⟨rfl, rfl⟩
      rw [h1]
      go_wp2_with fail
      refine (isNatural_c _ _).mono ?_
      rintro e w1 ⟨rfl, rfl⟩
      rw [h2]
      go_wp2
      refine bodyPost_ret (v := .tuple #[.agg #[.int .i64 x, .int .i64 y], .int .i64 0]) (by simp [results, Try.results115, go_sem, q0, q1]) rfl ⟨rfl, (hx.alloc _).below⟩

/-- A pair of numbers that is handed back lies in the variable; what is stored ahead of the return. -/
theorem lt_zero {w w' : World} {c : Int} (fr : Below w.heap.size w w') : (.returned (.tuple #[.agg #[.int .i64 0, .int .i64 0], .int .i64 c]) : Ending) = .returned (.tuple #[.agg #[.int .i64 0, .int .i64 0], .int .i64 c]) ∧ Below w.heap.size w ((w'.setCell ⟨w.heap.size + 1, 0, none⟩ (.int .i64 0)).setCell ⟨w.heap.size + 1, 1, none⟩ (.int .i64 0)) :=
  ⟨rfl, (fr.setCell (p := ⟨w.heap.size + 1, 0, none⟩) (Nat.le_succ _) _).setCell (p := ⟨w.heap.size + 1, 1, none⟩) (Nat.le_succ _) _⟩

set_option maxRecDepth 100000 in
set_option maxHeartbeats 1000000 in
theorem implLt_1 (p s q : Value) (P S W : List Int) (w : World) (hp : Rd w p P) (hs : Rd w s S) (hq : Rd w q W) (hc : cluB P S W = false) :
    Calls Try.prog 63 #[.agg #[p, s, q]] w fun e w' => e = .returned (.tuple #[.agg #[.int .i64 0, .int .i64 0], .int .i64 1]) ∧ Below w.heap.size w w' := by
  obtain ⟨a1, k1, rfl⟩ := hp.len0
  obtain ⟨a2, k2, rfl⟩ := hs.len0
  obtain ⟨a3, k3, rfl⟩ := hq.len0
  have hx := Boxed.start w 51 #[.slice a1 P.length k1, .slice a2 S.length k2, .slice a3 W.length k3]
  have hxa := hx.alloc (.cells #[.int .i64 0, .int .i64 0] 63)
  have D := Blk.new' (w := w.alloc (.cells #[.slice a1 P.length k1, .slice a2 S.length k2, .slice a3 W.length k3] 51)) (t := 63) (cs := #[.int .i64 0, .int .i64 0]) (g := w.heap.size + 1) (by simp)
  have c0 := hxa.cell 0
  have c1 := hxa.cell 1
  have c2 := hxa.cell 2
  go_enter Try.func63, Try.ntmps63
  go_wp2_with fail
  refine (implIsCluster_c _ _ _ P S W _ (hxa.rd hp) (hxa.rd hs) (hxa.rd hq)).mono ?_
  rintro e w1 ⟨rfl, hb⟩
  rw [hc]
  have D1 := D.stays hb
  have hx1 := hxa.trans hb
  have f0 := D1.free 0
  have f1 := D1.free 1
  have e0 := D1.cell 0
  have e1 := D1.cell 1
  clear c0 c1 c2
  go_wp2
  have F := (D1.set 0 (.int .i64 0)).set 1 (.int .i64 0)
  have q0 := F.cell 0
  have q1 := F.cell 1
  refine bodyPost_ret (v := .tuple #[.agg #[.int .i64 0, .int .i64 0], .int .i64 1]) (by simp [results, Try.results63, go_sem, q0, q1]) rfl (lt_zero hx1.below)

set_option maxRecDepth 100000 in
set_option maxHeartbeats 1000000 in
theorem implLt_2 (p s q : Value) (P S W : List Int) (w : World) (hp : Rd w p P) (hs : Rd w s S) (hq : Rd w q W) (hc : cluB P S W = true) (hn : nonNeg (exTo (proxL P S) W P.length) = false) :
    Calls Try.prog 63 #[.agg #[p, s, q]] w fun e w' => e = .returned (.tuple #[.agg #[.int .i64 0, .int .i64 0], .int .i64 5]) ∧ Below w.heap.size w w' := by
  obtain ⟨a1, k1, rfl⟩ := hp.len0
  obtain ⟨a2, k2, rfl⟩ := hs.len0
  obtain ⟨a3, k3, rfl⟩ := hq.len0
  have hx := Boxed.start w 51 #[.slice a1 P.length k1, .slice a2 S.length k2, .slice a3 W.length k3]
  have hxa := hx.alloc (.cells #[.int .i64 0, .int .i64 0] 63)
  have D := Blk.new' (w := w.alloc (.cells #[.slice a1 P.length k1, .slice a2 S.length k2, .slice a3 W.length k3] 51)) (t := 63) (cs := #[.int .i64 0, .int .i64 0]) (g := w.heap.size + 1) (by simp)
  have HCL := Lib.hid (cluB_iff.1 hc)
  have c0 := hxa.cell 0
  have c1 := hxa.cell 1
  have c2 := hxa.cell 2
  go_enter Try.func63, Try.ntmps63
  go_wp2_with fail
  refine (implIsCluster_c _ _ _ P S W _ (hxa.rd hp) (hxa.rd hs) (hxa.rd hq)).mono ?_
  rintro e w1 ⟨rfl, hb⟩
  rw [hc]
  have D1 := D.stays hb
  have hx1 := hxa.trans hb
  clear c0 c1 c2
  have c0 := hx1.cell 0
  have c1 := hx1.cell 1
  have c2 := hx1.cell 2
  go_wp2_with fail
  refine (consistent_c _ _ _ P S W _ (hx1.rd hp) (hx1.rd hs) (hx1.rd hq) HCL.out).mono ?_
  rintro e w2 ⟨rfl, hb2⟩
  rw [hn]
  have D2 := D1.stays hb2
  have hx2 := hx1.trans hb2
  have f0 := D2.free 0
  have f1 := D2.free 1
  have e0 := D2.cell 0
  have e1 := D2.cell 1
  clear c0 c1 c2
  go_wp2
  have F := (D2.set 0 (.int .i64 0)).set 1 (.int .i64 0)
  have q0 := F.cell 0
  have q1 := F.cell 1
  refine bodyPost_ret (v := .tuple #[.agg #[.int .i64 0, .int .i64 0], .int .i64 5]) (by simp [results, Try.results63, go_sem, q0, q1]) rfl (lt_zero hx2.below)

set_option maxRecDepth 100000 in
set_option maxHeartbeats 4000000 in
theorem implLt_3 (p s q : Value) (P S W : List Int) (w : World) (hp : Rd w p P) (hs : Rd w s S) (hq : Rd w q W) (hc : cluB P S W = true) (hn : nonNeg (exTo (proxL P S) W P.length) = true) :
    Calls Try.prog 63 #[.agg #[p, s, q]] w fun e w' => e = .returned (.tuple #[.agg #[.int .i64 (okN (ltB P S W) (ltR P S W).1), .int .i64 (okN (ltB P S W) (ltR P S W).2)], .int .i64 (ltC P S W)]) ∧ Below w.heap.size w w' := by
  obtain ⟨a1, k1, rfl⟩ := hp.len0
  obtain ⟨a2, k2, rfl⟩ := hs.len0
  obtain ⟨a3, k3, rfl⟩ := hq.len0
  have hx := Boxed.start w 51 #[.slice a1 P.length k1, .slice a2 S.length k2, .slice a3 W.length k3]
  have hxa := hx.alloc (.cells #[.int .i64 0, .int .i64 0] 63)
  have D := Blk.new' (w := w.alloc (.cells #[.slice a1 P.length k1, .slice a2 S.length k2, .slice a3 W.length k3] 51)) (t := 63) (cs := #[.int .i64 0, .int .i64 0]) (g := w.heap.size + 1) (by simp)
  have hcl := cluB_iff.1 hc
  have HCL := Lib.hid hcl
  obtain ⟨hV0, hD0⟩ := lt_num hcl hn
  have HV := Lib.hid hV0
  have HD := Lib.hid hD0
  have hP0 : 0 < P.length := hcl.1.1
  have h24 : P.length ≤ 24 := hcl.1.2.1
  have hlV : (ordTo (fun j => gI W j) P S P.length).length = P.length := ordTo_len _ _ _ _
  have hlD : (discTo P S P.length).length = P.length := discTo_len _ _ _
  have HBD := Lib.hid (ltTo_bd (V := ordTo (fun j => gI W j) P S P.length) (D := discTo P S P.length) (n := P.length) (fun i hi => (hV0 i hi).2) hD0)
  have HR := Lib.hid (show ∀ r, ltTo (ordTo (fun j => gI W j) P S P.length) (discTo P S P.length) P.length = r → (r.2 = 0 → ltB P S W = false ∧ ltC P S W = 5) ∧ (r.2 ≠ 0 → ltB P S W = fitB (rdF r).1 (rdF r).2 ∧ ltC P S W = okC (fitB (rdF r).1 (rdF r).2) 3 ∧ ltR P S W = rdF r) from fun r hr => by
    subst hr
    exact ⟨fun h => lt_3 hc hn h, fun h => ⟨(lt_4 hc hn h).1, (lt_4 hc hn h).2, rfl⟩⟩)
  clear hV0 hD0 hcl
  have c0 := hxa.cell 0
  have c1 := hxa.cell 1
  have c2 := hxa.cell 2
  go_enter Try.func63, Try.ntmps63
  go_wp2_with fail
  refine (implIsCluster_c _ _ _ P S W _ (hxa.rd hp) (hxa.rd hs) (hxa.rd hq)).mono ?_
  rintro e w1 ⟨rfl, hb⟩
  rw [hc]
  have D1 := D.stays hb
  have hx1 := hxa.trans hb
  clear c0 c1 c2
  have c0 := hx1.cell 0
  have c1 := hx1.cell 1
  have c2 := hx1.cell 2
  go_wp2_with fail
  refine (consistent_c _ _ _ P S W _ (hx1.rd hp) (hx1.rd hs) (hx1.rd hq) HCL.out).mono ?_
  rintro e w2 ⟨rfl, hb2⟩
  rw [hn]
  have D2 := D1.stays hb2
  have hx2 := hx1.trans hb2
  clear c0 c1 c2
  have c0 := hx2.cell 0
  have c1 := hx2.cell 1
  have c2 := hx2.cell 2
  go_wp2_with fail
  refine (discrepancies_c _ _ _ P S W _ (hx2.rd hp) (hx2.rd hs) (hx2.rd hq) HCL.out).mono ?_
  rintro e w3 ⟨ad, kd, rfl, hoD, hb3⟩
  have D3 := D2.stays hb3
  have hx3 := hx2.trans hb3
  clear c0 c1 c2
  have c0 := hx3.cell 0
  have c1 := hx3.cell 1
  have c2 := hx3.cell 2
  rw [hlD] at hoD ⊢
  go_wp2_with fail
  refine (clusterOrders_c _ _ _ P S W _ (hx3.rd hp) (hx3.rd hs) (hx3.rd hq) HCL.out).mono ?_
  rintro e w4 ⟨av, kv, rfl, hoV, hb4⟩
  have D4 := D3.stays hb4
  have hx4 := hx3.trans hb4
  have hoD4 := hoD.below hb4 (Nat.le_refl _)
  rw [hlV] at hoV ⊢
  clear c0 c1 c2 hoD D D1 D2 D3 hxa hx1 hx2 hx3 hb hb2 hb3 hb4 hx
  generalize ordTo (fun j => gI W j) P S P.length = V at HV HBD HR hlV hoV
  generalize discTo P S P.length = E at HD HBD HR hlD hoD4
  obtain ⟨gV, cV, hge, _, _, _, _⟩ := Own.pos hoV (by omega)
  injection hge with u1 u2 u3
  subst u1 u3
  obtain ⟨gE, cE, hge, _, _, _, _⟩ := Own.pos hoD4 (by omega)
  injection hge with v1 v2 v3
  subst v1 v3
  have hcV : ∀ i, i < P.length → w4.cell? ⟨gV, i, none⟩ = some (.int .i64 (gI V i)) := fun i hi => Own.cell (xs := V) (cap := kv) (by rw [hlV]; exact hoV) i (by omega)
  have hcD : ∀ i, i < P.length → w4.cell? ⟨gE, i, none⟩ = some (.int .i64 (gI E i)) := fun i hi => Own.cell (xs := E) (cap := kd) (by rw [hlD]; exact hoD4) i (by omega)
  have HCV := Lib.hid hcV
  have HCD := Lib.hid hcD
  clear u2 v2 hoV hoD4 hcV hcD hlV hlD
  go_wp2_with fail
  go_loop [4, 5, 22] (fun tv bv iv => ∃ k : Nat, k ≤ P.length ∧ iv = .int .i64 k ∧ tv = .int .i64 (ltTo V E k).1 ∧ bv = .int .i64 (ltTo V E k).2) (fun _ _ iv => P.length - (intOf iv).toNat)
  case atStart => exact ⟨0, Nat.zero_le _, rfl, rfl, rfl⟩
  case round =>
    obtain ⟨k, hk, rfl, rfl, rfl⟩ := hrel
    by_cases hlt : k < P.length
    · have hki : (k : Int) < (P.length : Int) := by omega
      have hk0 : (0 : Int) ≤ (k : Int) := Int.natCast_nonneg _
      have dV := HCV.out k hlt
      have dD := HCD.out k hlt
      have bV := HV.out k hlt
      have bD := HD.out k hlt
      have bT := HBD.out k (by omega)
      have HY := Lib.hid (@ltTo_yes V E k)
      have HN := Lib.hid (@ltTo_no V E k)
      generalize gI V k = v at dV bV HY HN
      generalize gI E k = d at dD bD HY HN
      generalize ht : (ltTo V E k).1 = t at bT HY HN ⊢
      generalize hbo : (ltTo V E k).2 = bo at bT HY HN ⊢
      have HT := Lib.hid ht
      have HBO := Lib.hid hbo
      clear ht hbo
      obtain ⟨t1, t2, o1, o2⟩ := bT
      have m1 := Int.mul_le_mul (show 1 + d ≤ 2000001 by omega) o2 o1 (by omega)
      have m2 : 0 ≤ (1 + d) * bo := Int.mul_nonneg (by omega) o1
      have m3 := Int.mul_le_mul t2 bV.2 bV.1 (by omega)
      have m4 : 0 ≤ t * v := Int.mul_nonneg (by omega) bV.1
      have w1' : IntKind.i64.wrap (1 + d) = 1 + d := IntWalk.i64_in _ (by omega)
      have w2' : IntKind.i64.wrap ((1 + d) * bo) = (1 + d) * bo := IntWalk.i64_in _ (by omega)
      have w3' : IntKind.i64.wrap (t * v) = t * v := IntWalk.i64_in _ (by omega)
      by_cases hv : 0 < v
      · by_cases hlt2 : (1 + d) * bo < t * v
        · have h1 := Lib.hid (HY.out hv hlt2)
          clear HY HN
          go_wp2
          go_round
          case rel => exact ⟨k + 1, by omega, by go_num, by rw [h1.out], by rw [h1.out]⟩
          case measure => simp [intOf]; omega
        · have h1 := Lib.hid (HN.out (fun h => hlt2 h.2))
          clear HY HN
          go_wp2
          go_round
          case rel => exact ⟨k + 1, by omega, by go_num, by rw [h1.out, HT.out], by rw [h1.out, HBO.out]⟩
          case measure => simp [intOf]; omega
      · have h1 := Lib.hid (HN.out (fun h => hv h.1))
        clear HY HN
        go_wp2
        go_round
        case rel => exact ⟨k + 1, by omega, by go_num, by rw [h1.out, HT.out], by rw [h1.out, HBO.out]⟩
        case measure => simp [intOf]; omega
    · have hk' : k = P.length := by omega
      subst hk'
      have bT := HBD.out P.length (Nat.le_refl _)
      have HQ := Lib.hid (HR.out (ltTo V E P.length) rfl)
      generalize hr : ltTo V E P.length = r at bT HQ ⊢
      clear hr HR HCV HCD HV HD HBD
      obtain ⟨r1, r2⟩ := r
      have HQ1 := Lib.hid (HQ.out.1)
      have HQ2 := Lib.hid (HQ.out.2)
      have bT : 1 ≤ r1 ∧ r1 ≤ 2000001 ∧ 0 ≤ r2 ∧ r2 ≤ 120000000000 := bT
      clear HQ
      have f0 := D4.free 0
      have f1 := D4.free 1
      have e0 := D4.cell 0
      have e1 := D4.cell 1
      by_cases hz : r2 = 0
      · subst hz
        obtain ⟨z1, z2⟩ := HQ1.out rfl
        have Z1 := Lib.hid z1
        have Z2 := Lib.hid z2
        clear z1 z2 HQ1 HQ2
        go_wp2
        have F := (D4.set 0 (.int .i64 0)).set 1 (.int .i64 0)
        have q0 := F.cell 0
        have q1 := F.cell 1
        refine bodyPost_ret (v := .tuple #[.agg #[.int .i64 0, .int .i64 0], .int .i64 5]) (by simp [results, Try.results63, go_sem, q0, q1]) rfl ?_
        rw [Z1.out, Z2.out]
        exact lt_zero hx4.below
      · obtain ⟨z1, z2, z3⟩ := HQ2.out hz
        have hb0 : (r2 == 0) = false := beq_false_of_ne hz
        have hred : rdF (r1, r2) = (r1 / gcdI r1 r2, r2 / gcdI r1 r2) := rdF_pos (p := (r1, r2)) (by show 0 < r2; omega)
        rw [hred] at z1 z2 z3
        have Z1 := Lib.hid z1
        have Z2 := Lib.hid z2
        have Z3 := Lib.hid z3
        clear z1 z2 z3 HQ1 HQ2 hred
        obtain ⟨x1, x2, y1, y2⟩ := bT
        go_wp2_with fail
        refine (reduced_c r1 r2 _ (by omega) (by omega) (by omega) (by omega)).mono ?_
        rintro e w5 ⟨rfl, hb5⟩
        have D5 := D4.stays hb5
        have hx5 := hx4.trans hb5
        clear e0 e1 f0 f1
        go_wp2_with fail
        refine (fits_c _ _ _).mono ?_
        rintro e w6 ⟨rfl, hb6⟩
        have D6 := D5.stays hb6
        have hx6 := hx5.trans hb6
        have f0 := D6.free 0
        have f1 := D6.free 1
        have e0 := D6.cell 0
        have e1 := D6.cell 1
        go_wp2
        have F := (D6.set 0 (.int .i64 (okN (fitB (r1 / gcdI r1 r2) (r2 / gcdI r1 r2)) (r1 / gcdI r1 r2)))).set 1 (.int .i64 (okN (fitB (r1 / gcdI r1 r2) (r2 / gcdI r1 r2)) (r2 / gcdI r1 r2)))
        have q0 := F.cell 0
        have q1 := F.cell 1
        refine bodyPost_ret (v := .tuple #[.agg #[.int .i64 (okN (fitB (r1 / gcdI r1 r2) (r2 / gcdI r1 r2)) (r1 / gcdI r1 r2)), .int .i64 (okN (fitB (r1 / gcdI r1 r2) (r2 / gcdI r1 r2)) (r2 / gcdI r1 r2))], .int .i64 (okC (fitB (r1 / gcdI r1 r2) (r2 / gcdI r1 r2)) 3)]) (by simp [results, Try.results63, go_sem, q0, q1]) rfl ?_
        rw [Z1.out, Z2.out, Z3.out]
        exact ⟨rfl, (hx6.below.setCell (p := ⟨w.heap.size + 1, 0, none⟩) (Nat.le_succ _) _).setCell (p := ⟨w.heap.size + 1, 1, none⟩) (Nat.le_succ _) _⟩
end Go.Proofs.Ytgjnllialhjhoaa
