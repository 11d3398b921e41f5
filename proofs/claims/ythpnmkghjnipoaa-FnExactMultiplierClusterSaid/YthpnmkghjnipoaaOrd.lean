/- Contracts: ClusterOrders. -/
import Derived.Test.YthpnmkghjnipoaaAddedO
import Derived.Test.YthpnmkghjnipoaaProx
import Derived.Test.YthpnmkghjnipoaaOrdPure
namespace Go.Proofs.Ythpnmkghjnipoaa
open Go.RowKit

/-- The function value of clusterOrders: the weight of a point. -/
theorem ordersOwn_c (cb : Nat) (q : Value) (W : List Int) (j : Nat) (w : World) (hb : w.cell? ⟨cb, 2, none⟩ = some q) (hq : Rd w q W) (hj : j < W.length) :
    Calls Try.prog 156 #[.int .i64 (j : Int), .pointer (some ⟨cb, 0, none⟩)] w fun e w' => e = .returned (.int .i64 (gI W j)) ∧ w = w' := by
  obtain ⟨b, off, cap, rfl, h1, h2, h3, hc⟩ := hq.cells (by omega)
  have hcj := hc j hj
  clear hc
  go_enter Try.func156, Try.ntmps156
  go_wp2
  go_ret
  exact ⟨rfl, rfl⟩

set_option maxHeartbeats 1000000 in
theorem clusterOrders_c (p s q : Value) (P S W : List Int) (w : World) (hp : Rd w p P) (hs : Rd w s S) (hq : Rd w q W) (hc : CluOk P S W) :
    Calls Try.prog 120 #[.agg #[p, s, q]] w (RetI w (ordTo (fun j => gI W j) P S P.length)) := by
  have hx := Boxed.start w 47 #[p, s, q]
  have hlP : (proxL P S).length = P.length := by simp [proxL]
  have hEQ := ord_eq hc (own := fun j => gI W j)
  have hOK := addOk_clu hc (own := fun j => gI W j) (fun j hj => hc.2.1 j (by have := hc.1; omega))
  go_enter Try.func120, Try.ntmps120
  have c0 := hx.cell 0
  have c1 := hx.cell 1
  have c2 := hx.cell 2
  have hmf : ∀ (fn : Fn) (first cap : Array Value) (w : World), (Instr.makeFunc fn first cap).run Try.prog w = .ok (.func fn first cap) w := fun _ _ _ _ => rfl
  go_wp2_with fail
  refine (clusterProximates_c _ _ _ P S W _ (hx.rd hp) (hx.rd hs) (hx.rd hq) hc.1.2.2.1 hc.1.1 hc.1.2.1).mono ?_
  rintro e w1 ⟨g, V, rfl, hrow, hb⟩
  have hx1 := hx.trans hb
  have hrd := hrow.rd (cap := P.length) (Nat.le_refl _) (by have := hc.1; omega)
  clear c0 c1 c2
  go_wp2_with fail
  have hcall := added_orders_c (.slice (some ⟨g, 0, none⟩) P.length P.length) (proxL P S) (fun j => gI W j) w.heap.size w1 hrd hOK (fun j w2 hj hbl => by
    have hx2 := hx1.trans hbl
    exact ordersOwn_c w.heap.size q W j w2 (hx2.cell 2) (hx2.rd hq) (by have := hc.1; omega))
  rw [hlP, hEQ] at hcall
  refine hcall.mono ?_
  rintro e w3 ⟨a, k, rfl, ho, hb3⟩
  clear hcall hmf hEQ hOK hlP
  go_wp2
  go_ret
  exact retI_mk (ho.base_le (Nat.le_of_lt hx1.size)) (hx1.trans hb3).below

set_option maxRecDepth 100000 in
set_option maxHeartbeats 2000000 in
theorem l07Orders_c (p s q v : Value) (P S W L : List Int) (w : World) (hp : Rd w p P) (hs : Rd w s S) (hv : Rd w v L) (hc : CluOk P S W) (hl : L.length = P.length) (hL : ∀ j, j < L.length → -100000 ≤ gI L j ∧ gI L j ≤ 100000) :
    Calls Try.prog 146 #[.agg #[p, s, q], v] w (RetI w (ordTo (fun j => gI L j) P S P.length)) := by
  obtain ⟨i0, hi, hz0, hz1, hz2⟩ := info_parts Try.infoI
  have hx := Boxed.start w 47 #[p, s, q]
  obtain ⟨bp, op, kp, rfl, hpc1, hpc2, hpb, hpc⟩ := hp.cells hc.1.1
  obtain ⟨bs, os, ks, rfl, hsc1, hsc2, hsb, hsc⟩ := hs.cells (by have := hc.1; omega)
  obtain ⟨bv, ov, kv, rfl, hvc1, hvc2, hvb, hvc⟩ := hv.cells (by have := hc.1; omega)
  have hS := hc.1.2.2.1
  have h24 := hc.1.2.1
  have hl1 : P.length ≤ S.length := by omega
  have hl2 : L.length ≤ P.length := by omega
  have hl3 : P.length ≤ L.length := by omega
  have hl4 : S.length ≤ P.length := by omega
  have HL := Lib.hid hl
  clear hl hS
  go_enter Try.func146, Try.ntmps146
  go_wp2
  go_loopw [5, 6, 7] (fun v i _ wr => ∃ k : Nat, k ≤ P.length ∧ i = .int .i64 k ∧ OwnI wr (w.heap.size + 1) v (ordTo (fun j => gI L j) P S k) ∧ Boxed w wr 47 #[.slice (some ⟨bp, op, none⟩) P.length kp, .slice (some ⟨bs, os, none⟩) S.length ks, q]) (fun _ i _ _ => P.length - (intOf i).toNat)
  case atStart => exact ⟨0, Nat.zero_le _, rfl, own_empty_at (w.alloc _) (w.heap.size + 1) (w.heap.size + 1) (by simp) (Nat.le_refl _), hx.alloc _⟩
  case round =>
    obtain ⟨k, hk, rfl, hown, hbx⟩ := hrel
    obtain ⟨wo, rfl⟩ : ∃ wo : World, wo = wr := ⟨_, rfl⟩
    by_cases hlt : k < P.length
    · have c0 := hbx.cell 0
      have c1 := hbx.cell 1
      have hsz := hbx.size
      have hol := ordTo_len (fun j => gI L j) P S k
      have hol1 : (ordTo (fun j => gI L j) P S k).length ≤ k := by omega
      have hol2 : k ≤ (ordTo (fun j => gI L j) P S k).length := by omega
      have hi1 : (k : Int) < (S.length : Int) := by omega
      have hi2 : (k : Int) < (L.length : Int) := by omega
      have dL : wo.cell? ⟨bv, ov + k, none⟩ = some (.int .i64 (gI L k)) := by rw [hbx.below.cell (p := ⟨bv, ov + k, none⟩) hvb]; exact hvc k (by omega)
      have dS : wo.cell? ⟨bs, os + k, none⟩ = some (.int .i64 (gI S k)) := by rw [hbx.below.cell (p := ⟨bs, os + k, none⟩) hsb]; exact hsc k (by omega)
      have dP : wo.cell? ⟨bp, op + k, none⟩ = some (.int .i64 (gI P k)) := by rw [hbx.below.cell (p := ⟨bp, op + k, none⟩) hpb]; exact hpc k hlt
      have bL := hL k (by omega)
      obtain ⟨bL1, bL2⟩ := bL
      have HY := ordTo_succ (fun j => gI L j) P S k
      by_cases hk0 : k = 0
      · subst hk0
        have hz := clu_zero hc
        have hS0 : ¬ 0 ≤ gI S 0 := by omega
        rw [if_pos rfl, if_neg hS0] at HY
        have HY := Lib.hid HY
        simp only [Nat.add_zero] at dL dS dP
        clear hz hol
        generalize gI S 0 = sk at dS hS0
        generalize hsum : gI L 0 + 0 + 0 = sm at HY
        have hsm : gI L 0 = sm := by omega
        clear hsum
        rw [hsm] at dL bL1 bL2
        clear hsm
        go_wp2_with (at_builtin; refine wpList_push rfl (.tmp 47) (.tmp 49) 22 rfl (w.heap.size + 1) 2 i0 Try.underlying22 hi hz0 hz1 hz2 u5 (ordTo (fun j => gI L j) P S 0) _ rfl hown rfl (by omega) (by omega) ?_; intro v' w2 hown' hkp)
        have hbx' := hbx.push hown hkp
        rw [← HY.out] at hown'
        go_roundw
        case rel => exact ⟨1, by omega, by go_num, hown', hbx'⟩
        case measure => simp [intOf]; omega
      · obtain ⟨hp0, hp1, hp2⟩ := clu_place hc hlt (by omega)
        rw [if_neg hk0] at HY
        obtain ⟨g, gc, rfl, hg0, hg1, hg2, hg3⟩ := Own.pos hown (by omega)
        have hcellP := hown.cell (gI P k).toNat (by omega)
        have bP := ord_small hc (own := fun j => gI L j) (fun j hj => hL j (by omega)) (k := (gI P k).toNat) (n := k) (by omega) (by omega)
        have hx2 : gI P k < ((ordTo (fun j => gI L j) P S k).length : Int) := by omega
        by_cases hs : 0 ≤ gI S k
        · rw [if_pos hs] at HY
          have hcellS := hown.cell (gI S k).toNat (by omega)
          have bS := ord_small hc (own := fun j => gI L j) (fun j hj => hL j (by omega)) (k := (gI S k).toNat) (n := k) (by omega) (by omega)
          have hx3 : gI S k < ((ordTo (fun j => gI L j) P S k).length : Int) := by omega
          have HY := Lib.hid HY
          have hkp0 : 0 < k := by omega
          clear hol hk0
          generalize gI (ordTo (fun j => gI L j) P S k) (gI P k).toNat = y at hcellP bP HY
          generalize gI (ordTo (fun j => gI L j) P S k) (gI S k).toNat = z at hcellS bS HY
          generalize gI S k = sk at dS hs hcellS hx3 hp2
          generalize gI P k = pk at dP hcellP hx2 hp0 hp1
          generalize gI L k = lk at dL bL1 bL2 HY
          obtain ⟨bP1, bP2⟩ := bP
          obtain ⟨bS1, bS2⟩ := bS
          go_wp2_with (at_builtin; refine wpList_push rfl (.tmp 47) (.tmp 49) 22 rfl (w.heap.size + 1) 2 i0 Try.underlying22 hi hz0 hz1 hz2 (.slice (some ⟨g, 0, none⟩) (ordTo (fun j => gI L j) P S k).length gc) (ordTo (fun j => gI L j) P S k) _ rfl hown rfl (by omega) (by omega) ?_; intro v' w2 hown' hkp)
          have hbx' := hbx.push hown hkp
          rw [← HY.out] at hown'
          go_roundw
          case rel => exact ⟨k + 1, by omega, by go_num, hown', hbx'⟩
          case measure => simp [intOf]; omega
        · rw [if_neg hs] at HY
          have hkp0 : 0 < k := by omega
          clear hol hk0
          generalize gI (ordTo (fun j => gI L j) P S k) (gI P k).toNat = y at hcellP bP HY
          generalize gI S k = sk at dS hs hp2
          generalize gI P k = pk at dP hcellP hx2 hp0 hp1
          generalize gI L k = lk at dL bL1 bL2 HY
          rw [Int.add_zero] at HY
          have HY := Lib.hid HY
          obtain ⟨bP1, bP2⟩ := bP
          go_wp2_with (at_builtin; refine wpList_push rfl (.tmp 47) (.tmp 49) 22 rfl (w.heap.size + 1) 2 i0 Try.underlying22 hi hz0 hz1 hz2 (.slice (some ⟨g, 0, none⟩) (ordTo (fun j => gI L j) P S k).length gc) (ordTo (fun j => gI L j) P S k) _ rfl hown rfl (by omega) (by omega) ?_; intro v' w2 hown' hkp)
          have hbx' := hbx.push hown hkp
          rw [← HY.out] at hown'
          go_roundw
          case rel => exact ⟨k + 1, by omega, by go_num, hown', hbx'⟩
          case measure => simp [intOf]; omega
    · go_wp2
      have hk' : k = P.length := by omega
      subst hk'
      go_ret
      exact retI_mk (hown.base_le (by omega)) hbx.below

end Go.Proofs.Ythpnmkghjnipoaa
