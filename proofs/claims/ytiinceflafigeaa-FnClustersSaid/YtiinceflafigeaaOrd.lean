/- The contract of impl.added with the function value loop.example/g01140/impl.clusterOrders$1. -/
import Derived.Test.YtiinceflafigeaaOrdPure
import Derived.Test.YtiinceflafigeaaProx
namespace Go.Proofs.Ytiinceflafigeaa
open Go.RowKit

set_option maxRecDepth 100000 in
set_option maxHeartbeats 4000000 in
theorem added_orders_c (v : Value) (R : List (List Int)) (own : Nat → Int) (cb : Nat) (w : World) (h : RdR w v R) (hok : AddOk own R)
    (hcl : ∀ (j : Nat) (w1 : World), j < R.length → Below w.heap.size w w1 → Calls Try.prog 215 #[.int .i64 (j : Int), .pointer (some ⟨cb, 0, none⟩)] w1 fun e w' => e = .returned (.int .i64 (own j)) ∧ w1 = w') :
    Calls Try.prog 114 #[v, .func (.func 215) #[] #[.pointer (some ⟨cb, 0, none⟩)]] w (RetI w (addTo own R R.length)) := by
  obtain ⟨i0, hi, hz0, hz1, hz2⟩ := info_parts Try.infoI
  obtain ⟨a, cap, rfl, hcap1, hcap2, hrd⟩ := h
  have hR := hok.len
  go_enter Try.func114, Try.ntmps114
  go_wp2
  go_loopw [5, 6, 7, 8, 10, 14, 24] (fun v _ _ _ _ i _ wr => ∃ k : Nat, k ≤ R.length ∧ i = .int .i64 k ∧ OwnI wr w.heap.size v (addTo own R k) ∧ Below w.heap.size w wr) (fun _ _ _ _ _ i _ _ => R.length - (intOf i).toNat)
  case atStart => exact ⟨0, Nat.zero_le _, rfl, own_empty w _ (Nat.le_refl _), (Below.refl _ _).alloc (Nat.le_refl _) _⟩
  case round =>
    obtain ⟨k, hk, rfl, hown, hbl⟩ := hrel
    obtain ⟨wo, rfl⟩ : ∃ wo : World, wo = wr := ⟨_, rfl⟩
    by_cases hlt : k < R.length
    · obtain ⟨b, off, rfl, hb, hcs⟩ := hrd (by intro e; simp [e] at hlt)
      obtain ⟨u, hu, hru⟩ := hcs k hlt
      have hu' : wo.cell? ⟨b, off + k, none⟩ = some u := by rw [hbl.cell (p := ⟨b, off + k, none⟩) hb]; exact hu
      have hru' := hru.below hbl (Nat.le_refl _)
      have hrow := hok.row k hlt
      have hrl := hok.rowlen k hlt
      have hsz := hbl.size
      have hal := addTo_len own R k
      have hob := hok.ownb k hlt
      have hbd := hok.out k hlt
      clear hcs hru hu
      obtain ⟨ar, kr, rfl, hr1, hr2, hrr⟩ := hru'
      go_wp2_with fail
      refine (hcl k wo hlt hbl).mono ?_
      rintro e w1 ⟨rfl, rfl⟩
      obtain ⟨ho1, ho2⟩ := hob
      go_wp2_with fail
      go_loop [8, 10, 24] (fun n _ i => ∃ m : Nat, m ≤ (gR R k).length ∧ i = .int .i64 m ∧ n = .int .i64 (own k + sumTo (fun x => gI (addTo own R k) (gI (gR R k) x).toNat) m)) (fun _ _ i => (gR R k).length - (intOf i).toNat)
      case atStart => exact ⟨0, Nat.zero_le _, rfl, by simp [sumTo]⟩
      case round =>
        obtain ⟨m, hm, rfl, rfl⟩ := hrel
        by_cases hmt : m < (gR R k).length
        · obtain ⟨b2, off2, rfl, hb2, hcs2⟩ := hrr (ne_of_lt_len hmt)
          have hc2 := hcs2 m hmt
          have hxr := hrow m hmt
          obtain ⟨g, gc, rfl, hg0, hg1, hg2, hg3⟩ := Own.pos hown (by rw [hal]; omega)
          have hcell := hown.cell (gI (gR R k) m).toNat (by rw [hal]; omega)
          have hb1 := hbd (gI (gR R k) m).toNat (by omega)
          have hsum := sumTo_bound (f := fun x => gI (addTo own R k) (gI (gR R k) x).toNat) (n := m) (-1000000000000000) 1000000000000000 (fun x hx => hbd _ (by have := hrow x (by omega); omega))
          have HS := Lib.hid (sumTo_succ (fun x => gI (addTo own R k) (gI (gR R k) x).toNat) m)
          have HO := Lib.hid hown
          have HA := Lib.hid hal
          have hal1 : (addTo own R k).length ≤ k := by omega
          have hal2 : k ≤ (addTo own R k).length := by omega
          clear hcs2 hrr hown hal
          generalize sumTo (fun x => gI (addTo own R k) (gI (gR R k) x).toNat) m = sm at hsum HS
          generalize gI (addTo own R k) (gI (gR R k) m).toNat = y at hcell hb1 HS
          generalize gI (gR R k) m = x at hc2 hxr hcell
          obtain ⟨hx0, hx1⟩ := hxr
          have hx2 : x < ((addTo own R k).length : Int) := by omega
          obtain ⟨hy0, hy1⟩ := hb1
          obtain ⟨hs0, hs1⟩ := hsum
          have hs2 : -400000000000000000 ≤ sm := by omega
          have hs3 : sm ≤ 400000000000000000 := by omega
          clear hs0 hs1
          go_wp2
          go_round
          case rel => exact ⟨m + 1, by omega, by go_num, by rw [HS.out]; go_num⟩
          case measure => simp [intOf]; omega
        · have hm' : m = (gR R k).length := by omega
          subst hm'
          have HY := Lib.hid (addTo_succ own R k)
          have hsum := sumTo_bound (f := fun x => gI (addTo own R k) (gI (gR R k) x).toNat) (n := (gR R k).length) (-1000000000000000) 1000000000000000 (fun x hx => hbd _ (by have := hrow x (by omega); omega))
          generalize hsmd : own k + sumTo (fun x => gI (addTo own R k) (gI (gR R k) x).toNat) (gR R k).length = sm at HY
          clear hsmd
          go_wp2_with (at_builtin; refine wpList_push rfl (.tmp 35) (.tmp 37) 24 rfl w.heap.size 2 i0 Try.underlying24 hi hz0 hz1 hz2 u5 (addTo own R k) sm rfl hown rfl (by omega) hsz ?_; intro v' w2 hown' hkp)
          have hbl' := hbl.trans (hkp.below hsz (fun g hg => (hown.block g hg).1))
          rw [← HY.out] at hown'
          go_roundw
          case rel => exact ⟨k + 1, by omega, by go_num, hown', hbl'⟩
          case measure => simp [intOf]; omega
    · go_wp2
      have hk' : k = R.length := by omega
      subst hk'
      go_ret
      exact retI_mk hown hbl

end Go.Proofs.Ytiinceflafigeaa

/- Contracts: ClusterOrders. -/
namespace Go.Proofs.Ytiinceflafigeaa
open Go.RowKit

/-- The function value of clusterOrders: the weight of a point. -/
theorem ordersOwn_c (cb : Nat) (q : Value) (W : List Int) (j : Nat) (w : World) (hb : w.cell? ⟨cb, 2, none⟩ = some q) (hq : Rd w q W) (hj : j < W.length) :
    Calls Try.prog 215 #[.int .i64 (j : Int), .pointer (some ⟨cb, 0, none⟩)] w fun e w' => e = .returned (.int .i64 (gI W j)) ∧ w = w' := by
  obtain ⟨b, off, cap, rfl, h1, h2, h3, hc⟩ := hq.cells (by omega)
  have hcj := hc j hj
  clear hc
  go_enter Try.func215, Try.ntmps215
  go_wp2
  go_ret
  exact ⟨rfl, rfl⟩

set_option maxHeartbeats 1000000 in
theorem clusterOrders_c (p s q : Value) (P S W : List Int) (w : World) (hp : Rd w p P) (hs : Rd w s S) (hq : Rd w q W) (hc : CluOk P S W) :
    Calls Try.prog 167 #[.agg #[p, s, q]] w (RetI w (ordTo (fun j => gI W j) P S P.length)) := by
  have hx := Boxed.start w 40 #[p, s, q]
  have hlP : (proxL P S).length = P.length := by simp [proxL]
  have hEQ := ord_eq hc (own := fun j => gI W j)
  have hOK := addOk_clu hc (own := fun j => gI W j) (fun j hj => hc.2.1 j (by have := hc.1; omega))
  go_enter Try.func167, Try.ntmps167
  have c0 := hx.cell 0
  have c1 := hx.cell 1
  have c2 := hx.cell 2
  have hmf : ∀ (fn : Fn) (first cap : Array Value) (w : World), (Instr.makeFunc fn first cap).run Try.prog w = .ok (.func fn first cap) w := fun _ _ _ _ => rfl
  go_wp2_with fail
  refine (clusterProximates_c _ _ _ P S W _ (hx.rd hp) (hx.rd hs) (hx.rd hq) hc.1.2.2.1 hc.1.1 hc.1.2.1).mono ?_
  rintro e w1 ⟨g, V, rfl, hrow, hb⟩
  have hx1 := hx.trans hb
  have hrd := hrow.rd (cap := P.length) (Nat.le_refl _) (by have := hc.1; omega)
  clear c0 c1 c2
  go_wp2_with fail
  have hcall := added_orders_c (.slice (some ⟨g, 0, none⟩) P.length P.length) (proxL P S) (fun j => gI W j) w.heap.size w1 hrd hOK (fun j w2 hj hbl => by
    have hx2 := hx1.trans hbl
    exact ordersOwn_c w.heap.size q W j w2 (hx2.cell 2) (hx2.rd hq) (by have := hc.1; omega))
  rw [hlP, hEQ] at hcall
  refine hcall.mono ?_
  rintro e w3 ⟨a, k, rfl, ho, hb3⟩
  clear hcall hmf hEQ hOK hlP
  go_wp2
  go_ret
  exact retI_mk (ho.base_le (Nat.le_of_lt hx1.size)) (hx1.trans hb3).below

set_option maxHeartbeats 1000000 in
theorem implClusterOrders_yes (p s q : Value) (P S W : List Int) (w : World) (hp : Rd w p P) (hs : Rd w s S) (hq : Rd w q W) (hc : cluB P S W = true) :
    Calls Try.prog 66 #[.agg #[p, s, q]] w (RetIC w (ordTo (fun j => gI W j) P S P.length) 0) := by
  have hx := Boxed.start w 40 #[p, s, q]
  go_enter Try.func66, Try.ntmps66
  go_wp2_with fail
  refine (implIsCluster_c _ _ _ P S W _ (hx.rd hp) (hx.rd hs) (hx.rd hq)).mono ?_
  rintro e w1 ⟨rfl, hb⟩
  have hx1 := hx.trans hb
  have c0 := hx1.cell 0
  have c1 := hx1.cell 1
  have c2 := hx1.cell 2
  go_wp2_with fail
  refine (clusterOrders_c _ _ _ P S W _ (hx1.rd hp) (hx1.rd hs) (hx1.rd hq) (cluB_iff.1 hc)).mono ?_
  rintro e w2 ⟨a, k, rfl, ho, hb2⟩
  go_wp2
  go_ret2
  exact retIC_mk (ho.base_le (Nat.le_of_lt hx1.size)) (hx1.trans hb2).below

theorem implClusterOrders_no (p s q : Value) (P S W : List Int) (w : World) (hp : Rd w p P) (hs : Rd w s S) (hq : Rd w q W) (hc : cluB P S W = false) :
    Calls Try.prog 66 #[.agg #[p, s, q]] w (RetIC w [] 1) := by
  have hx := Boxed.start w 40 #[p, s, q]
  obtain ⟨a1, k1, rfl⟩ := hp.len0
  obtain ⟨a2, k2, rfl⟩ := hs.len0
  obtain ⟨a3, k3, rfl⟩ := hq.len0
  go_enter Try.func66, Try.ntmps66
  go_wp2_with fail
  refine (implIsCluster_c _ _ _ P S W _ (hx.rd hp) (hx.rd hs) (hx.rd hq)).mono ?_
  rintro e w1 ⟨rfl, hb⟩
  go_wp2
  go_ret2
  exact retIC_nil (hx.trans hb).below

theorem implClusterOrders_c (p s q : Value) (P S W : List Int) (w : World) (hp : Rd w p P) (hs : Rd w s S) (hq : Rd w q W) :
    Calls Try.prog 66 #[.agg #[p, s, q]] w (RetIC w (okL (cluB P S W) (ordTo (fun j => gI W j) P S P.length)) (okC (cluB P S W) 1)) := by
  cases hc : cluB P S W
  · rw [okL_false rfl, okC_false rfl]; exact implClusterOrders_no p s q P S W w hp hs hq hc
  · rw [okL_true rfl, okC_true rfl]; exact implClusterOrders_yes p s q P S W w hp hs hq hc

end Go.Proofs.Ytiinceflafigeaa
