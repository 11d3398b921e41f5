/- The contract of impl.added with the function value loop.example/g01140/impl.clusterOrders$1. -/
import Derived.Test.YtglghdkjppcedaaGreatDoorPart2
import Derived.Test.YtglghdkjppcedaaGreatDoorPart6
import Derived.Test.YtglghdkjppcedaaGreatDoorPart19
import Derived.Test.YtglghdkjppcedaaGreatDoorPart23
import Derived.Test.YtglghdkjppcedaaGreatDoorPart8
import Derived.Test.YtglghdkjppcedaaGreatDoorPart10
import Derived.Deep.RegionHeld3
import Derived.Test.YtglghdkjppcedaaGreatDoorPart7
import Derived.Test.YtglghdkjppcedaaGreatDoorPart3
import Derived.Test.YtglghdkjppcedaaGreatDoorPart9
namespace Go.Proofs.YtglghdkjppcedaaGreatDoor
open Go.RowKit

set_option maxRecDepth 100000 in
set_option maxHeartbeats 4000000 in
theorem added_orders_c (v : Value) (R : List (List Int)) (own : Nat → Int) (cb : Nat) (w : World) (h : RdR w v R) (hok : AddOk own R)
    (hcl : ∀ (j : Nat) (w1 : World), j < R.length → Below w.heap.size w w1 → Calls Tryz.prog 70 #[.int .i64 (j : Int), .pointer (some ⟨cb, 0, none⟩)] w1 fun e w' => e = .returned (.int .i64 (own j)) ∧ w1 = w') :
    Calls Tryz.prog 69 #[v, .func (.func 70) #[] #[.pointer (some ⟨cb, 0, none⟩)]] w (RetI w (addTo own R R.length)) := by
  obtain ⟨i0, hi, hz0, hz1, hz2⟩ := info_parts Tryz.infoI
  obtain ⟨a, cap, rfl, hcap1, hcap2, hrd⟩ := h
  have hR := hok.len
  go_enter Tryz.func69, Tryz.ntmps69
  go_wp2
  go_loopw [5, 6, 7, 8, 10, 14, 24] (fun v _ _ _ _ i _ wr => ∃ k : Nat, k ≤ R.length ∧ i = .int .i64 k ∧ OwnI wr w.heap.size v (addTo own R k) ∧ Below w.heap.size w wr) (fun _ _ _ _ _ i _ _ => R.length - (intOf i).toNat)
  case atStart => exact ⟨0, Nat.zero_le _, rfl, own_empty w _ (Nat.le_refl _), (Below.refl _ _).alloc (Nat.le_refl _) _⟩
  case round =>
    obtain ⟨k, hk, rfl, hown, hbl⟩ := hrel
    obtain ⟨wo, rfl⟩ : ∃ wo : World, wo = wr := ⟨_, rfl⟩
    by_cases hlt : k < R.length
    · obtain ⟨b, off, rfl, hb, hcs⟩ := hrd (by intro e; simp [e] at hlt)
      obtain ⟨u, hu, hru⟩ := hcs k hlt
      have hu' : wo.cell? ⟨b, off + k, none⟩ = some u := by rw [hbl.cell (p := ⟨b, off + k, none⟩) hb]; exact hu
      have hru' := hru.below hbl (Nat.le_refl _)
      have hrow := hok.row k hlt
      have hrl := hok.rowlen k hlt
      have hsz := hbl.size
      have hal := addTo_len own R k
      have hob := hok.ownb k hlt
      have hbd := hok.out k hlt
      clear hcs hru hu
      obtain ⟨ar, kr, rfl, hr1, hr2, hrr⟩ := hru'
      go_wp2_with fail
      refine (hcl k wo hlt hbl).mono ?_
      rintro e w1 ⟨rfl, rfl⟩
      obtain ⟨ho1, ho2⟩ := hob
      go_wp2_with fail
      go_loop [8, 10, 24] (fun n _ i => ∃ m : Nat, m ≤ (gR R k).length ∧ i = .int .i64 m ∧ n = .int .i64 (own k + sumTo (fun x => gI (addTo own R k) (gI (gR R k) x).toNat) m)) (fun _ _ i => (gR R k).length - (intOf i).toNat)
      case atStart => exact ⟨0, Nat.zero_le _, rfl, by simp [sumTo]⟩
      case round =>
        obtain ⟨m, hm, rfl, rfl⟩ := hrel
        by_cases hmt : m < (gR R k).length
        · obtain ⟨b2, off2, rfl, hb2, hcs2⟩ := hrr (ne_of_lt_len hmt)
          have hc2 := hcs2 m hmt
          have hxr := hrow m hmt
          obtain ⟨g, gc, rfl, hg0, hg1, hg2, hg3⟩ := Own.pos hown (by rw [hal]; omega)
          have hcell := hown.cell (gI (gR R k) m).toNat (by rw [hal]; omega)
          have hb1 := hbd (gI (gR R k) m).toNat (by omega)
          have hsum := sumTo_bound (f := fun x => gI (addTo own R k) (gI (gR R k) x).toNat) (n := m) (-1000000000000000) 1000000000000000 (fun x hx => hbd _ (by have := hrow x (by omega); omega))
          have HS := Lib.hid (sumTo_succ (fun x => gI (addTo own R k) (gI (gR R k) x).toNat) m)
          have HO := Lib.hid hown
          have HA := Lib.hid hal
          have hal1 : (addTo own R k).length ≤ k := by omega
          have hal2 : k ≤ (addTo own R k).length := by omega
          clear hcs2 hrr hown hal
          generalize sumTo (fun x => gI (addTo own R k) (gI (gR R k) x).toNat) m = sm at hsum HS
          generalize gI (addTo own R k) (gI (gR R k) m).toNat = y at hcell hb1 HS
          generalize gI (gR R k) m = x at hc2 hxr hcell
          obtain ⟨hx0, hx1⟩ := hxr
          have hx2 : x < ((addTo own R k).length : Int) := by omega
          obtain ⟨hy0, hy1⟩ := hb1
          obtain ⟨hs0, hs1⟩ := hsum
          have hs2 : -400000000000000000 ≤ sm := by omega
          have hs3 : sm ≤ 400000000000000000 := by omega
          clear hs0 hs1
          go_wp2
          go_round
          case rel => exact ⟨m + 1, by omega, by go_num, by rw [HS.out]; go_num⟩
          case measure => simp [intOf]; omega
        · have hm' : m = (gR R k).length := by omega
          subst hm'
          have HY := Lib.hid (addTo_succ own R k)
          have hsum := sumTo_bound (f := fun x => gI (addTo own R k) (gI (gR R k) x).toNat) (n := (gR R k).length) (-1000000000000000) 1000000000000000 (fun x hx => hbd _ (by have := hrow x (by omega); omega))
          generalize hsmd : own k + sumTo (fun x => gI (addTo own R k) (gI (gR R k) x).toNat) (gR R k).length = sm at HY
          clear hsmd
          go_wp2_with (at_builtin; refine wpList_push rfl (.tmp 35) (.tmp 37) 24 rfl w.heap.size 2 i0 Tryz.underlying24 hi hz0 hz1 hz2 u5 (addTo own R k) sm rfl hown rfl (by omega) hsz ?_; intro v' w2 hown' hkp)
          have hbl' := hbl.trans (hkp.below hsz (fun g hg => (hown.block g hg).1))
          rw [← HY.out] at hown'
          go_roundw
          case rel => exact ⟨k + 1, by omega, by go_num, hown', hbl'⟩
          case measure => simp [intOf]; omega
    · go_wp2
      have hk' : k = R.length := by omega
      subst hk'
      go_ret
      exact retI_mk hown hbl

end Go.Proofs.YtglghdkjppcedaaGreatDoor

/- Contracts: ClusterOrders. -/
namespace Go.Proofs.YtglghdkjppcedaaGreatDoor
open Go.RowKit

/-- The function value of clusterOrders: the weight of a point. -/
theorem ordersOwn_c (cb : Nat) (q : Value) (W : List Int) (j : Nat) (w : World) (hb : w.cell? ⟨cb, 2, none⟩ = some q) (hq : Rd w q W) (hj : j < W.length) :
    Calls Tryz.prog 70 #[.int .i64 (j : Int), .pointer (some ⟨cb, 0, none⟩)] w fun e w' => e = .returned (.int .i64 (gI W j)) ∧ w = w' := by
  obtain ⟨b, off, cap, rfl, h1, h2, h3, hc⟩ := hq.cells (by omega)
  have hcj := hc j hj
  clear hc
  go_enter Tryz.func70, Tryz.ntmps70
  go_wp2
  go_ret
  exact ⟨rfl, rfl⟩

set_option maxHeartbeats 1000000 in
theorem clusterOrders_c (p s q : Value) (P S W : List Int) (w : World) (hp : Rd w p P) (hs : Rd w s S) (hq : Rd w q W) (hc : CluOk P S W) :
    Calls Tryz.prog 43 #[.agg #[p, s, q]] w (RetI w (ordTo (fun j => gI W j) P S P.length)) := by
  have hx := Boxed.start w 26 #[p, s, q]
  have hlP : (proxL P S).length = P.length := by simp [proxL]
  have hEQ := ord_eq hc (own := fun j => gI W j)
  have hOK := addOk_clu hc (own := fun j => gI W j) (fun j hj => hc.2.1 j (by have := hc.1; omega))
  go_enter Tryz.func43, Tryz.ntmps43
  have c0 := hx.cell 0
  have c1 := hx.cell 1
  have c2 := hx.cell 2
  have hmf : ∀ (fn : Fn) (first cap : Array Value) (w : World), (Instr.makeFunc fn first cap).run Tryz.prog w = .ok (.func fn first cap) w := fun _ _ _ _ => rfl
  go_wp2_with fail
  refine (clusterProximates_c _ _ _ P S W _ (hx.rd hp) (hx.rd hs) (hx.rd hq) hc.1.2.2.1 hc.1.1 hc.1.2.1).mono ?_
  rintro e w1 ⟨g, V, rfl, hrow, hb⟩
  have hx1 := hx.trans hb
  have hrd := hrow.rd (cap := P.length) (Nat.le_refl _) (by have := hc.1; omega)
  clear c0 c1 c2
  go_wp2_with fail
  have hcall := added_orders_c (.slice (some ⟨g, 0, none⟩) P.length P.length) (proxL P S) (fun j => gI W j) w.heap.size w1 hrd hOK (fun j w2 hj hbl => by
    have hx2 := hx1.trans hbl
    exact ordersOwn_c w.heap.size q W j w2 (hx2.cell 2) (hx2.rd hq) (by have := hc.1; omega))
  rw [hlP, hEQ] at hcall
  refine hcall.mono ?_
  rintro e w3 ⟨a, k, rfl, ho, hb3⟩
  clear hcall hmf hEQ hOK hlP
  go_wp2
  go_ret
  exact retI_mk (ho.base_le (Nat.le_of_lt hx1.size)) (hx1.trans hb3).below

set_option maxHeartbeats 1000000 in
theorem implClusterOrders_yes (p s q : Value) (P S W : List Int) (w : World) (hp : Rd w p P) (hs : Rd w s S) (hq : Rd w q W) (hc : cluB P S W = true) :
    Calls Tryz.prog 11 #[.agg #[p, s, q]] w (RetIC w (ordTo (fun j => gI W j) P S P.length) 0) := by
  have hx := Boxed.start w 26 #[p, s, q]
  go_enter Tryz.func11, Tryz.ntmps11
  go_wp2_with fail
  refine (implIsCluster_c _ _ _ P S W _ (hx.rd hp) (hx.rd hs) (hx.rd hq)).mono ?_
  rintro e w1 ⟨rfl, hb⟩
  have hx1 := hx.trans hb
  have c0 := hx1.cell 0
  have c1 := hx1.cell 1
  have c2 := hx1.cell 2
  go_wp2_with fail
  refine (clusterOrders_c _ _ _ P S W _ (hx1.rd hp) (hx1.rd hs) (hx1.rd hq) (cluB_iff.1 hc)).mono ?_
  rintro e w2 ⟨a, k, rfl, ho, hb2⟩
  go_wp2
  go_ret2
  exact retIC_mk (ho.base_le (Nat.le_of_lt hx1.size)) (hx1.trans hb2).below

theorem implClusterOrders_no (p s q : Value) (P S W : List Int) (w : World) (hp : Rd w p P) (hs : Rd w s S) (hq : Rd w q W) (hc : cluB P S W = false) :
    Calls Tryz.prog 11 #[.agg #[p, s, q]] w (RetIC w [] 1) := by
  have hx := Boxed.start w 26 #[p, s, q]
  obtain ⟨a1, k1, rfl⟩ := hp.len0
  obtain ⟨a2, k2, rfl⟩ := hs.len0
  obtain ⟨a3, k3, rfl⟩ := hq.len0
  go_enter Tryz.func11, Tryz.ntmps11
  go_wp2_with fail
  refine (implIsCluster_c _ _ _ P S W _ (hx.rd hp) (hx.rd hs) (hx.rd hq)).mono ?_
  rintro e w1 ⟨rfl, hb⟩
  go_wp2
  go_ret2
  exact retIC_nil (hx.trans hb).below

theorem implClusterOrders_c (p s q : Value) (P S W : List Int) (w : World) (hp : Rd w p P) (hs : Rd w s S) (hq : Rd w q W) :
    Calls Tryz.prog 11 #[.agg #[p, s, q]] w (RetIC w (okL (cluB P S W) (ordTo (fun j => gI W j) P S P.length)) (okC (cluB P S W) 1)) := by
  cases hc : cluB P S W
  · rw [okL_false rfl, okC_false rfl]; exact implClusterOrders_no p s q P S W w hp hs hq hc
  · rw [okL_true rfl, okC_true rfl]; exact implClusterOrders_yes p s q P S W w hp hs hq hc

end Go.Proofs.YtglghdkjppcedaaGreatDoor

/- Contracts as the laws on clusters need them: slices that read as lists, no ownership; likeCluster5. -/
namespace Go.Proofs.YtglghdkjppcedaaGreatDoor
open Go.RowKit

set_option maxHeartbeats 1000000 in
theorem likeClu_c (p s q p' s' q' : Value) (P S W : List Int) (w : World) (h1 : Rd w p P) (h2 : Rd w s S) (h3 : Rd w q W) (h1' : Rd w p' P) (h2' : Rd w s' S) (h3' : Rd w q' W) :
    Calls Tryz.prog 8 #[.agg #[p, s, q], .agg #[p', s', q']] w fun e w' => e = .returned (.bool true) ∧ Below w.heap.size w w' := by
  obtain ⟨a1, k1, rfl⟩ := h1.len0
  obtain ⟨a2, k2, rfl⟩ := h2.len0
  obtain ⟨a3, k3, rfl⟩ := h3.len0
  obtain ⟨a4, k4, rfl⟩ := h1'.len0
  obtain ⟨a5, k5, rfl⟩ := h2'.len0
  obtain ⟨a6, k6, rfl⟩ := h3'.len0
  have B0 := Blk.new w 26 #[.slice a1 P.length k1, .slice a2 S.length k2, .slice a3 W.length k3]
  have B1 := Blk.new' (w := w.alloc (.cells #[.slice a1 P.length k1, .slice a2 S.length k2, .slice a3 W.length k3] 26)) (t := 26) (cs := #[.slice a4 P.length k4, .slice a5 S.length k5, .slice a6 W.length k6]) (g := w.heap.size + 1) (by simp)
  have B0 := B0.alloc (.cells #[.slice a4 P.length k4, .slice a5 S.length k5, .slice a6 W.length k6] 26)
  have hal : Below w.heap.size w ((w.alloc (.cells #[.slice a1 P.length k1, .slice a2 S.length k2, .slice a3 W.length k3] 26)).alloc (.cells #[.slice a4 P.length k4, .slice a5 S.length k5, .slice a6 W.length k6] 26)) := ((Below.refl _ _).alloc (Nat.le_refl _) _).alloc (by simp) _
  have r1 := h1.below hal (Nat.le_refl _)
  have r2 := h2.below hal (Nat.le_refl _)
  have r3 := h3.below hal (Nat.le_refl _)
  have r4 := h1'.below hal (Nat.le_refl _)
  have r5 := h2'.below hal (Nat.le_refl _)
  have r6 := h3'.below hal (Nat.le_refl _)
  have c0 := B0.cell 0
  have d0 := B1.cell 0
  have s1 := eqB_self P
  have s2 := eqB_self S
  have s3 := eqB_self W
  have HS1 := Lib.hid s1
  have HS2 := Lib.hid s2
  have HS3 := Lib.hid s3
  clear h1 h2 h3 h1' h2' h3' s1 s2 s3
  go_enter Tryz.func8, Tryz.ntmps8
  go_wp2_with fail
  refine (likeInts_c _ _ P P _ r1 r4).mono ?_
  rintro e w1 ⟨rfl, hd⟩
  rw [HS1.out]
  have hb := hd.below ((w.alloc (.cells #[.slice a1 P.length k1, .slice a2 S.length k2, .slice a3 W.length k3] 26)).alloc (.cells #[.slice a4 P.length k4, .slice a5 S.length k5, .slice a6 W.length k6] 26)).heap.size
  have B0 := B0.stays hb
  have B1 := B1.stays hb
  have r2 := r2.below hb (Nat.le_refl _)
  have r3 := r3.below hb (Nat.le_refl _)
  have r5 := r5.below hb (Nat.le_refl _)
  have r6 := r6.below hb (Nat.le_refl _)
  have hal := below_step hal hb
  clear hd hb c0 d0 r1 r4
  have c1 := B0.cell 1
  have d1 := B1.cell 1
  go_wp2_with fail
  refine (likeInts_c _ _ S S _ r2 r5).mono ?_
  rintro e w2 ⟨rfl, hd⟩
  rw [HS2.out]
  have hb := hd.below w1.heap.size
  have B0 := B0.stays hb
  have B1 := B1.stays hb
  have r3 := r3.below hb (Nat.le_refl _)
  have r6 := r6.below hb (Nat.le_refl _)
  have hal := below_step hal hb
  clear hd hb c1 d1 r2 r5
  have c2 := B0.cell 2
  have d2 := B1.cell 2
  go_wp2_with fail
  refine (likeInts_c _ _ W W _ r3 r6).mono ?_
  rintro e w3 ⟨rfl, hd⟩
  rw [HS3.out]
  have hb := hd.below w2.heap.size
  have hal := below_step hal hb
  clear hd hb c2 d2 r3 r6
  go_wp2
  go_ret
  exact ⟨rfl, hal⟩

/-- The cells of a slice that reads as a list of known length. -/
theorem Rd.atN {w : World} {a : Option Addr} {n k : Nat} {xs : List Int} (h : Rd w (.slice a n k) xs) (hn : xs.length = n) (hp : 0 < n) : ∃ b off, a = some ⟨b, off, none⟩ ∧ b < w.heap.size ∧ ∀ i, i < n → w.cell? ⟨b, off + i, none⟩ = some (.int .i64 (gI xs i)) := by
  subst hn
  obtain ⟨b, off, cap, he, _, _, hb, hc⟩ := h.cells hp
  injection he with e1 _ _
  exact ⟨b, off, e1, hb, hc⟩
/-- A cluster and a code. -/
def RvKC (w : World) (n1 n2 n3 : Nat) (P S W : List Int) (c : Int) (e : Ending) (w' : World) : Prop :=
  ∃ (a b d : Option Addr) (i j k : Nat), e = .returned (.tuple #[.agg #[.slice a n1 i, .slice b n2 j, .slice d n3 k], .int .i64 c]) ∧ Rd w' (.slice a n1 i) P ∧ Rd w' (.slice b n2 j) S ∧ Rd w' (.slice d n3 k) W ∧ Below w.heap.size w w'
theorem rvKC_cc {w : World} {n1 n2 n3 : Nat} {P S W xs ys zs : List Int} {c d : Int} {e : Ending} {w' : World} (h : RetCC w xs ys zs d e w') (h1 : xs = P) (h2 : ys = S) (h3 : zs = W) (l1 : P.length = n1) (l2 : S.length = n2) (l3 : W.length = n3) (hc : d = c) : RvKC w n1 n2 n3 P S W c e w' := by
  subst h1 h2 h3 l1 l2 l3 hc
  obtain ⟨a, i, b, j, dd, k, he, ho, hb⟩ := h
  exact ⟨a, b, dd, i, j, k, he, ho.a.rd, ho.b.rd, ho.c.rd, hb⟩
theorem orders_ok (p s q : Value) (P S W : List Int) (m : Nat) (w : World) (hp : Rd w p P) (hs : Rd w s S) (hq : Rd w q W) (hc : CluOk P S W) (hm : P.length = m) :
    Calls Tryz.prog 11 #[.agg #[p, s, q]] w (RvC w m (ordTo (fun j => gI W j) P S P.length) 0) :=
  (implClusterOrders_c p s q P S W w hp hs hq).mono fun _ _ hh => rvC_ic hh (by rw [okL_true (cluB_iff.2 hc)]) (by rw [ordTo_len]; exact hm) (by rw [okC_true (cluB_iff.2 hc)])
end Go.Proofs.YtglghdkjppcedaaGreatDoor

/- Contracts: SimpleCluster. -/
namespace Go.Proofs.YtglghdkjppcedaaGreatDoor
open Go.RowKit

set_option maxHeartbeats 1000000 in
theorem implSimple_1 (p s q : Value) (P S W : List Int) (n : Int) (w : World) (hp : Rd w p P) (hs : Rd w s S) (hq : Rd w q W) (hc : cluB P S W = false) :
    Calls Tryz.prog 15 #[.agg #[p, s, q], .int .i64 n] w (RetCC w [] [] [] 1) := by
  obtain ⟨a1, k1, rfl⟩ := hp.len0
  obtain ⟨a2, k2, rfl⟩ := hs.len0
  obtain ⟨a3, k3, rfl⟩ := hq.len0
  have hx := Boxed.start w 26 #[.slice a1 P.length k1, .slice a2 S.length k2, .slice a3 W.length k3]
  have hxa := hx.alloc (.cells #[.slice none 0 0, .slice none 0 0, .slice none 0 0] 26)
  have D := Blk.new' (w := w.alloc (.cells #[.slice a1 P.length k1, .slice a2 S.length k2, .slice a3 W.length k3] 26)) (t := 26) (cs := #[.slice none 0 0, .slice none 0 0, .slice none 0 0]) (g := w.heap.size + 1) (by simp)
  have c0 := hxa.cell 0
  have c1 := hxa.cell 1
  have c2 := hxa.cell 2
  go_enter Tryz.func15, Tryz.ntmps15
  go_wp2_with fail
  refine (implIsCluster_c _ _ _ P S W _ (hxa.rd hp) (hxa.rd hs) (hxa.rd hq)).mono ?_
  rintro e w1 ⟨rfl, hb⟩
  rw [hc]
  have D1 := D.stays hb
  have hx1 := hxa.trans hb
  have f0 := D1.free 0
  have f1 := D1.free 1
  have f2 := D1.free 2
  have e0 := D1.cell 0
  have e1 := D1.cell 1
  have e2 := D1.cell 2
  clear c0 c1 c2
  go_wp2
  have q0 := ((((D1).set 0 (.slice none 0 0)).set 1 (.slice none 0 0)).set 2 (.slice none 0 0)).cell 0
  have q1 := ((((D1).set 0 (.slice none 0 0)).set 1 (.slice none 0 0)).set 2 (.slice none 0 0)).cell 1
  have q2 := ((((D1).set 0 (.slice none 0 0)).set 1 (.slice none 0 0)).set 2 (.slice none 0 0)).cell 2
  refine bodyPost_ret (v := .tuple #[.agg #[.slice none 0 0, .slice none 0 0, .slice none 0 0], .int .i64 1]) (by simp [results, Tryz.results15, go_sem, q0, q1, q2]) rfl ⟨none, 0, none, 0, none, 0, rfl, own3_nil _ _ _, ?_⟩
  exact ((hx1.below.setCell (p := ⟨w.heap.size + 1, 0, none⟩) (Nat.le_succ _) _).setCell (p := ⟨w.heap.size + 1, 1, none⟩) (Nat.le_succ _) _).setCell (p := ⟨w.heap.size + 1, 2, none⟩) (Nat.le_succ _) _

set_option maxHeartbeats 1000000 in
theorem implSimple_2 (p s q : Value) (P S W : List Int) (n : Int) (w : World) (hp : Rd w p P) (hs : Rd w s S) (hq : Rd w q W) (hc : cluB P S W = true) (hin : inB n 0 ((P.length : Int) - 1) = false) :
    Calls Tryz.prog 15 #[.agg #[p, s, q], .int .i64 n] w (RetCC w [] [] [] 2) := by
  have h24 := (cluB_iff.1 hc).1.2.1
  obtain ⟨a1, k1, rfl⟩ := hp.len0
  obtain ⟨a2, k2, rfl⟩ := hs.len0
  obtain ⟨a3, k3, rfl⟩ := hq.len0
  have hx := Boxed.start w 26 #[.slice a1 P.length k1, .slice a2 S.length k2, .slice a3 W.length k3]
  have hxa := hx.alloc (.cells #[.slice none 0 0, .slice none 0 0, .slice none 0 0] 26)
  have D := Blk.new' (w := w.alloc (.cells #[.slice a1 P.length k1, .slice a2 S.length k2, .slice a3 W.length k3] 26)) (t := 26) (cs := #[.slice none 0 0, .slice none 0 0, .slice none 0 0]) (g := w.heap.size + 1) (by simp)
  have c0 := hxa.cell 0
  have c1 := hxa.cell 1
  have c2 := hxa.cell 2
  go_enter Tryz.func15, Tryz.ntmps15
  go_wp2_with fail
  refine (implIsCluster_c _ _ _ P S W _ (hxa.rd hp) (hxa.rd hs) (hxa.rd hq)).mono ?_
  rintro e w1 ⟨rfl, hb⟩
  rw [hc]
  have D1 := D.stays hb
  have hx1 := hxa.trans hb
  clear c0 c1 c2
  have c0 := hx1.cell 0
  have c1 := hx1.cell 1
  have c2 := hx1.cell 2
  go_wp2_with fail
  refine (isPoint_c _ _ _ P n _ (hx1.rd hp) h24).mono ?_
  rintro e w2 ⟨rfl, hb2⟩
  rw [hin]
  have D2 := D1.stays hb2
  have hx2 := hx1.trans hb2
  clear c0 c1 c2
  have f0 := D2.free 0
  have f1 := D2.free 1
  have f2 := D2.free 2
  have e0 := D2.cell 0
  have e1 := D2.cell 1
  have e2 := D2.cell 2
  go_wp2
  have q0 := ((((D2).set 0 (.slice none 0 0)).set 1 (.slice none 0 0)).set 2 (.slice none 0 0)).cell 0
  have q1 := ((((D2).set 0 (.slice none 0 0)).set 1 (.slice none 0 0)).set 2 (.slice none 0 0)).cell 1
  have q2 := ((((D2).set 0 (.slice none 0 0)).set 1 (.slice none 0 0)).set 2 (.slice none 0 0)).cell 2
  refine bodyPost_ret (v := .tuple #[.agg #[.slice none 0 0, .slice none 0 0, .slice none 0 0], .int .i64 2]) (by simp [results, Tryz.results15, go_sem, q0, q1, q2]) rfl ⟨none, 0, none, 0, none, 0, rfl, own3_nil _ _ _, ?_⟩
  exact ((hx2.below.setCell (p := ⟨w.heap.size + 1, 0, none⟩) (Nat.le_succ _) _).setCell (p := ⟨w.heap.size + 1, 1, none⟩) (Nat.le_succ _) _).setCell (p := ⟨w.heap.size + 1, 2, none⟩) (Nat.le_succ _) _

set_option maxRecDepth 100000 in
set_option maxHeartbeats 2000000 in
theorem implSimple_3 (p s q : Value) (P S W : List Int) (n : Int) (w : World) (hp : Rd w p P) (hs : Rd w s S) (hq : Rd w q W) (hc : cluB P S W = true) (hin : inB n 0 ((P.length : Int) - 1) = true) :
    Calls Tryz.prog 15 #[.agg #[p, s, q], .int .i64 n] w (RetCC w P S (mRow P S n.toNat) 0) := by
  have h24 := (cluB_iff.1 hc).1.2.1
  have HC := Lib.hid (cluB_iff.1 hc)
  have hn := inB_iff.1 hin
  obtain ⟨t, rfl⟩ := Int.eq_ofNat_of_zero_le hn.1
  have ht : t < P.length := by omega
  have htP : (t : Int) < (P.length : Int) := by omega
  have e0 : (t : Int).toNat = t := by omega
  rw [e0]
  have htw : (0 : Int) ≤ (t : Int) := Int.natCast_nonneg _
  clear hn e0
  obtain ⟨a1, k1, rfl⟩ := hp.len0
  obtain ⟨a2, k2, rfl⟩ := hs.len0
  obtain ⟨a3, k3, rfl⟩ := hq.len0
  have hx := Boxed.start w 26 #[.slice a1 P.length k1, .slice a2 S.length k2, .slice a3 W.length k3]
  have hxa := hx.alloc (.cells #[.slice none 0 0, .slice none 0 0, .slice none 0 0] 26)
  have D := Blk.new' (w := w.alloc (.cells #[.slice a1 P.length k1, .slice a2 S.length k2, .slice a3 W.length k3] 26)) (t := 26) (cs := #[.slice none 0 0, .slice none 0 0, .slice none 0 0]) (g := w.heap.size + 1) (by simp)
  have c0 := hxa.cell 0
  have c1 := hxa.cell 1
  have c2 := hxa.cell 2
  go_enter Tryz.func15, Tryz.ntmps15
  go_wp2_with fail
  refine (implIsCluster_c _ _ _ P S W _ (hxa.rd hp) (hxa.rd hs) (hxa.rd hq)).mono ?_
  rintro e w1 ⟨rfl, hb⟩
  rw [hc]
  have D1 := D.stays hb
  have hx1 := hxa.trans hb
  clear c0 c1 c2
  have c0 := hx1.cell 0
  have c1 := hx1.cell 1
  have c2 := hx1.cell 2
  go_wp2_with fail
  refine (isPoint_c _ _ _ P (t : Int) _ (hx1.rd hp) h24).mono ?_
  rintro e w2 ⟨rfl, hb2⟩
  rw [hin]
  have D2 := D1.stays hb2
  have hx2 := hx1.trans hb2
  clear c0 c1 c2
  have hz1 : w.heap.size + 2 ≤ w2.heap.size := Nat.le_trans (by simp) (Nat.le_trans hb.size hb2.size)
  go_wp2_with fail
  have hx0 := hx2.trans (Below.refl _ _).drew
  have D0 := D2.stays (Below.refl _ _).drew
  have c0 := hx0.cell 0
  have c1 := hx0.cell 1
  have c2 := hx0.cell 2
  go_region_with (first
      | (go_at_call 47; (with_reducible refine (inverseProximity_c _ _ _ P S W _ (hx0.rd hp) (hx0.rd hs) (hx0.rd hq) HC.out).mono ?_); rintro e v1 ⟨g, V, rfl, hrow, hq⟩; have hy1 := hx0.trans hq; have G1 := D0.stays hq; have hz2 : w2.heap.size ≤ v1.heap.size := hq.size; obtain ⟨gn, cn, hV, hgn0, hgn1, _, _⟩ := hrow.pos ht (by simp; omega); have dn := hrow.cell t ht; have hro := hrow.row t ht; rw [hV] at dn hro; rw [mRow_len] at dn hro; have d0 := hy1.cell 0; have d1 := hy1.cell 1; have d2 := hy1.cell 2)
      | (go_at_call 46; (with_reducible refine (withWeights_c _ _ _ _ _ _ P S W _ (hy1.rd hp) (hy1.rd hs) HC.out).mono ?_); rintro e v2 ⟨b1, j1, b2, j2, rfl, o1, o2, ap, hq⟩; have hy2 := hy1.trans hq; have G2 := G1.stays hq; have hz3 : v1.heap.size ≤ v2.heap.size := hq.size; have o3 := hro.below hq (Nat.le_refl _); have hv1 : w2.drew.heap.size = w2.heap.size := rfl; have HD0 : v2.cell? ⟨w.heap.size, 0, none⟩ = some (.slice a1 P.length k1) ∧ v2.cell? ⟨w.heap.size, 1, none⟩ = some (.slice a2 S.length k2) ∧ v2.cell? ⟨w.heap.size, 2, none⟩ = some (.slice a3 W.length k3) := ⟨hy2.cell 0, hy2.cell 1, hy2.cell 2⟩; have f0 := G2.free 0; have f1 := G2.free 1; have f2 := G2.free 2; have e0 := G2.cell 0; have e1 := G2.cell 1; have e2 := G2.cell 2; have HE : ∀ u0 u1 u2 : Value, (((v2.setCell ⟨w.heap.size + 1, 0, none⟩ u0).setCell ⟨w.heap.size + 1, 1, none⟩ u1).setCell ⟨w.heap.size + 1, 2, none⟩ u2).cell? ⟨w.heap.size, 0, none⟩ = some (.slice a1 P.length k1) ∧ (((v2.setCell ⟨w.heap.size + 1, 0, none⟩ u0).setCell ⟨w.heap.size + 1, 1, none⟩ u1).setCell ⟨w.heap.size + 1, 2, none⟩ u2).cell? ⟨w.heap.size, 1, none⟩ = some (.slice a2 S.length k2) ∧ (((v2.setCell ⟨w.heap.size + 1, 0, none⟩ u0).setCell ⟨w.heap.size + 1, 1, none⟩ u1).setCell ⟨w.heap.size + 1, 2, none⟩ u2).cell? ⟨w.heap.size, 2, none⟩ = some (.slice a3 W.length k3) := fun u0 u1 u2 => have h := hy2.wrote ((((Keeps.refl (fun k => w.heap.size + 1 ≤ k) v2).setCell (p := ⟨w.heap.size + 1, 0, none⟩) (Nat.le_refl _) u0).setCell (p := ⟨w.heap.size + 1, 1, none⟩) (Nat.le_refl _) u1).setCell (p := ⟨w.heap.size + 1, 2, none⟩) (Nat.le_refl _) u2); ⟨h.cell 0, h.cell 1, h.cell 2⟩))
  all_goals
    have ho3 : Own3 2 v2 w2.heap.size (.slice b1 P.length j1) (.slice b2 S.length j2) (.slice (some ⟨gn, 0, none⟩) P.length cn) P S (mRow P S t) := ⟨o1.base_le hz2, o2.base_le hz2, o3.base_le (by first | exact Nat.le_refl _ | omega), ap, (apart_of hro o1 (Nat.le_refl _)).symm, (apart_of hro o2 (Nat.le_refl _)).symm⟩
    go_wp2
    have F := ((G2.set 0 (.slice b1 (P).length j1)).set 1 (.slice b2 (S).length j2)).set 2 (.slice (some ⟨gn, 0, none⟩) P.length cn)
    have q0 := F.cell 0
    have q1 := F.cell 1
    have q2 := F.cell 2
    have hK : Keeps (fun k => k = w.heap.size + 1) v2 (((v2.setCell ⟨w.heap.size + 1, 0, none⟩ (.slice b1 (P).length j1)).setCell ⟨w.heap.size + 1, 1, none⟩ (.slice b2 (S).length j2)).setCell ⟨w.heap.size + 1, 2, none⟩ (.slice (some ⟨gn, 0, none⟩) P.length cn)) := ((((Keeps.refl (fun k => k = w.heap.size + 1) v2).setCell (p := ⟨w.heap.size + 1, 0, none⟩) rfl _).setCell (p := ⟨w.heap.size + 1, 1, none⟩) rfl _).setCell (p := ⟨w.heap.size + 1, 2, none⟩) rfl _)
    refine bodyPost_ret (v := .tuple #[.agg #[.slice b1 (P).length j1, .slice b2 (S).length j2, .slice (some ⟨gn, 0, none⟩) P.length cn], .int .i64 (0)]) (by simp [results, Tryz.results15, go_sem, q0, q1, q2]) rfl (retCC_len (mRow_len _ _ _) ?_ ?_)
    · exact (ho3.keeps hK (fun k hk e => by have := (ho3.block k hk).1; omega)).base_le (by omega)
    · exact hy2.below.trans (hK.below (by have := hy2.size; omega) (fun k hk => by omega))

theorem implSimple_c (p s q : Value) (P S W : List Int) (n : Int) (w : World) (hp : Rd w p P) (hs : Rd w s S) (hq : Rd w q W) :
    Calls Tryz.prog 15 #[.agg #[p, s, q], .int .i64 n] w (RetCC w (okL (ptB P S W n) P) (okL (ptB P S W n) S) (okL (ptB P S W n) (mRow P S n.toNat)) (ptC P S W n)) := by
  cases hc : cluB P S W
  · rw [ptB_bad hc, ptC_bad hc]; exact implSimple_1 p s q P S W n w hp hs hq hc
  · cases hin : inB n 0 ((P.length : Int) - 1)
    · rw [ptB_out hin, ptC_out hc hin]; exact implSimple_2 p s q P S W n w hp hs hq hc hin
    · rw [ptB_ok hc hin, ptC_ok hc hin]; exact implSimple_3 p s q P S W n w hp hs hq hc hin

end Go.Proofs.YtglghdkjppcedaaGreatDoor

/- Contracts: SatellitesOf. -/
namespace Go.Proofs.YtglghdkjppcedaaGreatDoor
open Go.RowKit

/-- The satellites among the first k points. -/
def satTo (S : List Int) (k : Nat) : List Int := ((List.range k).filter fun i => decide (0 ≤ gI S i)).map fun (i : Nat) => (i : Int)
end Go.Proofs.YtglghdkjppcedaaGreatDoor

/- Contracts: ExcessesOf. -/
namespace Go.Proofs.YtglghdkjppcedaaGreatDoor
open Go.RowKit

set_option maxHeartbeats 1000000 in
theorem implExcessesOf_yes (p s q : Value) (P S W : List Int) (w : World) (hp : Rd w p P) (hs : Rd w s S) (hq : Rd w q W) (hc : cluB P S W = true) :
    Calls Tryz.prog 9 #[.agg #[p, s, q]] w (RetIC w (exTo (proxL P S) W P.length) 0) := by
  have hx := Boxed.start w 26 #[p, s, q]
  have hcl := cluB_iff.1 hc
  obtain ⟨a1, k1, rfl⟩ := hp.len0
  obtain ⟨a2, k2, rfl⟩ := hs.len0
  obtain ⟨a3, k3, rfl⟩ := hq.len0
  have HC := Lib.hid hcl
  clear hcl
  go_enter Tryz.func9, Tryz.ntmps9
  go_wp2_with fail
  refine (implIsCluster_c _ _ _ P S W _ (hx.rd hp) (hx.rd hs) (hx.rd hq)).mono ?_
  rintro e w1 ⟨rfl, hb⟩
  have hx1 := hx.trans hb
  have c0 := hx1.cell 0
  have c1 := hx1.cell 1
  have c2 := hx1.cell 2
  go_wp2_with fail
  refine (excesses_c _ _ _ P S W _ (hx1.rd hp) (hx1.rd hs) (hx1.rd hq) HC.out).mono ?_
  rintro e w2 ⟨a, k, rfl, ho, hb2⟩
  go_wp2
  go_ret2
  exact retIC_mk (ho.base_le (Nat.le_of_lt hx1.size)) (hx1.trans hb2).below

theorem implExcessesOf_no (p s q : Value) (P S W : List Int) (w : World) (hp : Rd w p P) (hs : Rd w s S) (hq : Rd w q W) (hc : cluB P S W = false) :
    Calls Tryz.prog 9 #[.agg #[p, s, q]] w (RetIC w [] 1) := by
  have hx := Boxed.start w 26 #[p, s, q]
  obtain ⟨a1, k1, rfl⟩ := hp.len0
  obtain ⟨a2, k2, rfl⟩ := hs.len0
  obtain ⟨a3, k3, rfl⟩ := hq.len0
  go_enter Tryz.func9, Tryz.ntmps9
  go_wp2_with fail
  refine (implIsCluster_c _ _ _ P S W _ (hx.rd hp) (hx.rd hs) (hx.rd hq)).mono ?_
  rintro e w1 ⟨rfl, hb⟩
  go_wp2
  go_ret2
  exact retIC_nil (hx.trans hb).below

theorem implExcessesOf_c (p s q : Value) (P S W : List Int) (w : World) (hp : Rd w p P) (hs : Rd w s S) (hq : Rd w q W) :
    Calls Tryz.prog 9 #[.agg #[p, s, q]] w (RetIC w (okL (cluB P S W) (exTo (proxL P S) W P.length)) (okC (cluB P S W) 1)) := by
  cases hc : cluB P S W
  · rw [okL_false rfl, okC_false rfl]; exact implExcessesOf_no p s q P S W w hp hs hq hc
  · rw [okL_true rfl, okC_true rfl]; exact implExcessesOf_yes p s q P S W w hp hs hq hc

end Go.Proofs.YtglghdkjppcedaaGreatDoor

/- Contracts and plain facts as the law on clusters needs them. -/
namespace Go.Proofs.YtglghdkjppcedaaGreatDoor
open Go.RowKit

theorem excess_ok (p s q : Value) (P S W E : List Int) (m : Nat) (w : World) (hp : Rd w p P) (hs : Rd w s S) (hq : Rd w q W) (hc : CluOk P S W) (hE : exTo (proxL P S) W P.length = E) (hm : E.length = m) :
    Calls Tryz.prog 9 #[.agg #[p, s, q]] w (RvC w m E 0) :=
  (implExcessesOf_c p s q P S W w hp hs hq).mono fun _ _ hh => rvC_ic hh (by rw [okL_true (cluB_iff.2 hc), hE]) hm (by rw [okC_true (cluB_iff.2 hc)])
theorem implSim_ok (p s q : Value) (P S W : List Int) (n : Int) (m : Nat) (w : World) (hp : Rd w p P) (hs : Rd w s S) (hq : Rd w q W) (hb : ptB P S W n = true) (hm : P.length = m) :
    Calls Tryz.prog 15 #[.agg #[p, s, q], .int .i64 n] w (RvKC w m m m P S (mRow P S n.toNat) 0) :=
  (implSimple_c p s q P S W n w hp hs hq).mono fun _ _ hh => rvKC_cc hh (by rw [okL_true hb]) (by rw [okL_true hb]) (by rw [okL_true hb]) hm (by simp [ptB] at hb; have := (cluB_iff.1 hb.1).1; omega) (by simp [mRow, hm]) (by simp only [ptB, Bool.and_eq_true] at hb; simp [ptC, hb.1, hb.2])
theorem mI_fib {P S W : List Int} (hc : CluOk P S W) (k : Nat) (i : Nat) : i < P.length → 0 ≤ mI P S i k ∧ mI P S i k ≤ fibI i := by
  induction i using Nat.strongRecOn with
  | _ i ih =>
    intro hi
    by_cases h0 : i = 0
    · subst h0; rw [mI_zero hc]; have := (fibI_pos 0).1
      split <;> omega
    · by_cases hk : i = k
      · subst hk; rw [mI_self hc hi]; have := (fibI_pos i).1; omega
      · obtain ⟨h1, h2, h3⟩ := clu_place hc hi (by omega)
        rw [mI_step hc k hi (by omega), if_neg hk]
        have a1 := ih (gI P i).toNat (by omega) (by omega)
        have a2 := fibI_mono (n := (gI P i).toNat) (m := i - 1) (by omega)
        split
        · rename_i hs
          have hz := clu_zero hc
          have hlt : gI S i < gI P i := by
            rcases (hc.2.2 i hi).1 with hp | ⟨_, _, _, hp⟩
            · omega
            · rcases hp with hp | ⟨_, hp⟩
              · omega
              · by_cases e0 : (gI P i).toNat = 0
                · rw [e0] at hp; omega
                · have := clu_place hc (k := (gI P i).toNat) (by omega) (by omega)
                  omega
          have b1 := ih (gI S i).toNat (by omega) (by omega)
          have b2 := fibI_mono (n := (gI S i).toNat) (m := i - 2) (by omega)
          have e : fibI i = fibI (i - 1) + fibI (i - 2) := by
            obtain ⟨x, rfl⟩ : ∃ x, i = x + 2 := ⟨i - 2, by omega⟩
            rfl
          omega
        · have := fibI_mono (n := i - 1) (m := i) (by omega)
          omega
theorem clu_mRow {P S W : List Int} (hc : CluOk P S W) {i : Nat} (hi : i < P.length) : CluOk P S (mRow P S i) := by
  refine cluB_iff.1 ?_
  rw [cluB_with hc (by simp [mRow])]
  refine allIn_iff.2 fun k hk => ?_
  have hk' : k < P.length := by simpa [mRow] using hk
  rw [gI_mRow hk']
  have h1 := mI_fib hc k i hi
  have h2 := fibI_mono (n := i) (m := 23) (by have := hc.1.2.1; omega)
  rw [fibI_23] at h2
  omega
/-- All of the first k numbers are not negative. -/
def gdB (E : List Int) (k : Nat) : Bool := decide (∀ x, x < k → 0 ≤ gI E x)
/-- What the law says of a cluster. -/
structure ClF (P S W E A : List Int) (R Q : List (List Int)) (m : Nat) : Prop where
  old : CluOk P S W
  lE : E.length = m
  lA : A.length = m
  lR : R.length = m
  lQ : Q.length = m
  rR : ∀ i, i < m → (gR R i).length = m
  rQ : ∀ i, i < m → (gR Q i).length = m
  bR : ∀ i, i < m → ∀ t, t < m → -1 ≤ gI (gR R i) t ∧ gI (gR R i) t ≤ 1
  bQ : ∀ i, i < m → ∀ t, t < m → -1677721500000 ≤ gI (gR Q i) t ∧ gI (gR Q i) t ≤ 1677721500000
  bA : ∀ i, i < m → -1677721500000 ≤ gI A i ∧ gI A i ≤ 1677721500000
  bW : ∀ i, i < m → -100000 ≤ gI W i ∧ gI W i ≤ 100000
  inv : mulR R Q m = unitR m
  col : ∀ i, i < m → sumTo (fun j => gI (gR R j) i * gI W j) m = gI E i
  dot : ∀ i, i < m → dotP (gR R i) A m = gI W i
/-- The rows of a list of lists of known lengths, as they are read. -/
theorem RdR.atR {w : World} {a : Option Addr} {n m k : Nat} {R : List (List Int)} (h : RdR w (.slice a n k) R) (hn : R.length = n) (hp : 0 < n) (hr : ∀ i, i < n → (gR R i).length = m) : ∃ b off, a = some ⟨b, off, none⟩ ∧ b < w.heap.size ∧ ∀ i, i < n → ∃ ar kr, w.cell? ⟨b, off + i, none⟩ = some (.slice ar m kr) ∧ Rd w (.slice ar m kr) (gR R i) := by
  subst hn
  obtain ⟨b, off, cap, he, _, _, hb, hc⟩ := h.cells hp
  injection he with e1 _ _
  refine ⟨b, off, e1, hb, fun i hi => ?_⟩
  obtain ⟨u, hu, hrd⟩ := hc i hi
  obtain ⟨ar, kr, hv⟩ := hrd.len0
  rw [hr i hi] at hv
  subst hv
  exact ⟨ar, kr, hu, hrd⟩
/-- A part of a column's sum. -/
def colT (R : List (List Int)) (W : List Int) (i k : Nat) : Int := sumTo (fun j => gI (gR R j) i * gI W j) k
theorem Drew.to {w w' : World} (h : Drew w w') : Drew w w'.drew := h.trans (Drew.one _ _)
end Go.Proofs.YtglghdkjppcedaaGreatDoor
