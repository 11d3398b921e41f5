/- Contracts: impl.weightsOfOrders, spec.l08OfOrders: orders led back to weights. -/
import Derived.Test.YthpnmkghjnipoaaExImpl
import Derived.Test.YthpnmkghjnipoaaCluFns
namespace Go.Proofs.Ythpnmkghjnipoaa
open Go.RowKit

/-- The weights of orders: the first k places are done. -/
def woTo (R : List (List Int)) (O : List Int) (k : Nat) : List Int := (List.range O.length).map fun j => if j < k then gI O j - sumTo (fun x => gI O (gI (gR R j) x).toNat) (gR R j).length else gI O j
@[simp] theorem woTo_len (R : List (List Int)) (O : List Int) (k : Nat) : (woTo R O k).length = O.length := by simp [woTo]
theorem gI_woTo {R : List (List Int)} {O : List Int} {k j : Nat} (h : j < O.length) : gI (woTo R O k) j = if j < k then gI O j - sumTo (fun x => gI O (gI (gR R j) x).toNat) (gR R j).length else gI O j := by rw [gI_lt (by simpa using h)]; simp [woTo]
theorem woTo_zero (R : List (List Int)) (O : List Int) : woTo R O 0 = O := gI_ext (by simp) (fun i hi => by rw [gI_woTo (by simpa using hi), if_neg (by omega)])
/-- A row half done. -/
def woIn (R : List (List Int)) (O : List Int) (k m : Nat) : List Int := (woTo R O k).set k (gI O k - sumTo (fun x => gI O (gI (gR R k) x).toNat) m)
@[simp] theorem woIn_len (R : List (List Int)) (O : List Int) (k m : Nat) : (woIn R O k m).length = O.length := by simp [woIn]
theorem woIn_zero {R : List (List Int)} {O : List Int} {k : Nat} (_ : k < O.length) : woIn R O k 0 = woTo R O k := by
  apply gI_ext (by simp)
  intro i hi
  have hi' : i < O.length := by simpa using hi
  unfold woIn
  rw [gI_set, gI_woTo hi']
  split
  · rename_i h; rw [← h.1, if_neg (by omega)]; simp [sumTo]
  · rfl
theorem woIn_at {R : List (List Int)} {O : List Int} {k m : Nat} (h : k < O.length) : gI (woIn R O k m) k = gI O k - sumTo (fun x => gI O (gI (gR R k) x).toNat) m := gI_set_at (by simpa using h)
theorem woIn_succ (R : List (List Int)) (O : List Int) (k m : Nat) : woIn R O k (m + 1) = (woIn R O k m).set k (gI O k - sumTo (fun x => gI O (gI (gR R k) x).toNat) m - gI O (gI (gR R k) m).toNat) := by
  unfold woIn
  rw [List.set_set, sumTo_succ]
  congr 1
  omega
theorem woIn_all {R : List (List Int)} {O : List Int} {k : Nat} (_ : k < O.length) : woIn R O k (gR R k).length = woTo R O (k + 1) := by
  apply gI_ext (by simp)
  intro i hi
  have hi' : i < O.length := by simpa using hi
  unfold woIn
  rw [gI_set, gI_woTo hi', gI_woTo hi', woTo_len]
  by_cases e : i = k
  · subst e; rw [if_pos ⟨rfl, hi'⟩, if_pos (by omega)]
  · rw [if_neg (fun h => e h.1.symm)]
    by_cases e2 : i < k
    · rw [if_pos e2, if_pos (by omega)]
    · rw [if_neg e2, if_neg (by omega)]
theorem wo_sum {R : List (List Int)} {O : List Int} (h : ExOk R O) {k : Nat} (hk : k < R.length) {m : Nat} (hm : m ≤ (gR R k).length) : -400000000000000 ≤ sumTo (fun x => gI O (gI (gR R k) x).toNat) m ∧ sumTo (fun x => gI O (gI (gR R k) x).toNat) m ≤ 400000000000000 := by
  have := sumTo_bound (f := fun x => gI O (gI (gR R k) x).toNat) (n := m) (-1000000000000) 1000000000000 (fun x _ => h.num _)
  have := h.rowlen k hk
  omega

set_option maxRecDepth 100000 in
set_option maxHeartbeats 4000000 in
theorem weightsOfOrders_c (v u : Value) (R : List (List Int)) (W : List Int) (w : World) (h : RdR w v R) (hu : Rd w u W) (hok : ExOk R W) (hp : 0 < W.length) :
    Calls Try.prog 123 #[v, u] w (RetI w (woTo R W R.length)) := by
  have hl1 := hok.len
  have hl2 := hok.lim
  obtain ⟨a, cap, rfl, hcap1, hcap2, hrd⟩ := h
  obtain ⟨bw, ow, cw, rfl, hw1, hw2, hwb, hwc⟩ := hu.cells hp
  go_enter Try.func123, Try.ntmps123
  go_wp2_with fail
  refine (clone_c _ W _ hu hp (by omega)).mono ?_
  rintro e w1 ⟨g, k, rfl, hown, hb⟩
  obtain ⟨g', gc, hge, hg0, hg1, hg2, hg3⟩ := Own.pos hown hp
  injection hge with hge1 hge2 hge3
  subst hge1 hge3
  have hg1' := hb.size
  clear hge2
  go_wp2_with fail
  go_loopw [6, 7, 9, 14, 21] (fun _ _ _ i _ wr => ∃ j : Nat, j ≤ R.length ∧ i = .int .i64 j ∧ OwnI wr w.heap.size (.slice (some ⟨g', 0, none⟩) W.length k) (woTo R W j) ∧ Below w.heap.size w wr) (fun _ _ _ i _ _ => R.length - (intOf i).toNat)
  case atStart => exact ⟨0, Nat.zero_le _, rfl, by rw [woTo_zero]; exact hown, hb⟩
  case round =>
    obtain ⟨j, hj, rfl, hown2, hbl⟩ := hrel
    clear hown hb
    by_cases hlt : j < R.length
    · obtain ⟨b, off, rfl, hrb, hcs⟩ := hrd (by intro e; simp [e] at hlt)
      obtain ⟨ur, hur, hru⟩ := hcs j hlt
      have hu' : wr.cell? ⟨b, off + j, none⟩ = some ur := by rw [hbl.cell (p := ⟨b, off + j, none⟩) hrb]; exact hur
      have hrow := hok.row j hlt
      have hrl := hok.rowlen j hlt
      have hjW : (j : Int) < (W.length : Int) := by omega
      have hjW' : j < W.length := by omega
      obtain ⟨ar, kr, rfl, hr1, hr2, hrr⟩ := hru
      clear hcs hur
      rw [← woIn_zero hjW'] at hown2
      go_wp2_with fail
      go_loopw [9, 21] (fun _ i wr => ∃ m : Nat, m ≤ (gR R j).length ∧ i = .int .i64 m ∧ OwnI wr w.heap.size (.slice (some ⟨g', 0, none⟩) W.length k) (woIn R W j m) ∧ Below w.heap.size w wr) (fun _ i _ => (gR R j).length - (intOf i).toNat)
      case atStart => exact ⟨0, Nat.zero_le _, rfl, hown2, hbl⟩
      case round =>
        obtain ⟨m, hm, rfl, hown3, hbl3⟩ := hrel
        clear hown2 hbl hu'
        obtain ⟨wo, rfl⟩ : ∃ wo : World, wo = wr := ⟨_, rfl⟩
        by_cases hmt : m < (gR R j).length
        · obtain ⟨b2, off2, rfl, hb2, hcs2⟩ := hrr (ne_of_lt_len hmt)
          have hc2 : wo.cell? ⟨b2, off2 + m, none⟩ = some (.int .i64 (gI (gR R j) m)) := by rw [hbl3.cell (p := ⟨b2, off2 + m, none⟩) hb2]; exact hcs2 m hmt
          have hxr := hrow m hmt
          have hcO : wo.cell? ⟨bw, ow + (gI (gR R j) m).toNat, none⟩ = some (.int .i64 (gI W (gI (gR R j) m).toNat)) := by rw [hbl3.cell (p := ⟨bw, ow + (gI (gR R j) m).toNat, none⟩) hwb]; exact hwc _ (by omega)
          have hnum := hok.num (gI (gR R j) m).toNat
          have hlen := woIn_len R W j m
          have hO : OwnI wo w.heap.size (.slice (some ⟨g', 0, none⟩) (woIn R W j m).length k) (woIn R W j m) := by rw [hlen]; exact hown3
          have hcell := hO.cell j (by rw [hlen]; exact hjW')
          rw [woIn_at hjW'] at hcell
          have hfree := hO.free j
          have hsm := wo_sum hok hlt (Nat.le_of_lt hmt)
          have hnj := hok.num j
          have hset := hO.set j (gI W j - sumTo (fun x => gI W (gI (gR R j) x).toNat) m - gI W (gI (gR R j) m).toNat)
          have HS : Hid (OwnI (wo.setCell ⟨g', j, none⟩ (.int .i64 (gI W j - sumTo (fun x => gI W (gI (gR R j) x).toNat) m - gI W (gI (gR R j) m).toNat))) w.heap.size (.slice (some ⟨g', 0, none⟩) W.length k) (woIn R W j (m + 1))) := Lib.hid (by
            rw [hlen, ← woIn_succ] at hset; exact hset)
          have HB := Lib.hid (hbl3.setCell (p := ⟨g', j, none⟩) hg0 (.int .i64 (gI W j - sumTo (fun x => gI W (gI (gR R j) x).toNat) m - gI W (gI (gR R j) m).toNat)))
          clear hset hO hown3 hlen hcs2 hrr hrow
          generalize hy : gI W j - sumTo (fun x => gI W (gI (gR R j) x).toNat) m = y at hcell HS HB
          have hsm' : -500000000000000 ≤ y ∧ y ≤ 500000000000000 := by omega
          clear hy hsm hnj
          generalize gI W (gI (gR R j) m).toNat = z at hcO hnum HS HB
          generalize gI (gR R j) m = x at hc2 hxr hcO
          obtain ⟨hx0, hx1⟩ := hxr
          obtain ⟨hs0, hs1⟩ := hsm'
          obtain ⟨hn0, hn1⟩ := hnum
          go_wp2_with fail
          go_still_tail 10, (by kernel_rfl)
          change wpList _ _ _ _ _ wo.drew
          go_wp2
          go_roundw
          case rel => exact ⟨m + 1, by omega, by go_num, HS.out, HB.out.drew⟩
          case measure => simp [intOf]; omega
        · have hm' : m = (gR R j).length := by omega
          subst hm'
          rw [woIn_all hjW'] at hown3
          go_wp2
          go_roundw
          case rel => exact ⟨j + 1, by omega, by go_num, hown3, hbl3⟩
          case measure => simp [intOf]; omega
    · go_wp2
      have hj' : j = R.length := by omega
      subst hj'
      go_ret
      exact retI_mk hown2 hbl
end Go.Proofs.Ythpnmkghjnipoaa
