/- Contract: impl.excessesOf. -/
import Derived.Test.YthpnmkghjnipoaaExPure
import Derived.Test.YthpnmkghjnipoaaClone
import Derived.StillTailTactics
namespace Go.Proofs.Ythpnmkghjnipoaa
open Go.RowKit

set_option maxRecDepth 100000 in
set_option maxHeartbeats 4000000 in
theorem excessesOf_c (v u : Value) (R : List (List Int)) (W : List Int) (w : World) (h : RdR w v R) (hu : Rd w u W) (hok : ExOk R W) (hp : 0 < W.length) :
    Calls Try.prog 159 #[v, u] w (RetI w (exTo R W R.length)) := by
  have hl1 := hok.len
  have hl2 := hok.lim
  obtain ⟨a, cap, rfl, hcap1, hcap2, hrd⟩ := h
  obtain ⟨bw, ow, cw, rfl, hw1, hw2, hwb, hwc⟩ := hu.cells hp
  go_enter Try.func159, Try.ntmps159
  go_wp2_with fail
  refine (clone_c _ W _ hu hp (by omega)).mono ?_
  rintro e w1 ⟨g, k, rfl, hown, hb⟩
  obtain ⟨g', gc, hge, hg0, hg1, hg2, hg3⟩ := Own.pos hown hp
  injection hge with hge1 hge2 hge3
  subst hge1 hge3
  have hg1' := hb.size
  clear hge2
  go_wp2_with fail
  go_loopw [6, 7, 9, 14, 21] (fun _ _ _ i _ wr => ∃ j : Nat, j ≤ R.length ∧ i = .int .i64 j ∧ OwnI wr w.heap.size (.slice (some ⟨g', 0, none⟩) W.length k) (exTo R W j) ∧ Below w.heap.size w wr) (fun _ _ _ i _ _ => R.length - (intOf i).toNat)
  case atStart => exact ⟨0, Nat.zero_le _, rfl, hown, hb⟩
  case round =>
    obtain ⟨j, hj, rfl, hown2, hbl⟩ := hrel
    clear hown hb
    by_cases hlt : j < R.length
    · obtain ⟨b, off, rfl, hrb, hcs⟩ := hrd (by intro e; simp [e] at hlt)
      obtain ⟨ur, hur, hru⟩ := hcs j hlt
      have hu' : wr.cell? ⟨b, off + j, none⟩ = some ur := by rw [hbl.cell (p := ⟨b, off + j, none⟩) hrb]; exact hur
      have hrow := hok.row j hlt
      have hrl := hok.rowlen j hlt
      have hWj := hwc j (by omega)
      have hnum := hok.num j
      have hjW : (j : Int) < (W.length : Int) := by omega
      obtain ⟨ar, kr, rfl, hr1, hr2, hrr⟩ := hru
      clear hcs hur
      go_wp2_with fail
      go_loopw [9, 21] (fun _ i wr => ∃ m : Nat, m ≤ (gR R j).length ∧ i = .int .i64 m ∧ OwnI wr w.heap.size (.slice (some ⟨g', 0, none⟩) W.length k) (decTo (gR R j) (gI W j) (exTo R W j) m) ∧ Below w.heap.size w wr) (fun _ i _ => (gR R j).length - (intOf i).toNat)
      case atStart => exact ⟨0, Nat.zero_le _, rfl, hown2, hbl⟩
      case round =>
        obtain ⟨m, hm, rfl, hown3, hbl3⟩ := hrel
        clear hown2 hbl hu'
        obtain ⟨wo, rfl⟩ : ∃ wo : World, wo = wr := ⟨_, rfl⟩
        by_cases hmt : m < (gR R j).length
        · obtain ⟨b2, off2, rfl, hb2, hcs2⟩ := hrr (ne_of_lt_len hmt)
          have hc2 : wo.cell? ⟨b2, off2 + m, none⟩ = some (.int .i64 (gI (gR R j) m)) := by rw [hbl3.cell (p := ⟨b2, off2 + m, none⟩) hb2]; exact hcs2 m hmt
          have hcW : wo.cell? ⟨bw, ow + j, none⟩ = some (.int .i64 (gI W j)) := by rw [hbl3.cell (p := ⟨bw, ow + j, none⟩) hwb]; exact hWj
          have hxr := hrow m hmt
          have hlen := decTo_len (gR R j) (gI W j) (exTo R W j) m
          rw [exTo_len] at hlen
          have hO : OwnI wo w.heap.size (.slice (some ⟨g', 0, none⟩) (decTo (gR R j) (gI W j) (exTo R W j) m).length k) (decTo (gR R j) (gI W j) (exTo R W j) m) := by rw [hlen]; exact hown3
          have hcell := hO.cell (gI (gR R j) m).toNat (by rw [hlen]; omega)
          have hfree := hO.free (gI (gR R j) m).toNat
          have hsm := ex_small hok hlt (Nat.le_of_lt hmt) (gI (gR R j) m).toNat
          have hset := hO.set (gI (gR R j) m).toNat (gI (decTo (gR R j) (gI W j) (exTo R W j) m) (gI (gR R j) m).toNat - gI W j)
          have hset2 : OwnI (wo.setCell ⟨g', (gI (gR R j) m).toNat, none⟩ (.int .i64 (gI (decTo (gR R j) (gI W j) (exTo R W j) m) (gI (gR R j) m).toNat - gI W j))) w.heap.size (.slice (some ⟨g', 0, none⟩) W.length k) (decTo (gR R j) (gI W j) (exTo R W j) (m + 1)) := by
            rw [hlen] at hset; exact hset
          have hbl4 := hbl3.setCell (p := ⟨g', (gI (gR R j) m).toNat, none⟩) hg0 (.int .i64 (gI (decTo (gR R j) (gI W j) (exTo R W j) m) (gI (gR R j) m).toNat - gI W j))
          clear hset hO hown3 hlen hcs2 hrr hrow
          have HS := Lib.hid hset2
          have HB := Lib.hid hbl4
          clear hset2 hbl4
          generalize gI (decTo (gR R j) (gI W j) (exTo R W j) m) (gI (gR R j) m).toNat = y at hcell hsm HS HB
          generalize gI W j = z at hcW hnum HS HB
          generalize gI (gR R j) m = x at hc2 hcell hfree hxr HS HB
          obtain ⟨hx0, hx1⟩ := hxr
          obtain ⟨hs0, hs1⟩ := hsm
          obtain ⟨hn0, hn1⟩ := hnum
          go_wp2_with fail
          go_still_tail 10, (by kernel_rfl)
          change wpList _ _ _ _ _ wo.drew
          go_wp2
          go_roundw
          case rel => exact ⟨m + 1, by omega, by go_num, HS.out, HB.out.drew⟩
          case measure => simp [intOf]; omega
        · have hm' : m = (gR R j).length := by omega
          subst hm'
          go_wp2
          go_roundw
          case rel => exact ⟨j + 1, by omega, by go_num, hown3, hbl3⟩
          case measure => simp [intOf]; omega
    · go_wp2
      have hj' : j = R.length := by omega
      subst hj'
      go_ret
      exact retI_mk hown2 hbl
end Go.Proofs.Ythpnmkghjnipoaa
