/- Contracts: spec.l08OfOrders. -/
import Derived.Test.YthfdkigljbdogaaOfOrd
import Derived.Test.YthfdkigljbdogaaExSpec
namespace Go.Proofs.Ythfdkigljbdogaa
open Go.RowKit

theorem wo_row {P S : List Int} {j : Nat} (hj : j < P.length) : gR (proxL P S) j = proxOf P S j := prox_row hj
theorem woTo_one {P S W : List Int} (L : List Int) (hc : CluOk P S W) : woTo (proxL P S) L 1 = L := by
  apply gI_ext (by simp)
  intro i hi
  have hi' : i < L.length := by simpa using hi
  rw [gI_woTo hi']
  split
  · rename_i h
    have h0 : i = 0 := by omega
    subst h0
    rw [wo_row hc.1.1]
    simp [proxOf, sumTo]
  · rfl
theorem woTo_step {P S W L : List Int} (_ : CluOk P S W) {j : Nat} (hj : j < P.length) (h0 : 0 < j) (hl : j < L.length) : (woTo (proxL P S) L j).set j (gI L j - sumTo (fun x => gI L (gI (secL S j ++ [gI P j]) x).toNat) (secL S j ++ [gI P j]).length) = woTo (proxL P S) L (j + 1) := by
  rw [← woIn_all hl]
  unfold woIn
  have e : gR (proxL P S) j = secL S j ++ [gI P j] := by rw [wo_row hj]; unfold proxOf; rw [if_neg (by omega)]
  rw [e]
theorem woTo_yes {P S W L : List Int} (hc : CluOk P S W) {j : Nat} (hj : j < P.length) (h0 : 0 < j) (hs : 0 ≤ gI S j) (hl : j < L.length) : (woTo (proxL P S) L j).set j (gI L j - gI L (gI P j).toNat - gI L (gI S j).toNat) = woTo (proxL P S) L (j + 1) := by
  rw [← woTo_step hc hj h0 hl, secL_yes hs]
  congr 1
  simp [sumTo, gI]
  omega
theorem woTo_no {P S W L : List Int} (hc : CluOk P S W) {j : Nat} (hj : j < P.length) (h0 : 0 < j) (hs : ¬ 0 ≤ gI S j) (hl : j < L.length) : (woTo (proxL P S) L j).set j (gI L j - gI L (gI P j).toNat) = woTo (proxL P S) L (j + 1) := by
  rw [← woTo_step hc hj h0 hl, secL_no hs]
  congr 1
  simp [sumTo, gI]

set_option maxRecDepth 100000 in
set_option maxHeartbeats 4000000 in
theorem l08OfOrders_c (p s q v : Value) (P S W L : List Int) (w : World) (hp : Rd w p P) (hs : Rd w s S) (hv : Rd w v L) (hc : CluOk P S W) (hl : L.length = P.length) (hL : ∀ i, i < L.length → -1000000000000 ≤ gI L i ∧ gI L i ≤ 1000000000000) :
    Calls Try.prog 112 #[.agg #[p, s, q], v] w (RetI w (woTo (proxL P S) L P.length)) := by
  have hx := Boxed.start w 47 #[p, s, q]
  have hok := exOk_clu hc hl hL
  have hnum := hok.num
  obtain ⟨bp, op, kp, rfl, hpc1, hpc2, hpb, hpc⟩ := hp.cells hc.1.1
  obtain ⟨bs, os, ks, rfl, hsc1, hsc2, hsb, hsc⟩ := hs.cells (by have := hc.1; omega)
  obtain ⟨bv, ov, kv, rfl, hvc1, hvc2, hvb, hvc⟩ := hv.cells (by have := hc.1; omega)
  have hS := hc.1.2.2.1
  have h24 := hc.1.2.1
  have hp0 := hc.1.1
  have hl1 : P.length ≤ S.length := by omega
  have hl2 : L.length ≤ P.length := by omega
  have hl3 : P.length ≤ L.length := by omega
  have hl4 : S.length ≤ P.length := by omega
  have HL := Lib.hid hl
  clear hl hS
  go_enter Try.func112, Try.ntmps112
  go_wp2_with fail
  refine (l01Own_c _ L _ (hv.below hx.below (Nat.le_refl _)) (by omega) (by omega)).mono ?_
  rintro e w1 ⟨g, k, rfl, hown, hb⟩
  have hx1 := hx.trans hb
  obtain ⟨g', gc, hge, hg0, hg1, hg2, hg3⟩ := Own.pos hown (by omega)
  injection hge with hge1 hge2 hge3
  subst hge1 hge3
  have hg0' : w.heap.size + 1 ≤ g' := Nat.le_trans (Nat.le_of_eq (by simp)) hg0
  have hown0 := hown.base_le (base' := w.heap.size + 1) (Nat.le_of_eq (by simp))
  clear hge2
  go_wp2_with fail
  go_loopw [6] (fun i wr => ∃ j : Nat, 1 ≤ j ∧ j ≤ P.length ∧ i = .int .i64 j ∧ OwnI wr (w.heap.size + 1) (.slice (some ⟨g', 0, none⟩) L.length k) (woTo (proxL P S) L j) ∧ Boxed w wr 47 #[.slice (some ⟨bp, op, none⟩) P.length kp, .slice (some ⟨bs, os, none⟩) S.length ks, q]) (fun i _ => P.length - (intOf i).toNat)
  case atStart => exact ⟨1, Nat.le_refl _, hp0, rfl, by rw [woTo_one L hc]; exact hown0, hx1⟩
  case round =>
    obtain ⟨j, hj1, hj, rfl, hown2, hbx⟩ := hrel
    clear hown0 hown hx1 hx hb
    obtain ⟨wo, rfl⟩ : ∃ wo : World, wo = wr := ⟨_, rfl⟩
    by_cases hlt : j < P.length
    · have hjL : (j : Int) < (L.length : Int) := by omega
      have hjL' : j < L.length := by omega
      have hjS : (j : Int) < (S.length : Int) := by omega
      have hjP : (j : Int) < (P.length : Int) := by omega
      have c0 := hbx.cell 0
      have c1 := hbx.cell 1
      obtain ⟨hp1, hp2, hp3⟩ := clu_place hc hlt (by omega)
      have dS : wo.cell? ⟨bs, os + j, none⟩ = some (.int .i64 (gI S j)) := by rw [hbx.below.cell (p := ⟨bs, os + j, none⟩) hsb]; exact hsc j (by omega)
      have dP : wo.cell? ⟨bp, op + j, none⟩ = some (.int .i64 (gI P j)) := by rw [hbx.below.cell (p := ⟨bp, op + j, none⟩) hpb]; exact hpc j hlt
      have dL : wo.cell? ⟨bv, ov + (gI P j).toNat, none⟩ = some (.int .i64 (gI L (gI P j).toNat)) := by rw [hbx.below.cell (p := ⟨bv, ov + (gI P j).toNat, none⟩) hvb]; exact hvc _ (by omega)
      have hn := hnum j
      have hnP := hnum (gI P j).toNat
      have hlen : (woTo (proxL P S) L j).length = L.length := woTo_len _ _ _
      have hO : OwnI wo (w.heap.size + 1) (.slice (some ⟨g', 0, none⟩) (woTo (proxL P S) L j).length k) (woTo (proxL P S) L j) := by rw [hlen]; exact hown2
      have hcell := hO.cell j (by rw [hlen]; omega)
      rw [gI_woTo hjL', if_neg (by omega)] at hcell
      have hfree := hO.free j
      have hset := hO.set j (gI L j - gI L (gI P j).toNat)
      rw [hlen] at hset
      have hbx4 := hbx.wrote ((Keeps.refl (fun k => w.heap.size + 1 ≤ k) wo).setCell (p := ⟨g', j, none⟩) hg0' (.int .i64 (gI L j - gI L (gI P j).toNat)))
      have hxP : gI P j < (L.length : Int) := by omega
      by_cases hs : 0 ≤ gI S j
      · have HZ := Lib.hid (woTo_yes (L := L) hc hlt (by omega) hs (by omega))
        have hxS : gI S j < (L.length : Int) := by omega
        have hnS := hnum (gI S j).toNat
        have hO2 : OwnI (wo.setCell ⟨g', j, none⟩ (.int .i64 (gI L j - gI L (gI P j).toNat))) (w.heap.size + 1) (.slice (some ⟨g', 0, none⟩) ((woTo (proxL P S) L j).set j (gI L j - gI L (gI P j).toNat)).length k) ((woTo (proxL P S) L j).set j (gI L j - gI L (gI P j).toNat)) := by rw [List.length_set, hlen]; exact hset
        have hcell2 := hO2.cell j (by rw [List.length_set, hlen]; exact hjL')
        rw [gI_set_at (by rw [hlen]; exact hjL')] at hcell2
        have hfree2 := hO2.free j
        have hset2 := hO2.set j (gI L j - gI L (gI P j).toNat - gI L (gI S j).toNat)
        rw [List.length_set, hlen, List.set_set, HZ.out] at hset2
        have hbx5 := hbx4.wrote ((Keeps.refl (fun k => w.heap.size + 1 ≤ k) _).setCell (p := ⟨g', j, none⟩) hg0' (.int .i64 (gI L j - gI L (gI P j).toNat - gI L (gI S j).toNat)))
        have f0 := hbx4.cell 0
        have f1 := hbx4.cell 1
        have e0 : (wo.setCell ⟨g', j, none⟩ (.int .i64 (gI L j - gI L (gI P j).toNat))).cell? ⟨bv, ov + (gI S j).toNat, none⟩ = some (.int .i64 (gI L (gI S j).toNat)) := by rw [hbx4.below.cell (p := ⟨bv, ov + (gI S j).toNat, none⟩) hvb]; exact hvc _ (by omega)
        have e1 : (wo.setCell ⟨g', j, none⟩ (.int .i64 (gI L j - gI L (gI P j).toNat))).cell? ⟨bs, os + j, none⟩ = some (.int .i64 (gI S j)) := by rw [hbx4.below.cell (p := ⟨bs, os + j, none⟩) hsb]; exact hsc j (by omega)
        have HS := Lib.hid hset2
        have HB := Lib.hid hbx5
        clear hset hset2 hO hO2 hown2 hlen hbx hbx4 hbx5 HZ
        generalize gI L (gI S j).toNat = z2 at hnS e0 HS HB
        generalize gI L (gI P j).toNat = z at dL hnP HS HB hcell2 hfree2 e0 e1 f0 f1
        generalize gI L j = y at hn hcell HS HB hcell2 hfree2 e0 e1 f0 f1
        generalize gI P j = x at dP dL hxP hp1 hp2
        generalize gI S j = x' at dS hs hxS hp3 e0 e1
        obtain ⟨hs0, hs1⟩ := hn
        obtain ⟨hs2, hs3⟩ := hnP
        obtain ⟨hs4, hs5⟩ := hnS
        go_wp2_with fail
        go_still_tail 16, (by kernel_rfl)
        change wpList _ _ _ _ _ wo.drew
        go_wp2_with fail
        clear c0 c1 dL dS dP hcell hfree
        obtain ⟨wq, hW⟩ : ∃ wq : World, wq = (wo.setCell ⟨g', j, none⟩ (.int .i64 (y - z))).drew := ⟨_, rfl⟩
        replace f1 : wq.cell? ⟨w.heap.size, 1, none⟩ = some (.slice (some ⟨bs, os, none⟩) S.length ks) := by rw [hW]; exact f1
        replace e0 : wq.cell? ⟨bv, ov + x'.toNat, none⟩ = some (.int .i64 z2) := by rw [hW]; exact e0
        replace e1 : wq.cell? ⟨bs, os + j, none⟩ = some (.int .i64 x') := by rw [hW]; exact e1
        replace hcell2 : wq.cell? ⟨g', j, none⟩ = some (.int .i64 (y - z)) := by rw [hW]; exact hcell2
        replace hfree2 : wq.frozen? ⟨g', j, none⟩ = false := by rw [hW]; exact hfree2
        replace HS : Hid (OwnI (wq.setCell ⟨g', j, none⟩ (.int .i64 (y - z - z2))) (w.heap.size + 1) (.slice (some ⟨g', 0, none⟩) L.length k) (woTo (proxL P S) L (j + 1))) := by rw [hW]; exact HS
        replace HB : Hid (Boxed w (wq.setCell ⟨g', j, none⟩ (.int .i64 (y - z - z2))) 47 #[.slice (some ⟨bp, op, none⟩) P.length kp, .slice (some ⟨bs, os, none⟩) S.length ks, q]) := by rw [hW]; exact Lib.hid (HB.out.trans (Below.refl _ _).drew)
        rw [← hW]
        clear f0 hW
        go_still_tail 16, (by kernel_rfl)
        change wpList _ _ _ _ _ wq.drew
        go_wp2
        go_roundw
        case rel => exact ⟨j + 1, by omega, by omega, by go_num, HS.out, HB.out.trans (Below.refl _ _).drew⟩
        case measure => simp [intOf]; omega
      · have HZ := Lib.hid (woTo_no (L := L) hc hlt (by omega) hs (by omega))
        have hset3 := hset
        rw [HZ.out] at hset3
        have e1 : (wo.setCell ⟨g', j, none⟩ (.int .i64 (gI L j - gI L (gI P j).toNat))).cell? ⟨bs, os + j, none⟩ = some (.int .i64 (gI S j)) := by rw [hbx4.below.cell (p := ⟨bs, os + j, none⟩) hsb]; exact hsc j (by omega)
        have f1 := hbx4.cell 1
        have HS := Lib.hid hset3
        have HB := Lib.hid hbx4
        clear hset hset3 hO hown2 hlen hbx hbx4 HZ
        generalize gI L (gI P j).toNat = z at dL hnP HS HB e1 f1
        generalize gI L j = y at hn hcell HS HB e1 f1
        generalize gI P j = x at dP dL hxP hp1 hp2
        generalize gI S j = x' at dS hs e1 hp3
        obtain ⟨hs0, hs1⟩ := hn
        obtain ⟨hs2, hs3⟩ := hnP
        go_wp2_with fail
        go_still_tail 16, (by kernel_rfl)
        change wpList _ _ _ _ _ wo.drew
        go_wp2
        go_roundw
        case rel => exact ⟨j + 1, by omega, by omega, by go_num, HS.out, HB.out.trans (Below.refl _ _).drew⟩
        case measure => simp [intOf]; omega
    · go_wp2
      have hj' : j = P.length := by omega
      subst hj'
      go_ret
      exact retI_mk (hown2.base_le (by omega)) hbx.below
end Go.Proofs.Ythfdkigljbdogaa
