/- Contracts: spec.l07Excess, spec.l07Consistent, IsConsistent. -/
import Derived.Test.YthpnmkghjnipoaaExCons
namespace Go.Proofs.Ythpnmkghjnipoaa
open Go.RowKit

set_option maxRecDepth 100000 in
set_option maxHeartbeats 4000000 in
theorem l07Excess_c (p s q v : Value) (P S W L : List Int) (w : World) (hp : Rd w p P) (hs : Rd w s S) (hv : Rd w v L) (hc : CluOk P S W) (hl : L.length = P.length) (hL : ∀ i, i < L.length → -1000000000000 ≤ gI L i ∧ gI L i ≤ 1000000000000) :
    Calls Try.prog 144 #[.agg #[p, s, q], v] w (RetI w (exTo (proxL P S) L P.length)) := by
  have hx := Boxed.start w 47 #[p, s, q]
  have hok := exOk_clu hc hl hL
  have hnum := hok.num
  obtain ⟨bp, op, kp, rfl, hpc1, hpc2, hpb, hpc⟩ := hp.cells hc.1.1
  obtain ⟨bs, os, ks, rfl, hsc1, hsc2, hsb, hsc⟩ := hs.cells (by have := hc.1; omega)
  obtain ⟨bv, ov, kv, rfl, hvc1, hvc2, hvb, hvc⟩ := hv.cells (by have := hc.1; omega)
  have hS := hc.1.2.2.1
  have h24 := hc.1.2.1
  have hp0 := hc.1.1
  have hl1 : P.length ≤ S.length := by omega
  have hl2 : L.length ≤ P.length := by omega
  have hl3 : P.length ≤ L.length := by omega
  have hl4 : S.length ≤ P.length := by omega
  have HL := Lib.hid hl
  clear hl hS
  go_enter Try.func144, Try.ntmps144
  go_wp2_with fail
  refine (l01Own_c _ L _ (hv.below hx.below (Nat.le_refl _)) (by omega) (by omega)).mono ?_
  rintro e w1 ⟨g, k, rfl, hown, hb⟩
  have hx1 := hx.trans hb
  obtain ⟨g', gc, hge, hg0, hg1, hg2, hg3⟩ := Own.pos hown (by omega)
  injection hge with hge1 hge2 hge3
  subst hge1 hge3
  have hg0' : w.heap.size + 1 ≤ g' := Nat.le_trans (Nat.le_of_eq (by simp)) hg0
  have hown0 := hown.base_le (base' := w.heap.size + 1) (Nat.le_of_eq (by simp))
  clear hge2
  go_wp2_with fail
  go_loopw [6] (fun i wr => ∃ j : Nat, 1 ≤ j ∧ j ≤ P.length ∧ i = .int .i64 j ∧ OwnI wr (w.heap.size + 1) (.slice (some ⟨g', 0, none⟩) L.length k) (exTo (proxL P S) L j) ∧ Boxed w wr 47 #[.slice (some ⟨bp, op, none⟩) P.length kp, .slice (some ⟨bs, os, none⟩) S.length ks, q]) (fun i _ => P.length - (intOf i).toNat)
  case atStart => exact ⟨1, Nat.le_refl _, hp0, rfl, by rw [exTo_one L hc]; exact hown0, hx1⟩
  case round =>
    obtain ⟨j, hj1, hj, rfl, hown2, hbx⟩ := hrel
    clear hown0 hown hx1 hx hb
    obtain ⟨wo, rfl⟩ : ∃ wo : World, wo = wr := ⟨_, rfl⟩
    by_cases hlt : j < P.length
    · have hjL : (j : Int) < (L.length : Int) := by omega
      have hjS : (j : Int) < (S.length : Int) := by omega
      have hjP : (j : Int) < (P.length : Int) := by omega
      have c0 := hbx.cell 0
      have c1 := hbx.cell 1
      have dL : wo.cell? ⟨bv, ov + j, none⟩ = some (.int .i64 (gI L j)) := by rw [hbx.below.cell (p := ⟨bv, ov + j, none⟩) hvb]; exact hvc j (by omega)
      have dS : wo.cell? ⟨bs, os + j, none⟩ = some (.int .i64 (gI S j)) := by rw [hbx.below.cell (p := ⟨bs, os + j, none⟩) hsb]; exact hsc j (by omega)
      have dP : wo.cell? ⟨bp, op + j, none⟩ = some (.int .i64 (gI P j)) := by rw [hbx.below.cell (p := ⟨bp, op + j, none⟩) hpb]; exact hpc j hlt
      have hn := hnum j
      obtain ⟨hp1, hp2, hp3⟩ := clu_place hc hlt (by omega)
      have hlen : (exTo (proxL P S) L j).length = L.length := exTo_len _ _ _
      have HY := Lib.hid (exTo_step (P := P) (S := S) L hlt (by omega))
      have hO : OwnI wo (w.heap.size + 1) (.slice (some ⟨g', 0, none⟩) (exTo (proxL P S) L j).length k) (exTo (proxL P S) L j) := by rw [hlen]; exact hown2
      have hcell := hO.cell (gI P j).toNat (by rw [hlen]; omega)
      have hfree := hO.free (gI P j).toNat
      have hbd := exTo_bd hok j (by rw [prox_len]; omega)
      have hsm1 := hbd (gI P j).toNat
      have hset := hO.set (gI P j).toNat (gI (exTo (proxL P S) L j) (gI P j).toNat - gI L j)
      rw [hlen] at hset
      have hbx4 := hbx.wrote ((Keeps.refl (fun k => w.heap.size + 1 ≤ k) wo).setCell (p := ⟨g', (gI P j).toNat, none⟩) hg0' (.int .i64 (gI (exTo (proxL P S) L j) (gI P j).toNat - gI L j)))
      have hxP : gI P j < (L.length : Int) := by omega
      by_cases hs : 0 ≤ gI S j
      · have HZ := Lib.hid (HY.out.trans (show exStep P S L (exTo (proxL P S) L j) j = dec (dec (exTo (proxL P S) L j) (gI P j) (gI L j)) (gI S j) (gI L j) from if_pos hs))
        have hO2 : OwnI (wo.setCell ⟨g', (gI P j).toNat, none⟩ (.int .i64 (gI (exTo (proxL P S) L j) (gI P j).toNat - gI L j))) (w.heap.size + 1) (.slice (some ⟨g', 0, none⟩) (dec (exTo (proxL P S) L j) (gI P j) (gI L j)).length k) (dec (exTo (proxL P S) L j) (gI P j) (gI L j)) := by rw [dec_len, hlen]; exact hset
        have hsm2 := decTo_bd [gI P j] (gI L j) (exTo (proxL P S) L j) (1000000000000 + 400000000000000 * (j : Int)) hn hbd 1 (gI S j).toNat
        have hsm2' : -20000000000000000 ≤ gI (dec (exTo (proxL P S) L j) (gI P j) (gI L j)) (gI S j).toNat ∧ gI (dec (exTo (proxL P S) L j) (gI P j) (gI L j)) (gI S j).toNat ≤ 20000000000000000 := by
          have e : decTo [gI P j] (gI L j) (exTo (proxL P S) L j) 1 = dec (exTo (proxL P S) L j) (gI P j) (gI L j) := rfl
          rw [e] at hsm2
          omega
        clear hsm2
        have hcell2 := hO2.cell (gI S j).toNat (by rw [dec_len, hlen]; omega)
        have hfree2 := hO2.free (gI S j).toNat
        have hset2 := hO2.set (gI S j).toNat (gI (dec (exTo (proxL P S) L j) (gI P j) (gI L j)) (gI S j).toNat - gI L j)
        rw [dec_len, hlen] at hset2
        have hset3 := hset2
        rw [show (dec (exTo (proxL P S) L j) (gI P j) (gI L j)).set (gI S j).toNat (gI (dec (exTo (proxL P S) L j) (gI P j) (gI L j)) (gI S j).toNat - gI L j) = exTo (proxL P S) L (j + 1) from HZ.out.symm] at hset3
        have hbx5 := hbx4.wrote ((Keeps.refl (fun k => w.heap.size + 1 ≤ k) _).setCell (p := ⟨g', (gI S j).toNat, none⟩) hg0' (.int .i64 (gI (dec (exTo (proxL P S) L j) (gI P j) (gI L j)) (gI S j).toNat - gI L j)))
        have hxS : gI S j < (L.length : Int) := by omega
        have f0 := hbx4.cell 0
        have f1 := hbx4.cell 1
        have e0 : (wo.setCell ⟨g', (gI P j).toNat, none⟩ (.int .i64 (gI (exTo (proxL P S) L j) (gI P j).toNat - gI L j))).cell? ⟨bv, ov + j, none⟩ = some (.int .i64 (gI L j)) := by rw [hbx4.below.cell (p := ⟨bv, ov + j, none⟩) hvb]; exact hvc j (by omega)
        have e1 : (wo.setCell ⟨g', (gI P j).toNat, none⟩ (.int .i64 (gI (exTo (proxL P S) L j) (gI P j).toNat - gI L j))).cell? ⟨bs, os + j, none⟩ = some (.int .i64 (gI S j)) := by rw [hbx4.below.cell (p := ⟨bs, os + j, none⟩) hsb]; exact hsc j (by omega)
        have HS := Lib.hid hset3
        have HB := Lib.hid hbx5
        clear hset hset2 hset3 hO hO2 hown2 hlen hbx hbx4 hbx5 hbd HY HZ
        generalize gI (dec (exTo (proxL P S) L j) (gI P j) (gI L j)) (gI S j).toNat = y2 at hcell2 hsm2' HS HB
        generalize gI (exTo (proxL P S) L j) (gI P j).toNat = y at hcell hsm1 HS HB e0 e1 f0 f1 hcell2 hfree2
        generalize gI L j = z at dL hn HS HB hcell2 hfree2 e0 e1 f0 f1
        generalize gI P j = x at dP hcell hfree hxP hp1 hp2 HS HB hcell2 hfree2 e0 e1 f0 f1
        generalize gI S j = x' at dS hs hxS hp3 hcell2 hfree2 HS HB e1
        obtain ⟨hs0, hs1⟩ := hsm1
        obtain ⟨hs2, hs3⟩ := hsm2'
        obtain ⟨hn0, hn1⟩ := hn
        go_wp2_with fail
        go_still_tail 20, (by kernel_rfl)
        change wpList _ _ _ _ _ wo.drew
        go_wp2_with fail
        clear c0 c1 dL dS dP hcell hfree
        obtain ⟨wq, hW⟩ : ∃ wq : World, wq = (wo.setCell ⟨g', x.toNat, none⟩ (.int .i64 (y - z))).drew := ⟨_, rfl⟩
        replace f1 : wq.cell? ⟨w.heap.size, 1, none⟩ = some (.slice (some ⟨bs, os, none⟩) S.length ks) := by rw [hW]; exact f1
        replace e0 : wq.cell? ⟨bv, ov + j, none⟩ = some (.int .i64 z) := by rw [hW]; exact e0
        replace e1 : wq.cell? ⟨bs, os + j, none⟩ = some (.int .i64 x') := by rw [hW]; exact e1
        replace hcell2 : wq.cell? ⟨g', x'.toNat, none⟩ = some (.int .i64 y2) := by rw [hW]; exact hcell2
        replace hfree2 : wq.frozen? ⟨g', x'.toNat, none⟩ = false := by rw [hW]; exact hfree2
        replace HS : Hid (OwnI (wq.setCell ⟨g', x'.toNat, none⟩ (.int .i64 (y2 - z))) (w.heap.size + 1) (.slice (some ⟨g', 0, none⟩) L.length k) (exTo (proxL P S) L (j + 1))) := by rw [hW]; exact HS
        replace HB : Hid (Boxed w (wq.setCell ⟨g', x'.toNat, none⟩ (.int .i64 (y2 - z))) 47 #[.slice (some ⟨bp, op, none⟩) P.length kp, .slice (some ⟨bs, os, none⟩) S.length ks, q]) := by rw [hW]; exact Lib.hid (HB.out.trans (Below.refl _ _).drew)
        rw [← hW]
        clear f0 hW
        go_still_tail 20, (by kernel_rfl)
        change wpList _ _ _ _ _ wq.drew
        go_wp2
        go_roundw
        case rel => exact ⟨j + 1, by omega, by omega, by go_num, HS.out, HB.out.trans (Below.refl _ _).drew⟩
        case measure => simp [intOf]; omega
      · have HZ := Lib.hid (HY.out.trans (show exStep P S L (exTo (proxL P S) L j) j = dec (exTo (proxL P S) L j) (gI P j) (gI L j) from if_neg hs))
        have hset3 := hset
        rw [show (exTo (proxL P S) L j).set (gI P j).toNat (gI (exTo (proxL P S) L j) (gI P j).toNat - gI L j) = exTo (proxL P S) L (j + 1) from HZ.out.symm] at hset3
        have e1 : (wo.setCell ⟨g', (gI P j).toNat, none⟩ (.int .i64 (gI (exTo (proxL P S) L j) (gI P j).toNat - gI L j))).cell? ⟨bs, os + j, none⟩ = some (.int .i64 (gI S j)) := by rw [hbx4.below.cell (p := ⟨bs, os + j, none⟩) hsb]; exact hsc j (by omega)
        have f1 := hbx4.cell 1
        have HS := Lib.hid hset3
        have HB := Lib.hid hbx4
        clear hset hset3 hO hown2 hlen hbx hbx4 hbd HY HZ
        generalize gI (exTo (proxL P S) L j) (gI P j).toNat = y at hcell hsm1 HS HB e1 f1
        generalize gI L j = z at dL hn HS HB e1 f1
        generalize gI P j = x at dP hcell hfree hxP hp1 hp2 HS HB e1 f1
        generalize gI S j = x' at dS hs e1 hp3
        obtain ⟨hs0, hs1⟩ := hsm1
        obtain ⟨hn0, hn1⟩ := hn
        go_wp2_with fail
        go_still_tail 20, (by kernel_rfl)
        change wpList _ _ _ _ _ wo.drew
        go_wp2
        go_roundw
        case rel => exact ⟨j + 1, by omega, by omega, by go_num, HS.out, HB.out.trans (Below.refl _ _).drew⟩
        case measure => simp [intOf]; omega
    · go_wp2
      have hj' : j = P.length := by omega
      subst hj'
      go_ret
      exact retI_mk (hown2.base_le (by omega)) hbx.below
end Go.Proofs.Ythpnmkghjnipoaa
