/- Contract: impl.excessesOf. -/
import Derived.Test.YtiinceflafigeaaRev
import Derived.StillTailTactics
import Derived.Test.YtiinceflafigeaaProx
import Derived.Deep.RegionHeld3
namespace Go.Proofs.Ytiinceflafigeaa
open Go.RowKit

set_option maxRecDepth 100000 in
set_option maxHeartbeats 4000000 in
theorem excessesOf_c (v u : Value) (R : List (List Int)) (W : List Int) (w : World) (h : RdR w v R) (hu : Rd w u W) (hok : ExOk R W) (hp : 0 < W.length) :
    Calls Try.prog 216 #[v, u] w (RetI w (exTo R W R.length)) := by
  have hl1 := hok.len
  have hl2 := hok.lim
  obtain ⟨a, cap, rfl, hcap1, hcap2, hrd⟩ := h
  obtain ⟨bw, ow, cw, rfl, hw1, hw2, hwb, hwc⟩ := hu.cells hp
  go_enter Try.func216, Try.ntmps216
  go_wp2_with fail
  refine (clone_c _ W _ hu hp (by omega)).mono ?_
  rintro e w1 ⟨g, k, rfl, hown, hb⟩
  obtain ⟨g', gc, hge, hg0, hg1, hg2, hg3⟩ := Own.pos hown hp
  injection hge with hge1 hge2 hge3
  subst hge1 hge3
  have hg1' := hb.size
  clear hge2
  go_wp2_with fail
  go_loopw [6, 7, 9, 14, 21] (fun _ _ _ i _ wr => ∃ j : Nat, j ≤ R.length ∧ i = .int .i64 j ∧ OwnI wr w.heap.size (.slice (some ⟨g', 0, none⟩) W.length k) (exTo R W j) ∧ Below w.heap.size w wr) (fun _ _ _ i _ _ => R.length - (intOf i).toNat)
  case atStart => exact ⟨0, Nat.zero_le _, rfl, hown, hb⟩
  case round =>
    obtain ⟨j, hj, rfl, hown2, hbl⟩ := hrel
    clear hown hb
    by_cases hlt : j < R.length
    · obtain ⟨b, off, rfl, hrb, hcs⟩ := hrd (by intro e; simp [e] at hlt)
      obtain ⟨ur, hur, hru⟩ := hcs j hlt
      have hu' : wr.cell? ⟨b, off + j, none⟩ = some ur := by rw [hbl.cell (p := ⟨b, off + j, none⟩) hrb]; exact hur
      have hrow := hok.row j hlt
      have hrl := hok.rowlen j hlt
      have hWj := hwc j (by omega)
      have hnum := hok.num j
      have hjW : (j : Int) < (W.length : Int) := by omega
      obtain ⟨ar, kr, rfl, hr1, hr2, hrr⟩ := hru
      clear hcs hur
      go_wp2_with fail
      go_loopw [9, 21] (fun _ i wr => ∃ m : Nat, m ≤ (gR R j).length ∧ i = .int .i64 m ∧ OwnI wr w.heap.size (.slice (some ⟨g', 0, none⟩) W.length k) (decTo (gR R j) (gI W j) (exTo R W j) m) ∧ Below w.heap.size w wr) (fun _ i _ => (gR R j).length - (intOf i).toNat)
      case atStart => exact ⟨0, Nat.zero_le _, rfl, hown2, hbl⟩
      case round =>
        obtain ⟨m, hm, rfl, hown3, hbl3⟩ := hrel
        clear hown2 hbl hu'
        obtain ⟨wo, rfl⟩ : ∃ wo : World, wo = wr := ⟨_, rfl⟩
        by_cases hmt : m < (gR R j).length
        · obtain ⟨b2, off2, rfl, hb2, hcs2⟩ := hrr (ne_of_lt_len hmt)
          have hc2 : wo.cell? ⟨b2, off2 + m, none⟩ = some (.int .i64 (gI (gR R j) m)) := by rw [hbl3.cell (p := ⟨b2, off2 + m, none⟩) hb2]; exact hcs2 m hmt
          have hcW : wo.cell? ⟨bw, ow + j, none⟩ = some (.int .i64 (gI W j)) := by rw [hbl3.cell (p := ⟨bw, ow + j, none⟩) hwb]; exact hWj
          have hxr := hrow m hmt
          have hlen := decTo_len (gR R j) (gI W j) (exTo R W j) m
          rw [exTo_len] at hlen
          have hO : OwnI wo w.heap.size (.slice (some ⟨g', 0, none⟩) (decTo (gR R j) (gI W j) (exTo R W j) m).length k) (decTo (gR R j) (gI W j) (exTo R W j) m) := by rw [hlen]; exact hown3
          have hcell := hO.cell (gI (gR R j) m).toNat (by rw [hlen]; omega)
          have hfree := hO.free (gI (gR R j) m).toNat
          have hsm := ex_small hok hlt (Nat.le_of_lt hmt) (gI (gR R j) m).toNat
          have hset := hO.set (gI (gR R j) m).toNat (gI (decTo (gR R j) (gI W j) (exTo R W j) m) (gI (gR R j) m).toNat - gI W j)
          have hset2 : OwnI (wo.setCell ⟨g', (gI (gR R j) m).toNat, none⟩ (.int .i64 (gI (decTo (gR R j) (gI W j) (exTo R W j) m) (gI (gR R j) m).toNat - gI W j))) w.heap.size (.slice (some ⟨g', 0, none⟩) W.length k) (decTo (gR R j) (gI W j) (exTo R W j) (m + 1)) := by
            rw [hlen] at hset; exact hset
          have hbl4 := hbl3.setCell (p := ⟨g', (gI (gR R j) m).toNat, none⟩) hg0 (.int .i64 (gI (decTo (gR R j) (gI W j) (exTo R W j) m) (gI (gR R j) m).toNat - gI W j))
          clear hset hO hown3 hlen hcs2 hrr hrow
          have HS := Lib.hid hset2
          have HB := Lib.hid hbl4
          clear hset2 hbl4
          generalize gI (decTo (gR R j) (gI W j) (exTo R W j) m) (gI (gR R j) m).toNat = y at hcell hsm HS HB
          generalize gI W j = z at hcW hnum HS HB
          generalize gI (gR R j) m = x at hc2 hcell hfree hxr HS HB
          obtain ⟨hx0, hx1⟩ := hxr
          obtain ⟨hs0, hs1⟩ := hsm
          obtain ⟨hn0, hn1⟩ := hnum
          go_wp2_with fail
          go_still_tail 10, (by kernel_rfl)
          change wpList _ _ _ _ _ wo.drew
          go_wp2
          go_roundw
          case rel => exact ⟨m + 1, by omega, by go_num, HS.out, HB.out.drew⟩
          case measure => simp [intOf]; omega
        · have hm' : m = (gR R j).length := by omega
          subst hm'
          go_wp2
          go_roundw
          case rel => exact ⟨j + 1, by omega, by go_num, hown3, hbl3⟩
          case measure => simp [intOf]; omega
    · go_wp2
      have hj' : j = R.length := by omega
      subst hj'
      go_ret
      exact retI_mk hown2 hbl
end Go.Proofs.Ytiinceflafigeaa

/- Contracts: impl.excesses, slices.Min, impl.consistent. -/
namespace Go.Proofs.Ytiinceflafigeaa
open Go.RowKit

set_option maxHeartbeats 1000000 in
theorem excesses_c (p s q : Value) (P S W : List Int) (w : World) (hp : Rd w p P) (hs : Rd w s S) (hq : Rd w q W) (hc : CluOk P S W) :
    Calls Try.prog 170 #[.agg #[p, s, q]] w (RetI w (exTo (proxL P S) W P.length)) := by
  have hx := Boxed.start w 40 #[p, s, q]
  have hlW : W.length = P.length := by have := hc.1; omega
  have hok := exOk_clu hc hlW (fun i hi => by have := hc.2.1 i hi; omega)
  have hp0 : 0 < W.length := by have := hc.1; omega
  have hcl1 : S.length = P.length := hc.1.2.2.1
  have hcl2 : 0 < P.length := hc.1.1
  have hcl3 : P.length ≤ 24 := hc.1.2.1
  have hcl4 : P.length ≤ 9223372036854775807 := by omega
  go_enter Try.func170, Try.ntmps170
  have c0 := hx.cell 0
  have c1 := hx.cell 1
  have c2 := hx.cell 2
  go_wp2_with fail
  have hx0 := hx.trans (Below.refl _ _).drew
  have HC : (w.alloc (.cells #[p, s, q] 40)).drew.cell? ⟨w.heap.size, 0, none⟩ = some p ∧ (w.alloc (.cells #[p, s, q] 40)).drew.cell? ⟨w.heap.size, 1, none⟩ = some s ∧ (w.alloc (.cells #[p, s, q] 40)).drew.cell? ⟨w.heap.size, 2, none⟩ = some q := ⟨hx0.cell 0, hx0.cell 1, hx0.cell 2⟩
  clear c0 c1 c2
  go_region_held3 (fun w' => w'.cell? ⟨w.heap.size, 0, none⟩ = some p ∧ w'.cell? ⟨w.heap.size, 1, none⟩ = some s ∧ w'.cell? ⟨w.heap.size, 2, none⟩ = some q)
    (first | assumption | exact HC)
    (first
      | (go_at_call 168; (with_reducible refine (clusterProximates_c _ _ _ P S W _ (hx0.rd hp) (hx0.rd hs) (hx0.rd hq) hcl1 hcl2 hcl3).mono ?_); rintro e w1 ⟨g, V, rfl, hrow, hb⟩; have hx1 := hx0.trans hb; have hrd := hrow.rd (cap := P.length) (Nat.le_refl _) hcl4; have HC : w1.cell? ⟨w.heap.size, 0, none⟩ = some p ∧ w1.cell? ⟨w.heap.size, 1, none⟩ = some s ∧ w1.cell? ⟨w.heap.size, 2, none⟩ = some q := ⟨hx1.cell 0, hx1.cell 1, hx1.cell 2⟩)
      | (go_at_call 216; (with_reducible refine (excessesOf_c _ _ (proxL P S) W _ hrd (hx1.rd hq) hok hp0).mono ?_); rintro e w2 ⟨a, k, rfl, ho, hb2⟩; have hx2 := hx1.trans hb2; have HC : w2.cell? ⟨w.heap.size, 0, none⟩ = some p ∧ w2.cell? ⟨w.heap.size, 1, none⟩ = some s ∧ w2.cell? ⟨w.heap.size, 2, none⟩ = some q := ⟨hx2.cell 0, hx2.cell 1, hx2.cell 2⟩))
  go_wp2
  go_ret
  rw [prox_len] at ho ⊢
  exact retI_mk (ho.base_le (Nat.le_of_lt hx1.size)) hx2.below

theorem min_c (v : Value) (xs : List Int) (w : World) (h : Rd w v xs) (hp : 0 < xs.length) (hn : xs.length ≤ 1000000) :
    Calls Try.prog 214 #[v] w fun e w' => e = .returned (.int .i64 (minTo xs xs.length)) ∧ w = w' := by
  obtain ⟨b, off, cap, rfl, h1, h2, hb, hc⟩ := h.cells hp
  have hz : w.cell? ⟨b, off, none⟩ = some (.int .i64 (gI xs 0)) := hc 0 hp
  go_enter Try.func214, Try.ntmps214
  go_wp2
  go_loop [3, 4] (fun m i => ∃ k : Nat, 1 ≤ k ∧ k ≤ xs.length ∧ i = .int .i64 k ∧ m = .int .i64 (minTo xs k)) (fun _ i => xs.length - (intOf i).toNat)
  case atStart => exact ⟨1, Nat.le_refl _, hp, rfl, by rw [minTo_one]⟩
  case round =>
    obtain ⟨k, hk1, hk, rfl, rfl⟩ := hrel
    clear hz
    by_cases hlt : k < xs.length
    · have hck := hc k hlt
      have HS := Lib.hid (minTo_succ xs k)
      clear hc
      generalize minTo xs k = m at HS
      generalize gI xs k = x at hck HS
      by_cases hlx : x < m
      · rw [if_pos hlx] at HS
        go_wp2
        go_round
        case rel => exact ⟨k + 1, by omega, by omega, by go_num, by rw [HS.out]⟩
        case measure => simp [intOf]; omega
      · rw [if_neg hlx] at HS
        go_wp2
        go_round
        case rel => exact ⟨k + 1, by omega, by omega, by go_num, by rw [HS.out]⟩
        case measure => simp [intOf]; omega
    · have hk' : k = xs.length := by omega
      subst hk'
      go_wp2
      go_ret
      exact ⟨rfl, rfl⟩
end Go.Proofs.Ytiinceflafigeaa

/- Contracts: spec.l07Excess, spec.l07Consistent, IsConsistent. -/
namespace Go.Proofs.Ytiinceflafigeaa
open Go.RowKit

set_option maxRecDepth 100000 in
set_option maxHeartbeats 4000000 in
theorem l07Excess_c (p s q v : Value) (P S W L : List Int) (w : World) (hp : Rd w p P) (hs : Rd w s S) (hv : Rd w v L) (hc : CluOk P S W) (hl : L.length = P.length) (hL : ∀ i, i < L.length → -1000000000000 ≤ gI L i ∧ gI L i ≤ 1000000000000) :
    Calls Try.prog 218 #[.agg #[p, s, q], v] w (RetI w (exTo (proxL P S) L P.length)) := by
  have hx := Boxed.start w 40 #[p, s, q]
  have hok := exOk_clu hc hl hL
  have hnum := hok.num
  obtain ⟨bp, op, kp, rfl, hpc1, hpc2, hpb, hpc⟩ := hp.cells hc.1.1
  obtain ⟨bs, os, ks, rfl, hsc1, hsc2, hsb, hsc⟩ := hs.cells (by have := hc.1; omega)
  obtain ⟨bv, ov, kv, rfl, hvc1, hvc2, hvb, hvc⟩ := hv.cells (by have := hc.1; omega)
  have hS := hc.1.2.2.1
  have h24 := hc.1.2.1
  have hp0 := hc.1.1
  have hl1 : P.length ≤ S.length := by omega
  have hl2 : L.length ≤ P.length := by omega
  have hl3 : P.length ≤ L.length := by omega
  have hl4 : S.length ≤ P.length := by omega
  have HL := Lib.hid hl
  clear hl hS
  go_enter Try.func218, Try.ntmps218
  go_wp2_with fail
  refine (l01Own_c _ L _ (hv.below hx.below (Nat.le_refl _)) (by omega) (by omega)).mono ?_
  rintro e w1 ⟨g, k, rfl, hown, hb⟩
  have hx1 := hx.trans hb
  obtain ⟨g', gc, hge, hg0, hg1, hg2, hg3⟩ := Own.pos hown (by omega)
  injection hge with hge1 hge2 hge3
  subst hge1 hge3
  have hg0' : w.heap.size + 1 ≤ g' := Nat.le_trans (Nat.le_of_eq (by simp)) hg0
  have hown0 := hown.base_le (base' := w.heap.size + 1) (Nat.le_of_eq (by simp))
  clear hge2
  go_wp2_with fail
  go_loopw [6] (fun i wr => ∃ j : Nat, 1 ≤ j ∧ j ≤ P.length ∧ i = .int .i64 j ∧ OwnI wr (w.heap.size + 1) (.slice (some ⟨g', 0, none⟩) L.length k) (exTo (proxL P S) L j) ∧ Boxed w wr 40 #[.slice (some ⟨bp, op, none⟩) P.length kp, .slice (some ⟨bs, os, none⟩) S.length ks, q]) (fun i _ => P.length - (intOf i).toNat)
  case atStart => exact ⟨1, Nat.le_refl _, hp0, rfl, by rw [exTo_one L hc]; exact hown0, hx1⟩
  case round =>
    obtain ⟨j, hj1, hj, rfl, hown2, hbx⟩ := hrel
    clear hown0 hown hx1 hx hb
    obtain ⟨wo, rfl⟩ : ∃ wo : World, wo = wr := ⟨_, rfl⟩
    by_cases hlt : j < P.length
    · have hjL : (j : Int) < (L.length : Int) := by omega
      have hjS : (j : Int) < (S.length : Int) := by omega
      have hjP : (j : Int) < (P.length : Int) := by omega
      have c0 := hbx.cell 0
      have c1 := hbx.cell 1
      have dL : wo.cell? ⟨bv, ov + j, none⟩ = some (.int .i64 (gI L j)) := by rw [hbx.below.cell (p := ⟨bv, ov + j, none⟩) hvb]; exact hvc j (by omega)
      have dS : wo.cell? ⟨bs, os + j, none⟩ = some (.int .i64 (gI S j)) := by rw [hbx.below.cell (p := ⟨bs, os + j, none⟩) hsb]; exact hsc j (by omega)
      have dP : wo.cell? ⟨bp, op + j, none⟩ = some (.int .i64 (gI P j)) := by rw [hbx.below.cell (p := ⟨bp, op + j, none⟩) hpb]; exact hpc j hlt
      have hn := hnum j
      obtain ⟨hp1, hp2, hp3⟩ := clu_place hc hlt (by omega)
      have hlen : (exTo (proxL P S) L j).length = L.length := exTo_len _ _ _
      have HY := Lib.hid (exTo_step (P := P) (S := S) L hlt (by omega))
      have hO : OwnI wo (w.heap.size + 1) (.slice (some ⟨g', 0, none⟩) (exTo (proxL P S) L j).length k) (exTo (proxL P S) L j) := by rw [hlen]; exact hown2
      have hcell := hO.cell (gI P j).toNat (by rw [hlen]; omega)
      have hfree := hO.free (gI P j).toNat
      have hbd := exTo_bd hok j (by rw [prox_len]; omega)
      have hsm1 := hbd (gI P j).toNat
      have hset := hO.set (gI P j).toNat (gI (exTo (proxL P S) L j) (gI P j).toNat - gI L j)
      rw [hlen] at hset
      have hbx4 := hbx.wrote ((Keeps.refl (fun k => w.heap.size + 1 ≤ k) wo).setCell (p := ⟨g', (gI P j).toNat, none⟩) hg0' (.int .i64 (gI (exTo (proxL P S) L j) (gI P j).toNat - gI L j)))
      have hxP : gI P j < (L.length : Int) := by omega
      by_cases hs : 0 ≤ gI S j
      · have HZ := Lib.hid (HY.out.trans (show exStep P S L (exTo (proxL P S) L j) j = dec (dec (exTo (proxL P S) L j) (gI P j) (gI L j)) (gI S j) (gI L j) from if_pos hs))
        have hO2 : OwnI (wo.setCell ⟨g', (gI P j).toNat, none⟩ (.int .i64 (gI (exTo (proxL P S) L j) (gI P j).toNat - gI L j))) (w.heap.size + 1) (.slice (some ⟨g', 0, none⟩) (dec (exTo (proxL P S) L j) (gI P j) (gI L j)).length k) (dec (exTo (proxL P S) L j) (gI P j) (gI L j)) := by rw [dec_len, hlen]; exact hset
        have hsm2 := decTo_bd [gI P j] (gI L j) (exTo (proxL P S) L j) (1000000000000 + 400000000000000 * (j : Int)) hn hbd 1 (gI S j).toNat
        have hsm2' : -20000000000000000 ≤ gI (dec (exTo (proxL P S) L j) (gI P j) (gI L j)) (gI S j).toNat ∧ gI (dec (exTo (proxL P S) L j) (gI P j) (gI L j)) (gI S j).toNat ≤ 20000000000000000 := by
          have e : decTo [gI P j] (gI L j) (exTo (proxL P S) L j) 1 = dec (exTo (proxL P S) L j) (gI P j) (gI L j) := rfl
          rw [e] at hsm2
          omega
        clear hsm2
        have hcell2 := hO2.cell (gI S j).toNat (by rw [dec_len, hlen]; omega)
        have hfree2 := hO2.free (gI S j).toNat
        have hset2 := hO2.set (gI S j).toNat (gI (dec (exTo (proxL P S) L j) (gI P j) (gI L j)) (gI S j).toNat - gI L j)
        rw [dec_len, hlen] at hset2
        have hset3 := hset2
        rw [show (dec (exTo (proxL P S) L j) (gI P j) (gI L j)).set (gI S j).toNat (gI (dec (exTo (proxL P S) L j) (gI P j) (gI L j)) (gI S j).toNat - gI L j) = exTo (proxL P S) L (j + 1) from HZ.out.symm] at hset3
        have hbx5 := hbx4.wrote ((Keeps.refl (fun k => w.heap.size + 1 ≤ k) _).setCell (p := ⟨g', (gI S j).toNat, none⟩) hg0' (.int .i64 (gI (dec (exTo (proxL P S) L j) (gI P j) (gI L j)) (gI S j).toNat - gI L j)))
        have hxS : gI S j < (L.length : Int) := by omega
        have f0 := hbx4.cell 0
        have f1 := hbx4.cell 1
        have e0 : (wo.setCell ⟨g', (gI P j).toNat, none⟩ (.int .i64 (gI (exTo (proxL P S) L j) (gI P j).toNat - gI L j))).cell? ⟨bv, ov + j, none⟩ = some (.int .i64 (gI L j)) := by rw [hbx4.below.cell (p := ⟨bv, ov + j, none⟩) hvb]; exact hvc j (by omega)
        have e1 : (wo.setCell ⟨g', (gI P j).toNat, none⟩ (.int .i64 (gI (exTo (proxL P S) L j) (gI P j).toNat - gI L j))).cell? ⟨bs, os + j, none⟩ = some (.int .i64 (gI S j)) := by rw [hbx4.below.cell (p := ⟨bs, os + j, none⟩) hsb]; exact hsc j (by omega)
        have HS := Lib.hid hset3
        have HB := Lib.hid hbx5
        clear hset hset2 hset3 hO hO2 hown2 hlen hbx hbx4 hbx5 hbd HY HZ
        generalize gI (dec (exTo (proxL P S) L j) (gI P j) (gI L j)) (gI S j).toNat = y2 at hcell2 hsm2' HS HB
        generalize gI (exTo (proxL P S) L j) (gI P j).toNat = y at hcell hsm1 HS HB e0 e1 f0 f1 hcell2 hfree2
        generalize gI L j = z at dL hn HS HB hcell2 hfree2 e0 e1 f0 f1
        generalize gI P j = x at dP hcell hfree hxP hp1 hp2 HS HB hcell2 hfree2 e0 e1 f0 f1
        generalize gI S j = x' at dS hs hxS hp3 hcell2 hfree2 HS HB e1
        obtain ⟨hs0, hs1⟩ := hsm1
        obtain ⟨hs2, hs3⟩ := hsm2'
        obtain ⟨hn0, hn1⟩ := hn
        go_wp2_with fail
        go_still_tail 20, (by kernel_rfl)
        change wpList _ _ _ _ _ wo.drew
        go_wp2_with fail
        clear c0 c1 dL dS dP hcell hfree
        obtain ⟨wq, hW⟩ : ∃ wq : World, wq = (wo.setCell ⟨g', x.toNat, none⟩ (.int .i64 (y - z))).drew := ⟨_, rfl⟩
        replace f1 : wq.cell? ⟨w.heap.size, 1, none⟩ = some (.slice (some ⟨bs, os, none⟩) S.length ks) := by rw [hW]; exact f1
        replace e0 : wq.cell? ⟨bv, ov + j, none⟩ = some (.int .i64 z) := by rw [hW]; exact e0
        replace e1 : wq.cell? ⟨bs, os + j, none⟩ = some (.int .i64 x') := by rw [hW]; exact e1
        replace hcell2 : wq.cell? ⟨g', x'.toNat, none⟩ = some (.int .i64 y2) := by rw [hW]; exact hcell2
        replace hfree2 : wq.frozen? ⟨g', x'.toNat, none⟩ = false := by rw [hW]; exact hfree2
        replace HS : Hid (OwnI (wq.setCell ⟨g', x'.toNat, none⟩ (.int .i64 (y2 - z))) (w.heap.size + 1) (.slice (some ⟨g', 0, none⟩) L.length k) (exTo (proxL P S) L (j + 1))) := by rw [hW]; exact HS
        replace HB : Hid (Boxed w (wq.setCell ⟨g', x'.toNat, none⟩ (.int .i64 (y2 - z))) 40 #[.slice (some ⟨bp, op, none⟩) P.length kp, .slice (some ⟨bs, os, none⟩) S.length ks, q]) := by rw [hW]; exact Lib.hid (HB.out.trans (Below.refl _ _).drew)
        rw [← hW]
        clear f0 hW
        go_still_tail 20, (by kernel_rfl)
        change wpList _ _ _ _ _ wq.drew
        go_wp2
        go_roundw
        case rel => exact ⟨j + 1, by omega, by omega, by go_num, HS.out, HB.out.trans (Below.refl _ _).drew⟩
        case measure => simp [intOf]; omega
      · have HZ := Lib.hid (HY.out.trans (show exStep P S L (exTo (proxL P S) L j) j = dec (exTo (proxL P S) L j) (gI P j) (gI L j) from if_neg hs))
        have hset3 := hset
        rw [show (exTo (proxL P S) L j).set (gI P j).toNat (gI (exTo (proxL P S) L j) (gI P j).toNat - gI L j) = exTo (proxL P S) L (j + 1) from HZ.out.symm] at hset3
        have e1 : (wo.setCell ⟨g', (gI P j).toNat, none⟩ (.int .i64 (gI (exTo (proxL P S) L j) (gI P j).toNat - gI L j))).cell? ⟨bs, os + j, none⟩ = some (.int .i64 (gI S j)) := by rw [hbx4.below.cell (p := ⟨bs, os + j, none⟩) hsb]; exact hsc j (by omega)
        have f1 := hbx4.cell 1
        have HS := Lib.hid hset3
        have HB := Lib.hid hbx4
        clear hset hset3 hO hown2 hlen hbx hbx4 hbd HY HZ
        generalize gI (exTo (proxL P S) L j) (gI P j).toNat = y at hcell hsm1 HS HB e1 f1
        generalize gI L j = z at dL hn HS HB e1 f1
        generalize gI P j = x at dP hcell hfree hxP hp1 hp2 HS HB e1 f1
        generalize gI S j = x' at dS hs e1 hp3
        obtain ⟨hs0, hs1⟩ := hsm1
        obtain ⟨hn0, hn1⟩ := hn
        go_wp2_with fail
        go_still_tail 20, (by kernel_rfl)
        change wpList _ _ _ _ _ wo.drew
        go_wp2
        go_roundw
        case rel => exact ⟨j + 1, by omega, by omega, by go_num, HS.out, HB.out.trans (Below.refl _ _).drew⟩
        case measure => simp [intOf]; omega
    · go_wp2
      have hj' : j = P.length := by omega
      subst hj'
      go_ret
      exact retI_mk (hown2.base_le (by omega)) hbx.below
end Go.Proofs.Ytiinceflafigeaa

/- Contracts: consistent, IsConsistent. -/
namespace Go.Proofs.Ytiinceflafigeaa
open Go.RowKit

set_option maxHeartbeats 1000000 in
theorem consistent_c (p s q : Value) (P S W : List Int) (w : World) (hp : Rd w p P) (hs : Rd w s S) (hq : Rd w q W) (hc : CluOk P S W) :
    Calls Try.prog 166 #[.agg #[p, s, q]] w fun e w' => e = .returned (.bool (nonNeg (exTo (proxL P S) W P.length))) ∧ Below w.heap.size w w' := by
  have hx := Boxed.start w 40 #[p, s, q]
  have hl : (exTo (proxL P S) W P.length).length = W.length := exTo_len _ _ _
  have h0 := hc.1.1
  have h24 := hc.1.2.1
  have hlW : W.length = P.length := by have := hc.1; omega
  generalize hLd : exTo (proxL P S) W P.length = L at hl ⊢
  have hn1 : 0 < L.length := by omega
  have hn2 : L.length ≤ 24 := by omega
  have HW := Lib.hid hlW
  clear hl hlW
  go_enter Try.func166, Try.ntmps166
  have c0 := hx.cell 0
  have c1 := hx.cell 1
  have c2 := hx.cell 2
  go_wp2_with fail
  have hcall := excesses_c _ _ _ P S W _ (hx.rd hp) (hx.rd hs) (hx.rd hq) hc
  rw [hLd] at hcall
  refine hcall.mono ?_
  rintro e w1 ⟨g, k, rfl, ho, hb⟩
  have hx1 := hx.trans hb
  clear c0 c1 c2
  go_wp2_with fail
  refine (min_c _ L w1 ho.rd hn1 (by omega)).mono ?_
  rintro e w2 ⟨rfl, rfl⟩
  have HN := Lib.hid (min_nonNeg (L := L) (by omega))
  generalize minTo L L.length = m at HN
  go_wp2
  go_ret
  exact ⟨ret_bool HN.out.symm, hx1.below⟩

theorem implIsConsistent_yes (p s q : Value) (P S W : List Int) (w : World) (hp : Rd w p P) (hs : Rd w s S) (hq : Rd w q W) (hc : cluB P S W = true) :
    Calls Try.prog 65 #[.agg #[p, s, q]] w fun e w' => e = .returned (.tuple #[.bool (nonNeg (exTo (proxL P S) W P.length)), .int .i64 0]) ∧ Below w.heap.size w w' := by
  have hx := Boxed.start w 40 #[p, s, q]
  go_enter Try.func65, Try.ntmps65
  go_wp2_with fail
  refine (implIsCluster_c _ _ _ P S W _ (hx.rd hp) (hx.rd hs) (hx.rd hq)).mono ?_
  rintro e w1 ⟨rfl, hb⟩
  have hx1 := hx.trans hb
  have c0 := hx1.cell 0
  have c1 := hx1.cell 1
  have c2 := hx1.cell 2
  go_wp2_with fail
  refine (consistent_c _ _ _ P S W _ (hx1.rd hp) (hx1.rd hs) (hx1.rd hq) (cluB_iff.1 hc)).mono ?_
  rintro e w2 ⟨rfl, hb2⟩
  go_wp2
  go_ret2
  exact ⟨rfl, (hx1.trans hb2).below⟩

theorem implIsConsistent_no (p s q : Value) (P S W : List Int) (w : World) (hp : Rd w p P) (hs : Rd w s S) (hq : Rd w q W) (hc : cluB P S W = false) :
    Calls Try.prog 65 #[.agg #[p, s, q]] w fun e w' => e = .returned (.tuple #[.bool false, .int .i64 1]) ∧ Below w.heap.size w w' := by
  have hx := Boxed.start w 40 #[p, s, q]
  obtain ⟨a1, k1, rfl⟩ := hp.len0
  obtain ⟨a2, k2, rfl⟩ := hs.len0
  obtain ⟨a3, k3, rfl⟩ := hq.len0
  go_enter Try.func65, Try.ntmps65
  go_wp2_with fail
  refine (implIsCluster_c _ _ _ P S W _ (hx.rd hp) (hx.rd hs) (hx.rd hq)).mono ?_
  rintro e w1 ⟨rfl, hb⟩
  go_wp2
  go_ret2
  exact ⟨rfl, (hx.trans hb).below⟩

theorem implIsConsistent_c (p s q : Value) (P S W : List Int) (w : World) (hp : Rd w p P) (hs : Rd w s S) (hq : Rd w q W) :
    Calls Try.prog 65 #[.agg #[p, s, q]] w fun e w' => e = .returned (.tuple #[.bool (cluB P S W && nonNeg (exTo (proxL P S) W P.length)), .int .i64 (okC (cluB P S W) 1)]) ∧ Below w.heap.size w w' := by
  cases hc : cluB P S W
  · rw [Bool.false_and, okC_false rfl]; exact implIsConsistent_no p s q P S W w hp hs hq hc
  · rw [Bool.true_and, okC_true rfl]; exact implIsConsistent_yes p s q P S W w hp hs hq hc

end Go.Proofs.Ytiinceflafigeaa
