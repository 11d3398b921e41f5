/- Contracts: SemigroupBinomials, the reference. -/
import Derived.Test.YtiinceflafigeaaSb
namespace Go.Proofs.Ytiinceflafigeaa
open Go.RowKit

theorem specSb_no (v : Value) (T : List Int) (w : World) (h : Rd w v T) (hc : braB T = false) :
    Calls Try.prog 99 #[.agg #[v]] w (RetMC 2 w [] 1) := by
  have hx := Boxed.start w 26 #[v]
  obtain ⟨a, k, rfl⟩ := h.len0
  have c0 := hx.cell 0
  go_enter Try.func99, Try.ntmps99
  go_wp2_with fail
  refine (l03Is_c _ T _ (hx.rd h)).mono ?_
  rintro e w1 ⟨rfl, hb⟩
  rw [hc]
  go_wp2
  go_ret2
  exact retMC_nil (hx.trans hb).below

set_option maxRecDepth 100000 in
set_option maxHeartbeats 4000000 in
theorem specSb_yes (v : Value) (T : List Int) (w : World) (h : Rd w v T) (hc : braB T = true) :
    Calls Try.prog 99 #[.agg #[v]] w (RetMC 2 w (sbL T) 0) := by
  obtain ⟨j0, ji, jz0, jz1, jz2⟩ := info_parts Try.infoII
  have hx := Boxed.start w 26 #[v]
  have hok := braB_iff.1 hc
  have hp := hok.len
  have hl := bra_len hok
  have hn1 : T.length ≤ 1000 := by omega
  have hn2 : ∀ i, i < T.length → 1 ≤ gI T i ∧ gI T i ≤ 1000000000000 := fun i hi => by have := hok.num i hi; omega
  obtain ⟨b, off, cap, rfl, hc1, hc2, hb, hcc⟩ := h.cells hp
  have hlp : (0 : Int) < (T.length : Int) := by omega
  have c0 := hx.cell 0
  go_enter Try.func99, Try.ntmps99
  go_wp2_with fail
  refine (l03Is_c _ T _ (hx.rd h)).mono ?_
  rintro e w1 ⟨rfl, hb1⟩
  rw [hc]
  have hx1 := hx.trans hb1
  have hz1 := hx1.size
  clear c0 hx hb1
  go_wp2_with fail
  go_cut [4, 5, 6] from 11 to 15 (fun s4 s5 s6 wc => ∃ g1 k1 g2 k2 gz : Nat, s4 = .slice (some ⟨g1, 0, none⟩) T.length k1 ∧ s5 = .slice (some ⟨g2, 0, none⟩) T.length k2 ∧ s6 = .slice (some ⟨gz, 0, none⟩) 0 0 ∧ OwnI wc 0 (.slice (some ⟨g1, 0, none⟩) T.length k1) (eTo T T.length) ∧ OwnI wc 0 (.slice (some ⟨g2, 0, none⟩) T.length k2) (vTo T T.length) ∧ Blk wc gz 24 #[] ∧ gz ≠ g1 ∧ gz ≠ g2 ∧ w.heap.size + 1 ≤ gz ∧ Boxed w wc 26 #[.slice (some ⟨b, off, none⟩) T.length cap])
  case first =>
    have HC : w1.cell? ⟨w.heap.size, 0, none⟩ = some (.slice (some ⟨b, off, none⟩) T.length cap) := hx1.cell 0
    have HA : (w1.alloc (.cells #[] 24)).cell? ⟨w.heap.size, 0, none⟩ = some (.slice (some ⟨b, off, none⟩) T.length cap) := (hx1.alloc _).cell 0
    go_region_held3 (fun w' => w'.cell? ⟨w.heap.size, 0, none⟩ = some (.slice (some ⟨b, off, none⟩) T.length cap))
      (first | assumption | exact HC | exact HA)
      (first
        | (go_at_call 139; have hst : Below w1.heap.size w1 w1.drew := (Below.refl _ _).drew; have hsa : w1.heap.size ≤ w1.drew.heap.size := Nat.le_refl _; have hX := (hx1).trans (show Below w1.heap.size w1 w1.drew from (Below.refl _ _).drew); (with_reducible refine (l03Divisors_c _ T _ (hX.rd h) hp hn1 hn2).mono ?_); rintro e wa ⟨ga, ka, rfl, oa, hq⟩; have hxa := hX.trans hq; have rga := oa.block; have hta := hq.size; (try have E := Blk.stays E hq); have HC : wa.cell? ⟨w.heap.size, 0, none⟩ = some (.slice (some ⟨b, off, none⟩) T.length cap) := hxa.cell 0; have HA : (wa.alloc (.cells #[] 24)).cell? ⟨w.heap.size, 0, none⟩ = some (.slice (some ⟨b, off, none⟩) T.length cap) := (hxa.alloc _).cell 0)
        | (go_at_call 140; have hst : Below w1.heap.size w1 w1.drew := (Below.refl _ _).drew; have hsb : w1.heap.size ≤ w1.drew.heap.size := Nat.le_refl _; have hX := (hx1).trans (show Below w1.heap.size w1 w1.drew from (Below.refl _ _).drew); (with_reducible refine (l05Generators_c _ T _ (hX.rd h) hok).mono ?_); rintro e wb ⟨gb, kb, rfl, ob, hq⟩; have hxb := hX.trans hq; have rgb := ob.block; have htb := hq.size; (try have E := Blk.stays E hq); have HC : wb.cell? ⟨w.heap.size, 0, none⟩ = some (.slice (some ⟨b, off, none⟩) T.length cap) := hxb.cell 0; have HA : (wb.alloc (.cells #[] 24)).cell? ⟨w.heap.size, 0, none⟩ = some (.slice (some ⟨b, off, none⟩) T.length cap) := (hxb.alloc _).cell 0)
        | (go_at_call 139; have hst : Below wb.heap.size wb wb := Below.refl _ _; have hsa : wb.heap.size ≤ wb.heap.size := Nat.le_refl _; have hX := hxb; have ob := ob.below hst (Nat.le_refl _); (with_reducible refine (l03Divisors_c _ T _ (hX.rd h) hp hn1 hn2).mono ?_); rintro e wa ⟨ga, ka, rfl, oa, hq⟩; have hxa := hX.trans hq; have rga := oa.block; have hta := hq.size; have ob := ob.below hq (Nat.le_refl _); (try have E := Blk.stays E hq); have HC : wa.cell? ⟨w.heap.size, 0, none⟩ = some (.slice (some ⟨b, off, none⟩) T.length cap) := hxa.cell 0; have HA : (wa.alloc (.cells #[] 24)).cell? ⟨w.heap.size, 0, none⟩ = some (.slice (some ⟨b, off, none⟩) T.length cap) := (hxa.alloc _).cell 0)
        | (go_at_call 140; have hst : Below wa.heap.size wa wa := Below.refl _ _; have hsb : wa.heap.size ≤ wa.heap.size := Nat.le_refl _; have hX := hxa; have oa := oa.below hst (Nat.le_refl _); (with_reducible refine (l05Generators_c _ T _ (hX.rd h) hok).mono ?_); rintro e wb ⟨gb, kb, rfl, ob, hq⟩; have hxb := hX.trans hq; have rgb := ob.block; have htb := hq.size; have oa := oa.below hq (Nat.le_refl _); (try have E := Blk.stays E hq); have HC : wb.cell? ⟨w.heap.size, 0, none⟩ = some (.slice (some ⟨b, off, none⟩) T.length cap) := hxb.cell 0; have HA : (wb.alloc (.cells #[] 24)).cell? ⟨w.heap.size, 0, none⟩ = some (.slice (some ⟨b, off, none⟩) T.length cap) := (hxb.alloc _).cell 0)
        | (go_at_call 139; have hst : Below wb.heap.size wb (wb.alloc (.cells #[] 24)) := (Below.refl _ _).alloc (Nat.le_refl _) _; have hsa : wb.heap.size + 1 ≤ (wb.alloc (.cells #[] 24)).heap.size := (by simp); have hX := hxb.alloc (.cells #[] 24); have ob := ob.below hst (Nat.le_refl _); (with_reducible refine (l03Divisors_c _ T _ (hX.rd h) hp hn1 hn2).mono ?_); rintro e wa ⟨ga, ka, rfl, oa, hq⟩; have hxa := hX.trans hq; have rga := oa.block; have hta := hq.size; have ob := ob.below hq (Nat.le_refl _); have E := (Blk.new wb 24 #[]).stays hq; have HC : wa.cell? ⟨w.heap.size, 0, none⟩ = some (.slice (some ⟨b, off, none⟩) T.length cap) := hxa.cell 0; have HA : (wa.alloc (.cells #[] 24)).cell? ⟨w.heap.size, 0, none⟩ = some (.slice (some ⟨b, off, none⟩) T.length cap) := (hxa.alloc _).cell 0)
        | (go_at_call 140; have hst : Below wa.heap.size wa (wa.alloc (.cells #[] 24)) := (Below.refl _ _).alloc (Nat.le_refl _) _; have hsb : wa.heap.size + 1 ≤ (wa.alloc (.cells #[] 24)).heap.size := (by simp); have hX := hxa.alloc (.cells #[] 24); have oa := oa.below hst (Nat.le_refl _); (with_reducible refine (l05Generators_c _ T _ (hX.rd h) hok).mono ?_); rintro e wb ⟨gb, kb, rfl, ob, hq⟩; have hxb := hX.trans hq; have rgb := ob.block; have htb := hq.size; have oa := oa.below hq (Nat.le_refl _); have E := (Blk.new wa 24 #[]).stays hq; have HC : wb.cell? ⟨w.heap.size, 0, none⟩ = some (.slice (some ⟨b, off, none⟩) T.length cap) := hxb.cell 0; have HA : (wb.alloc (.cells #[] 24)).cell? ⟨w.heap.size, 0, none⟩ = some (.slice (some ⟨b, off, none⟩) T.length cap) := (hxb.alloc _).cell 0)
        | (go_at_call 139; have hst : Below w1.heap.size w1 (w1.alloc (.cells #[] 24)).drew := ((Below.refl _ _).alloc (Nat.le_refl _) _).drew; have hsa : w1.heap.size + 1 ≤ (w1.alloc (.cells #[] 24)).drew.heap.size := (by simp); have hX := (hx1.alloc (.cells #[] 24)).trans (show Below (w1.alloc (.cells #[] 24)).heap.size (w1.alloc (.cells #[] 24)) (w1.alloc (.cells #[] 24)).drew from (Below.refl _ _).drew); (with_reducible refine (l03Divisors_c _ T _ (hX.rd h) hp hn1 hn2).mono ?_); rintro e wa ⟨ga, ka, rfl, oa, hq⟩; have hxa := hX.trans hq; have rga := oa.block; have hta := hq.size; have E := ((Blk.new w1 24 #[]).drewN 1).stays hq; have HC : wa.cell? ⟨w.heap.size, 0, none⟩ = some (.slice (some ⟨b, off, none⟩) T.length cap) := hxa.cell 0; have HA : (wa.alloc (.cells #[] 24)).cell? ⟨w.heap.size, 0, none⟩ = some (.slice (some ⟨b, off, none⟩) T.length cap) := (hxa.alloc _).cell 0)
        | (go_at_call 140; have hst : Below w1.heap.size w1 (w1.alloc (.cells #[] 24)).drew := ((Below.refl _ _).alloc (Nat.le_refl _) _).drew; have hsb : w1.heap.size + 1 ≤ (w1.alloc (.cells #[] 24)).drew.heap.size := (by simp); have hX := (hx1.alloc (.cells #[] 24)).trans (show Below (w1.alloc (.cells #[] 24)).heap.size (w1.alloc (.cells #[] 24)) (w1.alloc (.cells #[] 24)).drew from (Below.refl _ _).drew); (with_reducible refine (l05Generators_c _ T _ (hX.rd h) hok).mono ?_); rintro e wb ⟨gb, kb, rfl, ob, hq⟩; have hxb := hX.trans hq; have rgb := ob.block; have htb := hq.size; have E := ((Blk.new w1 24 #[]).drewN 1).stays hq; have HC : wb.cell? ⟨w.heap.size, 0, none⟩ = some (.slice (some ⟨b, off, none⟩) T.length cap) := hxb.cell 0; have HA : (wb.alloc (.cells #[] 24)).cell? ⟨w.heap.size, 0, none⟩ = some (.slice (some ⟨b, off, none⟩) T.length cap) := (hxb.alloc _).cell 0))
    all_goals
      obtain ⟨ea, ec, he1, _, _, _, _⟩ := Own.pos oa (by simp; omega)
      obtain ⟨eb, ed, he2, _, _, _, _⟩ := Own.pos ob (by simp; omega)
      injection he1 with u1 u2 u3
      injection he2 with v1 v2 v3
      subst u1 v1
      have ra := rga ea rfl
      have rb := rgb eb rfl
      rw [eTo_len] at oa
      rw [vTo_len] at ob
      have oa := oa.base_le (Nat.zero_le _)
      have ob := ob.base_le (Nat.zero_le _)
      clear HC HA rga rgb u2 v2
      go_wp2
      go_meet
      first
        | exact ⟨ea, _, eb, _, _, rfl, rfl, rfl, oa, ob, E, by omega, by omega, by omega, hxb⟩
        | exact ⟨ea, _, eb, _, _, rfl, rfl, rfl, oa, ob, E, by omega, by omega, by omega, hxa⟩
        | exact ⟨ea, _, eb, _, _, rfl, rfl, rfl, oa.below ((Below.refl _ _).alloc (Nat.le_refl _) _) (Nat.le_refl _), ob.below ((Below.refl _ _).alloc (Nat.le_refl _) _) (Nat.le_refl _), Blk.new wb _ _, by omega, by omega, by omega, hxb.alloc _⟩
        | exact ⟨ea, _, eb, _, _, rfl, rfl, rfl, oa.below ((Below.refl _ _).alloc (Nat.le_refl _) _) (Nat.le_refl _), ob.below ((Below.refl _ _).alloc (Nat.le_refl _) _) (Nat.le_refl _), Blk.new wa _ _, by omega, by omega, by omega, hxa.alloc _⟩
  case rest =>
    obtain ⟨g1, k1, g2, k2, gz, rfl, rfl, rfl, o1, o2, E, n1, n2, hgz, hbx⟩ := hcut
    clear hx1
    obtain ⟨wd, rfl⟩ : ∃ wo : World, wo = wc := ⟨_, rfl⟩
    have hE : GrowM 2 24 wd (w.heap.size + 1) (.slice (some ⟨gz, 0, none⟩) 0 0) [] [] := GrowM.of_blk E hgz
    clear E
    go_wp2_with fail
    go_loopw [6, 7] (fun lv iv wr => ∃ j g c : Nat, ∃ vs, j < T.length ∧ iv = .int .i64 ((j : Int) + 1) ∧ lv = .slice (some ⟨g, 0, none⟩) (sbTo T j).length c ∧ GrowM 2 24 wr (w.heap.size + 1) (.slice (some ⟨g, 0, none⟩) (sbTo T j).length c) vs (sbTo T j) ∧ g ≠ g1 ∧ g ≠ g2 ∧ OwnI wr 0 (.slice (some ⟨g1, 0, none⟩) T.length k1) (eTo T T.length) ∧ OwnI wr 0 (.slice (some ⟨g2, 0, none⟩) T.length k2) (vTo T T.length) ∧ Boxed w wr 26 #[.slice (some ⟨b, off, none⟩) T.length cap]) (fun _ iv _ => T.length - (intOf iv).toNat)
    case atStart => exact ⟨0, gz, 0, [], hp, rfl, rfl, hE, n1, n2, o1, o2, hbx⟩
    case round =>
      obtain ⟨j, g, c, vs, hj, rfl, rfl, hG, m1, m2, oe, ov, hbx2⟩ := hrel
      clear hE o1 o2 hbx
      obtain ⟨wo, rfl⟩ : ∃ wo : World, wo = wr := ⟨_, rfl⟩
      have hsl : w.heap.size + 1 ≤ wo.heap.size := hbx2.size
      have hGl := hG.block g rfl
      have hlen := sbTo_len T j
      have le1 := (oe.block g1 rfl).2
      have le2 := (ov.block g2 rfl).2
      have oeC := (show OwnI wo 0 (.slice (some ⟨g1, 0, none⟩) (eTo T T.length).length k1) (eTo T T.length) by rw [eTo_len]; exact oe)
      have ovC := (show OwnI wo 0 (.slice (some ⟨g2, 0, none⟩) (vTo T T.length).length k2) (vTo T T.length) by rw [vTo_len]; exact ov)
      by_cases hlt : j + 1 < T.length
      · have dB := ovC.cell (j + 1) (by simp; omega)
        have dA := oeC.cell (j + 1) (by simp; omega)
        have dA0 := oeC.cell j (by simp; omega)
        rw [gI_vTo hlt] at dB
        rw [gI_eTo hlt] at dA
        rw [gI_eTo hj] at dA0
        have b0 := eI_bd hok (j + 1)
        have b6 := eI_bd hok j
        have b1 := rI_bd hok (j + 1)
        have b2 := vI_bd hok hlt
        have HY := Lib.hid (sbTo_succ T j)
        have HL := Lib.hid (show (sbTo T (j + 1)).length = (sbTo T j).length + 2 by rw [sbTo_len, sbTo_len]; omega)
        rw [rI_succ] at b1 HY
        generalize eI T (j + 1) = y at dA b0 b1 HY
        generalize eI T j = x at dA0 b6 b1 HY
        generalize vI T (j + 1) = z at dB b2 HY
        have hyn : ¬ y = 0 := by omega
        have htd : Int.tdiv x y = x / y := Int.tdiv_eq_ediv_of_nonneg (by omega)
        have b5 := mul_bd (a := x / y) (A := 64) (b := z) (B := 1000000000000000) (by omega) (by omega) (by omega) (by omega)
        have w5 : IntKind.i64.wrap (x / y) = x / y := IntWalk.i64_in _ (by omega)
        have w6 : IntKind.i64.wrap (x / y * z) = x / y * z := IntWalk.i64_in _ (by omega)
        have f1 : (j : Int) + 1 - 1 = (j : Int) := by omega
        have f2 : IntKind.i64.wrap (j : Int) = (j : Int) := IntWalk.i64_in _ (by omega)
        have f3 : (0 : Int) ≤ (j : Int) := by omega
        have f4 : (j : Int) < (T.length : Int) := by omega
        have f5 : (j : Int) + 1 < (T.length : Int) := by omega
        have f6 : (0 : Int) ≤ (j : Int) + 1 := by omega
        have f7 : ((j : Int) + 1).toNat = j + 1 := by omega
        have hlr : (sbTo T j).length ≤ 1000000 := by omega
        have SS : ∀ wr : World, Below wo.heap.size wo wr → wr.cell? ⟨g1, j, none⟩ = some (.int .i64 x) ∧ wr.cell? ⟨g1, j + 1, none⟩ = some (.int .i64 y) ∧ wr.cell? ⟨g2, j + 1, none⟩ = some (.int .i64 z) := fun wr hk => ⟨by rw [hk.cell (p := ⟨g1, j, none⟩) le1]; exact dA0, by rw [hk.cell (p := ⟨g1, j + 1, none⟩) le1]; exact dA, by rw [hk.cell (p := ⟨g2, j + 1, none⟩) le2]; exact dB⟩
        have HKC : ∀ (W W' : World), Keeps (fun k => (Value.slice (some ⟨g, 0, none⟩) (sbTo T j).length c).ownBlock = some k) W W' → wo.heap.size ≤ W.heap.size → ∀ i, W'.cell? ⟨g1, i, none⟩ = W.cell? ⟨g1, i, none⟩ ∧ W'.cell? ⟨g2, i, none⟩ = W.cell? ⟨g2, i, none⟩ := fun W W' hk hs i => ⟨hk.cell (p := ⟨g1, i, none⟩) (show g1 < W.heap.size by omega) (fun e => by simp [Value.ownBlock] at e; omega), hk.cell (p := ⟨g2, i, none⟩) (show g2 < W.heap.size by omega) (fun e => by simp [Value.ownBlock] at e; omega)⟩
        clear dA dB dA0 hlen oeC ovC
        go_wp2_with fail
        go_region_held3 (fun w' => w'.cell? ⟨g1, j, none⟩ = some (.int .i64 x) ∧ w'.cell? ⟨g1, j + 1, none⟩ = some (.int .i64 y) ∧ w'.cell? ⟨g2, j + 1, none⟩ = some (.int .i64 z))
          (first | assumption | exact HS2 | exact SS _ (by first | exact (Below.refl _ _).drew | exact below1 _ _ | exact below2 _ _ _ | exact below3 _ _ _ _))
          (first | (refine step_pushR2 rfl (.tmp 22) (.tmp 44) 64 rfl (w.heap.size + 1) 2 24 j0 Try.underlying64 ji jz0 jz1 jz2 wo (.slice (some ⟨g, 0, none⟩) (sbTo T j).length c) vs (sbTo T j) _ _ _ (x / y * z) 1 z (-1) rfl hG (below3 _ _ _ _) rfl (blk_c _ _ _ _ _ _ _) (by first | exact blk_a _ _ _ _ _ _ _ | exact blk_b _ _ _ _ _ _ _) (by first | exact blk_a _ _ _ _ _ _ _ | exact blk_b _ _ _ _ _ _ _) (by omega) (by omega) (by omega) hlr hsl ?_; intro g3 c3 w2 hG3 hkp hg3; have HS2 : w2.cell? ⟨g1, j, none⟩ = some (.int .i64 x) ∧ w2.cell? ⟨g1, j + 1, none⟩ = some (.int .i64 y) ∧ w2.cell? ⟨g2, j + 1, none⟩ = some (.int .i64 z) := ⟨(HKC _ _ hkp (below3 _ _ _ _).size j).1.trans (SS _ (below3 _ _ _ _)).1, (HKC _ _ hkp (below3 _ _ _ _).size (j + 1)).1.trans (SS _ (below3 _ _ _ _)).2.1, (HKC _ _ hkp (below3 _ _ _ _).size (j + 1)).2.trans (SS _ (below3 _ _ _ _)).2.2⟩))
        all_goals
          have hbx3 := (hbx2.trans (below3 wo _ _ _)).wrote (hkp.mono (M' := fun k => w.heap.size + 1 ≤ k) (fun k hk => by simp [Value.ownBlock] at hk; omega))
          have oe3 := (oe.below (below3 wo _ _ _) (Nat.le_refl _)).keeps hkp (fun k h1 h2 => by simp [Value.ownBlock] at h1 h2; omega)
          have ov3 := (ov.below (below3 wo _ _ _) (Nat.le_refl _)).keeps hkp (fun k h1 h2 => by simp [Value.ownBlock] at h1 h2; omega)
          have hg3' : g = g3 ∨ wo.heap.size ≤ g3 := hg3.imp (fun h => by simpa [Value.ownBlock] using h) id
          rw [← HY.out, ← HL.out] at hG3
          clear hkp HS2 SS HKC oe ov hG hbx2 hg3
          go_wp2
          go_roundw
          case rel => exact ⟨j + 1, g3, c3, _, hlt, by go_num, by rw [HL.out], hG3, by omega, by omega, oe3, ov3, hbx3⟩
          case measure => simp [intOf]; omega
      · have HJ : T.length - 1 = j := by omega
        have f5 : (T.length : Int) ≤ (j : Int) + 1 := by omega
        have f6 : ¬ (j : Int) + 1 < (T.length : Int) := by omega
        by_cases h1 : T.length = 1
        · have hj0 : j = 0 := by omega
          subst hj0
          rw [sbTo_zero] at hG ⊢
          have HS := Lib.hid (sbL_one h1)
          have f8 : ¬ (T.length : Int) > 1 := by omega
          have f9 : ¬ (1 : Int) < (T.length : Int) := by omega
          go_wp2
          go_ret2
          rw [HS.out]
          exact retMC_mk (hG.own.base_le (by omega)) hbx2.below
        · have HS := Lib.hid (sbL_more h1)
          have d0' := ovC.cell 0 (by simp; omega)
          rw [gI_vTo hp] at d0'
          have f8 : (T.length : Int) > 1 := by omega
          have f9 : (1 : Int) < (T.length : Int) := by omega
          have hlr : (sbTo T j).length ≤ 1000000 := by omega
          generalize vI T 0 = z at d0' HS
          clear hlen oeC ovC
          go_wp2_with (at_builtin; refine wpList_pushR2 rfl (.tmp 49) (.tmp 55) 64 rfl (w.heap.size + 1) 2 24 j0 Try.underlying64 ji jz0 jz1 jz2 wo (.slice (some ⟨g, 0, none⟩) (sbTo T j).length c) vs (sbTo T j) _ _ _ z (-1) 1 1 rfl hG (below3n _ _ _ _) rfl (blk_c _ _ _ _ _ _ _) (by first | exact blk_a _ _ _ _ _ _ _ | exact blk_b _ _ _ _ _ _ _) (by first | exact blk_a _ _ _ _ _ _ _ | exact blk_b _ _ _ _ _ _ _) (by omega) (by omega) (by omega) hlr hsl ?_; intro g3 c3 w2 hG3 hkp _)
          have hbx3 := (hbx2.trans (below3n wo _ _ _)).wrote (hkp.mono (M' := fun k => w.heap.size + 1 ≤ k) (fun k hk => by simp [Value.ownBlock] at hk; omega))
          go_ret2
          rw [HS.out, HJ]
          have e : (sbTo T j).length + 2 = (sbTo T j ++ [[z, -1], [1, 1]]).length := by simp
          rw [e] at hG3 ⊢
          exact retMC_mk (hG3.own.base_le (by omega)) hbx3.below

theorem implSb_c (v : Value) (T : List Int) (w : World) (h : Rd w v T) :
    Calls Try.prog 98 #[.agg #[v]] w (RetMC 2 w (okR (braB T) (sbL T)) (okC (braB T) 1)) := by
  cases hc : braB T
  · rw [okR_false rfl, okC_false rfl]; exact implSb_no v T w h hc
  · rw [okR_true rfl, okC_true rfl]; exact implSb_yes v T w h hc
theorem specSb_c (v : Value) (T : List Int) (w : World) (h : Rd w v T) :
    Calls Try.prog 99 #[.agg #[v]] w (RetMC 2 w (okR (braB T) (sbL T)) (okC (braB T) 1)) := by
  cases hc : braB T
  · rw [okR_false rfl, okC_false rfl]; exact specSb_no v T w h hc
  · rw [okR_true rfl, okC_true rfl]; exact specSb_yes v T w h hc
theorem gR_app_ge {R S : List (List Int)} {i : Nat} (h : ¬ i < R.length) : gR (R ++ S) i = gR S (i - R.length) := by
  unfold gR; rw [List.getD_eq_getElem?_getD, List.getD_eq_getElem?_getD, List.getElem?_append_right (by omega)]
theorem sbTo_row (T : List Int) : ∀ k i, i < (sbTo T k).length → (gR (sbTo T k) i).length ≤ 1000 := by
  intro k
  induction k with
  | zero => intro i hi; simp [sbTo_zero] at hi
  | succ k ih =>
    intro i hi
    rw [sbTo_succ] at hi ⊢
    by_cases h : i < (sbTo T k).length
    · rw [gR_app_lt h]; exact ih i h
    · rw [gR_app_ge h]
      have : i - (sbTo T k).length = 0 ∨ i - (sbTo T k).length = 1 := by simp at hi; omega
      rcases this with e | e <;> rw [e] <;> simp [gR]
theorem sb_sz {T : List Int} : (okR (braB T) (sbL T)).length ≤ 1048576 ∧ ∀ j, j < (okR (braB T) (sbL T)).length → (gR (okR (braB T) (sbL T)) j).length ≤ 1000 := by
  refine ⟨okR_len fun h => ?_, okR_row fun h => ?_⟩
  · have hl := bra_len (braB_iff.1 h)
    unfold sbL
    split
    · simp
    · rw [List.length_append, sbTo_len]; simp; omega
  · intro i hi
    unfold sbL at hi ⊢
    split at hi
    · simp at hi
    · rename_i hne
      rw [if_neg hne]
      by_cases h2 : i < (sbTo T (T.length - 1)).length
      · rw [gR_app_lt h2]; exact sbTo_row T _ i h2
      · rw [gR_app_ge h2]
        have : i - (sbTo T (T.length - 1)).length = 0 ∨ i - (sbTo T (T.length - 1)).length = 1 := by simp at hi; omega
        rcases this with e | e <;> rw [e] <;> simp [gR]
end Go.Proofs.Ytiinceflafigeaa
