/- Contracts: SemigroupBinomials, the program. -/
import Derived.Test.YtiinceflafigeaaMatL
import Derived.Test.YtiinceflafigeaaBogS
import Derived.Test.YtiinceflafigeaaGen
import Derived.Test.YtiinceflafigeaaProx
namespace Go.Proofs.Ytiinceflafigeaa
open Go.RowKit

/-- The rows of the first k generators behind the first. -/
def sbTo (T : List Int) : Nat → List (List Int)
  | 0 => []
  | k + 1 => sbTo T k ++ [[rI T (k + 1) * vI T (k + 1), 1], [vI T (k + 1), -1]]
theorem sbTo_zero (T : List Int) : sbTo T 0 = [] := rfl
theorem sbTo_succ (T : List Int) (k : Nat) : sbTo T (k + 1) = sbTo T k ++ [[rI T (k + 1) * vI T (k + 1), 1], [vI T (k + 1), -1]] := rfl
theorem sbTo_len (T : List Int) (k : Nat) : (sbTo T k).length = 2 * k := by
  induction k with
  | zero => rfl
  | succ k ih => rw [sbTo_succ, List.length_append, ih]; simp; omega
/-- The binomials. -/
def sbL (T : List Int) : List (List Int) := if T.length = 1 then [] else sbTo T (T.length - 1) ++ [[vI T 0, -1], [1, 1]]
theorem sbL_one {T : List Int} (h : T.length = 1) : sbL T = [] := by simp [sbL, h]
theorem sbL_more {T : List Int} (h : T.length ≠ 1) : sbL T = sbTo T (T.length - 1) ++ [[vI T 0, -1], [1, 1]] := by simp [sbL, h]
theorem below1 (w : World) (o1 : Obj) : Below w.heap.size w (w.alloc o1).drew := ((Below.refl _ _).alloc (Nat.le_refl _) o1).drew
theorem below2 (w : World) (o1 o2 : Obj) : Below w.heap.size w ((w.alloc o1).alloc o2).drew := (((Below.refl _ _).alloc (Nat.le_refl _) o1).alloc (by simp) o2).drew
theorem below3n (w : World) (o1 o2 o3 : Obj) : Below w.heap.size w (((w.alloc o1).alloc o2).alloc o3) := (((Below.refl _ _).alloc (Nat.le_refl _) o1).alloc (by simp) o2).alloc (by simp; omega) o3

theorem implSb_no (v : Value) (T : List Int) (w : World) (h : Rd w v T) (hc : braB T = false) :
    Calls Try.prog 98 #[.agg #[v]] w (RetMC 2 w [] 1) := by
  have hx := Boxed.start w 26 #[v]
  obtain ⟨a, k, rfl⟩ := h.len0
  have c0 := hx.cell 0
  go_enter Try.func98, Try.ntmps98
  go_wp2_with fail
  refine (implIsBranch_c _ T _ (hx.rd h)).mono ?_
  rintro e w1 ⟨rfl, hb⟩
  rw [hc]
  go_wp2
  go_ret2
  exact retMC_nil (hx.trans hb).below

set_option maxRecDepth 100000 in
set_option maxHeartbeats 4000000 in
theorem implSb_yes (v : Value) (T : List Int) (w : World) (h : Rd w v T) (hc : braB T = true) :
    Calls Try.prog 98 #[.agg #[v]] w (RetMC 2 w (sbL T) 0) := by
  obtain ⟨j0, ji, jz0, jz1, jz2⟩ := info_parts Try.infoII
  have hx := Boxed.start w 26 #[v]
  have hok := braB_iff.1 hc
  have hp := hok.len
  have hl := bra_len hok
  obtain ⟨b, off, cap, rfl, hc1, hc2, hb, hcc⟩ := h.cells hp
  have hlp : (0 : Int) < (T.length : Int) := by omega
  have c0 := hx.cell 0
  go_enter Try.func98, Try.ntmps98
  go_wp2_with fail
  refine (implIsBranch_c _ T _ (hx.rd h)).mono ?_
  rintro e w1 ⟨rfl, hb1⟩
  rw [hc]
  have hx1 := hx.trans hb1
  have hx0 := hx1.trans (Below.refl _ _).drew
  clear c0 hx hb1
  go_wp2_with fail
  go_cut [4, 5] from 11 to 14 (fun s3 s4 wc => (∃ a k, s3 = .slice a T.length k) ∧ (∃ a k, s4 = .slice a T.length k) ∧ Rd wc s3 (rTo T T.length) ∧ Rd wc s4 (vTo T T.length) ∧ Boxed w wc 26 #[.slice (some ⟨b, off, none⟩) T.length cap])
  case first =>
    have HC : w1.drew.cell? ⟨w.heap.size, 0, none⟩ = some (.slice (some ⟨b, off, none⟩) T.length cap) := hx0.cell 0
    go_region_held3 (fun w' => w'.cell? ⟨w.heap.size, 0, none⟩ = some (.slice (some ⟨b, off, none⟩) T.length cap))
      (first | assumption | exact HC)
      (first
        | (go_at_call 186; (with_reducible refine (ratios_c _ T _ (hx0.rd h) hok).mono ?_); rintro e wa ⟨ga, ka, rfl, oa, hba⟩; have hxa := hx0.trans hba; have HC : wa.cell? ⟨w.heap.size, 0, none⟩ = some (.slice (some ⟨b, off, none⟩) T.length cap) := hxa.cell 0)
        | (go_at_call 186; (with_reducible refine (ratios_c _ T _ (hxb.rd h) hok).mono ?_); rintro e wa ⟨ga, ka, rfl, oa, hba⟩; have ob := ob.below hba (Nat.le_refl _); have hxa := hxb.trans hba; have HC : wa.cell? ⟨w.heap.size, 0, none⟩ = some (.slice (some ⟨b, off, none⟩) T.length cap) := hxa.cell 0)
        | (go_at_call 142; (with_reducible refine (generators_c _ T _ (hx0.rd h) hok).mono ?_); rintro e wb ⟨gb, kb, rfl, ob, hbb⟩; have hxb := hx0.trans hbb; have HC : wb.cell? ⟨w.heap.size, 0, none⟩ = some (.slice (some ⟨b, off, none⟩) T.length cap) := hxb.cell 0)
        | (go_at_call 142; (with_reducible refine (generators_c _ T _ (hxa.rd h) hok).mono ?_); rintro e wb ⟨gb, kb, rfl, ob, hbb⟩; have oa := oa.below hbb (Nat.le_refl _); have hxb := hxa.trans hbb; have HC : wb.cell? ⟨w.heap.size, 0, none⟩ = some (.slice (some ⟨b, off, none⟩) T.length cap) := hxb.cell 0))
    all_goals
      have ra := oa.rd
      have rb := ob.rd
      rw [rTo_len] at ra
      rw [vTo_len] at rb
      clear oa ob HC
      go_wp2
      go_meet
      first | exact ⟨⟨_, _, rfl⟩, ⟨_, _, rfl⟩, ra, rb, hxb⟩ | exact ⟨⟨_, _, rfl⟩, ⟨_, _, rfl⟩, ra, rb, hxa⟩
  case rest =>
    obtain ⟨⟨a1, k1, rfl⟩, ⟨a2, k2, rfl⟩, ra, rb, hbx⟩ := hcut
    clear hx1 hx0
    obtain ⟨g1, o1, l1, he1, p1, p2, p3, cA⟩ := ra.cells (by simp; omega)
    obtain ⟨g2, o2, l2, he2, q1, q2, q3, cB⟩ := rb.cells (by simp; omega)
    injection he1 with he1 he1n he1'
    injection he2 with he2 he2n he2'
    subst he1 he1' he2 he2'
    clear he1n he2n
    rw [rTo_len] at p1 cA
    rw [vTo_len] at q1 cB
    clear ra rb
    have d0 : wc.cell? ⟨g2, o2, none⟩ = some (.int .i64 (vI T 0)) := by have := cB 0 hp; rwa [gI_vTo hp, Nat.add_zero] at this
    have hsz := hbx.size
    have hsz' : w.heap.size ≤ wc.heap.size := by omega
    have HA := Lib.hid cA
    have HB := Lib.hid cB
    have hB0 := (vI_bd hok hp)
    have hE : GrowM 2 24 (wc.alloc (.cells #[] 24)) wc.heap.size (.slice (some ⟨wc.heap.size, 0, none⟩) 0 0) [] [] := GrowM.empty _ _ wc wc.heap.size wc.heap.size rfl (Nat.le_refl _)
    have hal : Below wc.heap.size wc (wc.alloc (.cells #[] 24)) := (Below.refl _ _).alloc (Nat.le_refl _) _
    clear cA cB
    go_wp2_with fail
    go_loopw [6, 7] (fun lv iv wr => ∃ j g c : Nat, ∃ vs, j < T.length ∧ iv = .int .i64 ((j : Int) + 1) ∧ lv = .slice (some ⟨g, 0, none⟩) (sbTo T j).length c ∧ GrowM 2 24 wr wc.heap.size (.slice (some ⟨g, 0, none⟩) (sbTo T j).length c) vs (sbTo T j) ∧ Below wc.heap.size wc wr) (fun _ iv _ => T.length - (intOf iv).toNat)
    case atStart => exact ⟨0, wc.heap.size, 0, [], hp, rfl, rfl, hE, hal⟩
    case round =>
      obtain ⟨j, g, c, vs, hj, rfl, rfl, hG, hbl⟩ := hrel
      clear hE hal
      obtain ⟨wo, rfl⟩ : ∃ wo : World, wo = wr := ⟨_, rfl⟩
      have hsl := hbl.size
      have hGl := hG.block g rfl
      have hlen := sbTo_len T j
      by_cases hlt : j + 1 < T.length
      · have dB : wo.cell? ⟨g2, o2 + (j + 1), none⟩ = some (.int .i64 (vI T (j + 1))) := by rw [hbl.cell (p := ⟨g2, o2 + (j + 1), none⟩) q3, HB.out (j + 1) hlt, gI_vTo hlt]
        have dA : wo.cell? ⟨g1, o1 + (j + 1), none⟩ = some (.int .i64 (rI T (j + 1))) := by rw [hbl.cell (p := ⟨g1, o1 + (j + 1), none⟩) p3, HA.out (j + 1) hlt, gI_rTo hlt]
        have b1 := rI_bd hok (j + 1)
        have b2 := vI_bd hok hlt
        have HY := Lib.hid (sbTo_succ T j)
        have HL := Lib.hid (show (sbTo T (j + 1)).length = (sbTo T j).length + 2 by rw [sbTo_len, sbTo_len]; omega)
        generalize rI T (j + 1) = r at dA b1 HY
        generalize vI T (j + 1) = z at dB b2 HY
        have b5 := mul_bd (a := r) (A := 64) (b := z) (B := 1000000000000000) (by omega) (by omega) (by omega) (by omega)
        have w6 : IntKind.i64.wrap (r * z) = r * z := IntWalk.i64_in _ (by omega)
        have f1 : (j : Int) + 1 - 1 = (j : Int) := by omega
        have f2 : IntKind.i64.wrap (j : Int) = (j : Int) := IntWalk.i64_in _ (by omega)
        have f3 : (0 : Int) ≤ (j : Int) := by omega
        have f4 : (j : Int) < (T.length : Int) := by omega
        have f5 : (j : Int) + 1 < (T.length : Int) := by omega
        have f6 : (0 : Int) ≤ (j : Int) + 1 := by omega
        have f7 : ((j : Int) + 1).toNat = j + 1 := by omega
        have hlr : (sbTo T j).length ≤ 1000000 := by omega
        have SS : ∀ wr : World, Below wo.heap.size wo wr → wr.cell? ⟨g1, o1 + (j + 1), none⟩ = some (.int .i64 r) ∧ wr.cell? ⟨g2, o2 + (j + 1), none⟩ = some (.int .i64 z) := fun wr hk => ⟨by rw [hk.cell (p := ⟨g1, o1 + (j + 1), none⟩) (by show g1 < wo.heap.size; omega)]; exact dA, by rw [hk.cell (p := ⟨g2, o2 + (j + 1), none⟩) (by show g2 < wo.heap.size; omega)]; exact dB⟩
        have HKC : ∀ (W W' : World), Keeps (fun k => (Value.slice (some ⟨g, 0, none⟩) (sbTo T j).length c).ownBlock = some k) W W' → wo.heap.size ≤ W.heap.size → W'.cell? ⟨g1, o1 + (j + 1), none⟩ = W.cell? ⟨g1, o1 + (j + 1), none⟩ ∧ W'.cell? ⟨g2, o2 + (j + 1), none⟩ = W.cell? ⟨g2, o2 + (j + 1), none⟩ := fun W W' hk hs => ⟨hk.cell (p := ⟨g1, o1 + (j + 1), none⟩) (show g1 < W.heap.size by omega) (fun e => by simp [Value.ownBlock] at e; omega), hk.cell (p := ⟨g2, o2 + (j + 1), none⟩) (show g2 < W.heap.size by omega) (fun e => by simp [Value.ownBlock] at e; omega)⟩
        clear dA dB hlen
        go_wp2_with fail
        go_region_held3 (fun w' => w'.cell? ⟨g1, o1 + (j + 1), none⟩ = some (.int .i64 r) ∧ w'.cell? ⟨g2, o2 + (j + 1), none⟩ = some (.int .i64 z))
          (first | assumption | exact HS2 | exact SS _ (by first | exact (Below.refl _ _).drew | exact below1 _ _ | exact below2 _ _ _ | exact below3 _ _ _ _))
          (first | (refine step_pushR2 rfl (.tmp 22) (.tmp 38) 64 rfl wc.heap.size 2 24 j0 Try.underlying64 ji jz0 jz1 jz2 wo (.slice (some ⟨g, 0, none⟩) (sbTo T j).length c) vs (sbTo T j) _ _ _ (r * z) 1 z (-1) rfl hG (below3 _ _ _ _) rfl (blk_c _ _ _ _ _ _ _) (by first | exact blk_a _ _ _ _ _ _ _ | exact blk_b _ _ _ _ _ _ _) (by first | exact blk_a _ _ _ _ _ _ _ | exact blk_b _ _ _ _ _ _ _) (by omega) (by omega) (by omega) hlr hsl ?_; intro g3 c3 w2 hG3 hkp _; have HS2 : w2.cell? ⟨g1, o1 + (j + 1), none⟩ = some (.int .i64 r) ∧ w2.cell? ⟨g2, o2 + (j + 1), none⟩ = some (.int .i64 z) := ⟨(HKC _ _ hkp (below3 _ _ _ _).size).1.trans (SS _ (below3 _ _ _ _)).1, (HKC _ _ hkp (below3 _ _ _ _).size).2.trans (SS _ (below3 _ _ _ _)).2⟩))
        all_goals
          have hbl3 := (hbl.trans ((below3 wo _ _ _).mono hsl)).trans (hkp.below (Nat.le_trans hsl (below3 wo _ _ _).size) (fun k hk => by simp [Value.ownBlock] at hk; omega))
          rw [← HY.out, ← HL.out] at hG3
          clear hkp HS2 SS
          go_wp2
          go_roundw
          case rel => exact ⟨j + 1, g3, c3, _, hlt, by go_num, by rw [HL.out], hG3, hbl3⟩
          case measure => simp [intOf]; omega
      · have HJ : T.length - 1 = j := by omega
        have f5 : (T.length : Int) ≤ (j : Int) + 1 := by omega
        have f6 : ¬ (j : Int) + 1 < (T.length : Int) := by omega
        by_cases h1 : T.length = 1
        · have hj0 : j = 0 := by omega
          subst hj0
          rw [sbTo_zero] at hG ⊢
          have HS := Lib.hid (sbL_one h1)
          go_wp2
          go_ret2
          rw [HS.out]
          exact retMC_mk (hG.own.base_le hsz') (hbx.below.trans (hbl.mono hsz'))
        · have HS := Lib.hid (sbL_more h1)
          have d0' : wo.cell? ⟨g2, o2, none⟩ = some (.int .i64 (vI T 0)) := by rw [hbl.cell (p := ⟨g2, o2, none⟩) q3]; exact d0
          have hlg : ((sbTo T j).length : Int) > 0 := by omega
          have hlg2 : (0 : Int) < ((sbTo T j).length : Int) := by omega
          have hlr : (sbTo T j).length ≤ 1000000 := by omega
          generalize vI T 0 = z at d0' hB0 HS
          clear d0 hlen
          go_wp2_with (at_builtin; refine wpList_pushR2 rfl (.tmp 43) (.tmp 49) 64 rfl wc.heap.size 2 24 j0 Try.underlying64 ji jz0 jz1 jz2 wo (.slice (some ⟨g, 0, none⟩) (sbTo T j).length c) vs (sbTo T j) _ _ _ z (-1) 1 1 rfl hG (below3n _ _ _ _) rfl (blk_c _ _ _ _ _ _ _) (by first | exact blk_a _ _ _ _ _ _ _ | exact blk_b _ _ _ _ _ _ _) (by first | exact blk_a _ _ _ _ _ _ _ | exact blk_b _ _ _ _ _ _ _) (by omega) (by omega) (by omega) hlr hsl ?_; intro g3 c3 w2 hG3 hkp _)
          have hbl3 := (hbl.trans ((below3n wo _ _ _).mono hsl)).trans (hkp.below (Nat.le_trans hsl (below3n wo _ _ _).size) (fun k hk => by simp [Value.ownBlock] at hk; omega))
          go_ret2
          rw [HS.out, HJ]
          have e : (sbTo T j).length + 2 = (sbTo T j ++ [[z, -1], [1, 1]]).length := by simp
          rw [e] at hG3 ⊢
          exact retMC_mk (hG3.own.base_le hsz') (hbx.below.trans (hbl3.mono hsz'))
end Go.Proofs.Ytiinceflafigeaa
