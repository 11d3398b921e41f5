/- Contracts: DrawClusterText, DrawClusterOfExcesses. -/
import Derived.Test.YtglghdkjppcedaaGreatDoorPart23
import Derived.Test.YtglghdkjppcedaaGreatDoorPart14
import Derived.Deep.RegionHeld3
namespace Go.Proofs.YtglghdkjppcedaaGreatDoor
open Go.RowKit

set_option maxRecDepth 100000 in
set_option maxHeartbeats 4000000 in
theorem drawClusterText_w (v : Value) (C : List Int) (w : World) (h : Rd8 w v C) :
    Calls Tryz.prog 26 #[v] w (RetKl w) := by
  have D := Blk.new w 26 #[.slice none 0 0, .slice none 0 0, .slice none 0 0]
  have hal : Below w.heap.size w (w.alloc (.cells #[.slice none 0 0, .slice none 0 0, .slice none 0 0] 26)) := (Below.refl _ _).alloc (Nat.le_refl _) _
  have h1 := h.below hal (Nat.le_refl _)
  go_enter Tryz.func26, Tryz.ntmps26
  go_wp2_with fail
  generalize w.alloc (.cells #[.slice none 0 0, .slice none 0 0, .slice none 0 0] 26) = w0 at *
  refine (from_w v C _ h1).mono ?_
  rintro e w1 ⟨g, rfl, hg, s1, hb1⟩
  have hs0 : w.heap.size < w0.heap.size := D.lt
  have D1 := D.stays hb1
  have hB1 := hal.trans (hb1.mono hal.size)
  clear h h1 hal hb1 D
  go_wp2_with fail
  refine (spoilK_w g _ s1).mono ?_
  rintro e w2 ⟨m, n3, a, b, d, ca, cb, cd, P, S, W, rfl, hrp, hrs, hrq, hnew, lp, ls, lw, hm1, hm2, hn3, _, s2, hk2⟩
  have D2 := D1.keeps hk2 (by omega)
  have hB2 := keeps_from hB1 (by omega) hk2
  have hg1 : g < w1.heap.size := s1.lt
  have hkd := keeps_D (w := w2) w.heap.size (.slice a m ca) (.slice b m cb) (.slice d n3 cd)
  have hl1 := hB1.size
  have HF : Hid (RetKl w (.returned (.agg #[.slice a m ca, .slice b m cb, .slice d n3 cd])) (((w2.setCell ⟨w.heap.size, 0, none⟩ (.slice a m ca)).setCell ⟨w.heap.size, 1, none⟩ (.slice b m cb)).setCell ⟨w.heap.size, 2, none⟩ (.slice d n3 cd))) := Lib.hid ⟨m, n3, a, b, d, ca, cb, cd, P, S, W, rfl, hrp.keepsK hkd (fun k e => by have := hnew k (.inl e); have := D1.lt; omega), hrs.keepsK hkd (fun k e => by have := hnew k (.inr (.inl e)); have := D1.lt; omega), hrq.keepsK hkd (fun k e => by have := hnew k (.inr (.inr e)); have := D1.lt; omega), lp, ls, lw, hm1, hm2, by omega, hB2.trans (hkd.below hB2.size (fun k e => by omega))⟩
  have e0 := D2.cell 0
  have e1 := D2.cell 1
  have e2 := D2.cell 2
  have f0 := D2.free 0
  have f1 := D2.free 1
  have f2 := D2.free 2
  have F := ((D2.set 0 (.slice a m ca)).set 1 (.slice b m cb)).set 2 (.slice d n3 cd)
  have q0 := F.cell 0
  have q1 := F.cell 1
  have q2 := F.cell 2
  clear s2 D2 D1 hB1 hB2 hkd hrp hrs hrq hnew lp ls lw hk2 s1 F
  go_wp2
  exact bodyPost_ret (v := .agg #[.slice a m ca, .slice b m cb, .slice d n3 cd]) (by simp [results, Tryz.results26, go_sem, q0, q1, q2]) rfl HF.out
/-- A cluster and a list. -/
def RetKL (w : World) (e : Ending) (w' : World) : Prop :=
  ∃ (m n3 n : Nat) (a b d f : Option Addr) (ca cb cd cf : Nat) (P S W L : List Int), e = .returned (.tuple #[.agg #[.slice a m ca, .slice b m cb, .slice d n3 cd], .slice f n cf]) ∧ Rd w' (.slice a m ca) P ∧ Rd w' (.slice b m cb) S ∧ Rd w' (.slice d n3 cd) W ∧ Rd w' (.slice f n cf) L ∧ P.length = m ∧ S.length = m ∧ W.length = n3 ∧ L.length = n ∧ m ≤ 24 ∧ n3 ≤ 24 ∧ n ≤ 25 ∧ Below w.heap.size w w'
set_option maxRecDepth 100000 in
set_option maxHeartbeats 8000000 in
theorem drawClusterOfExcesses_w (v : Value) (C : List Int) (w : World) (h : Rd8 w v C) :
    Calls Tryz.prog 5 #[v] w (RetKL w) := by
  obtain ⟨i0, hi, hz0, hz1, hz2⟩ := info_parts Tryz.infoI
  have D := Blk.new w 26 #[.slice none 0 0, .slice none 0 0, .slice none 0 0]
  have hal : Below w.heap.size w (w.alloc (.cells #[.slice none 0 0, .slice none 0 0, .slice none 0 0] 26)) := (Below.refl _ _).alloc (Nat.le_refl _) _
  have h1 := h.below hal (Nat.le_refl _)
  go_enter Tryz.func5, Tryz.ntmps5
  go_wp2_with fail
  generalize w.alloc (.cells #[.slice none 0 0, .slice none 0 0, .slice none 0 0] 26) = w0 at *
  refine (from_w v C _ h1).mono ?_
  rintro e w1 ⟨g, rfl, hg, s1, hb1⟩
  have hs0 : w.heap.size < w0.heap.size := D.lt
  have D1 := D.stays hb1
  have hB1 := hal.trans (hb1.mono hal.size)
  clear h h1 hal hb1 D
  have hg1 : g < w1.heap.size := s1.lt
  go_wp2_with fail
  refine (spoilK_w g _ s1).mono ?_
  rintro e w2 ⟨m, n3, a, b, d, ca, cb, cd, P, S, W, rfl, hrp, hrs, hrq, hnew, lp, ls, lw, hm1, hm2, hn3, _, s2, hk2⟩
  have D2 := D1.keeps hk2 (by omega)
  have hB2 := keeps_from hB1 (by omega) hk2
  have hz2' : w1.heap.size ≤ w2.heap.size := hk2.size
  have hl1 := hB1.size
  have E3 := (Blk.new w2 26 #[.slice a m ca, .slice b m cb, .slice d n3 cd]).alloc (.cells #[] 2)
  have hO3 := own_empty_at (w2.alloc (.cells #[.slice a m ca, .slice b m cb, .slice d n3 cd] 26)) (w2.heap.size + 1) (w2.heap.size + 1) (by simp) (Nat.le_refl _)
  have hb3 : Below w2.heap.size w2 ((w2.alloc (.cells #[.slice a m ca, .slice b m cb, .slice d n3 cd] 26)).alloc (.cells #[] 2)) := ((Below.refl _ _).alloc (Nat.le_refl _) _).alloc (by simp) _
  have s3 := s2.below hb3
  have D3 := D2.stays hb3
  have hrp3 := hrp.below hb3 (Nat.le_refl _)
  have hrs3 := hrs.below hb3 (Nat.le_refl _)
  have hrq3 := hrq.below hb3 (Nat.le_refl _)
  have hB3 := below_step hB2 hb3
  have hsz3 : ((w2.alloc (.cells #[.slice a m ca, .slice b m cb, .slice d n3 cd] 26)).alloc (.cells #[] 2)).heap.size = w2.heap.size + 2 := by simp
  go_upto_region 4 with fail
  clear D1 D2 hB1 hB2 hrp hrs hrq hb3 hk2 s1 s2
  generalize (w2.alloc (.cells #[.slice a m ca, .slice b m cb, .slice d n3 cd] 26)).alloc (.cells #[] 2) = w3 at *
  have c0 := E3.cell 0
  go_wp2_with fail
  go_loopw [6, 7] (fun lv kv wr => ∃ (k : Nat) (gl : Nat) (cl : Nat) (L : List Int), k ≤ m ∧ kv = .int .i64 (k : Int) ∧ lv = .slice (some ⟨gl, 0, none⟩) k cl ∧ L.length = k ∧ OwnI wr (w2.heap.size + 1) (.slice (some ⟨gl, 0, none⟩) k cl) L ∧ Src wr g ∧ Keeps (fun q => q = g ∨ w2.heap.size + 1 ≤ q) w3 wr) (fun _ kv _ => m - (intOf kv).toNat)
  case atStart => exact ⟨0, _, _, [], by omega, rfl, rfl, rfl, hO3, s3, Keeps.refl _ _⟩
  case round =>
    obtain ⟨k, gl, cl, L, hk, rfl, rfl, hlL, hO, s4, hK⟩ := hrel
    clear hO3 s3 c0
    obtain ⟨wo, rfl⟩ : ∃ wo : World, wo = wr := ⟨_, rfl⟩
    have E4 := E3.keeps hK (by omega)
    have hzo : w2.heap.size + 2 ≤ wo.heap.size := by have := hK.size; omega
    have c0 := E4.cell 0
    have HLL := Lib.hid hlL
    by_cases hlt : k < m
    · have hki : (k : Int) < (m : Int) := by omega
      have hal : Below wo.heap.size wo (wo.alloc (.cells #[.int .i64 0, .int .i64 0, .int .i64 1, .int .i64 2, .int .i64 (-1)] 2)) := (Below.refl _ _).alloc (Nat.le_refl _) _
      have hr := rd_newsK (w := wo) rfl 2 [0, 0, 1, 2, -1] (by simp)
      have s5 := s4.below hal
      have hO5 := hO.below hal (Nat.le_refl _)
      have hK5 := hK.trans (Keeps.of_below hal)
      have hgw : g < wo.heap.size := s4.lt
      clear hlL hal
      go_wp2_with fail
      refine (pick_w g _ [0, 0, 1, 2, -1] _ s5 hr (by simp) (by simp) (fun b off e => by injection e with e; injection e with e; injection e; omega) ⟨_, rfl⟩).mono ?_
      rintro e w6 ⟨j0, hj0, rfl, s6, hk6⟩
      generalize gI [0, 0, 1, 2, -1] j0 = x at *
      have hO6 := hO5.keeps hk6 (fun q hq e => by have := (hO5.block q hq).1; omega)
      have hK6 := hK5.trans (hk6.mono (fun q e => .inl e))
      have hz6 : w2.heap.size + 1 ≤ w6.heap.size := by have := hK6.size; omega
      have HLT := Lib.hid hlt
      have HKB := Lib.hid (show k < 24 by omega)
      have HGW := Lib.hid (show g < w2.heap.size + 1 by omega)
      clear hO5 hK5 hk6 s5 hr hO hK s4 hj0 c0
      have hkb := HKB.out
      go_wp2_with (at_builtin; refine wpList_pushL rfl (.tmp 20) (.tmp 24) 24 rfl (w2.heap.size + 1) 2 i0 Tryz.underlying24 hi hz0 hz1 hz2 _ L x rfl hO6 rfl (by rw [HLL.out]; omega) hz6 ?_; intro g7 c7 w7 ho hk7 hl7; rw [HLL.out] at ho ⊢)
      have s7 := s6.keeps hk7 (fun q hq e => by have := (hO6.block q e).1; have := HGW.out; omega)
      have hK7 := hK6.trans (hk7.mono (fun q e => .inr (hO6.block q e).1))
      have hl2 : (L ++ [x]).length = k + 1 := by rw [List.length_append, HLL.out]; rfl
      clear hO6 hK6 hk7 s6 hl7
      generalize L ++ [x] = L2 at *
      go_wp2
      go_roundw
      case rel => exact ⟨k + 1, g7, c7, L2, by have := HLT.out; omega, by have := HLL.out; have := HLT.out; go_num, rfl, hl2, ho, s7, hK7⟩
      case measure => have := HLT.out; have := HLL.out; simp [intOf]; omega
    · have hke : k = m := by omega
      have hki : ¬ (k : Int) < (m : Int) := by omega
      subst hke
      have D4 := D3.keeps hK (by omega)
      have hrp4 := hrp3.keepsK hK (fun q hq e => by have := hnew q (.inl hq); omega)
      have hrs4 := hrs3.keepsK hK (fun q hq e => by have := hnew q (.inr (.inl hq)); omega)
      have hrq4 := hrq3.keepsK hK (fun q hq e => by have := hnew q (.inr (.inr hq)); omega)
      have hB4 : Below w.heap.size w wo := hB3.trans (hK.below hB3.size (fun q e => by omega))
      go_wp2_with fail
      refine (next_w g 16 _ s4 (by omega) (by omega)).mono ?_
      rintro e w5 ⟨y, rfl, hy0, hy1, s5, hk5⟩
      have hO5 := hO.keeps hk5 (fun q hq e => by have := (hO.block q hq).1; omega)
      have E5 := E4.keeps hk5 (by omega)
      have D5 := D4.keeps hk5 (by omega)
      have hrp5 := hrp4.keepsK hk5 (fun q hq e => by have := hnew q (.inl hq); omega)
      have hrs5 := hrs4.keepsK hk5 (fun q hq e => by have := hnew q (.inr (.inl hq)); omega)
      have hrq5 := hrq4.keepsK hk5 (fun q hq e => by have := hnew q (.inr (.inr hq)); omega)
      have hB5 : Below w.heap.size w w5 := hB4.trans (hk5.below hB4.size (fun q e => by omega))
      have hz5 : w2.heap.size + 2 ≤ w5.heap.size := by have := hk5.size; omega
      clear hO E4 D4 hrp4 hrs4 hrq4 hB4 hk5 hK s4 c0 hzo E3 D3 hrp3 hrs3 hrq3 hB3
      have hOb := (hO5.block gl rfl)
      have hlL5 : L.length = k := hlL
      rw [← hlL5] at hO5
      have HL5 := Lib.hid hlL5
      clear hlL5 hlL HLL
      by_cases y0 : y = 0
      · subst y0
        have hr := rd_newsK (w := w5) rfl 2 [1000, -1000, 1001] (by simp)
        have hal : Below w5.heap.size w5 (w5.alloc (.cells #[.int .i64 1000, .int .i64 (-1000), .int .i64 1001] 2)) := (Below.refl _ _).alloc (Nat.le_refl _) _
        have s6 := s5.below hal
        have hgw : g < w5.heap.size := s5.lt
        go_wp2_with fail
        refine (pick_w g _ [1000, -1000, 1001] _ s6 hr (by simp) (by simp) (fun b off e => by injection e with e; injection e with e; injection e; omega) ⟨_, rfl⟩).mono ?_
        rintro e w7 ⟨j0, hj0, rfl, s7, hk7⟩
        generalize gI [1000, -1000, 1001] j0 = x at *
        have hO7 := (hO5.below hal (Nat.le_refl _)).keeps hk7 (fun q hq e => by have := (hO5.block q hq).1; omega)
        have cz := hO7.cell 0 (by rw [HL5.out]; omega)
        have fz := hO7.free 0
        have hO9 := hO7.set 0 x
        have hks : Keeps (fun q => q = g ∨ q = gl) w5 (w7.setCell ⟨gl, 0, none⟩ (.int .i64 x)) := ((Keeps.of_below (M := fun q => q = g ∨ q = gl) hal).trans (hk7.mono (fun q e => .inl e))).setCell (p := ⟨gl, 0, none⟩) (.inr rfl) _
        have E9 := E5.keeps hks (by omega)
        have D9 := D5.keeps hks (by omega)
        have hrp9 := hrp5.keepsK hks (fun q hq e => by have := hnew q (.inl hq); omega)
        have hrs9 := hrs5.keepsK hks (fun q hq e => by have := hnew q (.inr (.inl hq)); omega)
        have hrq9 := hrq5.keepsK hks (fun q hq e => by have := hnew q (.inr (.inr hq)); omega)
        have hB9 : Below w.heap.size w _ := hB5.trans (hks.below hB5.size (fun q e => by omega))
        have hl9 : (L.set 0 x).length = k := by rw [List.length_set]; exact HL5.out
        rw [HL5.out] at hO9
        have hk0 : (0 : Int) < (k : Int) := by omega
        clear hO5 E5 D5 hrp5 hrs5 hrq5 hB5 hO7 s5 s6 s7 hr hal hk7 hks
        go_upto_region 15 with fail
        generalize w7.setCell ⟨gl, 0, none⟩ (.int .i64 x) = w9 at *
        generalize L.set 0 x = L9 at *
        clear cz fz
        have hkd := keeps_D (w := w9) w.heap.size (.slice a k ca) (.slice b k cb) (.slice d n3 cd)
        have HF : Hid (RetKL w (.returned (.tuple #[.agg #[.slice a k ca, .slice b k cb, .slice d n3 cd], .slice (some ⟨gl, 0, none⟩) k cl])) (((w9.setCell ⟨w.heap.size, 0, none⟩ (.slice a k ca)).setCell ⟨w.heap.size, 1, none⟩ (.slice b k cb)).setCell ⟨w.heap.size, 2, none⟩ (.slice d n3 cd))) := Lib.hid
          ⟨k, n3, k, a, b, d, _, ca, cb, cd, _, P, S, W, L9, rfl, hrp9.keepsK hkd (fun q hq e => by have := hnew q (.inl hq); omega), hrs9.keepsK hkd (fun q hq e => by have := hnew q (.inr (.inl hq)); omega), hrq9.keepsK hkd (fun q hq e => by have := hnew q (.inr (.inr hq)); omega), hO9.rd.keepsK hkd (fun q hq e => by have := (hO9.block q hq).1; omega), lp, ls, lw, hl9, by omega, by omega, by omega, hB9.trans (hkd.below hB9.size (fun q e => by omega))⟩
        have e0 := D9.cell 0
        have e1 := D9.cell 1
        have e2 := D9.cell 2
        have f0 := D9.free 0
        have f1 := D9.free 1
        have f2 := D9.free 2
        have F := ((D9.set 0 (.slice a k ca)).set 1 (.slice b k cb)).set 2 (.slice d n3 cd)
        have q0 := F.cell 0
        have q1 := F.cell 1
        have q2 := F.cell 2
        have g0 := E9.cell 0
        have g1 := E9.cell 1
        have g2 := E9.cell 2
        have hne : ¬ w2.heap.size = w.heap.size := by omega
        clear hO9 E9 D9 hrp9 hrs9 hrq9 hB9 F hkd
        go_wp2
        exact bodyPost_ret (v := .tuple #[.agg #[.slice a k ca, .slice b k cb, .slice d n3 cd], .slice (some ⟨gl, 0, none⟩) k cl]) (by simp [results, Tryz.results5, go_sem, q0, q1, q2]) rfl HF.out
      · have y0b : (y == 0) = false := beq_eq_false_iff_ne.2 y0
        by_cases y1 : y = 1
        · subst y1
          rw [HL5.out] at hO5
          go_upto_region 15 with (at_builtin; refine wpList_pushL rfl (.tmp 37) (.tmp 38) 24 rfl (w2.heap.size + 1) 2 i0 Tryz.underlying24 hi hz0 hz1 hz2 _ L 0 rfl hO5 rfl (by rw [HL5.out]; omega) (by omega) ?_; intro g9 c9 w9 hO9 hk9 hl9; rw [HL5.out] at hO9 ⊢)
          have hl10 : (L ++ [(0 : Int)]).length = k + 1 := by rw [List.length_append, HL5.out]; rfl
          have hks : Keeps (fun q => q = g ∨ w2.heap.size + 1 ≤ q) w5 w9 := hk9.mono (fun q e => .inr (hO5.block q e).1)
          have E9 := E5.keeps hks (by omega)
          have D9 := D5.keeps hks (by omega)
          have hrp9 := hrp5.keepsK hks (fun q hq e => by have := hnew q (.inl hq); omega)
          have hrs9 := hrs5.keepsK hks (fun q hq e => by have := hnew q (.inr (.inl hq)); omega)
          have hrq9 := hrq5.keepsK hks (fun q hq e => by have := hnew q (.inr (.inr hq)); omega)
          have hB9 : Below w.heap.size w w9 := hB5.trans (hks.below hB5.size (fun q e => by omega))
          have hl9 := hl10
          generalize L ++ [(0 : Int)] = L9 at *
          clear hl10 hO5 E5 D5 hrp5 hrs5 hrq5 hB5 s5 hk9 hks
          have hkd := keeps_D (w := w9) w.heap.size (.slice a k ca) (.slice b k cb) (.slice d n3 cd)
          have HF : Hid (RetKL w (.returned (.tuple #[.agg #[.slice a k ca, .slice b k cb, .slice d n3 cd], .slice (some ⟨g9, 0, none⟩) (k + 1) c9])) (((w9.setCell ⟨w.heap.size, 0, none⟩ (.slice a k ca)).setCell ⟨w.heap.size, 1, none⟩ (.slice b k cb)).setCell ⟨w.heap.size, 2, none⟩ (.slice d n3 cd))) := Lib.hid
            ⟨k, n3, (k + 1), a, b, d, _, ca, cb, cd, _, P, S, W, L9, rfl, hrp9.keepsK hkd (fun q hq e => by have := hnew q (.inl hq); omega), hrs9.keepsK hkd (fun q hq e => by have := hnew q (.inr (.inl hq)); omega), hrq9.keepsK hkd (fun q hq e => by have := hnew q (.inr (.inr hq)); omega), hO9.rd.keepsK hkd (fun q hq e => by have := (hO9.block q hq).1; omega), lp, ls, lw, hl9, by omega, by omega, by omega, hB9.trans (hkd.below hB9.size (fun q e => by omega))⟩
          have e0 := D9.cell 0
          have e1 := D9.cell 1
          have e2 := D9.cell 2
          have f0 := D9.free 0
          have f1 := D9.free 1
          have f2 := D9.free 2
          have F := ((D9.set 0 (.slice a k ca)).set 1 (.slice b k cb)).set 2 (.slice d n3 cd)
          have q0 := F.cell 0
          have q1 := F.cell 1
          have q2 := F.cell 2
          have g0 := E9.cell 0
          have g1 := E9.cell 1
          have g2 := E9.cell 2
          have hne : ¬ w2.heap.size = w.heap.size := by omega
          clear hO9 E9 D9 hrp9 hrs9 hrq9 hB9 F hkd
          go_wp2
          exact bodyPost_ret (v := .tuple #[.agg #[.slice a k ca, .slice b k cb, .slice d n3 cd], .slice (some ⟨g9, 0, none⟩) (k + 1) c9]) (by simp [results, Tryz.results5, go_sem, q0, q1, q2]) rfl HF.out
        · have y1b : (y == 1) = false := beq_eq_false_iff_ne.2 y1
          by_cases y2 : y = 2
          · subst y2
            obtain ⟨j, rfl⟩ : ∃ j, k = j + 1 := ⟨k - 1, by omega⟩
            have cz := hO5.cell j (by rw [HL5.out]; omega)
            have fz := hO5.free j
            have hO9 := hO5.set j 1000
            have hks : Keeps (fun q => q = gl) w5 (w5.setCell ⟨gl, j, none⟩ (.int .i64 1000)) := (Keeps.refl (fun q => q = gl) w5).setCell (p := ⟨gl, j, none⟩) rfl _
            have E9 := E5.keeps hks (by omega)
            have D9 := D5.keeps hks (by omega)
            have hrp9 := hrp5.keepsK hks (fun q hq e => by have := hnew q (.inl hq); omega)
            have hrs9 := hrs5.keepsK hks (fun q hq e => by have := hnew q (.inr (.inl hq)); omega)
            have hrq9 := hrq5.keepsK hks (fun q hq e => by have := hnew q (.inr (.inr hq)); omega)
            have hB9 : Below w.heap.size w _ := hB5.trans (hks.below hB5.size (fun q e => by omega))
            have hl9 : (L.set j 1000).length = j + 1 := by rw [List.length_set]; exact HL5.out
            rw [HL5.out] at hO9
            have hk0 : (j : Int) < (j : Int) + 1 := by omega
            clear hO5 E5 D5 hrp5 hrs5 hrq5 hB5 s5 hks
            go_upto_region 15 with fail
            generalize w5.setCell ⟨gl, j, none⟩ (.int .i64 1000) = w9 at *
            generalize L.set j 1000 = L9 at *
            clear cz fz
            have hkd := keeps_D (w := w9) w.heap.size (.slice a (j + 1) ca) (.slice b (j + 1) cb) (.slice d n3 cd)
            have HF : Hid (RetKL w (.returned (.tuple #[.agg #[.slice a (j + 1) ca, .slice b (j + 1) cb, .slice d n3 cd], .slice (some ⟨gl, 0, none⟩) (j + 1) cl])) (((w9.setCell ⟨w.heap.size, 0, none⟩ (.slice a (j + 1) ca)).setCell ⟨w.heap.size, 1, none⟩ (.slice b (j + 1) cb)).setCell ⟨w.heap.size, 2, none⟩ (.slice d n3 cd))) := Lib.hid
              ⟨j + 1, n3, (j + 1), a, b, d, _, ca, cb, cd, _, P, S, W, L9, rfl, hrp9.keepsK hkd (fun q hq e => by have := hnew q (.inl hq); omega), hrs9.keepsK hkd (fun q hq e => by have := hnew q (.inr (.inl hq)); omega), hrq9.keepsK hkd (fun q hq e => by have := hnew q (.inr (.inr hq)); omega), hO9.rd.keepsK hkd (fun q hq e => by have := (hO9.block q hq).1; omega), lp, ls, lw, hl9, by omega, by omega, by omega, hB9.trans (hkd.below hB9.size (fun q e => by omega))⟩
            have e0 := D9.cell 0
            have e1 := D9.cell 1
            have e2 := D9.cell 2
            have f0 := D9.free 0
            have f1 := D9.free 1
            have f2 := D9.free 2
            have F := ((D9.set 0 (.slice a (j + 1) ca)).set 1 (.slice b (j + 1) cb)).set 2 (.slice d n3 cd)
            have q0 := F.cell 0
            have q1 := F.cell 1
            have q2 := F.cell 2
            have g0 := E9.cell 0
            have g1 := E9.cell 1
            have g2 := E9.cell 2
            have hne : ¬ w2.heap.size = w.heap.size := by omega
            clear hO9 E9 D9 hrp9 hrs9 hrq9 hB9 F hkd
            go_wp2
            exact bodyPost_ret (v := .tuple #[.agg #[.slice a (j + 1) ca, .slice b (j + 1) cb, .slice d n3 cd], .slice (some ⟨gl, 0, none⟩) (j + 1) cl]) (by simp [results, Tryz.results5, go_sem, q0, q1, q2]) rfl HF.out
          · have y2b : (y == 2) = false := beq_eq_false_iff_ne.2 y2
            have hO9 := hO5
            have E9 := E5
            have D9 := D5
            have hrp9 := hrp5
            have hrs9 := hrs5
            have hrq9 := hrq5
            have hB9 := hB5
            have hl9 := HL5.out
            rw [HL5.out] at hO9
            clear hO5 E5 D5 hrp5 hrs5 hrq5 hB5 s5
            go_upto_region 15 with fail
            have hkd := keeps_D (w := w5) w.heap.size (.slice a k ca) (.slice b k cb) (.slice d n3 cd)
            have HF : Hid (RetKL w (.returned (.tuple #[.agg #[.slice a k ca, .slice b k cb, .slice d n3 cd], .slice (some ⟨gl, 0, none⟩) k cl])) (((w5.setCell ⟨w.heap.size, 0, none⟩ (.slice a k ca)).setCell ⟨w.heap.size, 1, none⟩ (.slice b k cb)).setCell ⟨w.heap.size, 2, none⟩ (.slice d n3 cd))) := Lib.hid
              ⟨k, n3, k, a, b, d, _, ca, cb, cd, _, P, S, W, L, rfl, hrp9.keepsK hkd (fun q hq e => by have := hnew q (.inl hq); omega), hrs9.keepsK hkd (fun q hq e => by have := hnew q (.inr (.inl hq)); omega), hrq9.keepsK hkd (fun q hq e => by have := hnew q (.inr (.inr hq)); omega), hO9.rd.keepsK hkd (fun q hq e => by have := (hO9.block q hq).1; omega), lp, ls, lw, hl9, by omega, by omega, by omega, hB9.trans (hkd.below hB9.size (fun q e => by omega))⟩
            have e0 := D9.cell 0
            have e1 := D9.cell 1
            have e2 := D9.cell 2
            have f0 := D9.free 0
            have f1 := D9.free 1
            have f2 := D9.free 2
            have F := ((D9.set 0 (.slice a k ca)).set 1 (.slice b k cb)).set 2 (.slice d n3 cd)
            have q0 := F.cell 0
            have q1 := F.cell 1
            have q2 := F.cell 2
            have g0 := E9.cell 0
            have g1 := E9.cell 1
            have g2 := E9.cell 2
            have hne : ¬ w2.heap.size = w.heap.size := by omega
            clear hO9 E9 D9 hrp9 hrs9 hrq9 hB9 F hkd
            go_wp2
            exact bodyPost_ret (v := .tuple #[.agg #[.slice a k ca, .slice b k cb, .slice d n3 cd], .slice (some ⟨gl, 0, none⟩) k cl]) (by simp [results, Tryz.results5, go_sem, q0, q1, q2]) rfl HF.out
end Go.Proofs.YtglghdkjppcedaaGreatDoor
