/- Contracts: drawn clusters: l07Points, by what is needed of it. -/
import Derived.Test.YtglghdkjppcedaaGreatDoorPart16
import Derived.Test.YtglghdkjppcedaaGreatDoorPart9
import Derived.Test.YtglghdkjppcedaaGreatDoorPart20
import Derived.Test.YtglghdkjppcedaaGreatDoorPart14
import Derived.Deep.RegionHeld3
import Derived.Deep.DeepCutAuto
import Derived.Test.YtglghdkjppcedaaGreatDoorPart8
import Derived.Test.YtglghdkjppcedaaGreatDoorPart21
import Derived.StillTailTactics
namespace Go.Proofs.YtglghdkjppcedaaGreatDoor
open Go.RowKit

/-- Points of a cluster that are made one by one, with weights 0. -/
structure PtsOk (P S W : List Int) (n : Nat) : Prop where
  lp : P.length = n
  ls : S.length = n
  lw : W.length = n
  w0 : ∀ i, i < n → gI W i = 0
  ok : ∀ i, i < n → placeOk P S i ∧ freshOk P S i
theorem PtsOk.one : PtsOk [-1] [-1] [0] 1 := by
  refine ⟨rfl, rfl, rfl, fun i hi => ?_, fun i hi => ?_⟩
  · have : i = 0 := by omega
    subst this; rfl
  · have : i = 0 := by omega
    subst this
    exact ⟨.inl ⟨rfl, rfl, rfl⟩, fun j hj => absurd hj (by omega)⟩
theorem PtsOk.clu {P S W : List Int} {n : Nat} (h : PtsOk P S W n) (h0 : 0 < n) (h24 : n ≤ 24) : CluOk P S W :=
  ⟨⟨by rw [h.lp]; exact h0, by rw [h.lp]; exact h24, by rw [h.ls, h.lp], by rw [h.lw, h.lp]⟩, fun i hi => by rw [h.w0 i (by rw [h.lw] at hi; exact hi)]; omega, fun i hi => h.ok i (by rw [h.lp] at hi; exact hi)⟩
theorem PtsOk.step {P S W : List Int} {n : Nat} (h : PtsOk P S W n) (hn : 0 < n) {p : Nat} (hp : p < n) {s : Int} (hs : s = -1 ∨ (0 ≤ s ∧ (s = gI P p ∨ s = gI S p))) (hf : 0 ≤ s → ∀ x, 1 ≤ x → x < n → ¬ (gI P x = (p : Int) ∧ gI S x = s)) : PtsOk (P ++ [(p : Int)]) (S ++ [s]) (W ++ [0]) (n + 1) := by
  have hP : ∀ i, i < n → gI (P ++ [(p : Int)]) i = gI P i := fun i hi => gI_app_lt (by rw [h.lp]; exact hi)
  have hS : ∀ i, i < n → gI (S ++ [s]) i = gI S i := fun i hi => gI_app_lt (by rw [h.ls]; exact hi)
  have hPn : gI (P ++ [(p : Int)]) n = p := gI_app_at h.lp.symm
  have hSn : gI (S ++ [s]) n = s := gI_app_at h.ls.symm
  refine ⟨by simp [h.lp], by simp [h.ls], by simp [h.lw], fun i hi => ?_, fun i hi => ?_⟩
  · by_cases e : i = n
    · subst e; exact gI_app_at h.lw.symm
    · rw [gI_app_lt (by rw [h.lw]; omega)]; exact h.w0 i (by omega)
  · by_cases e : i = n
    · subst e
      refine ⟨.inr ⟨hn, by rw [hPn]; omega, by rw [hPn]; omega, ?_⟩, fun j hj hbad => ?_⟩
      · rw [hSn, hPn, Int.toNat_natCast, hP p hp, hS p hp]
        exact hs
      · rw [hSn, hPn, hP j hj, hS j hj] at hbad
        by_cases e0 : j = 0
        · subst e0
          rcases (h.ok 0 hn).1 with ⟨_, _, h3⟩ | ⟨h3, _⟩
          · omega
          · omega
        · exact hf hbad.1 j (by omega) hj ⟨hbad.2.2.symm, hbad.2.1.symm⟩
    · have hi' : i < n := by omega
      obtain ⟨h1, h2⟩ := h.ok i hi'
      refine ⟨?_, fun j hj => ?_⟩
      · rcases h1 with ⟨a, b, c⟩ | ⟨a, b, c, d⟩
        · exact .inl ⟨a, by rw [hP i hi']; exact b, by rw [hS i hi']; exact c⟩
        · refine .inr ⟨a, by rw [hP i hi']; exact b, by rw [hP i hi']; exact c, ?_⟩
          rw [hS i hi', hP i hi', hP _ (by omega), hS _ (by omega)]
          exact d
      · rw [hS i hi', hP i hi', hP j (by omega), hS j (by omega)]
        exact h2 j hj
/-- A cluster is drawn; it lies in new memory. -/
def RetPts (n : Nat) (w : World) (g : Nat) (e : Ending) (w' : World) : Prop :=
  ∃ (m : Nat) (a b d : Option Addr) (ca cb cd : Nat) (P S W : List Int), e = .returned (.agg #[.slice a m ca, .slice b m cb, .slice d m cd]) ∧ Own3 2 w' w.heap.size (.slice a m ca) (.slice b m cb) (.slice d m cd) P S W ∧ CluOk P S W ∧ P.length = m ∧ m ≤ n ∧ Src w' g ∧ Keeps (fun q => q = g) w w'

set_option maxRecDepth 100000 in
set_option maxHeartbeats 8000000 in
theorem points_w (gs n : Nat) (w : World) (s : Src w gs) (h1 : 1 ≤ n) (h24 : n ≤ 24) :
    Calls Tryz.prog 77 #[.pointer (some ⟨gs, 0, none⟩), .int .i64 (n : Int)] w (RetPts n w gs) := by
  obtain ⟨i0, hi, hz0, hz1, hz2⟩ := info_parts Tryz.infoI
  have hgs := s.lt
  obtain ⟨w0, hw0⟩ : ∃ w0 : World, ((((w.alloc (.cells #[.slice none 0 0, .slice none 0 0, .slice none 0 0] 26)).alloc (.cells #[.int .i64 (-1)] 2)).alloc (.cells #[.int .i64 (-1)] 2)).alloc (.cells #[.int .i64 0] 2)).alloc (.cells #[.slice (some ⟨w.heap.size + 1, 0, none⟩) 1 1, .slice (some ⟨w.heap.size + 2, 0, none⟩) 1 1, .slice (some ⟨w.heap.size + 3, 0, none⟩) 1 1] 26) = w0 := ⟨_, rfl⟩
  have hD : Blk w0 w.heap.size 26 #[.slice none 0 0, .slice none 0 0, .slice none 0 0] := by
    rw [← hw0]; exact ((((Blk.new w _ _).alloc _).alloc _).alloc _).alloc _
  have hA : Blk w0 (w.heap.size + 1) 2 #[.int .i64 (-1)] := by
    rw [← hw0]; exact (((Blk.new' (by simp)).alloc _).alloc _).alloc _
  have hB : Blk w0 (w.heap.size + 2) 2 #[.int .i64 (-1)] := by
    rw [← hw0]; exact ((Blk.new' (by simp)).alloc _).alloc _
  have hCC : Blk w0 (w.heap.size + 3) 2 #[.int .i64 0] := by
    rw [← hw0]; exact (Blk.new' (by simp)).alloc _
  have hG : Blk w0 (w.heap.size + 4) 26 #[.slice (some ⟨w.heap.size + 1, 0, none⟩) 1 1, .slice (some ⟨w.heap.size + 2, 0, none⟩) 1 1, .slice (some ⟨w.heap.size + 3, 0, none⟩) 1 1] := by
    rw [← hw0]; exact Blk.new' (by simp)
  have hbl : Below w.heap.size w w0 := by
    rw [← hw0]
    exact (((((Below.refl _ _).alloc (Nat.le_refl _) _).alloc (by simp) _).alloc (by simp; omega) _).alloc (by simp; omega) _).alloc (by simp; omega) _
  have own1 : ∀ (g : Nat) (x : Int), w.heap.size + 1 ≤ g → Blk w0 g 2 #[.int .i64 x] → OwnI w0 (w.heap.size + 1) (.slice (some ⟨g, 0, none⟩) 1 1) [x] := fun g x hg hb =>
    ⟨rfl, .inr ⟨g, 1, #[.int .i64 x], rfl, hg, hb, Nat.le_refl _, by unfold maxLen; omega, rfl, rfl⟩⟩
  have hC : ClB w0 (w.heap.size + 4) (w.heap.size + 1) (.slice (some ⟨w.heap.size + 1, 0, none⟩) 1 1) (.slice (some ⟨w.heap.size + 2, 0, none⟩) 1 1) (.slice (some ⟨w.heap.size + 3, 0, none⟩) 1 1) [-1] [-1] [0] := by
    refine ⟨hG, ⟨own1 _ _ (by omega) hA, own1 _ _ (by omega) hB, own1 _ _ (by omega) hCC, ?_, ?_, ?_⟩, ?_⟩
    · intro k e e'; simp [Value.ownBlock] at e e'; omega
    · intro k e e'; simp [Value.ownBlock] at e e'; omega
    · intro k e e'; simp [Value.ownBlock] at e e'; omega
    · rintro k (e | e | e) <;> simp [Value.ownBlock] at e <;> omega
  have s0 := s.below hbl
  have hK : Keeps (fun q => q = gs) w w0 := Keeps.of_below hbl
  have HW0 := Lib.hid hw0
  clear hw0 hA hB hCC hG own1 s hbl
  go_enter Tryz.func77, Tryz.ntmps77
  go_wp2_with fail
  rw [HW0.out]
  refine (next_w gs (n : Int) _ s0 (by omega) (by omega)).mono ?_
  rintro e w1 ⟨x, rfl, hx0, hx1, s1, hk1⟩
  obtain ⟨k0, rfl⟩ := Int.eq_ofNat_of_zero_le hx0
  have hC1 := hC.keeps hk1 (by omega) (fun g hg => by omega)
  have hD1 := hD.keeps hk1 (by omega)
  have hK1 := hK.trans hk1
  have hsz1 : w.heap.size + 4 < w1.heap.size := hC1.blk.lt
  clear hC hD hK s0 hk1 hx0
  go_wp2_with fail
  go_loopw [6] (fun kv wr => ∃ (k m : Nat) (a b d : Option Addr) (ca cb cd : Nat) (P S W : List Int), kv = .int .i64 (k : Int) ∧ m + k ≤ n ∧ 0 < m ∧ PtsOk P S W m ∧ ClB wr (w.heap.size + 4) (w.heap.size + 1) (.slice a m ca) (.slice b m cb) (.slice d m cd) P S W ∧ Blk wr w.heap.size 26 #[.slice none 0 0, .slice none 0 0, .slice none 0 0] ∧ Src wr gs ∧ Keeps (fun q => q = gs) w wr) (fun kv _ => (intOf kv).toNat)
  case atStart => exact ⟨k0, 1, _, _, _, _, _, _, _, _, _, rfl, by omega, by omega, PtsOk.one, hC1, hD1, s1, hK1⟩
  case round =>
    obtain ⟨k, m, a, b, d, ca, cb, cd, P, S, W, rfl, hmk, hm0, hok, hC, hD, s2, hK⟩ := hrel
    clear hC1 hD1 s1 hK1
    obtain ⟨wo, rfl⟩ : ∃ wo : World, wo = wr := ⟨_, rfl⟩
    have HOK := Lib.hid hok
    have HCL := Lib.hid (hok.clu hm0 (by omega))
    have hlp := Lib.hid hok.lp
    have hls := Lib.hid hok.ls
    have hlw := Lib.hid hok.lw
    have c0 := hC.blk.cell 0
    have c1 := hC.blk.cell 1
    have c2 := hC.blk.cell 2
    clear hok
    by_cases hk0 : k = 0
    · subst hk0
      have e0 := hD.cell 0
      have e1 := hD.cell 1
      have e2 := hD.cell 2
      have f0 := hD.free 0
      have f1 := hD.free 1
      have f2 := hD.free 2
      have hset : Keeps (fun q => q = w.heap.size) wo (((wo.setCell ⟨w.heap.size, 0, none⟩ (.slice a m ca)).setCell ⟨w.heap.size, 1, none⟩ (.slice b m cb)).setCell ⟨w.heap.size, 2, none⟩ (.slice d m cd)) := (((Keeps.refl (fun q => q = w.heap.size) wo).setCell (p := ⟨w.heap.size, 0, none⟩) rfl _).setCell (p := ⟨w.heap.size, 1, none⟩) rfl _).setCell (p := ⟨w.heap.size, 2, none⟩) rfl _
      have F := ((hD.set 0 (.slice a m ca)).set 1 (.slice b m cb)).set 2 (.slice d m cd)
      have q0 := F.cell 0
      have q1 := F.cell 1
      have q2 := F.cell 2
      have h3 := (hC.own.keeps hset (fun g hg e => by have := (hC.own.block g hg).1; omega)).base_le (base' := w.heap.size) (by omega)
      have HF : Hid (RetPts n w gs (.returned (.agg #[.slice a m ca, .slice b m cb, .slice d m cd])) (((wo.setCell ⟨w.heap.size, 0, none⟩ (.slice a m ca)).setCell ⟨w.heap.size, 1, none⟩ (.slice b m cb)).setCell ⟨w.heap.size, 2, none⟩ (.slice d m cd))) := Lib.hid ⟨m, _, _, _, _, _, _, P, S, W, rfl, h3, HCL.out, hlp.out, by omega, s2.keeps hset (fun q hq e => by omega), hK.joinK hset (fun q hq e => by omega)⟩
      clear h3 hset F hC hD HOK HCL hK s2
      go_wp2
      exact bodyPost_ret (v := .agg #[.slice a m ca, .slice b m cb, .slice d m cd]) (by simp [results, Tryz.results77, go_sem, q0, q1, q2]) rfl HF.out
    · have hkp : (0 : Int) < (k : Int) := by omega
      have w1e : IntKind.i64.wrap ((m : Int) - 1) = (m : Int) - 1 := IntWalk.i64_in _ (by omega)
      have hszo := hK.size
      go_upto_region 6 with fail
      go_cut [8] from 18 to 101 (fun s8 wc => ∃ par : Nat, par < m ∧ s8 = .int .i64 (par : Int) ∧ ClB wc (w.heap.size + 4) (w.heap.size + 1) (.slice a m ca) (.slice b m cb) (.slice d m cd) P S W ∧ Blk wc w.heap.size 26 #[.slice none 0 0, .slice none 0 0, .slice none 0 0] ∧ Src wc gs ∧ Keeps (fun q => q = gs) w wc)
      case first =>
        have hal : Below wo.heap.size wo (wo.alloc (.cells #[.int .i64 1, .int .i64 1, .int .i64 2, .int .i64 (m : Int)] 2)) := (Below.refl _ _).alloc (Nat.le_refl _) _
        have hr := rd_newsK (w := wo) rfl 2 [1, 1, 2, (m : Int)] (by simp)
        have s3 := s2.below hal
        have hC3 := hC.below hal
        have hD3 := hD.stays hal
        have hK3 := hK.trans (Keeps.of_below hal)
        clear c0 c1 c2 s2 hC hD hK
        go_wp2_with fail
        refine (pick_w gs _ [1, 1, 2, (m : Int)] _ s3 hr (by simp) (by simp) (fun b off e => by injection e with e; injection e with e; injection e; omega) ⟨_, rfl⟩).mono ?_
        rintro e w4 ⟨j, hj, rfl, s4, hk4⟩
        have hz := pickK (P := fun z => 1 ≤ z ∧ z ≤ 24) hj (fun z hz => by simp at hz; omega)
        generalize gI [1, 1, 2, (m : Int)] j = z at *
        have hC4 := hC3.keeps hk4 (by omega) (fun g hg => by omega)
        have hD4 := hD3.keeps hk4 (by omega)
        have hK4 := hK3.trans hk4
        clear s3 hC3 hD3 hK3 hk4 hr hal hj
        have fin : ∀ (y : Int) (W' : World), 0 ≤ y → y < (m : Int) → Src W' gs → Keeps (fun q => q = gs) w4 W' → ∃ par : Nat, par < m ∧ Value.int .i64 ((m : Int) - 1 - y) = .int .i64 (par : Int) ∧ ClB W' (w.heap.size + 4) (w.heap.size + 1) (.slice a m ca) (.slice b m cb) (.slice d m cd) P S W ∧ Blk W' w.heap.size 26 #[.slice none 0 0, .slice none 0 0, .slice none 0 0] ∧ Src W' gs ∧ Keeps (fun q => q = gs) w W' :=
          fun y W' h0 h1 hs hk => ⟨m - 1 - y.toNat, by omega, by congr 1; omega, hC4.keeps hk (by omega) (fun g hg => by omega), hD4.keeps hk (by omega), hs, hK4.trans hk⟩
        have FIN := Lib.hid fin
        clear fin hC4 hD4 hK4
        by_cases hzm : z < (m : Int)
        · go_wp2_with fail
          all_goals
            refine (next_w gs _ _ s4 (by omega) (by omega)).mono ?_
            rintro e w5 ⟨y, rfl, hy0, hy1, s5, hk5⟩
            have w2e : IntKind.i64.wrap ((m : Int) - 1 - y) = (m : Int) - 1 - y := IntWalk.i64_in _ (by omega)
            go_wp2
            go_meet
            exact FIN.out y _ hy0 (by omega) s5 hk5
        · go_wp2_with fail
          all_goals
            refine (next_w gs _ _ s4 (by omega) (by omega)).mono ?_
            rintro e w5 ⟨y, rfl, hy0, hy1, s5, hk5⟩
            have w2e : IntKind.i64.wrap ((m : Int) - 1 - y) = (m : Int) - 1 - y := IntWalk.i64_in _ (by omega)
            go_wp2
            go_meet
            exact FIN.out y _ hy0 (by omega) s5 hk5
      case rest =>
        obtain ⟨par, hpar, rfl, hC5, hD5, s5, hK5⟩ := hcut
        clear c0 c1 c2 s2 hC hD hK
        go_wp2_with fail
        refine (next_w gs 2 _ s5 (by omega) (by omega)).mono ?_
        rintro e w6 ⟨y, rfl, hy0, hy1, s6, hk6⟩
        have hC6 := hC5.keeps hk6 (by omega) (fun g hg => by omega)
        have hD6 := hD5.keeps hk6 (by omega)
        have hK6 := hK5.trans hk6
        clear s5 hC5 hD5 hK5 hk6
        have hsz6 := hK6.size
        go_upto_if 38 with fail
        go_cut [9] from 18 to 101 (fun s9 wc => ∃ sec : Int, s9 = .int .i64 sec ∧ Hid (sec = -1 ∨ (0 ≤ sec ∧ (sec = gI P par ∨ sec = gI S par))) ∧ ClB wc (w.heap.size + 4) (w.heap.size + 1) (.slice a m ca) (.slice b m cb) (.slice d m cd) P S W ∧ Blk wc w.heap.size 26 #[.slice none 0 0, .slice none 0 0, .slice none 0 0] ∧ Src wc gs ∧ Keeps (fun q => q = gs) w wc)
        case first =>
          have fin : ∀ (sec : Int) (W' : World), (sec = -1 ∨ (0 ≤ sec ∧ (sec = gI P par ∨ sec = gI S par))) → Src W' gs → Keeps (fun q => q = gs) w6 W' → ∃ sec' : Int, Value.int .i64 sec = .int .i64 sec' ∧ Hid (sec' = -1 ∨ (0 ≤ sec' ∧ (sec' = gI P par ∨ sec' = gI S par))) ∧ ClB W' (w.heap.size + 4) (w.heap.size + 1) (.slice a m ca) (.slice b m cb) (.slice d m cd) P S W ∧ Blk W' w.heap.size 26 #[.slice none 0 0, .slice none 0 0, .slice none 0 0] ∧ Src W' gs ∧ Keeps (fun q => q = gs) w W' :=
            fun sec W' h0 hs hk => ⟨sec, rfl, Lib.hid h0, hC6.keeps hk (by omega) (fun g hg => by omega), hD6.keeps hk (by omega), hs, hK6.trans hk⟩
          have FIN := Lib.hid fin
          clear fin
          have hpp : gI P par = -1 ∨ 0 ≤ gI P par := by
            rcases ((HOK.out).ok par hpar).1 with ⟨_, h, _⟩ | ⟨_, h, _⟩ <;> omega
          have hss : gI S par = -1 ∨ 0 ≤ gI S par := by
            rcases ((HOK.out).ok par hpar).1 with ⟨_, _, h⟩ | ⟨_, _, _, h | ⟨h, _⟩⟩ <;> omega
          have c0 := hC6.blk.cell 0
          have c1 := hC6.blk.cell 1
          have hoA := hC6.own.a
          have hoB := hC6.own.b
          rw [← hlp.out] at hoA
          rw [← hls.out] at hoB
          obtain ⟨ga, ka, he1, _⟩ := Own.pos hoA (by rw [hlp.out]; omega)
          obtain ⟨gb, kb, he2, _⟩ := Own.pos hoB (by rw [hls.out]; omega)
          injection he1 with h11 h12 h13
          injection he2 with h21 h22 h23
          subst h11 h13 h21 h23
          clear h12 h22
          have dP := hoA.cell par (by rw [hlp.out]; exact hpar)
          have dS := hoB.cell par (by rw [hls.out]; exact hpar)
          have HPP := Lib.hid hpp
          have l4 := hC6.blk.lt
          have lb := hoB.block gb rfl
          have hpi : (par : Int) < (m : Int) := by omega
          have hp0 : (0 : Int) ≤ (par : Int) := by omega
          have FR := Keeps.refl (fun q => q = gs) w6
          clear hC6 hD6 hK6 hoA hoB hpp
          by_cases hy : y = 0
          · have hyb : (y == 0) = true := by simp [hy]
            have FA := Lib.hid (FIN.out (gI P par) w6 (by rcases HPP.out with h | h; exact .inl h; exact .inr ⟨h, .inl rfl⟩) s6 FR)
            have FB : Hid (∀ W', Src W' gs → Keeps (fun q => q = gs) w6 W' → _) := Lib.hid (fun W' => FIN.out (gI P par) W' (by rcases HPP.out with h | h; exact .inl h; exact .inr ⟨h, .inl rfl⟩))
            have FC : Hid (0 ≤ gI S par → ∀ W', Src W' gs → Keeps (fun q => q = gs) w6 W' → _) := Lib.hid (fun h W' => FIN.out (gI S par) W' (.inr ⟨h, .inr rfl⟩))
            clear FIN HPP hy
            generalize gI P par = pv at *
            generalize gI S par = sv at *
            by_cases hs0 : 0 ≤ sv
            · go_wp2_with fail
              refine (next_w gs 2 _ s6 (by omega) (by omega)).mono ?_
              rintro e w7 ⟨y2, rfl, hy20, hy21, s7, hk7⟩
              have d1 := (hk7.cell (p := ⟨w.heap.size + 4, 1, none⟩) l4 (by show ¬ w.heap.size + 4 = gs; omega)).trans c1
              have d2 := (hk7.cell (p := ⟨gb, par, none⟩) lb.2 (by show ¬ gb = gs; omega)).trans dS
              have FB2 := Lib.hid (FB.out w7 s7 hk7)
              have FC2 := Lib.hid (FC.out hs0 w7 s7 hk7)
              clear FA FB FC c0 c1 dP dS hk7
              by_cases hy2 : y2 = 0
              · have hyb2 : (y2 == 0) = true := by simp [hy2]
                clear hy2
                go_wp2
                go_meet
                exact FC2.out
              · have hyb2 : (y2 == 0) = false := by simp [hy2]
                clear hy2
                go_wp2
                go_meet
                exact FB2.out
            · go_wp2
              go_meet
              exact FA.out
          · have hyb : (y == 0) = false := by simp [hy]
            have FA := Lib.hid (FIN.out (-1) w6 (.inl rfl) s6 FR)
            clear FIN hy c0 c1 dP dS
            go_wp2
            go_meet
            exact FA.out
        case rest =>
          obtain ⟨sec, rfl, HSEC, hC7, hD7, s7, hK7⟩ := hcut
          clear s6 hC6 hD6 hK6
          have hsz7 := hK7.size
          have c0 := hC7.blk.cell 0
          have c1 := hC7.blk.cell 1
          have hoA := hC7.own.a
          have hoB := hC7.own.b
          rw [← hlp.out] at hoA
          rw [← hls.out] at hoB
          obtain ⟨ga, ka, he1, _⟩ := Own.pos hoA (by rw [hlp.out]; omega)
          obtain ⟨gb, kb, he2, _⟩ := Own.pos hoB (by rw [hls.out]; omega)
          injection he1 with h11 h12 h13
          injection he2 with h21 h22 h23
          subst h11 h13 h21 h23
          clear h12 h22
          have hPx : ∀ x, x < m → wc.cell? ⟨ga, x, none⟩ = some (.int .i64 (gI P x)) := fun x hx => hoA.cell x (by rw [hlp.out]; exact hx)
          have hSx : ∀ x, x < m → wc.cell? ⟨gb, x, none⟩ = some (.int .i64 (gI S x)) := fun x hx => hoB.cell x (by rw [hls.out]; exact hx)
          have HPX := Lib.hid hPx
          have HSX := Lib.hid hSx
          clear hPx hSx hoA hoB
          go_wp2_with fail
          go_loop [9, 10] (fun s9 s10 => ∃ (j : Nat) (sec' : Int), 1 ≤ j ∧ j ≤ m ∧ s10 = .int .i64 (j : Int) ∧ s9 = .int .i64 sec' ∧ Hid ((sec' = sec ∨ sec' = -1) ∧ (0 ≤ sec' → ∀ x, 1 ≤ x → x < j → ¬ (gI P x = (par : Int) ∧ gI S x = sec')))) (fun _ s10 => m - (intOf s10).toNat)
          case atStart => exact ⟨1, sec, Nat.le_refl _, by omega, rfl, rfl, Lib.hid ⟨.inl rfl, fun _ x h1 h2 => by omega⟩⟩
          case round =>
            obtain ⟨j, sec', hj1, hjm, rfl, rfl, HR⟩ := hrel
            by_cases hlt : j < m
            · have dP := HPX.out j hlt
              have dS := HSX.out j hlt
              have hji : (j : Int) < (m : Int) := by omega
              have hj0 : (0 : Int) ≤ (j : Int) := by omega
              have HN : Hid ((sec' < 0 ∨ gI P j ≠ (par : Int) ∨ gI S j ≠ sec') → (sec' = sec ∨ sec' = -1) ∧ (0 ≤ sec' → ∀ x, 1 ≤ x → x < j + 1 → ¬ (gI P x = (par : Int) ∧ gI S x = sec'))) := Lib.hid (fun h => ⟨HR.out.1, fun h0 x h1 h2 => by
                by_cases e : x = j
                · subst e; intro h3; rcases h with h | h | h
                  · omega
                  · exact h h3.1
                  · exact h h3.2
                · exact HR.out.2 h0 x h1 (by omega)⟩)
              have HY : Hid (((-1 : Int) = sec ∨ (-1 : Int) = -1) ∧ (0 ≤ (-1 : Int) → ∀ x, 1 ≤ x → x < j + 1 → ¬ (gI P x = (par : Int) ∧ gI S x = -1))) := Lib.hid ⟨.inr rfl, fun h => by omega⟩
              clear HR HSEC HOK HCL
              generalize gI P j = x at *
              generalize gI S j = y at *
              by_cases hs0 : 0 ≤ sec'
              · by_cases hx : x = (par : Int)
                · have hxb : (x == (par : Int)) = true := by simp [hx]
                  by_cases hy : y = sec'
                  · have hyb : (y == sec') = true := by simp [hy]
                    clear HN hx hy
                    go_wp2
                    go_round
                    case rel => exact ⟨j + 1, -1, by omega, by omega, by go_num, rfl, HY⟩
                    case measure => simp [intOf]; omega
                  · have hyb : (y == sec') = false := by simp [hy]
                    have HN2 := Lib.hid (HN.out (.inr (.inr hy)))
                    clear HN hx hy
                    go_wp2
                    go_round
                    case rel => exact ⟨j + 1, sec', by omega, by omega, by go_num, rfl, HN2⟩
                    case measure => simp [intOf]; omega
                · have hxb : (x == (par : Int)) = false := by simp [hx]
                  have HN2 := Lib.hid (HN.out (.inr (.inl hx)))
                  clear HN hx
                  go_wp2
                  go_round
                  case rel => exact ⟨j + 1, sec', by omega, by omega, by go_num, rfl, HN2⟩
                  case measure => simp [intOf]; omega
              · have HN2 := Lib.hid (HN.out (.inl (by omega)))
                clear HN
                go_wp2
                go_round
                case rel => exact ⟨j + 1, sec', by omega, by omega, by go_num, rfl, HN2⟩
                case measure => simp [intOf]; omega
            · have hje : j = m := by omega
              have hstep : PtsOk (P ++ [(par : Int)]) (S ++ [sec']) (W ++ [0]) (m + 1) := HOK.out.step hm0 hpar (by
                rcases HR.out.1 with h | h
                · rw [h]; exact HSEC.out
                · exact .inl h) (fun h0 x h1 h2 => HR.out.2 h0 x h1 (by omega))
              have HST := Lib.hid hstep
              clear hstep HR HPX HSX HSEC hje HOK HCL
              have l4 := hC7.blk.lt
              have f0 := hC7.blk.free 0
              have hz : w.heap.size + 1 ≤ wc.heap.size := by omega
              have hji : ¬ (j : Int) < (m : Int) := by omega
              go_upto_region 18 with (at_builtin; refine wpList_pushL rfl (.tmp 86) (.tmp 88) 24 rfl (w.heap.size + 1) 2 i0 Tryz.underlying24 hi hz0 hz1 hz2 (.slice (some ⟨ga, 0, none⟩) m ca) P ((par : Int)) rfl hC7.own.a rfl (by rw [hlp.out]; omega) hz ?_; intro g0 k0 w8 ho hk hl; rw [hlp.out] at ho ⊢; have hcell := (hk.cell (p := ⟨w.heap.size + 4, 0, none⟩) l4 (fun e => hC7.ne _ (.inl e) rfl)).trans c0; have hfree := (hk.frozen (p := ⟨w.heap.size + 4, 0, none⟩) l4 (fun e => hC7.ne _ (.inl e) rfl)).trans f0)
              have hC8 := hC7.push0 ho hk hl
              have hK8 := hK7.joinK (keeps_push (gb := w.heap.size + 4) (base := w.heap.size + 1) (j := 0) (u := .slice (some ⟨g0, 0, none⟩) (m + 1) k0) hk (fun k e => (hC7.own.a.block k e).1)) (fun q hq e => by omega)
              have hD8 := hD7.keeps (keeps_push (gb := w.heap.size + 4) (base := w.heap.size + 1) (j := 0) (u := .slice (some ⟨g0, 0, none⟩) (m + 1) k0) hk (fun k e => (hC7.own.a.block k e).1)) (by omega)
              have s8 := s7.keeps (keeps_push (gb := w.heap.size + 4) (base := w.heap.size + 1) (j := 0) (u := .slice (some ⟨g0, 0, none⟩) (m + 1) k0) hk (fun k e => (hC7.own.a.block k e).1)) (fun q hq => by omega)
              clear hC7 hK7 hD7 s7 ho hk hl hcell hfree c0 c1 f0
              generalize w8.setCell ⟨w.heap.size + 4, 0, none⟩ (.slice (some ⟨g0, 0, none⟩) (m + 1) k0) = w9 at *
              have l4 := hC8.blk.lt
              have c1 := hC8.blk.cell 1
              have f1 := hC8.blk.free 1
              have hz : w.heap.size + 1 ≤ w9.heap.size := by omega
              go_upto_region 19 with (at_builtin; refine wpList_pushL rfl (.tmp 92) (.tmp 94) 24 rfl (w.heap.size + 1) 2 i0 Tryz.underlying24 hi hz0 hz1 hz2 (.slice (some ⟨gb, 0, none⟩) m cb) S (sec') rfl hC8.own.b rfl (by rw [hls.out]; omega) hz ?_; intro g1 k1 w10 ho hk hl; rw [hls.out] at ho ⊢; have hcell := (hk.cell (p := ⟨w.heap.size + 4, 1, none⟩) l4 (fun e => hC8.ne _ (.inr (.inl e)) rfl)).trans c1; have hfree := (hk.frozen (p := ⟨w.heap.size + 4, 1, none⟩) l4 (fun e => hC8.ne _ (.inr (.inl e)) rfl)).trans f1)
              have hC9 := hC8.push1 ho hk hl
              have hkk := keeps_push (gb := w.heap.size + 4) (base := w.heap.size + 1) (j := 1) (u := .slice (some ⟨g1, 0, none⟩) (m + 1) k1) hk (fun k e => (hC8.own.b.block k e).1)
              have hK9 := hK8.joinK hkk (fun q hq e => by omega)
              have hD9 := hD8.keeps hkk (by omega)
              have s9 := s8.keeps hkk (fun q hq => by omega)
              clear hC8 hK8 hD8 s8 ho hk hl hcell hfree c1 f1 hkk
              generalize w10.setCell ⟨w.heap.size + 4, 1, none⟩ (.slice (some ⟨g1, 0, none⟩) (m + 1) k1) = w11 at *
              have l4 := hC9.blk.lt
              have c2 := hC9.blk.cell 2
              have f2 := hC9.blk.free 2
              have hz : w.heap.size + 1 ≤ w11.heap.size := by omega
              go_wp2_with (at_builtin; refine wpList_pushL rfl (.tmp 98) (.tmp 99) 24 rfl (w.heap.size + 1) 2 i0 Tryz.underlying24 hi hz0 hz1 hz2 (.slice d m cd) W (0) rfl hC9.own.c rfl (by rw [hlw.out]; omega) hz ?_; intro g2 k2 w12 ho hk hl; rw [hlw.out] at ho ⊢; have hcell := (hk.cell (p := ⟨w.heap.size + 4, 2, none⟩) l4 (fun e => hC9.ne _ (.inr (.inr e)) rfl)).trans c2; have hfree := (hk.frozen (p := ⟨w.heap.size + 4, 2, none⟩) l4 (fun e => hC9.ne _ (.inr (.inr e)) rfl)).trans f2)
              have hC10 := hC9.push2 ho hk hl
              have hkk := keeps_push (gb := w.heap.size + 4) (base := w.heap.size + 1) (j := 2) (u := .slice (some ⟨g2, 0, none⟩) (m + 1) k2) hk (fun k e => (hC9.own.c.block k e).1)
              have hK10 := hK9.joinK hkk (fun q hq e => by omega)
              have hD10 := hD9.keeps hkk (by omega)
              have s10 := s9.keeps hkk (fun q hq => by omega)
              clear hC9 hK9 hD9 s9 ho hk hl hcell hfree c2 f2 hkk
              go_roundw
              case rel => exact ⟨k - 1, m + 1, _, _, _, _, _, _, _, _, _, by congr 1; omega, by omega, by omega, HST.out, hC10, hD10, s10, hK10⟩
              case measure => simp [intOf]; omega
end Go.Proofs.YtglghdkjppcedaaGreatDoor

/- Contract: spec.l07Draw, by what is needed of it. -/
namespace Go.Proofs.YtglghdkjppcedaaGreatDoor
open Go.RowKit

theorem clB_new {w : World} {base : Nat} {p s q : Value} {P S W : List Int} (h : Own3 2 w base p s q P S W) : ClB (w.alloc (.cells #[p, s, q] 26)) w.heap.size base p s q P S W :=
  ⟨Blk.new _ _ _, h.below ((Below.refl _ _).alloc (Nat.le_refl _) _), fun g hg => by have := (h.block g hg).2; omega⟩
/-- One number of the third slice is stored. -/
theorem ClB.set2 {w : World} {gb base g n c : Nat} {p s : Value} {P S W : List Int} (h : ClB w gb base p s (.slice (some ⟨g, 0, none⟩) n c) P S W) (hn : W.length = n) (j : Nat) (x : Int) : ClB (w.setCell ⟨g, j, none⟩ (.int .i64 x)) gb base p s (.slice (some ⟨g, 0, none⟩) n c) P S (W.set j x) := by
  have hg : g ≠ gb := h.ne g (.inr (.inr rfl))
  refine ⟨h.blk.other (fun e => hg e.symm) j _, ⟨?_, ?_, ?_, h.own.ab, h.own.ac, h.own.bc⟩, h.ne⟩
  · exact h.own.a.other (g := g) (fun k e e2 => h.own.ac k e (by rw [e2]; rfl)) j _
  · exact h.own.b.other (g := g) (fun k e e2 => h.own.bc k e (by rw [e2]; rfl)) j _
  · have := h.own.c
    rw [← hn] at this ⊢
    have h2 := this.set j x
    exact h2
/-- A cluster is drawn, or points with other weights. -/
def RetDk (w : World) (g : Nat) (e : Ending) (w' : World) : Prop :=
  ∃ (m : Nat) (a b d : Option Addr) (ca cb cd : Nat) (P S W : List Int), e = .returned (.agg #[.slice a m ca, .slice b m cb, .slice d m cd]) ∧ Own3 2 w' w.heap.size (.slice a m ca) (.slice b m cb) (.slice d m cd) P S W ∧ P.length = m ∧ S.length = m ∧ W.length = m ∧ 1 ≤ m ∧ m ≤ 24 ∧ Src w' g ∧ Keeps (fun q => q = g) w w' ∧ CluOk P S W
theorem keeps_D {w : World} (g : Nat) (x y z : Value) : Keeps (fun q => q = g) w (((w.setCell ⟨g, 0, none⟩ x).setCell ⟨g, 1, none⟩ y).setCell ⟨g, 2, none⟩ z) :=
  (((Keeps.refl (fun q => q = g) w).setCell (p := ⟨g, 0, none⟩) rfl _).setCell (p := ⟨g, 1, none⟩) rfl _).setCell (p := ⟨g, 2, none⟩) rfl _
theorem retDk_mk {w wo : World} {gs m : Nat} {a b d : Option Addr} {ca cb cd : Nat} {P S W : List Int} (h : Own3 2 wo (w.heap.size + 1) (.slice a m ca) (.slice b m cb) (.slice d m cd) P S W) (h1 : P.length = m) (h2 : S.length = m) (h3 : W.length = m) (h4 : 1 ≤ m) (h5 : m ≤ 24) (s : Src wo gs) (hgs : gs < w.heap.size) (hK : Keeps (fun q => q = gs) w wo) (hcl : CluOk P S W) :
    RetDk w gs (.returned (.agg #[.slice a m ca, .slice b m cb, .slice d m cd])) (((wo.setCell ⟨w.heap.size, 0, none⟩ (.slice a m ca)).setCell ⟨w.heap.size, 1, none⟩ (.slice b m cb)).setCell ⟨w.heap.size, 2, none⟩ (.slice d m cd)) :=
  ⟨m, _, _, _, _, _, _, P, S, W, rfl, (h.keeps (keeps_D _ _ _ _) (fun g hg e => by have := (h.block g hg).1; omega)).base_le (by omega), h1, h2, h3, h4, h5, s.keeps (keeps_D _ _ _ _) (fun q hq e => by omega), hK.joinK (keeps_D _ _ _ _) (fun q hq e => by omega), hcl⟩
theorem clu_other {P S W W' : List Int} {m : Nat} (hc : CluOk P S W) (hl : W'.length = m) (hp : P.length = m) (hb : ∀ i, i < m → -100000 ≤ gI W' i ∧ gI W' i ≤ 100000) : CluOk P S W' :=
  ⟨⟨hc.1.1, hc.1.2.1, hc.1.2.2.1, by omega⟩, fun i hi => hb i (by omega), hc.2.2⟩
theorem bra_23 : BraOk [2, 3] := braB_iff.1 (by decide +kernel)

/-- A cluster of three points. -/
def RetC3 (w : World) (e : Ending) (w' : World) : Prop := ∃ (a b d : Option Addr) (i j k : Nat) (P S W : List Int), e = .returned (.agg #[.slice a 3 i, .slice b 3 j, .slice d 3 k]) ∧ Own3 2 w' w.heap.size (.slice a 3 i) (.slice b 3 j) (.slice d 3 k) P S W ∧ P.length = 3 ∧ S.length = 3 ∧ W.length = 3 ∧ Below w.heap.size w w' ∧ CluOk P S W
theorem branch23_c (v : Value) (w : World) (h : Rd w v [2, 3]) :
    Calls Tryz.prog 78 #[.agg #[v], .int .i64 3] w (RetC3 w) := by
  refine (l07Branch_c v [2, 3] 3 w h bra_23 (by omega) (by omega)).mono ?_
  rintro e w' ⟨a, i, b, j, d, k, rfl, ho, hb⟩
  have l1 : (parL 3).length = 3 := parL_len 3
  have l2 : (secM (seqL [2, 3] 3)).length = 3 := by rw [secM_len, seqL_len]
  have l3 : (seqL [2, 3] 3).length = 3 := seqL_len _ _
  rw [l1, l2, l3] at ho ⊢
  exact ⟨a, b, d, i, j, k, _, _, _, rfl, ho, l1, l2, l3, hb, cluB_iff.1 (by decide +kernel)⟩
set_option maxRecDepth 100000 in
set_option maxHeartbeats 8000000 in
theorem drawK_w (gs n : Nat) (w : World) (s : Src w gs) (h1 : 1 ≤ n) (h24 : n ≤ 24) :
    Calls Tryz.prog 56 #[.pointer (some ⟨gs, 0, none⟩), .int .i64 (n : Int)] w (RetDk w gs) := by
  obtain ⟨i0, hi, hz0, hz1, hz2⟩ := info_parts Tryz.infoI
  have hgs := s.lt
  have D := Blk.new w 26 #[.slice none 0 0, .slice none 0 0, .slice none 0 0]
  have hbl0 : Below w.heap.size w (w.alloc (.cells #[.slice none 0 0, .slice none 0 0, .slice none 0 0] 26)) := (Below.refl _ _).alloc (Nat.le_refl _) _
  have hK := Keeps.of_below (M := fun q => q = gs) hbl0
  have s1 := s.below hbl0
  clear hbl0 s
  go_enter Tryz.func56, Tryz.ntmps56
  go_wp2_with fail
  refine (points_w gs n _ s1 h1 h24).mono ?_
  rintro e w1 ⟨m, a, b, d, ca, cb, cd, P, S, W, rfl, ho, hclu, hlp, hmn, s2, hk1⟩
  have ho := ho.base_le (base' := w.heap.size + 1) (by simp)
  have D1 := D.keeps hk1 (by omega)
  have hK1 := hK.trans hk1
  have hC1 := clB_new ho
  have hal : Below w1.heap.size w1 (w1.alloc (.cells #[.slice a m ca, .slice b m cb, .slice d m cd] 26)) := (Below.refl _ _).alloc (Nat.le_refl _) _
  have D2 := D1.stays hal
  have s3 := s2.below hal
  have hK2 := hK1.trans (Keeps.of_below hal)
  have hgb : w.heap.size + 1 ≤ w1.heap.size := by have := hk1.size; simp at this; omega
  have hls : S.length = m := by have := hclu.1; omega
  have hlw : W.length = m := by have := hclu.1; omega
  have hm1 : 1 ≤ m := by have := hclu.1; omega
  have HCLU := Lib.hid hclu
  have HLP := Lib.hid hlp
  have HLS := Lib.hid hls
  have HLW := Lib.hid hlw
  clear D D1 hK hK1 hk1 s1 s2 ho hal hclu hlp hls hlw
  go_wp2_with fail
  generalize hgbe : w1.heap.size = gb at *
  generalize w1.alloc (.cells #[.slice a m ca, .slice b m cb, .slice d m cd] 26) = w2 at *
  clear hgbe
  refine (next_w gs 2 _ s3 (by omega) (by omega)).mono ?_
  rintro e w3 ⟨y, rfl, hy0, hy1, s4, hk3⟩
  have hC3 := hC1.keeps hk3 (by omega) (fun g hg => by omega)
  have D3 := D2.keeps hk3 (by omega)
  have hK3 := hK2.trans hk3
  clear hC1 D2 hK2 s3 hk3
  have hz3 : w.heap.size < w3.heap.size := D3.lt
  by_cases hy : y = 0
  · have hyb : (y == 0) = true := by simp [hy]
    clear hy
    go_wp2_with fail
    go_loopw [6] (fun iv wr => ∃ (k : Nat) (W' : List Int), k ≤ m ∧ iv = .int .i64 (k : Int) ∧ W'.length = m ∧ Hid (∀ i, i < m → -100000 ≤ gI W' i ∧ gI W' i ≤ 100000) ∧ ClB wr gb (w.heap.size + 1) (.slice a m ca) (.slice b m cb) (.slice d m cd) P S W' ∧ Blk wr w.heap.size 26 #[.slice none 0 0, .slice none 0 0, .slice none 0 0] ∧ Src wr gs ∧ Keeps (fun q => q = gs) w wr) (fun iv _ => m - (intOf iv).toNat)
    case atStart => exact ⟨0, W, Nat.zero_le _, rfl, HLW.out, Lib.hid (fun i hi => HCLU.out.2.1 i (by rw [HLW.out]; exact hi)), hC3, D3, s4, hK3⟩
    case round =>
      obtain ⟨k, W', hk, rfl, hlw, HWB, hC, hD, s5, hK⟩ := hrel
      clear hC3 D3 s4 hK3
      obtain ⟨wo, rfl⟩ : ∃ wo : World, wo = wr := ⟨_, rfl⟩
      have HLW' := Lib.hid hlw
      have hzo : w.heap.size < wo.heap.size := hD.lt
      have c2 := hC.blk.cell 2
      by_cases hlt : k < m
      · have hoC := hC.own.c
        rw [← hlw] at hoC
        clear hlw
        obtain ⟨gq, kq, he, hgq, hgq2, _, _⟩ := Own.pos hoC (by rw [HLW'.out]; omega)
        injection he with e1 e2 e3
        subst e1 e3
        clear e2 hoC
        have hki : (k : Int) < (m : Int) := by omega
        have hk0 : (0 : Int) ≤ (k : Int) := by omega
        have hgqb : gq ≠ gb := hC.ne gq (.inr (.inr rfl))
        have hbd := (Below.refl wo.heap.size wo).drew
        have hCd := hC.below hbd
        have sd := s5.below hbd
        have hDd := hD.stays hbd
        have hKd := hK.trans (Keeps.of_below hbd)
        have HC : wo.cell? ⟨gb, 2, none⟩ = some (.slice (some ⟨gq, 0, none⟩) m cd) := c2
        clear c2
        go_wp2_with fail
        go_region_held3 (fun X => X.cell? ⟨gb, 2, none⟩ = some (.slice (some ⟨gq, 0, none⟩) m cd))
          (first | assumption | exact HC4 | exact HC5 _ | exact HC)
          (first
            | (go_at_call 31; (with_reducible refine (next_w gs 8 _ sd (by omega) (by omega)).mono ?_); rintro e w4 ⟨x, rfl, hx0, hx1, s6, hk4⟩; have hC4 := hCd.keeps hk4 (by omega) (fun g hg => by omega); have HC4 := hC4.blk.cell 2; have HC5 : ∀ v, (w4.setCell ⟨gq, k, none⟩ v).cell? ⟨gb, 2, none⟩ = some (.slice (some ⟨gq, 0, none⟩) m cd) := (fun v => (hC4.blk.other (g' := gq) (by omega) k v).cell 2); have hoC4 := hC4.own.c; rw [← HLW'.out] at hoC4; have cz := hoC4.cell k (by rw [HLW'.out]; exact hlt); have fz := hoC4.free k; rw [HLW'.out] at hoC4))
        all_goals
          have w1e : IntKind.i64.wrap (x - 1) = x - 1 := IntWalk.i64_in _ (by omega)
          have hkk : Keeps (fun q => q = gq) w4 (w4.setCell ⟨gq, k, none⟩ (.int .i64 (x - 1))) := (Keeps.refl (fun q => q = gq) w4).setCell (p := ⟨gq, k, none⟩) rfl _
          clear HC5
          have hC5 := hC4.set2 HLW'.out k (x - 1)
          have hD5 := (hDd.keeps hk4 (by omega)).keeps hkk (by omega)
          have s7 := s6.keeps hkk (fun q hq => by omega)
          have hK5 := (hKd.trans hk4).joinK hkk (fun q hq e => by omega)
          rw [w1e]
          have HWB2 : Hid (∀ i, i < m → -100000 ≤ gI (W'.set k (x - 1)) i ∧ gI (W'.set k (x - 1)) i ≤ 100000) := Lib.hid (fun i hi => by
            by_cases e : k = i
            · subst e; rw [gI_set_at (by rw [HLW'.out]; exact hi)]; omega
            · rw [gI_set_ne e]; exact HWB.out i hi)
          clear hC4 hCd hDd hKd hk4 s6 hkk cz fz hoC4 HC4 HC hC hD hK s5 sd
          go_wp2
          go_roundw
          case rel => exact ⟨k + 1, W'.set k (x - 1), by omega, by go_num, by rw [List.length_set]; exact HLW'.out, HWB2, hC5, hD5, s7, hK5⟩
          case measure => simp [intOf]; omega
      · have c0 := hC.blk.cell 0
        have c1 := hC.blk.cell 1
        have e0 := hD.cell 0
        have e1 := hD.cell 1
        have e2 := hD.cell 2
        have f0 := hD.free 0
        have f1 := hD.free 1
        have f2 := hD.free 2
        have F := ((hD.set 0 (.slice a m ca)).set 1 (.slice b m cb)).set 2 (.slice d m cd)
        have q0 := F.cell 0
        have q1 := F.cell 1
        have q2 := F.cell 2
        have HF := Lib.hid (retDk_mk hC.own HLP.out HLS.out hlw hm1 (by omega) s5 hgs hK (clu_other HCLU.out hlw HLP.out HWB.out))
        clear hC hD hK s5 F hlw
        go_wp2
        exact bodyPost_ret (v := .agg #[.slice a m ca, .slice b m cb, .slice d m cd]) (by simp [results, Tryz.results56, go_sem, q0, q1, q2]) rfl HF.out
  · have hyb : (y == 0) = false := by simp [hy]
    clear hy
    go_wp2_with fail
    go_loopw [7] (fun iv wr => ∃ (k : Nat) (W' : List Int), k ≤ m ∧ iv = .int .i64 (k : Int) ∧ W'.length = m ∧ ClB wr gb (w.heap.size + 1) (.slice a m ca) (.slice b m cb) (.slice d m cd) P S W' ∧ Blk wr w.heap.size 26 #[.slice none 0 0, .slice none 0 0, .slice none 0 0] ∧ Src wr gs ∧ Keeps (fun q => q = gs) w wr) (fun iv _ => m - (intOf iv).toNat)
    case atStart => exact ⟨0, W, Nat.zero_le _, rfl, HLW.out, hC3, D3, s4, hK3⟩
    case round =>
      obtain ⟨k, W', hk, rfl, hlw, hC, hD, s5, hK⟩ := hrel
      clear hC3 D3 s4 hK3
      obtain ⟨wo, rfl⟩ : ∃ wo : World, wo = wr := ⟨_, rfl⟩
      have HLW' := Lib.hid hlw
      have hzo : w.heap.size < wo.heap.size := hD.lt
      have c0 := hC.blk.cell 0
      have c1 := hC.blk.cell 1
      have c2 := hC.blk.cell 2
      have hrp := hC.own.a.rd
      have hrs := hC.own.b.rd
      by_cases hlt : k < m
      · have hoC := hC.own.c
        rw [← hlw] at hoC
        clear hlw
        obtain ⟨gq, kq, he, hgq, hgq2, _, _⟩ := Own.pos hoC (by rw [HLW'.out]; omega)
        injection he with e1 e2 e3
        subst e1 e3
        clear e2 hoC
        have hki : (k : Int) < (m : Int) := by omega
        have hgqb : gq ≠ gb := hC.ne gq (.inr (.inr rfl))
        go_wp2_with fail
        refine ((l07Simple_c _ _ _ P S W k _ hrp hrs HCLU.out (by rw [HLP.out]; exact hlt)).mono fun e w' h => retL_of h (show (mRow P S k).length = m by rw [mRow_len]; exact HLP.out)).mono ?_
        rintro e w4 ⟨ao, ko, rfl, hO, hb4⟩
        have hC4 := hC.below hb4
        have hD4 := hD.stays hb4
        have s6 := s5.below hb4
        have hK4 := hK.trans (Keeps.of_below hb4)
        have hz4 := hb4.size
        have HML := Lib.hid (show (mRow P S k).length = m by rw [mRow_len]; exact HLP.out)
        generalize mRow P S k = O at *
        rw [← HML.out] at hO
        obtain ⟨go, _, he, hgo, hgo2, _, _⟩ := Own.pos hO (by rw [HML.out]; omega)
        injection he with e1 e2 e3
        subst e1 e3
        clear e2
        rw [HML.out] at hO
        clear hC hD s5 hK hb4 c0 c1 c2 hrp hrs
        have hal : Below w4.heap.size w4 (w4.alloc (.cells #[.int .i64 0, .int .i64 0, .int .i64 1, .int .i64 1, .int .i64 2] 2)) := (Below.refl _ _).alloc (Nat.le_refl _) _
        have hr := rd_newsK (w := w4) rfl 2 [0, 0, 1, 1, 2] (by simp)
        have hC5 := hC4.below hal
        have hD5 := hD4.stays hal
        have s7 := s6.below hal
        have hK5 := hK4.trans (Keeps.of_below hal)
        clear hC4 hD4 s6 hK4
        go_wp2_with fail
        refine (pick_w gs _ [0, 0, 1, 1, 2] _ s7 hr (by simp) (by simp) (fun b off e => by injection e with e; injection e with e; injection e; omega) ⟨_, rfl⟩).mono ?_
        rintro e w6 ⟨j0, hj0, rfl, s8, hk6⟩
        have hO6 := (hO.below hal (Nat.le_refl _)).keeps hk6 (fun g hg e => by have := (hO.block g hg).1; omega)
        have hC6 := hC5.keeps hk6 (by omega) (fun g hg => by omega)
        have hD6 := hD5.keeps hk6 (by omega)
        have hK6 := hK5.trans hk6
        have hzz := hk6.size
        have hOx : ∀ x, x < m → w6.cell? ⟨go, x, none⟩ = some (.int .i64 (gI O x)) := fun x hx => by
          rw [← HML.out] at hO6
          exact hO6.cell x (by rw [HML.out]; exact hx)
        have HOX := Lib.hid hOx
        have hgo6 : go < w6.heap.size := (hO6.block go rfl).2
        clear hC5 hD5 s7 hK5 hk6 hr hal hO hO6 hOx HML hj0
        generalize gI [0, 0, 1, 1, 2] j0 = ev at *
        go_wp2_with fail
        go_loopw [10] (fun jv wr => ∃ (j : Nat) (W2 : List Int), j ≤ m ∧ jv = .int .i64 (j : Int) ∧ W2.length = m ∧ ClB wr gb (w.heap.size + 1) (.slice a m ca) (.slice b m cb) (.slice (some ⟨gq, 0, none⟩) m cd) P S W2 ∧ Keeps (fun q => q = gq) w6 wr) (fun jv _ => m - (intOf jv).toNat)
        case atStart => exact ⟨0, W', Nat.zero_le _, rfl, HLW'.out, hC6, Keeps.refl _ _⟩
        case round =>
          obtain ⟨j, W2, hj, rfl, hlw2, hC7, hkq⟩ := hrel
          clear hC6
          obtain ⟨wt, rfl⟩ : ∃ wt : World, wt = wr := ⟨_, rfl⟩
          have HLW2 := Lib.hid hlw2
          have hzt := hkq.size
          by_cases hltj : j < m
          · have c2 := hC7.blk.cell 2
            have hoC := hC7.own.c
            rw [← hlw2] at hoC
            have cz := hoC.cell j (by rw [hlw2]; exact hltj)
            have fz := hoC.free j
            have dO := HOX.out j hltj
            rw [← hkq.cell (p := ⟨go, j, none⟩) hgo6 (by show ¬ go = gq; omega)] at dO
            have hji : (j : Int) < (m : Int) := by omega
            have hj0 : (0 : Int) ≤ (j : Int) := by omega
            have hC8 : ∀ x, ClB (wt.drew.setCell ⟨gq, j, none⟩ (.int .i64 x)) gb (w.heap.size + 1) (.slice a m ca) (.slice b m cb) (.slice (some ⟨gq, 0, none⟩) m cd) P S (W2.set j x) := fun x => (hC7.below (Below.refl _ _).drew).set2 hlw2 j x
            have hk8 : ∀ x, Keeps (fun q => q = gq) w6 (wt.drew.setCell ⟨gq, j, none⟩ (.int .i64 x)) := fun x => (hkq.drewN 1).setCell (p := ⟨gq, j, none⟩) rfl _
            have HC8 := Lib.hid hC8
            have HK8 := Lib.hid hk8
            clear hC7 hkq hoC hlw2 hC8 hk8
            generalize gI W2 j = x1 at *
            generalize gI O j = x2 at *
            go_wp2_with fail
            go_still_tail 16, (by kernel_rfl)
            change wpList _ _ _ _ _ wt.drew
            go_wp2
            go_roundw
            case rel => exact ⟨j + 1, _, by omega, by go_num, by rw [List.length_set]; exact HLW2.out, HC8.out _, HK8.out _⟩
            case measure => simp [intOf]; omega
          · have hD9 := hD6.keeps hkq (by omega)
            have s9 := s8.keeps hkq (fun q hq => by omega)
            have hK9 := hK6.joinK hkq (fun q hq e => by omega)
            clear HOX hD6 s8 hK6 hkq hlw2
            go_wp2
            go_roundw
            case rel => exact ⟨k + 1, W2, by omega, by go_num, HLW2.out, hC7, hD9, s9, hK9⟩
            case measure => simp [intOf]; omega
      · have hrq := hC.own.c.rd
        go_wp2_with fail
        refine (l07Is_c _ _ _ P S W' _ hrp hrs hrq).mono ?_
        rintro e w4 ⟨rfl, hb4⟩
        have hC4 := hC.below hb4
        have hD4 := hD.stays hb4
        have s6 := s5.below hb4
        have hK4 := hK.trans (Keeps.of_below hb4)
        have hz4 := hb4.size
        clear hC hD hK s5 hb4 c0 c1 c2 hrp hrs hrq
        cases hcl : cluB P S W'
        · have hal : Below w4.heap.size w4 (w4.alloc (.cells #[.int .i64 2, .int .i64 3] 2)) := (Below.refl _ _).alloc (Nat.le_refl _) _
          have hr := rd_newsK (w := w4) rfl 2 [2, 3] (by simp)
          have hD5 := hD4.stays hal
          have s7 := s6.below hal
          have hK5 := hK4.trans (Keeps.of_below hal)
          clear hC4 hD4 s6 hK4 hcl hlw
          go_wp2_with fail
          refine (branch23_c _ _ hr).mono ?_
          rintro e w5 ⟨a', b', d', i', j', k', P', S', W5, rfl, ho, l1, l2, l3, hb5, hc5⟩
          have ho := ho.base_le (base' := w.heap.size + 1) (by simp; omega)
          have hD6 := hD5.stays hb5
          have s8 := s7.below hb5
          have hK6 := hK5.trans (Keeps.of_below hb5)
          have HF := Lib.hid (retDk_mk ho l1 l2 l3 (by omega) (by omega) s8 hgs hK6 hc5)
          have e0 := hD6.cell 0
          have e1 := hD6.cell 1
          have e2 := hD6.cell 2
          have f0 := hD6.free 0
          have f1 := hD6.free 1
          have f2 := hD6.free 2
          have F := ((hD6.set 0 (.slice a' 3 i')).set 1 (.slice b' 3 j')).set 2 (.slice d' 3 k')
          have q0 := F.cell 0
          have q1 := F.cell 1
          have q2 := F.cell 2
          clear ho l1 l2 l3 hc5 hD5 hD6 s7 s8 hK5 hK6 hb5 F hr hal
          go_wp2
          exact bodyPost_ret (v := .agg #[.slice a' 3 i', .slice b' 3 j', .slice d' 3 k']) (by simp [results, Tryz.results56, go_sem, q0, q1, q2]) rfl HF.out
        · have c0 := hC4.blk.cell 0
          have c1 := hC4.blk.cell 1
          have c2 := hC4.blk.cell 2
          have e0 := hD4.cell 0
          have e1 := hD4.cell 1
          have e2 := hD4.cell 2
          have f0 := hD4.free 0
          have f1 := hD4.free 1
          have f2 := hD4.free 2
          have F := ((hD4.set 0 (.slice a m ca)).set 1 (.slice b m cb)).set 2 (.slice d m cd)
          have q0 := F.cell 0
          have q1 := F.cell 1
          have q2 := F.cell 2
          have HF := Lib.hid (retDk_mk hC4.own HLP.out HLS.out hlw hm1 (by omega) s6 hgs hK4 (cluB_iff.1 hcl))
          clear hC4 hD4 hK4 s6 F hlw hcl
          go_wp2
          exact bodyPost_ret (v := .agg #[.slice a m ca, .slice b m cb, .slice d m cd]) (by simp [results, Tryz.results56, go_sem, q0, q1, q2]) rfl HF.out
end Go.Proofs.YtglghdkjppcedaaGreatDoor
