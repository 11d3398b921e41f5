/- Contracts: BranchOfGenerators, the program. -/
import Derived.Test.YtiinceflafigeaaBogPure
import Derived.Test.YtiinceflafigeaaL03Is
import Derived.Test.YtiinceflafigeaaPushS
import Derived.Test.YtiinceflafigeaaOrdPure
import Derived.Deep.DeepCutAuto
namespace Go.Proofs.Ytiinceflafigeaa
open Go.RowKit

theorem mul_bdB {a b A B : Int} (h1 : 0 ≤ a) (h2 : a ≤ A) (h3 : 0 ≤ b) (h4 : b ≤ B) : 0 ≤ a * b ∧ a * b ≤ A * B := ⟨Int.mul_nonneg h1 h3, Int.mul_le_mul h2 h4 h3 (by omega)⟩
/-- The variable that is handed back holds no terms. -/
theorem bog_zero {w w' : World} {c : Int} (_ : Blk w' w.heap.size 26 #[.slice none 0 0]) (fr : Below w.heap.size w w') : RetBC w [] c (.returned (.tuple #[.agg #[.slice none 0 0], .int .i64 c])) (w'.setCell ⟨w.heap.size, 0, none⟩ (.slice none 0 0)) :=
  ⟨none, 0, rfl, own_nil _ _ _, fr.setCell (p := ⟨w.heap.size, 0, none⟩) (Nat.le_refl _) _⟩

set_option maxRecDepth 100000 in
set_option maxHeartbeats 1000000 in
theorem implBog_range (v : Value) (G : List Int) (w : World) (h : Rd w v G) (hr : rgB G = false) :
    Calls Try.prog 54 #[v] w (RetBC w [] 2) := by
  obtain ⟨a, cap, rfl⟩ := h.len0
  have D := Blk.new w 26 #[.slice none 0 0]
  have fr : Below w.heap.size w (w.alloc (.cells #[.slice none 0 0] 26)) := (Below.refl _ _).alloc (Nat.le_refl _) _
  have q0 := D.cell 0
  have f0 := D.free 0
  have e0 := D.cell 0
  by_cases h1 : (G.length : Int) < 1
  · have hl0 : G.length = 0 := by omega
    go_enter Try.func54, Try.ntmps54
    go_wp2
    refine bodyPost_ret (v := .tuple #[.agg #[.slice none 0 0], .int .i64 2]) (by simp [results, Try.results54, go_sem, q0]) rfl ⟨none, 0, rfl, own_nil _ _ _, fr⟩
  · by_cases h8 : (G.length : Int) > 8
    · go_enter Try.func54, Try.ntmps54
      go_wp2
      refine bodyPost_ret (v := .tuple #[.agg #[.slice none 0 0], .int .i64 2]) (by simp [results, Try.results54, go_sem, q0]) rfl ⟨none, 0, rfl, own_nil _ _ _, fr⟩
    · have ha : allIn G 1 1000000 = false := by
        have e1 : decide (1 ≤ G.length) = true := by simp; omega
        have e2 : decide (G.length ≤ 8) = true := by simp; omega
        unfold rgB at hr
        rw [e1, e2] at hr
        simpa using hr
      go_enter Try.func54, Try.ntmps54
      go_wp2_with fail
      refine (within_c _ G _ _ _ (h.below fr (Nat.le_refl _))).mono ?_
      rintro e w1 ⟨rfl, rfl⟩
      rw [ha]
      go_wp2
      refine bodyPost_ret (v := .tuple #[.agg #[.slice none 0 0], .int .i64 2]) (by simp [results, Try.results54, go_sem, q0]) rfl ⟨none, 0, rfl, own_nil _ _ _, fr⟩

set_option maxRecDepth 100000 in
set_option maxHeartbeats 1000000 in
theorem implBog_state (v : Value) (G : List Int) (w : World) (h : Rd w v G) (hr : rgB G = true) (hs : 64 < gI G 0 ∨ fallB G = false) :
    Calls Try.prog 54 #[v] w (RetBC w [] 5) := by
  obtain ⟨hn1, hn8, hG⟩ := rgB_iff.1 hr
  have hp : 0 < G.length := hn1
  obtain ⟨b, off, cap, rfl, hc1, hc2, hb, hc⟩ := h.cells hp
  have D := Blk.new w 26 #[.slice none 0 0]
  have fr : Below w.heap.size w (w.alloc (.cells #[.slice none 0 0] 26)) := (Below.refl _ _).alloc (Nat.le_refl _) _
  have ha : allIn G 1 1000000 = true := allIn_iff.2 hG
  have h0 : w.cell? ⟨b, off, none⟩ = some (.int .i64 (gI G 0)) := hc 0 hp
  rw [← fr.cell (p := ⟨b, off, none⟩) hb] at h0
  have hi1 : ¬ (G.length : Int) < 1 := by omega
  have hi8 : ¬ (G.length : Int) > 8 := by omega
  have hi0 : (0 : Int) < (G.length : Int) := by omega
  have hG0 := hG 0 hp
  have HG := Lib.hid hG
  have hn2 : G.length ≤ 2000 := by omega
  clear hc hG
  by_cases hbig : 64 < gI G 0
  · have q0 := D.cell 0
    have f0 := D.free 0
    have e0 := D.cell 0
    clear hs
    generalize gI G 0 = x at h0 hbig hG0
    go_enter Try.func54, Try.ntmps54
    go_wp2_with fail
    refine (within_c _ G _ _ _ (h.below fr (Nat.le_refl _))).mono ?_
    rintro e w1 ⟨rfl, rfl⟩
    rw [ha]
    go_wp2
    refine bodyPost_ret (v := .tuple #[.agg #[.slice none 0 0], .int .i64 5]) (by simp [results, Try.results54, go_sem, q0]) rfl ⟨none, 0, rfl, own_nil _ _ _, fr⟩
  · have hf : fallB G = false := by rcases hs with h | h; exact absurd h hbig; exact h
    clear hs
    generalize gI G 0 = x at h0 hbig hG0
    go_enter Try.func54, Try.ntmps54
    go_wp2_with fail
    refine (within_c _ G _ _ _ (h.below fr (Nat.le_refl _))).mono ?_
    rintro e w1 ⟨rfl, rfl⟩
    rw [ha]
    go_wp2_with fail
    refine (falls_c _ G _ (h.below fr (Nat.le_refl _)) hp hn2 (fun i hi => by have := HG.out i hi; omega)).mono ?_
    rintro e w1 ⟨rfl, hb1⟩
    rw [hf]
    have D1 := D.stays hb1
    have fr1 := below_step fr hb1
    have q0 := (D1.set 0 (.slice none 0 0)).cell 0
    have f0 := D1.free 0
    have e0 := D1.cell 0
    go_wp2
    refine bodyPost_ret (v := .tuple #[.agg #[.slice none 0 0], .int .i64 5]) (by simp [results, Try.results54, go_sem, q0]) rfl (bog_zero D1 fr1)

set_option maxRecDepth 100000 in
set_option maxHeartbeats 4000000 in
theorem implBog_ok (v : Value) (G : List Int) (fb : Bool) (w : World) (h : Rd w v G) (hr : rgB G = true) (h64 : gI G 0 ≤ 64) (hfall : fallB G = true) (hfb : braB (tTo G G.length) = fb) :
    Calls Try.prog 54 #[v] w (RetBC w (okL fb (tTo G G.length)) (okC fb 5)) := by
  obtain ⟨i0, hi, hz0, hz1, hz2⟩ := info_parts Try.infoI
  obtain ⟨hn1, hn8, hG⟩ := rgB_iff.1 hr
  have hp : 0 < G.length := hn1
  obtain ⟨b, off, cap, rfl, hc1, hc2, hb, hc⟩ := h.cells hp
  have D := Blk.new w 26 #[.slice none 0 0]
  have fr : Below w.heap.size w (w.alloc (.cells #[.slice none 0 0] 26)) := (Below.refl _ _).alloc (Nat.le_refl _) _
  have hsz0 : w.heap.size + 1 ≤ (w.alloc (.cells #[.slice none 0 0] 26)).heap.size := by simp
  have ha : allIn G 1 1000000 = true := allIn_iff.2 hG
  have h0 : w.cell? ⟨b, off, none⟩ = some (.int .i64 (gI G 0)) := hc 0 hp
  have h00 := h0
  rw [← fr.cell (p := ⟨b, off, none⟩) hb] at h0
  have hi1 : ¬ (G.length : Int) < 1 := by omega
  have hi8 : ¬ (G.length : Int) > 8 := by omega
  have hi0 : (0 : Int) < (G.length : Int) := by omega
  have hG0 := hG 0 hp
  have HG := Lib.hid hG
  have HFB := Lib.hid hfb
  have hnb : ¬ 64 < gI G 0 := by omega
  have hnb' : ¬ gI G 0 > 64 := by omega
  have hn2 : G.length ≤ 2000 := by omega
  have HG2 := Lib.hid (show ∀ i, i < G.length → 1 ≤ gI G i ∧ gI G i ≤ 1000000000000 from fun i hi => by have := hG i hi; omega)
  have HT0 := Lib.hid (tI_zero G)
  clear hG hfb
  generalize gI G 0 = x0 at h0 h00 h64 hG0 hnb hnb' HT0
  go_enter Try.func54, Try.ntmps54
  go_wp2_with fail
  refine (within_c _ G _ _ _ (h.below fr (Nat.le_refl _))).mono ?_
  rintro e w1 ⟨rfl, rfl⟩
  rw [ha]
  go_wp2_with fail
  refine (falls_c _ G _ (h.below fr (Nat.le_refl _)) hp hn2 HG2.out).mono ?_
  rintro e w1 ⟨rfl, hb1⟩
  rw [hfall]
  have D1 := D.stays hb1
  have fr1 := below_step fr hb1
  have hsz1 := hb1.size
  clear D fr hb1
  go_wp2_with fail
  refine (divisors_c _ G _ (h.below fr1 (Nat.le_refl _)) hn2 HG2.out).mono ?_
  rintro e w2 ⟨aF, kF, rfl, hoF, hb2⟩
  obtain ⟨gF, cF, hge, hF0, hF1, hF2, hF3⟩ := Own.pos hoF (by simp; omega)
  injection hge with hge1 hge2 hge3
  subst hge1 hge3
  clear hge2
  rw [eTo_len] at hoF ⊢
  have D2 := D1.stays hb2
  have fr2 := below_step fr1 hb2
  have hsz2 := hb2.size
  have d0 : w2.cell? ⟨b, off, none⟩ = some (.int .i64 x0) := by rw [fr2.cell (p := ⟨b, off, none⟩) hb]; exact h00
  clear D1 fr1 hb2
  have hal : Below w2.heap.size w2 ((w2.alloc (.cells #[.int .i64 x0] 2)).alloc (.cells #[.slice (some ⟨w2.heap.size, 0, none⟩) 1 1] 26)) := ((Below.refl _ _).alloc (Nat.le_refl _) _).alloc (by simp) _
  have B3 := Blk.new' (w := w2.alloc (.cells #[.int .i64 x0] 2)) (t := 26) (cs := #[.slice (some ⟨w2.heap.size, 0, none⟩) 1 1]) (g := w2.heap.size + 1) (by simp)
  have D3 := D2.stays hal
  have fr3 := below_step fr2 hal
  have hoF3 := hoF.below hal (Nat.le_refl _)
  have hoT3 : OwnI ((w2.alloc (.cells #[.int .i64 x0] 2)).alloc (.cells #[.slice (some ⟨w2.heap.size, 0, none⟩) 1 1] 26)) (w.heap.size + 1) (.slice (some ⟨w2.heap.size, 0, none⟩) 1 1) (tTo G 1) := by
    have := (own_one (e := 2) w2 (w.heap.size + 1) (by omega) x0).below (show Below (w2.alloc (.cells #[.int .i64 x0] 2)).heap.size (w2.alloc (.cells #[.int .i64 x0] 2)) ((w2.alloc (.cells #[.int .i64 x0] 2)).alloc (.cells #[.slice (some ⟨w2.heap.size, 0, none⟩) 1 1] 26)) from (Below.refl _ _).alloc (Nat.le_refl _) _) (Nat.le_refl _)
    have e : tTo G 1 = [x0] := by simp [tTo, HT0.out]
    rw [e]
    exact this
  have hoF3 := hoF3.base_le (base' := w.heap.size + 1) (by omega)
  clear D2 fr2 hal hoF
  go_wp2_with fail
  generalize ((w2.alloc (.cells #[.int .i64 x0] 2)).alloc (.cells #[.slice (some ⟨w2.heap.size, 0, none⟩) 1 1] 26)) = w3 at B3 D3 fr3 hoF3 hoT3 ⊢
  go_loopw [6] (fun iv wr => ∃ k g c : Nat, 1 ≤ k ∧ k ≤ G.length ∧ iv = .int .i64 k ∧ Blk wr (w2.heap.size + 1) 26 #[.slice (some ⟨g, 0, none⟩) k c] ∧ OwnI wr (w.heap.size + 1) (.slice (some ⟨g, 0, none⟩) k c) (tTo G k) ∧ g ≠ w2.heap.size + 1 ∧ g ≠ gF ∧ Blk wr w.heap.size 26 #[.slice none 0 0] ∧ OwnI wr (w.heap.size + 1) (.slice (some ⟨gF, 0, none⟩) G.length kF) (eTo G G.length) ∧ Below w.heap.size w wr) (fun iv _ => G.length - (intOf iv).toNat)
  case atStart => exact ⟨1, w2.heap.size, 1, Nat.le_refl _, by omega, rfl, B3, hoT3, by omega, by omega, D3, hoF3, fr3⟩
  case round =>
    obtain ⟨k, g, c, hk1, hk, rfl, B4, hoT, hg1, hg2, D4, hoF4, fr4⟩ := hrel
    clear B3 D3 fr3 hoF3 hoT3 d0
    obtain ⟨wo, rfl⟩ : ∃ wo : World, wo = wr := ⟨_, rfl⟩
    have dB := B4.cell 0
    have fB := B4.free 0
    by_cases hlt : k < G.length
    · have hki : (k : Int) < (G.length : Int) := by omega
      have hk0 : (0 : Int) ≤ (k : Int) := Int.natCast_nonneg _
      have dG : wo.cell? ⟨b, off + k, none⟩ = some (.int .i64 (gI G k)) := by rw [fr4.cell (p := ⟨b, off + k, none⟩) hb]; exact hc k hlt
      have hGk := HG.out k hlt
      have HY := Lib.hid (tTo_succ G k)
      go_upto_if 50 with fail
      go_cut [6, 7] from 39 to 79 (fun s6 s7 wc => s6 = .int .i64 (k : Int) ∧ s7 = .int .i64 (tI G k) ∧ Drew wo wc)
      case first =>
        by_cases hk2 : k = 1
        · subst hk2
          have e : gI G 1 = tI G 1 := (tI_one G).symm
          rw [e]
          go_wp2
          go_meet
          exact ⟨rfl, rfl, Drew.refl _⟩
        · obtain ⟨j, rfl⟩ : ∃ j, k = j + 2 := ⟨k - 2, by omega⟩
          have hO := (show OwnI wo (w.heap.size + 1) (.slice (some ⟨g, 0, none⟩) (tTo G (j + 2)).length c) (tTo G (j + 2)) by rw [tTo_len]; exact hoT)
          have dV := hO.cell (j + 1) (by simp)
          rw [gI_tTo (by omega)] at dV
          have hOF := (show OwnI wo (w.heap.size + 1) (.slice (some ⟨gF, 0, none⟩) (eTo G G.length).length kF) (eTo G G.length) by rw [eTo_len]; exact hoF4)
          have dE0 := hOF.cell j (by simp; omega)
          have dE1 := hOF.cell (j + 1) (by simp; omega)
          rw [gI_eTo (by omega)] at dE0 dE1
          have dG1 : wo.cell? ⟨b, off + (j + 1), none⟩ = some (.int .i64 (gI G (j + 1))) := by rw [fr4.cell (p := ⟨b, off + (j + 1), none⟩) hb]; exact hc _ (by omega)
          have b0 := e_bd HG.out hp (j + 1)
          have b1 := e_bd HG.out hp j
          have b2 := r_bd HG.out hp j
          have b3 := tI_bd HG.out hp (j + 1) (by omega)
          have b4 := HG.out (j + 1) (by omega)
          have HV := Lib.hid (tI_two G j)
          clear hO hOF hoT hoF4 B4 D4 hk2 HY
          generalize eI G (j + 1) = y at dE1 b0 b2 HV
          generalize eI G j = x at dE0 b1 b2 HV
          generalize tI G (j + 1) = z at dV b3 HV
          generalize gI G (j + 1) = s at dG1 b4 HV
          generalize gI G (j + 2) = t at dG hGk HV ⊢
          have hyn : ¬ y = 0 := by omega
          have htd : Int.tdiv x y = x / y := Int.tdiv_eq_ediv_of_nonneg (by omega)
          have b5 := mul_bdB (a := x / y) (A := 1000000) (b := s) (B := 1000000) (by omega) (by omega) (by omega) (by omega)
          have w4 : IntKind.i64.wrap (x / y) = x / y := IntWalk.i64_in _ (by omega)
          have w5 : IntKind.i64.wrap (x / y * s) = x / y * s := IntWalk.i64_in _ (by omega)
          have w6 : IntKind.i64.wrap (z + t) = z + t := IntWalk.i64_in _ (by omega)
          have w7 : IntKind.i64.wrap (z + t - x / y * s) = z + t - x / y * s := IntWalk.i64_in _ (by omega)
          have e1 : ((j + 2 : Nat) : Int) - 1 = (j : Int) + 1 := by omega
          have e2 : IntKind.i64.wrap ((j : Int) + 1) = (j : Int) + 1 := IntWalk.i64_in _ (by omega)
          have e3 : ((j : Int) + 1).toNat = j + 1 := by omega
          have e4 : (0 : Int) ≤ (j : Int) + 1 := by omega
          have e5 : (j : Int) + 1 < (G.length : Int) := by omega
          have e6 : (j : Int) + 1 < ((j + 2 : Nat) : Int) := by omega
          have e8 : (j : Int) + 2 - 1 = (j : Int) + 1 := by omega
          have e9 : (j : Int) + 1 < (j : Int) + 2 := by omega
          have f1 : (j : Int) + 2 - 2 = (j : Int) := by omega
          have f2 : IntKind.i64.wrap (j : Int) = (j : Int) := IntWalk.i64_in _ (by omega)
          have f3 : (0 : Int) ≤ (j : Int) := by omega
          have f4 : (j : Int) < (G.length : Int) := by omega
          have f5 : (j : Int) + 2 < (G.length : Int) := by omega
          have f6 : (0 : Int) ≤ (j : Int) + 2 := by omega
          have f7 : ((j : Int) + 2).toNat = j + 2 := by omega
          have f8 : (j : Int) + 2 > 1 := by omega
          have f9 : (1 : Int) < (j : Int) + 2 := by omega
          go_wp2
          go_quiet (fail)
          go_wp2
          go_meet
          exact ⟨by go_num, by rw [HV.out], by first | exact Drew.one _ _ | exact Drew.two _ _ _⟩
      case rest =>
        obtain ⟨rfl, rfl, m, rfl⟩ := hcut
        have B5 := B4.drewN m
        have D5 := D4.drewN m
        have fr5 := below_drewN fr4 m
        have hoT5 := hoT.below (below_drewN (Below.refl _ wo) m) (Nat.le_refl _)
        have hoF5 := hoF4.below (below_drewN (Below.refl _ wo) m) (Nat.le_refl _)
        have dB := B5.cell 0
        have fB := B5.free 0
        have hlB := B5.lt
        have hsz5 : w.heap.size + 1 ≤ (wo.drewN m).heap.size := by have := fr4.size; have := D4.lt; show _ ≤ wo.heap.size; omega
        have hgs := (hoT5.block g rfl).1
        obtain ⟨wz, hwz⟩ : ∃ wz : World, wz = wo.drewN m := ⟨_, rfl⟩
        rw [← hwz] at B5 D5 fr5 hoT5 hoF5 dB fB hlB hsz5 ⊢
        clear hwz B4 D4 fr4 hoT hoF4 dG
        generalize tI G k = y at HY ⊢
        go_wp2_with (at_builtin; refine wpList_pushL rfl (.tmp 81) (.tmp 83) 24 rfl (w.heap.size + 1) 2 i0 Try.underlying24 hi hz0 hz1 hz2 (.slice (some ⟨g, 0, none⟩) k c) (tTo G k) y rfl hoT5 rfl (by simp; omega) hsz5 ?_; intro g2 c2 w6 hown' hkp hlies; have d3 : w6.cell? ⟨w2.heap.size + 1, 0, none⟩ = some (.slice (some ⟨g, 0, none⟩) k c) := (hkp.cell (p := ⟨w2.heap.size + 1, 0, none⟩) hlB (by simp [Value.ownBlock]; omega)).trans dB; have f3 : w6.frozen? ⟨w2.heap.size + 1, 0, none⟩ = false := (hkp.frozen (p := ⟨w2.heap.size + 1, 0, none⟩) hlB (by simp [Value.ownBlock]; omega)).trans fB)
        rw [← HY.out, tTo_len] at hown'
        have hlies' : g = g2 ∨ wz.heap.size ≤ g2 := hlies.imp (fun h => by simpa [Value.ownBlock] using h) id
        have hkg : Keeps (fun q => q = g) wz w6 := hkp.mono (fun q hq => by simp [Value.ownBlock] at hq; exact hq.symm)
        have B6 := (B5.keeps hkg (fun h => hg1 h.symm)).set 0 (.slice (some ⟨g2, 0, none⟩) (k + 1) c2)
        have hgD : ¬ w.heap.size = g := by omega
        have D6 := (D5.keeps hkg hgD).other (g' := w2.heap.size + 1) (by omega) 0 (.slice (some ⟨g2, 0, none⟩) (k + 1) c2)
        have hoF6 := (hoF5.keeps hkg (fun q hq e => by simp [Value.ownBlock] at hq; omega)).other (g := w2.heap.size + 1) (fun q hq => by simp [Value.ownBlock] at hq; omega) 0 (.slice (some ⟨g2, 0, none⟩) (k + 1) c2)
        have hoT6 := hown'.other (g := w2.heap.size + 1) (fun q hq => by simp [Value.ownBlock] at hq; omega) 0 (.slice (some ⟨g2, 0, none⟩) (k + 1) c2)
        have hszD : w.heap.size ≤ w2.heap.size + 1 := by omega
        have fr6 := (fr5.trans (hkg.below (by omega) (fun q hq => by omega))).setCell (p := ⟨w2.heap.size + 1, 0, none⟩) hszD (.slice (some ⟨g2, 0, none⟩) (k + 1) c2)
        clear hkp hlies hkg B5 D5 hoF5 hoT5 hown' fr5
        go_roundw
        case rel => exact ⟨k + 1, g2, c2, by omega, by omega, by go_num, B6, hoT6, by omega, by omega, D6, hoF6, fr6⟩
        case measure => simp [intOf]; omega
    · have hk' : k = G.length := by omega
      subst hk'
      clear fB
      go_wp2_with fail
      refine (implIsBranch_c _ (tTo G G.length) _ hoT.rd).mono ?_
      rintro e w5 ⟨rfl, hb5⟩
      rw [HFB.out]
      have hsz5 := hb5.size
      have B5 := B4.stays hb5
      have D5 := D4.stays hb5
      have fr5 := below_step fr4 hb5
      have hoT5 := hoT.below hb5 (Nat.le_refl _)
      have f0 := D5.free 0
      have e0 := D5.cell 0
      have dB := B5.cell 0
      cases fb
      · have q0 := (D5.set 0 (.slice none 0 0)).cell 0
        go_wp2
        refine bodyPost_ret (v := .tuple #[.agg #[.slice none 0 0], .int .i64 5]) (by simp [results, Try.results54, go_sem, q0]) rfl (bog_zero D5 fr5)
      · have q0 := (D5.set 0 (.slice (some ⟨g, 0, none⟩) G.length c)).cell 0
        have hoT6 := hoT5.other (g := w.heap.size) (fun q hq => by simp [Value.ownBlock] at hq; have := (hoT.block g rfl).1; omega) 0 (.slice (some ⟨g, 0, none⟩) G.length c)
        have fr6 := fr5.setCell (p := ⟨w.heap.size, 0, none⟩) (Nat.le_refl _) (.slice (some ⟨g, 0, none⟩) G.length c)
        go_wp2
        refine bodyPost_ret (v := .tuple #[.agg #[.slice (some ⟨g, 0, none⟩) G.length c], .int .i64 0]) (by simp [results, Try.results54, go_sem, q0]) rfl ⟨_, c, by simp [okL, okC]; rfl, ?_, fr6⟩
        simpa [okL] using hoT6.base_le (base' := w.heap.size) (by omega)
end Go.Proofs.Ytiinceflafigeaa
