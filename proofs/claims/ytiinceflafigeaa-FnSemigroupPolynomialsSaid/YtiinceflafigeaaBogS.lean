/- Contracts: BranchOfGenerators, the reference. -/
import Derived.Test.YtiinceflafigeaaBog
import Derived.Test.YtiinceflafigeaaL03Is
import Derived.Test.YtiinceflafigeaaPushS
import Derived.Deep.RegionHeld3
import Derived.Deep.RegionLaw
namespace Go.Proofs.Ytiinceflafigeaa
open Go.RowKit

theorem below3 (w : World) (o1 o2 o3 : Obj) : Below w.heap.size w (((w.alloc o1).alloc o2).alloc o3).drew := ((((Below.refl _ _).alloc (Nat.le_refl _) o1).alloc (by simp) o2).alloc (by simp; omega) o3).drew
theorem blk_a (w : World) (t1 t2 t3 : TypeId) (c1 c2 c3 : Array Value) : Blk (((w.alloc (.cells c1 t1)).alloc (.cells c2 t2)).alloc (.cells c3 t3)).drew w.heap.size t1 c1 := (((Blk.new w t1 c1).alloc _).alloc _).drewN 1
theorem blk_b (w : World) (t1 t2 t3 : TypeId) (c1 c2 c3 : Array Value) : Blk (((w.alloc (.cells c1 t1)).alloc (.cells c2 t2)).alloc (.cells c3 t3)).drew (w.heap.size + 1) t2 c2 := ((Blk.new' (w := w.alloc (.cells c1 t1)) (by simp)).alloc _).drewN 1
theorem blk_c (w : World) (t1 t2 t3 : TypeId) (c1 c2 c3 : Array Value) : Blk (((w.alloc (.cells c1 t1)).alloc (.cells c2 t2)).alloc (.cells c3 t3)).drew (w.heap.size + 1 + 1) t3 c3 := (Blk.new' (w := (w.alloc (.cells c1 t1)).alloc (.cells c2 t2)) (by simp)).drewN 1

theorem own_blk1 {w : World} {g base : Nat} {x : Int} (h : Blk w g 2 #[.int .i64 x]) (hb : base ≤ g) : OwnI w base (.slice (some ⟨g, 0, none⟩) 1 1) [x] := by
  exact ⟨rfl, .inr ⟨g, 1, #[.int .i64 x], rfl, hb, h, Nat.le_refl _, by unfold maxLen; omega, rfl, rfl⟩⟩
def rgC (a fb : Bool) : Int := if a = true then okC fb 5 else 2

set_option maxRecDepth 100000 in
set_option maxHeartbeats 1000000 in
theorem specBog_len (v : Value) (G : List Int) (w : World) (h : Rd w v G) (hr : (G.length : Int) < 1 ∨ (G.length : Int) > 8) :
    Calls Try.prog 60 #[v] w (RetBC w [] 2) := by
  obtain ⟨a, cap, rfl⟩ := h.len0
  have D := Blk.new w 26 #[.slice none 0 0]
  have fr : Below w.heap.size w (w.alloc (.cells #[.slice none 0 0] 26)) := (Below.refl _ _).alloc (Nat.le_refl _) _
  have q0 := D.cell 0
  have f0 := D.free 0
  have e0 := D.cell 0
  by_cases h1 : (G.length : Int) < 1
  · have hl0 : G.length = 0 := by omega
    go_enter Try.func60, Try.ntmps60
    go_wp2
    refine bodyPost_ret (v := .tuple #[.agg #[.slice none 0 0], .int .i64 2]) (by simp [results, Try.results60, go_sem, q0]) rfl ⟨none, 0, rfl, own_nil _ _ _, fr⟩
  · have h8 : (G.length : Int) > 8 := by omega
    go_enter Try.func60, Try.ntmps60
    go_wp2
    refine bodyPost_ret (v := .tuple #[.agg #[.slice none 0 0], .int .i64 2]) (by simp [results, Try.results60, go_sem, q0]) rfl ⟨none, 0, rfl, own_nil _ _ _, fr⟩

set_option maxRecDepth 100000 in
set_option maxHeartbeats 4000000 in
theorem specBog_go (v : Value) (G : List Int) (fb : Bool) (w : World) (h : Rd w v G) (hn1 : 1 ≤ G.length) (hn8 : G.length ≤ 8) (hfb : braB (tTo G G.length) = fb) :
    Calls Try.prog 60 #[v] w (RetBC w (okL (allIn G 1 1000000 && fb) (tTo G G.length)) (rgC (allIn G 1 1000000) fb)) := by
  obtain ⟨i0, hi, hz0, hz1, hz2⟩ := info_parts Try.infoI
  have hp : 0 < G.length := hn1
  obtain ⟨b, off, cap, rfl, hc1, hc2, hb, hc⟩ := h.cells hp
  have D := Blk.new w 26 #[.slice none 0 0]
  have fr : Below w.heap.size w (w.alloc (.cells #[.slice none 0 0] 26)) := (Below.refl _ _).alloc (Nat.le_refl _) _
  have hsz0 : w.heap.size + 1 ≤ (w.alloc (.cells #[.slice none 0 0] 26)).heap.size := by simp
  have hi1 : ¬ (G.length : Int) < 1 := by omega
  have hi8 : ¬ (G.length : Int) > 8 := by omega
  have hi0 : (0 : Int) < (G.length : Int) := by omega
  have HFB := Lib.hid hfb
  have HT0 := Lib.hid (tI_zero G)
  clear hfb
  go_enter Try.func60, Try.ntmps60
  go_wp2_with fail
  go_loop [4] (fun i => ∃ k : Nat, k ≤ G.length ∧ i = .int .i64 k ∧ (∀ j, j < k → 1 ≤ gI G j ∧ gI G j ≤ 1000000)) (fun i => G.length - (intOf i).toNat)
  case atStart => exact ⟨0, Nat.zero_le _, rfl, fun j hj => absurd hj (by omega)⟩
  case round =>
    obtain ⟨k, hk, rfl, hg⟩ := hrel
    by_cases hlt : k < G.length
    · have hki : (k : Int) < (G.length : Int) := by omega
      have dG : (w.alloc (.cells #[.slice none 0 0] 26)).cell? ⟨b, off + k, none⟩ = some (.int .i64 (gI G k)) := by rw [fr.cell (p := ⟨b, off + k, none⟩) hb]; exact hc k hlt
      have HG : Hid (inB (gI G k) 1 1000000 = true → ∀ j, j < k + 1 → 1 ≤ gI G j ∧ gI G j ≤ 1000000) := Lib.hid (by
        intro hb j hj
        by_cases e : j = k
        · rw [e]; exact inB_iff.1 hb
        · exact hg j (by omega))
      have HB := Lib.hid (@allIn_no G 1 1000000 k hlt)
      clear hg
      generalize gI G k = y at dG HG HB
      cases hin : inB y 1 1000000
      · have hfalse := Lib.hid (HB.out hin)
        clear HG HB
        have q0 := D.cell 0
        have f0 := D.free 0
        have e0 := D.cell 0
        go_wp2_with fail
        refine (l01In_c _ _ _ _).mono ?_
        rintro e w' ⟨rfl, rfl⟩
        rw [hin]
        go_wp2
        refine bodyPost_ret (v := .tuple #[.agg #[.slice none 0 0], .int .i64 2]) (by simp [results, Try.results60, go_sem, q0]) rfl ?_
        rw [hfalse.out]
        exact ⟨none, 0, rfl, own_nil _ _ _, fr⟩
      · have HG' := Lib.hid (HG.out hin)
        clear HG HB
        go_wp2_with fail
        refine (l01In_c _ _ _ _).mono ?_
        rintro e w' ⟨rfl, rfl⟩
        rw [hin]
        go_wp2
        go_round
        case rel => exact ⟨k + 1, by omega, by go_num, HG'.out⟩
        case measure => simp [intOf]; omega
    · have hk' : k = G.length := by omega
      subst hk'
      have hall := Lib.hid (allIn_iff.2 hg)
      have HG := Lib.hid hg
      have h0 : w.cell? ⟨b, off, none⟩ = some (.int .i64 (gI G 0)) := hc 0 hp
      have HC := Lib.hid hc
      clear hg hc
      generalize gI G 0 = x0 at h0 HT0
      obtain ⟨w0, hw0⟩ : ∃ w0 : World, w0 = w.alloc (.cells #[.slice none 0 0] 26) := ⟨_, rfl⟩
      rw [← hw0] at D fr hsz0
      have d0 : w0.cell? ⟨b, off, none⟩ = some (.int .i64 x0) := by rw [fr.cell (p := ⟨b, off, none⟩) hb]; exact h0
      rw [← hw0]
      clear hw0
      go_wp2_with fail
      go_cut [5, 6] from 18 to 39 (fun s5 s6 wc => ∃ gb gT gE : Nat, s5 = .pointer (some ⟨gb, 0, none⟩) ∧ s6 = .slice (some ⟨gE, 0, none⟩) 1 1 ∧ Blk wc gb 26 #[.slice (some ⟨gT, 0, none⟩) 1 1] ∧ Blk wc gT 2 #[.int .i64 x0] ∧ Blk wc gE 2 #[.int .i64 x0] ∧ gT ≠ gb ∧ gE ≠ gb ∧ gE ≠ gT ∧ w.heap.size + 1 ≤ gb ∧ w.heap.size + 1 ≤ gT ∧ w.heap.size + 1 ≤ gE ∧ Blk wc w.heap.size 26 #[.slice none 0 0] ∧ Below w.heap.size w wc)
      case first =>
        have S : ∀ wr : World, Below w0.heap.size w0 wr → wr.cell? ⟨b, off, none⟩ = some (.int .i64 x0) := fun wr hk => by rw [hk.cell (p := ⟨b, off, none⟩) (by have := fr.size; show b < w0.heap.size; omega)]; exact d0
        go_region_held3 (fun w' => w'.cell? ⟨b, off, none⟩ = some (.int .i64 x0))
          (first | assumption | exact d0 | exact S _ (by first | exact (Below.refl _ _).drew | exact ((Below.refl _ _).alloc (Nat.le_refl _) _).drew | exact (((Below.refl _ _).alloc (Nat.le_refl _) _).alloc (by simp) _).drew | exact ((((Below.refl _ _).alloc (Nat.le_refl _) _).alloc (by simp) _).alloc (by simp; omega) _).drew))
          (fail)
        all_goals
          go_wp2
          go_meet
          exact ⟨_, _, _, rfl, rfl, by first | exact blk_a _ _ _ _ _ _ _ | exact blk_b _ _ _ _ _ _ _ | exact blk_c _ _ _ _ _ _ _, by first | exact blk_a _ _ _ _ _ _ _ | exact blk_b _ _ _ _ _ _ _ | exact blk_c _ _ _ _ _ _ _, by first | exact blk_a _ _ _ _ _ _ _ | exact blk_b _ _ _ _ _ _ _ | exact blk_c _ _ _ _ _ _ _, by omega, by omega, by omega, by omega, by omega, by omega, D.stays (below3 _ _ _ _), below_step fr (below3 _ _ _ _)⟩
      case rest =>
        obtain ⟨gb, gT, gE, rfl, rfl, B1, T1, E1, n1, n2, n3, l1, l2, l3, D1, fr1⟩ := hcut
        have hb8 : OwnI wc (w.heap.size + 1) (.slice (some ⟨gE, 0, none⟩) 1 1) (eTo G 1) := by
          have e : eTo G 1 = [x0] := by simp [eTo, eI]; exact HT0.out
          rw [e]; exact own_blk1 E1 l3
        have hb9 : OwnI wc (w.heap.size + 1) (.slice (some ⟨gT, 0, none⟩) 1 1) (tTo G 1) := by
          have e : tTo G 1 = [x0] := by simp [tTo, HT0.out]
          rw [e]; exact own_blk1 T1 l2
        clear T1 E1 d0 h0
        obtain ⟨w1, rfl⟩ : ∃ w1 : World, w1 = wc := ⟨_, rfl⟩
        go_wp2_with fail
        go_loopw [6, 7] (fun ev iv wr => ∃ k g c ge ce : Nat, 1 ≤ k ∧ k ≤ G.length ∧ iv = .int .i64 k ∧ ev = .slice (some ⟨ge, 0, none⟩) k ce ∧ OwnI wr (w.heap.size + 1) (.slice (some ⟨ge, 0, none⟩) k ce) (eTo G k) ∧ Blk wr gb 26 #[.slice (some ⟨g, 0, none⟩) k c] ∧ OwnI wr (w.heap.size + 1) (.slice (some ⟨g, 0, none⟩) k c) (tTo G k) ∧ g ≠ gb ∧ ge ≠ gb ∧ g ≠ ge ∧ Blk wr w.heap.size 26 #[.slice none 0 0] ∧ Below w.heap.size w wr) (fun _ iv _ => G.length - (intOf iv).toNat)
        case atStart => exact ⟨1, gT, 1, gE, 1, Nat.le_refl _, by omega, rfl, rfl, hb8, B1, hb9, by omega, by omega, by omega, D1, fr1⟩
        case round =>
          obtain ⟨k, g, c, ge, ce, hk1, hk, rfl, rfl, hoE, B4, hoT, hg1, hg3, hg2, D4, fr4⟩ := hrel
          clear hb8 hb9 B1 D1 fr1
          obtain ⟨wo, rfl⟩ : ∃ wo : World, wo = wr := ⟨_, rfl⟩
          by_cases hlt : k < G.length
          · have hki : (k : Int) < (G.length : Int) := by omega
            have hk0 : (0 : Int) ≤ (k : Int) := Int.natCast_nonneg _
            go_wp2_with fail
            go_cut [6, 7] from 40 to 58 (fun s6 s7 wc => s7 = .int .i64 (k : Int) ∧ ∃ ge2 ce2 : Nat, s6 = .slice (some ⟨ge2, 0, none⟩) (k + 1) ce2 ∧ OwnI wc (w.heap.size + 1) (.slice (some ⟨ge2, 0, none⟩) (k + 1) ce2) (eTo G (k + 1)) ∧ ge2 ≠ gb ∧ g ≠ ge2 ∧ Blk wc gb 26 #[.slice (some ⟨g, 0, none⟩) k c] ∧ OwnI wc (w.heap.size + 1) (.slice (some ⟨g, 0, none⟩) k c) (tTo G k) ∧ Blk wc w.heap.size 26 #[.slice none 0 0] ∧ Below w.heap.size w wc)
            case first =>
              obtain ⟨j, rfl⟩ : ∃ j, k = j + 1 := ⟨k - 1, by omega⟩
              have hOE := (show OwnI wo (w.heap.size + 1) (.slice (some ⟨ge, 0, none⟩) (eTo G (j + 1)).length ce) (eTo G (j + 1)) by rw [eTo_len]; exact hoE)
              have hcl := hOE.cell j (by simp)
              rw [gI_eTo (by omega)] at hcl
              have dT : wo.cell? ⟨b, off + (j + 1), none⟩ = some (.int .i64 (gI G (j + 1))) := by rw [fr4.cell (p := ⟨b, off + (j + 1), none⟩) hb]; exact HC.out _ hlt
              have hE := e_bd HG.out hp j
              have hTj := HG.out (j + 1) hlt
              have HY := Lib.hid (eTo_succ G (j + 1))
              have HGG := Lib.hid (eI_succ G j)
              have hgs := (hoE.block ge rfl).2
              have hgl := (hoE.block ge rfl).1
              have hgbl := B4.lt
              have hgT := (hoT.block g rfl)
              have hj1 : ((j + 1 : Nat) : Int) < (G.length : Int) := by omega
              have hj2 : (j : Int) < ((j + 1 : Nat) : Int) := by omega
              have hj3 : (0 : Int) ≤ (j : Int) := by omega
              have wj : IntKind.i64.wrap (j : Int) = (j : Int) := IntWalk.i64_in _ (by omega)
              have hj4 : (j : Int) + 1 < (G.length : Int) := by omega
              have hj5 : (j : Int) < (j : Int) + 1 := by omega
              have hj6 : (0 : Int) ≤ (j : Int) + 1 := by omega
              have hj7 : ((j : Int) + 1).toNat = j + 1 := by omega
              clear hOE
              have hlb := fr4.size
              have hbb : b < wo.heap.size := by omega
              generalize gI G (j + 1) = y at dT hTj HGG
              generalize eI G j = x at hcl hE HGG
              have hal : Below wo.heap.size wo ((wo.alloc (.cells #[.int .i64 (gcdI x y)] 2)).drew) := ((Below.refl _ _).alloc (Nat.le_refl _) _).drew
              have hO := hoE.below hal (Nat.le_refl _)
              have B5 := B4.stays hal
              have D5 := D4.stays hal
              have hoT5 := hoT.below hal (Nat.le_refl _)
              have fr5 := below_step fr4 hal
              have hsA : wo.heap.size + 1 ≤ ((wo.alloc (.cells #[.int .i64 (gcdI x y)] 2)).drew).heap.size := by simp
              have hsA2 : ((wo.alloc (.cells #[.int .i64 (gcdI x y)] 2)).drew).heap.size ≤ wo.heap.size + 1 := by simp
              go_region_law (first | (refine step_push rfl (.tmp 46) (.tmp 57) 24 rfl (w.heap.size + 1) 2 i0 Try.underlying24 hi hz0 hz1 hz2 (.slice (some ⟨ge, 0, none⟩) (j + 1) ce) (eTo G (j + 1)) (gcdI x y) wo.heap.size rfl hO rfl (Blk.new wo _ _) (by simp; omega) (by omega) ?_; intro g2 cap2 w2 h1 h2 h3 h4) | (go_simp; go_at_call 159; refine (l01Gcd_c _ _ _ (by omega) (by omega) (by omega) (by omega)).mono ?_; rintro e w1 ⟨rfl, rfl⟩))
              all_goals
                have hkg : Keeps (fun q => q = ge) ((wo.alloc (.cells #[.int .i64 (gcdI x y)] 2)).drew) w2 := h2.mono (fun q hq => by simp [Value.ownBlock] at hq; exact hq.symm)
                rw [← HGG.out, ← HY.out, eTo_len] at h1
                have h3' : ge = g2 ∨ wo.heap.size + 1 ≤ g2 := h3.imp (fun h => by simpa [Value.ownBlock] using h) (fun h => by omega)
                have B6 := B5.keeps hkg (fun h => hg3 h.symm)
                have D6 := D5.keeps hkg (by omega)
                have hoT6 := hoT5.keeps hkg (fun q hq e => by simp [Value.ownBlock] at hq; omega)
                have fr6 := fr5.trans (hkg.below (by omega) (fun q hq => by omega))
                clear h2 h3 hO hkg B5 D5 hoT5 fr5 hal
                go_wp2
                go_meet
                exact ⟨by go_num, g2, cap2, rfl, h1, by omega, by omega, B6, hoT6, D6, fr6⟩
            case rest =>
              obtain ⟨rfl, ge2, ce2, rfl, hoE6, hg4, hg5, B6, hoT6, D6, fr6⟩ := hcut
              clear hoE B4 hoT D4 fr4 hg3 hg2
              obtain ⟨ge, rfl⟩ : ∃ x, x = ge2 := ⟨_, rfl⟩
              obtain ⟨ce, rfl⟩ : ∃ x, x = ce2 := ⟨_, rfl⟩
              obtain ⟨wo, rfl⟩ : ∃ wo : World, wo = wc := ⟨_, rfl⟩
              have dB := B6.cell 0
              have fB := B6.free 0
              have dG : wo.cell? ⟨b, off + k, none⟩ = some (.int .i64 (gI G k)) := by rw [fr6.cell (p := ⟨b, off + k, none⟩) hb]; exact HC.out k hlt
              have hGk := HG.out k hlt
              have HY := Lib.hid (tTo_succ G k)
              have hgb0 : ¬ w.heap.size = gb := by omega
              go_upto_if 64 with fail
              go_cut [7, 8] from 40 to 93 (fun s7 s8 wc => s7 = .int .i64 (k : Int) ∧ s8 = .int .i64 (tI G k) ∧ Drew wo wc)
              case first =>
                by_cases hk2 : k = 1
                · subst hk2
                  have e : gI G 1 = tI G 1 := (tI_one G).symm
                  rw [e]
                  go_wp2
                  go_meet
                  exact ⟨rfl, rfl, Drew.refl _⟩
                · obtain ⟨j, rfl⟩ : ∃ j, k = j + 2 := ⟨k - 2, by omega⟩
                  have hO := (show OwnI wo (w.heap.size + 1) (.slice (some ⟨g, 0, none⟩) (tTo G (j + 2)).length c) (tTo G (j + 2)) by rw [tTo_len]; exact hoT6)
                  have dV := hO.cell (j + 1) (by simp)
                  rw [gI_tTo (by omega)] at dV
                  have hOF := (show OwnI wo (w.heap.size + 1) (.slice (some ⟨ge, 0, none⟩) (eTo G (j + 2 + 1)).length ce) (eTo G (j + 2 + 1)) by rw [eTo_len]; exact hoE6)
                  have dE0 := hOF.cell j (by rw [eTo_len]; omega)
                  have dE1 := hOF.cell (j + 1) (by rw [eTo_len]; omega)
                  rw [gI_eTo (by omega)] at dE0 dE1
                  have dG1 : wo.cell? ⟨b, off + (j + 1), none⟩ = some (.int .i64 (gI G (j + 1))) := by rw [fr6.cell (p := ⟨b, off + (j + 1), none⟩) hb]; exact HC.out _ (by omega)
                  have b0 := e_bd HG.out hp (j + 1)
                  have b1 := e_bd HG.out hp j
                  have b2 := r_bd HG.out hp j
                  have b3 := tI_bd HG.out hp (j + 1) (by omega)
                  have b4 := HG.out (j + 1) (by omega)
                  have HV := Lib.hid (tI_two G j)
                  clear hO hOF hoT6 hoE6 B6 D6 hk2 HY
                  generalize eI G (j + 1) = y at dE1 b0 b2 HV
                  generalize eI G j = x at dE0 b1 b2 HV
                  generalize tI G (j + 1) = z at dV b3 HV
                  generalize gI G (j + 1) = s at dG1 b4 HV
                  generalize gI G (j + 2) = t at dG hGk HV ⊢
                  have hyn : ¬ y = 0 := by omega
                  have htd : Int.tdiv x y = x / y := Int.tdiv_eq_ediv_of_nonneg (by omega)
                  have b5 := mul_bdB (a := x / y) (A := 1000000) (b := s) (B := 1000000) (by omega) (by omega) (by omega) (by omega)
                  have w4 : IntKind.i64.wrap (x / y) = x / y := IntWalk.i64_in _ (by omega)
                  have w5 : IntKind.i64.wrap (x / y * s) = x / y * s := IntWalk.i64_in _ (by omega)
                  have w6 : IntKind.i64.wrap (t - x / y * s) = t - x / y * s := IntWalk.i64_in _ (by omega)
                  have w7 : IntKind.i64.wrap (t - x / y * s + z) = t - x / y * s + z := IntWalk.i64_in _ (by omega)
                  have HV2 : t - x / y * s + z = z + t - x / y * s := by omega
                  have e1 : ((j + 2 : Nat) : Int) - 1 = (j : Int) + 1 := by omega
                  have e2 : IntKind.i64.wrap ((j : Int) + 1) = (j : Int) + 1 := IntWalk.i64_in _ (by omega)
                  have e3 : ((j : Int) + 1).toNat = j + 1 := by omega
                  have e4 : (0 : Int) ≤ (j : Int) + 1 := by omega
                  have e5 : (j : Int) + 1 < (G.length : Int) := by omega
                  have g1 : (j : Int) < (j : Int) + 2 + 1 := by omega
                  have g2 : (j : Int) + 1 < (j : Int) + 2 + 1 := by omega
                  have g3 : (j : Int) < ((j + 2 + 1 : Nat) : Int) := by omega
                  have g4 : (j : Int) + 1 < ((j + 2 + 1 : Nat) : Int) := by omega
                  have e6 : (j : Int) + 1 < ((j + 2 : Nat) : Int) := by omega
                  have e8 : (j : Int) + 2 - 1 = (j : Int) + 1 := by omega
                  have e9 : (j : Int) + 1 < (j : Int) + 2 := by omega
                  have f1 : (j : Int) + 2 - 2 = (j : Int) := by omega
                  have f2 : IntKind.i64.wrap (j : Int) = (j : Int) := IntWalk.i64_in _ (by omega)
                  have f3 : (0 : Int) ≤ (j : Int) := by omega
                  have f4 : (j : Int) < (G.length : Int) := by omega
                  have f5 : (j : Int) + 2 < (G.length : Int) := by omega
                  have f6 : (0 : Int) ≤ (j : Int) + 2 := by omega
                  have f7 : ((j : Int) + 2).toNat = j + 2 := by omega
                  have f8 : (j : Int) + 2 > 1 := by omega
                  have f9 : (1 : Int) < (j : Int) + 2 := by omega
                  go_wp2
                  go_quiet (fail)
                  go_wp2
                  go_meet
                  exact ⟨by go_num, by first | rw [HV.out] | rw [HV.out, HV2], by first | exact Drew.one _ _ | exact Drew.two _ _ _⟩
              case rest =>
                obtain ⟨rfl, rfl, m, rfl⟩ := hcut
                have B5 := B6.drewN m
                have D5 := D6.drewN m
                have fr5 := below_drewN fr6 m
                have hoT5 := hoT6.below (below_drewN (Below.refl _ wo) m) (Nat.le_refl _)
                have hoE5 := hoE6.below (below_drewN (Below.refl _ wo) m) (Nat.le_refl _)
                have dB := B5.cell 0
                have fB := B5.free 0
                have hlB := B5.lt
                have hsz5 : w.heap.size + 1 ≤ (wo.drewN m).heap.size := by have := fr6.size; have := D6.lt; show _ ≤ wo.heap.size; omega
                have hgs := (hoT5.block g rfl).1
                have hges : ge < (wo.drewN m).heap.size := (hoE5.block ge rfl).2
                obtain ⟨wz, hwz⟩ : ∃ wz : World, wz = wo.drewN m := ⟨_, rfl⟩
                rw [← hwz] at B5 D5 fr5 hoT5 hoE5 dB fB hlB hsz5 hges ⊢
                clear hwz B6 D6 fr6 hoT6 hoE6 dG
                generalize tI G k = y at HY ⊢
                go_wp2_with (at_builtin; refine wpList_pushL rfl (.tmp 95) (.tmp 97) 24 rfl (w.heap.size + 1) 2 i0 Try.underlying24 hi hz0 hz1 hz2 (.slice (some ⟨g, 0, none⟩) k c) (tTo G k) y rfl hoT5 rfl (by simp; omega) hsz5 ?_; intro g2 c2 w6 hown' hkp hlies; have d3 : w6.cell? ⟨gb, 0, none⟩ = some (.slice (some ⟨g, 0, none⟩) k c) := (hkp.cell (p := ⟨gb, 0, none⟩) hlB (by simp [Value.ownBlock]; omega)).trans dB; have f3 : w6.frozen? ⟨gb, 0, none⟩ = false := (hkp.frozen (p := ⟨gb, 0, none⟩) hlB (by simp [Value.ownBlock]; omega)).trans fB)
                rw [← HY.out, tTo_len] at hown'
                have hlies' : g = g2 ∨ wz.heap.size ≤ g2 := hlies.imp (fun h => by simpa [Value.ownBlock] using h) id
                have hkg : Keeps (fun q => q = g) wz w6 := hkp.mono (fun q hq => by simp [Value.ownBlock] at hq; exact hq.symm)
                have B7 := (B5.keeps hkg (fun h => hg1 h.symm)).set 0 (.slice (some ⟨g2, 0, none⟩) (k + 1) c2)
                have hgD : ¬ w.heap.size = g := by omega
                have D7 := (D5.keeps hkg hgD).other (g' := gb) (by omega) 0 (.slice (some ⟨g2, 0, none⟩) (k + 1) c2)
                have hoE7 := (hoE5.keeps hkg (fun q hq e => by simp [Value.ownBlock] at hq; omega)).other (g := gb) (fun q hq => by simp [Value.ownBlock] at hq; omega) 0 (.slice (some ⟨g2, 0, none⟩) (k + 1) c2)
                have hoT7 := hown'.other (g := gb) (fun q hq => by simp [Value.ownBlock] at hq; omega) 0 (.slice (some ⟨g2, 0, none⟩) (k + 1) c2)
                have hszD : w.heap.size ≤ gb := by omega
                have fr7 := (fr5.trans (hkg.below (by omega) (fun q hq => by omega))).setCell (p := ⟨gb, 0, none⟩) hszD (.slice (some ⟨g2, 0, none⟩) (k + 1) c2)
                clear hkp hlies hkg B5 D5 hoE5 hoT5 hown' fr5
                go_roundw
                case rel => exact ⟨k + 1, g2, c2, ge, ce, by omega, by omega, by go_num, rfl, hoE7, B7, hoT7, by omega, by omega, by omega, D7, fr7⟩
                case measure => simp [intOf]; omega
          · have hk' : k = G.length := by omega
            subst hk'
            have dB := B4.cell 0
            go_wp2_with fail
            refine (l03Is_c _ (tTo G G.length) _ hoT.rd).mono ?_
            rintro e w5 ⟨rfl, hb5⟩
            rw [HFB.out]
            have hsz5 := hb5.size
            have B5 := B4.stays hb5
            have D5 := D4.stays hb5
            have fr5 := below_step fr4 hb5
            have hoT5 := hoT.below hb5 (Nat.le_refl _)
            have f0 := D5.free 0
            have e0 := D5.cell 0
            have dB := B5.cell 0
            cases fb
            · have q0 := (D5.set 0 (.slice none 0 0)).cell 0
              go_wp2
              refine bodyPost_ret (v := .tuple #[.agg #[.slice none 0 0], .int .i64 5]) (by simp [results, Try.results60, go_sem, q0]) rfl (by rw [hall.out]; exact bog_zero D5 fr5)
            · have q0 := (D5.set 0 (.slice (some ⟨g, 0, none⟩) G.length c)).cell 0
              have hoT6 := hoT5.other (g := w.heap.size) (fun q hq => by simp [Value.ownBlock] at hq; have := (hoT.block g rfl).1; omega) 0 (.slice (some ⟨g, 0, none⟩) G.length c)
              have fr6 := fr5.setCell (p := ⟨w.heap.size, 0, none⟩) (Nat.le_refl _) (.slice (some ⟨g, 0, none⟩) G.length c)
              go_wp2
              refine bodyPost_ret (v := .tuple #[.agg #[.slice (some ⟨g, 0, none⟩) G.length c], .int .i64 0]) (by simp [results, Try.results60, go_sem, q0]) rfl (by
                rw [hall.out]
                exact ⟨_, c, by simp [okL, okC, rgC]; rfl, by simpa [okL] using hoT6.base_le (base' := w.heap.size) (by omega), fr6⟩)

theorem implBog_c (v : Value) (G : List Int) (w : World) (h : Rd w v G) :
    Calls Try.prog 54 #[v] w (RetBC w (okL (bogB G) (tTo G G.length)) (bogC G)) := by
  cases hr : rgB G
  · obtain ⟨e1, e2⟩ := bog_range hr
    rw [e1, e2]
    exact implBog_range v G w h hr
  · by_cases hbig : 64 < gI G 0
    · obtain ⟨e1, e2⟩ := bog_big hr hbig
      rw [e1, e2]
      exact implBog_state v G w h hr (.inl hbig)
    · cases hf : fallB G
      · obtain ⟨e1, e2⟩ := bog_nofall hr hf
        rw [e1, e2]
        exact implBog_state v G w h hr (.inr hf)
      · have e1 : bogB G = braB (tTo G G.length) := by simp [bogB, hr]
        have e2 : bogC G = okC (braB (tTo G G.length)) 5 := by simp [bogC, hr]
        rw [e1, e2]
        exact implBog_ok v G _ w h hr (by omega) hf rfl
theorem specBog_c (v : Value) (G : List Int) (w : World) (h : Rd w v G) :
    Calls Try.prog 60 #[v] w (RetBC w (okL (bogB G) (tTo G G.length)) (bogC G)) := by
  by_cases h1 : 1 ≤ G.length ∧ G.length ≤ 8
  · have e0 : rgB G = allIn G 1 1000000 := by simp [rgB, h1.1, h1.2]
    have e1 : bogB G = (allIn G 1 1000000 && braB (tTo G G.length)) := by unfold bogB; rw [e0]
    have e2 : bogC G = rgC (allIn G 1 1000000) (braB (tTo G G.length)) := by unfold bogC rgC; rw [e0]
    rw [e1, e2]
    exact specBog_go v G _ w h h1.1 h1.2 rfl
  · have hr : rgB G = false := by
      cases c : rgB G
      · rfl
      · have := rgB_iff.1 c; omega
    obtain ⟨e1, e2⟩ := bog_range hr
    rw [e1, e2]
    exact specBog_len v G w h (by omega)
theorem bog_len (G : List Int) : (okL (bogB G) (tTo G G.length)).length ≤ 1048576 := okL_len fun h => by
  have h1 : rgB G = true := by simp [bogB] at h; exact h.1
  have := rgB_iff.1 h1
  rw [tTo_len]; omega
end Go.Proofs.Ytiinceflafigeaa
