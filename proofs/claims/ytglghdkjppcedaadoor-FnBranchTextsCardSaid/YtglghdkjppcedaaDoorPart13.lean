/- Contracts: impl.CommonDivisor, impl.isTurned. -/
import Derived.Test.YtglghdkjppcedaaDoorPart12
import Derived.Test.YtglghdkjppcedaaDoorPart9
import Derived.Test.YtglghdkjppcedaaDoorPart7
namespace Go.Proofs.YtglghdkjppcedaaDoor
open Go.RowKit

theorem isInteger_cT (n : Int) (w : World) : Calls Tryd.prog 44 #[.int .i64 n] w fun e w' => e = .returned (.bool (inB n (-1000000000) 1000000000)) ∧ w = w' := by
  go_enter Tryd.func44, Tryd.ntmps44
  go_wp2_with fail
  refine (inRange_c n (-1000000000) 1000000000 _).mono ?_
  rintro e w1 ⟨rfl, rfl⟩
  go_wp2
  go_ret
  exact ⟨rfl, rfl⟩
theorem commonDivisor_c (a b : Int) (w : World) (ha : -1000000000 ≤ a ∧ a ≤ 1000000000) (hb : -1000000000 ≤ b ∧ b ≤ 1000000000) :
    Calls Tryd.prog 19 #[.int .i64 a, .int .i64 b] w fun e w' => e = .returned (.tuple #[.int .i64 (gcdI a b), .int .i64 0]) ∧ Drew w w' := by
  have h1 := inB_iff.2 ha
  have h2 := inB_iff.2 hb
  go_enter Tryd.func19, Tryd.ntmps19
  go_wp2_with fail
  refine (isInteger_cT a _).mono ?_
  rintro e w1 ⟨rfl, rfl⟩
  rw [h1]
  go_wp2_with fail
  refine (isInteger_cT b _).mono ?_
  rintro e w1 ⟨rfl, rfl⟩
  rw [h2]
  go_wp2_with fail
  refine (divisor_c a b _ (by omega) (by omega) (by omega) (by omega)).mono ?_
  rintro e w1 ⟨rfl, hd⟩
  go_wp2
  go_ret2
  exact ⟨rfl, hd⟩
theorem tuR_len {L : List Int} (h : ¬ 2 ≤ L.length) : tuR L = false := by
  cases c : tuR L
  · rfl
  · exact absurd (tuR_iff.1 c).len h
theorem tuR_a {L : List Int} (h : inB (gI L 0) 2 64 = false) : tuR L = false := by unfold tuR; rw [h]; simp
theorem tuR_b {L : List Int} (h : inB (gI L 1) 1 64 = false) : tuR L = false := by unfold tuR; rw [h]; simp
theorem tuR_d {L : List Int} (h : gI L 0 ≤ gI L 1) : tuR L = false := by
  unfold tuR
  rw [decide_eq_false (show ¬ gI L 1 < gI L 0 by omega)]; simp
set_option maxHeartbeats 4000000 in
theorem isTurned_c (v : Value) (L : List Int) (w : World) (h : Rd w v L) (hl9 : L.length ≤ 2000) :
    Calls Tryd.prog 43 #[v] w fun e w' => e = .returned (.bool (tuR L)) ∧ Below w.heap.size w w' := by
  obtain ⟨n, hn⟩ : ∃ n, L.length = n := ⟨_, rfl⟩
  obtain ⟨av, kv, rfl⟩ := h.len0
  have HTR := Lib.hid (show tuR L = (decide (2 ≤ L.length) && (inB (gI L 0) 2 64 && (inB (gI L 1) 1 64 && (decide (gI L 1 < gI L 0) && (ascB (L.drop 1) && (allIn (L.drop 1) 1 2000 && fallB L)))))) from rfl)
  by_cases h2 : 2 ≤ L.length
  · rw [hn] at h h2 hl9 ⊢
    have HN := Lib.hid hn
    obtain ⟨b0, o0, k0, he, hb0, hc0⟩ := h.atT hn (by omega)
    injection he with f1 _ f3
    subst f1 f3
    have hcap1 : n ≤ kv := by
      obtain ⟨_, _, he, h1, _⟩ := id h
      injection he with _ _ e3
      omega
    have d0 := hc0 0 (by omega)
    rw [Nat.add_zero] at d0
    have d1 := hc0 1 (by omega)
    have hg0 : (0 : Int) < (n : Int) := by omega
    have hg1 : (1 : Int) < (n : Int) := by omega
    have hg2 : ¬ (n : Int) < 2 := by omega
    have hg3 : decide ((n : Int) < 2) = false := decide_eq_false hg2
    have hk1 : ¬ kv = 1 := by omega
    have hk2 : (1 : Int) < (kv : Int) := by omega
    have hRD := h.drop1 hn (by omega)
    have HRA := Lib.hid (tuR_a (L := L))
    have HRB := Lib.hid (tuR_b (L := L))
    have HRD2 := Lib.hid (tuR_d (L := L))
    have HRD := Lib.hid h
    clear hc0 h hn
    have HX := Lib.hid (show gI L 0 = gI L 0 ∧ gI L 1 = gI L 1 from ⟨rfl, rfl⟩)
    generalize hx0 : gI L 0 = x0 at *
    generalize hx1 : gI L 1 = x1 at *
    have HX0 := Lib.hid hx0
    clear hx0 hx1
    cases hA : inB x0 2 64
    · have HF := Lib.hid (HRA.out hA)
      clear HRA HRB HRD2 HTR
      go_enter Tryd.func43, Tryd.ntmps43
      go_wp2_with fail
      go_quiet ((go_at_call 36; exact quiet_eq ((inRange_c _ _ _ _).mono fun e w' ⟨he, hw'⟩ => ⟨by rw [he, hA], hw'⟩)))
      go_wp2
      go_ret
      exact ⟨by rw [HF.out]; rfl, (below_drewN (Below.refl _ _) _)⟩
    · cases hB : inB x1 1 64
      · have HF := Lib.hid (HRB.out hB)
        clear HRA HRB HRD2 HTR
        go_enter Tryd.func43, Tryd.ntmps43
        go_wp2_with fail
        go_quiet ((go_at_call 36; first | exact quiet_eq ((inRange_c _ _ _ _).mono fun e w' ⟨he, hw'⟩ => ⟨by rw [he, hA], hw'⟩) | exact quiet_eq ((inRange_c _ _ _ _).mono fun e w' ⟨he, hw'⟩ => ⟨by rw [he, hB], hw'⟩)))
        go_wp2
        go_ret
        exact ⟨by rw [HF.out]; rfl, (below_drewN (Below.refl _ _) _)⟩
      · by_cases hC : x0 ≤ x1
        · have HF := Lib.hid (HRD2.out hC)
          have hC1 : decide (x1 ≥ x0) = true := decide_eq_true hC
          clear HRA HRB HRD2 HTR
          go_enter Tryd.func43, Tryd.ntmps43
          go_wp2_with fail
          go_quiet ((go_at_call 36; first | exact quiet_eq ((inRange_c _ _ _ _).mono fun e w' ⟨he, hw'⟩ => ⟨by rw [he, hA], hw'⟩) | exact quiet_eq ((inRange_c _ _ _ _).mono fun e w' ⟨he, hw'⟩ => ⟨by rw [he, hB], hw'⟩)))
          go_wp2
          go_ret
          exact ⟨by rw [HF.out]; rfl, (below_drewN (Below.refl _ _) _)⟩
        · have hC1 : decide (x1 ≥ x0) = false := decide_eq_false (by omega)
          have HE := Lib.hid (show tuR L = (ascB (L.drop 1) && (allIn (L.drop 1) 1 2000 && fallB L)) by
            rw [HTR.out, hA, hB, HN.out, decide_eq_true h2, decide_eq_true (show x1 < x0 by omega)]; simp)
          have hA2 := inB_iff.1 hA
          have HALL := Lib.hid (show allIn (L.drop 1) 1 2000 = true → ∀ i, i < L.length → 1 ≤ gI L i ∧ gI L i ≤ 1000000000000 from fun ha i hi => by
            by_cases e : i = 0
            · subst e; rw [HX0.out]; omega
            · have := allIn_iff.1 ha (i - 1) (by simp; omega)
              rw [gI_dropT (by omega), show 1 + (i - 1) = i by omega] at this
              omega)
          clear HRA HRB HRD2 HTR
          go_enter Tryd.func43, Tryd.ntmps43
          go_wp2_with fail
          go_quiet ((go_at_call 36; first | exact quiet_eq ((inRange_c _ _ _ _).mono fun e w' ⟨he, hw'⟩ => ⟨by rw [he, hA], hw'⟩) | exact quiet_eq ((inRange_c _ _ _ _).mono fun e w' ⟨he, hw'⟩ => ⟨by rw [he, hB], hw'⟩)))
          have hbd : Below w.heap.size w (w.drewN nq) := below_drewN (Below.refl _ _) _
          have hR1 := hRD.below hbd (Nat.le_refl _)
          have hR0 := HRD.out.below hbd (Nat.le_refl _)
          clear d0 d1 hRD
          generalize w.drewN nq = w1 at *
          go_wp2_with fail
          refine (ascends_c _ (L.drop 1) _ hR1).mono ?_
          rintro e w2 ⟨rfl, hd2⟩
          have hb2 := below_step hbd (hd2.below _)
          have hR2 := hR1.below (hd2.below w1.heap.size) (Nat.le_refl _)
          have hR3 := hR0.below (hd2.below w1.heap.size) (Nat.le_refl _)
          clear hbd hR1 hR0 hd2
          cases has : ascB (L.drop 1)
          · have HF := Lib.hid (show tuR L = false by rw [HE.out, has]; rfl)
            clear has
            go_wp2
            go_ret
            exact ⟨by rw [HF.out]; rfl, hb2⟩
          · go_wp2_with fail
            refine (within_c _ (L.drop 1) 1 2000 _ hR2).mono ?_
            rintro e w3 ⟨rfl, rfl⟩
            cases hwi : allIn (L.drop 1) 1 2000
            · have HF := Lib.hid (show tuR L = false by rw [HE.out, has, hwi]; rfl)
              clear has hwi
              go_wp2
              go_ret
              exact ⟨by rw [HF.out]; rfl, hb2⟩
            · have hnum := HALL.out hwi
              have HF := Lib.hid (show tuR L = fallB L by rw [HE.out, has, hwi]; simp)
              clear has hwi
              go_wp2_with fail
              refine (falls_c _ L _ hR3 (by have := HN.out; omega) (by have := HN.out; omega) hnum).mono ?_
              rintro e w4 ⟨rfl, hb4⟩
              have hb5 := below_step hb2 hb4
              clear hnum hb2 hb4
              go_wp2
              go_ret
              exact ⟨by rw [HF.out]; rfl, hb5⟩
  · have HF := Lib.hid (tuR_len h2)
    have hg2 : (L.length : Int) < 2 := by omega
    have hg3 : decide ((L.length : Int) < 2) = true := decide_eq_true hg2
    clear h2 hn HTR
    go_enter Tryd.func43, Tryd.ntmps43
    go_wp2_with fail
    go_quiet (fail)
    go_wp2
    go_ret
    exact ⟨by rw [HF.out]; rfl, (below_drewN (Below.refl _ _) _)⟩
end Go.Proofs.YtglghdkjppcedaaDoor

/- Contract: impl.TurnCharacteristic. -/
namespace Go.Proofs.YtglghdkjppcedaaDoor
open Go.RowKit

/-- The box N holds the branch's list X; the result's box is as it was. -/
def BoxI (w wr : World) (N : Nat) (X : List Int) : Prop :=
  ∃ (a : Option Addr) (m k : Nat), Blk wr N 26 #[.slice a m k] ∧ OwnI wr (w.heap.size + 1) (.slice a m k) X ∧ X.length = m ∧ (∀ q, (Value.slice a m k).ownBlock = some q → q ≠ N) ∧ Blk wr w.heap.size 26 #[.slice none 0 0] ∧ N ≠ w.heap.size ∧ Below w.heap.size w wr
theorem boxI_push {w wr w6 : World} {N m k g2 kg2 : Nat} {a : Option Addr} {X : List Int} {x : Int} (B5 : Blk wr N 26 #[.slice a m k]) (o5 : OwnI wr (w.heap.size + 1) (.slice a m k) X) (hm : X.length = m) (hne : ∀ q, (Value.slice a m k).ownBlock = some q → q ≠ N) (D5 : Blk wr w.heap.size 26 #[.slice none 0 0]) (hN : N ≠ w.heap.size) (hb5 : Below w.heap.size w wr)
    (ho : OwnI w6 (w.heap.size + 1) (.slice (some ⟨g2, 0, none⟩) (m + 1) kg2) (X ++ [x])) (hk2 : Keeps (fun q => (Value.slice a m k).ownBlock = some q) wr w6) (hl : (Value.slice a m k).ownBlock = some g2 ∨ wr.heap.size ≤ g2) (hNw : w.heap.size ≤ N) :
    BoxI w (w6.setCell ⟨N, 0, none⟩ (.slice (some ⟨g2, 0, none⟩) (m + 1) kg2)) N (X ++ [x]) := by
  have hNl := B5.lt
  have hne7 : ∀ q, (Value.slice (some ⟨g2, 0, none⟩) (m + 1) kg2).ownBlock = some q → q ≠ N := fun q hq => by
    have hq' : g2 = q := Option.some.inj hq
    rcases hl with h | h
    · exact hne q (by rw [h, hq'])
    · omega
  exact ⟨_, m + 1, kg2, (B5.keeps hk2 (fun e => hne _ e rfl)).set 0 _, ho.other (g := N) hne7 0 _, by rw [List.length_append, hm]; rfl, hne7, (D5.keeps hk2 (fun e => by have := (o5.block _ e).1; omega)).other (g' := N) (by omega) 0 _, hN, (hb5.trans (hk2.below (B := w.heap.size) hb5.size (fun b e => by have := (o5.block _ e).1; omega))).setCell (p := ⟨N, 0, none⟩) hNw _⟩
set_option maxRecDepth 100000 in
set_option maxHeartbeats 4000000 in
theorem implTur_c (v : Value) (L : List Int) (w : World) (h : Rd w v L) (hl9 : L.length ≤ 2000) :
    Calls Tryd.prog 17 #[v] w (RetBC w (okL (tuB L) (tuF L)) (tuC L)) := by
  obtain ⟨i0, hi, hz0, hz1, hz2⟩ := info_parts Tryd.infoI
  obtain ⟨av, kv, rfl⟩ := h.len0
  have D := Blk.new w 26 #[.slice none 0 0]
  have hb0 : Below w.heap.size w (w.alloc (.cells #[.slice none 0 0] 26)) := (Below.refl _ _).alloc (Nat.le_refl _) _
  have h1 := h.below hb0 (Nat.le_refl _)
  go_enter Tryd.func17, Tryd.ntmps17
  go_upto_region 1 with fail
  generalize w.alloc (.cells #[.slice none 0 0] 26) = w0 at *
  go_wp2_with fail
  refine (isTurned_c _ L _ h1 hl9).mono ?_
  rintro e w1 ⟨rfl, hq⟩
  have D1 := D.stays hq
  have hb1 := below_step hb0 hq
  clear D hb0 h1 hq
  cases htu : tuR L
  · obtain ⟨e1, e2⟩ := tuC_no htu
    clear htu
    have HE1 := Lib.hid e1
    have HE2 := Lib.hid e2
    clear e1 e2
    have f0 := D1.free 0
    have e0' := D1.cell 0
    have q0 := (D1.set 0 (.slice none 0 0)).cell 0
    have hfin := hb1.setCell (p := ⟨w.heap.size, 0, none⟩) (Nat.le_refl _) (.slice none 0 0)
    go_wp2
    exact bodyPost_ret (v := .tuple #[.agg #[.slice none 0 0], .int .i64 2]) (by simp [results, Tryd.results17, go_sem, q0]) rfl (by rw [HE1.out, HE2.out, okL_false rfl]; exact retBC_err hfin)
  · have hT := tuR_iff.1 htu
    have HT := Lib.hid hT
    obtain ⟨n, hn⟩ : ∃ n, L.length = n := ⟨_, rfl⟩
    rw [hn] at h hl9 ⊢
    have hlen := hT.len
    have hzo := hT.zero
    have hon := hT.one
    obtain ⟨b0, o0, k0, he, hbL, hc0⟩ := h.atT hn (by omega)
    injection he with f1 _ f3
    subst f1 f3
    have hcap1 : n ≤ kv := by
      obtain ⟨_, _, he, h1, _⟩ := id h
      injection he with _ _ e3
      omega
    have HC := Lib.hid hc0
    have HN := Lib.hid hn
    have HTU := Lib.hid htu
    have HNUM := Lib.hid (show ∀ i, i < n → 1 ≤ gI L i ∧ gI L i ≤ 2000 from fun i hi => hT.num i (by omega))
    have d0 := (hb1.cell (p := ⟨b0, o0, none⟩) hbL).trans (hc0 0 (by omega))
    have d1 := (hb1.cell (p := ⟨b0, o0 + 1, none⟩) hbL).trans (hc0 1 (by omega))
    have hg0 : (0 : Int) < (n : Int) := by omega
    have hg1 : (1 : Int) < (n : Int) := by omega
    have hn2 : 2 ≤ n := by omega
    have HZ := Lib.hid (tuK_zero L)
    have HS := Lib.hid (show ∀ j, j + 2 < n → tuK L (j + 1) = tuK L j ++ [gI L (j + 2) + (gI L 0 - gI L 1)] from fun j hj => tuK_succ (by omega))
    have HH := Lib.hid (show tuH L = if gI L 0 % gI L 1 = 0 then [gI L 1] else [gI L 1, gI L 0] from rfl)
    have HBR := Lib.hid (tu_bra hT)
    have HLK := Lib.hid (show ∀ j, j + 2 ≤ n → (tuK L j).length ≤ 2002 from fun j hj => by
      obtain ⟨g, hg, hor⟩ := tuH_or L
      rw [tuK_len (by omega), hg]
      rcases hor with ⟨rfl, _⟩ | ⟨rfl, _⟩ <;> omega)
    clear hc0 hn htu hT hlen h
    generalize hx0 : gI L 0 = x0 at *
    generalize hx1 : gI L 1 = x1 at *
    clear hx0 hx1
    go_wp2_with fail
    go_quiet (fail)
    have D2 := D1.drewN nq
    have hb2 := below_drewN hb1 nq
    clear D1 hb1 d0 d1
    generalize w1.drewN nq = w2 at *
    have hs2 : w.heap.size + 1 ≤ w2.heap.size := by have := D2.lt; omega
    have o2 := (own_one (e := 2) w2 (w.heap.size + 1) hs2 x1).below ((Below.refl (w2.alloc (.cells #[.int .i64 x1] 2)).heap.size _).alloc (Nat.le_refl _) (.cells #[.slice (some ⟨w2.heap.size, 0, none⟩) 1 1] 26)) (Nat.le_refl _)
    have hal : Below w2.heap.size w2 ((w2.alloc (.cells #[.int .i64 x1] 2)).alloc (.cells #[.slice (some ⟨w2.heap.size, 0, none⟩) 1 1] 26)) := ((Below.refl _ _).alloc (Nat.le_refl _) _).alloc (by simp) _
    have B3 := Blk.new' (w := w2.alloc (.cells #[.int .i64 x1] 2)) (t := 26) (cs := #[.slice (some ⟨w2.heap.size, 0, none⟩) 1 1]) (g := w2.heap.size + 1) (by simp)
    have D3 := D2.stays hal
    have hb3 := below_step hb2 hal
    have hne3 : ∀ q, (Value.slice (some ⟨w2.heap.size, 0, none⟩) 1 1).ownBlock = some q → q ≠ w2.heap.size + 1 := fun q hq => by
      have hq' : w2.heap.size = q := Option.some.inj hq
      omega
    clear D2 hb2 hal
    go_upto_region 5 with fail
    generalize (w2.alloc (.cells #[.int .i64 x1] 2)).alloc (.cells #[.slice (some ⟨w2.heap.size, 0, none⟩) 1 1] 26) = w3 at *
    have hx1z : ¬ x1 = 0 := by omega
    have hx1p : 0 < x1 := hon.1
    go_upto_if 26 with fail
    go_cut [] from 23 to 32 (fun wc => BoxI w wc (w2.heap.size + 1) (tuH L))
    case first =>
      by_cases hd : x0 % x1 = 0
      · have hdt : x0.tmod x1 = 0 := by rw [Int.tmod_eq_emod_of_nonneg (by omega)]; exact hd
        have hdb : (x0 % x1 != 0) = false := by rw [hd]; rfl
        have HF := Lib.hid (show BoxI w w3 (w2.heap.size + 1) (tuH L) from ⟨_, 1, 1, B3, by rw [HH.out, if_pos hd]; exact o2, by rw [HH.out, if_pos hd]; rfl, hne3, D3, by omega, hb3⟩)
        clear B3 o2 D3 hb3 hne3 hd
        go_wp2
        go_meet
        exact HF.out
      · have hdt : ¬ x0.tmod x1 = 0 := by rw [Int.tmod_eq_emod_of_nonneg (by omega)]; exact hd
        have hdb : (x0 % x1 != 0) = true := by rw [bne_iff_ne]; exact hd
        have HE := Lib.hid (show tuH L = [x1] ++ [x0] by rw [HH.out, if_neg hd]; rfl)
        have l3 := B3.lt
        have c3 := B3.cell 0
        have f3 := B3.free 0
        have hz3 : w.heap.size + 1 ≤ w3.heap.size := by have := D3.lt; omega
        have HNE := Lib.hid hne3
        clear hd hne3
        go_wp2_with (at_builtin; refine wpList_pushL rfl (.tmp 28) (.tmp 30) 24 rfl (w.heap.size + 1) 2 i0 Tryd.underlying24 hi hz0 hz1 hz2 (.slice (some ⟨w2.heap.size, 0, none⟩) 1 1) [x1] x0 rfl o2 rfl (by simp) hz3 ?_; intro g2 kg2 w6 ho hk2 hl; have hcell := (hk2.cell (p := ⟨w2.heap.size + 1, 0, none⟩) l3 (fun e => HNE.out _ e rfl)).trans c3; have hfree := (hk2.frozen (p := ⟨w2.heap.size + 1, 0, none⟩) l3 (fun e => HNE.out _ e rfl)).trans f3)
        have HF := Lib.hid (show BoxI w (w6.setCell ⟨w2.heap.size + 1, 0, none⟩ (.slice (some ⟨g2, 0, none⟩) (1 + 1) kg2)) (w2.heap.size + 1) (tuH L) from by
          rw [HE.out]; exact boxI_push B3 o2 rfl HNE.out D3 (by omega) hb3 ho hk2 hl (by omega))
        clear B3 o2 D3 hb3 HNE hcell hfree ho hk2 hl c3 f3
        go_wp2
        go_meet
        exact HF.out
    case rest =>
      clear B3 o2 D3 hb3 hne3
      rw [← HZ.out] at hcut
      have hX := hcut
      clear hcut
      obtain ⟨wd, rfl⟩ : ∃ wd : World, wd = wc := ⟨_, rfl⟩
      go_upto_region 7 with fail
      go_cut [34, 35, 36] from 33 to 36 (fun s34 s35 s36 we => ∃ (a' : Option Addr) (k' : Nat), s34 = .slice a' (n - 2) k' ∧ s35 = .int .i64 ((n - 2 : Nat) : Int) ∧ s36 = .int .i64 0 ∧ (2 < n → a' = some ⟨b0, o0 + 2, none⟩) ∧ wd = we)
      case first =>
        clear hX
        have hq1 : ¬ (n : Int) < 2 := by omega
        have hq2 : (2 : Int) ≤ (n : Int) := by omega
        by_cases hk2 : kv = 2
        · have hn2' : n = 2 := by omega
          subst hn2' hk2
          go_wp2
          go_meet
          exact ⟨_, _, rfl, rfl, rfl, fun h => by omega, rfl⟩
        · have hk3 : (2 : Int) < (kv : Int) := by omega
          have hk4 : (2 : Int) ≤ (kv : Int) := by omega
          go_wp2
          go_meet
          exact ⟨_, _, rfl, rfl, rfl, fun _ => rfl, rfl⟩
      case rest =>
        obtain ⟨a', k', rfl, rfl, rfl, ha', rfl⟩ := hcut
        have HA := Lib.hid ha'
        clear ha'
        go_wp2_with fail
        go_loopw [36] (fun iv wr => ∃ j : Nat, j + 2 ≤ n ∧ iv = .int .i64 (j : Int) ∧ BoxI w wr (w2.heap.size + 1) (tuK L j) ∧ (∀ i, i < j → gI L (i + 2) + (x0 - x1) ≤ 2000)) (fun iv _ => n - (intOf iv).toNat)
        case atStart => exact ⟨0, by omega, rfl, hX, fun i hi => by omega⟩
        case round =>
          obtain ⟨j, hj, rfl, hY, hall⟩ := hrel
          clear hX
          obtain ⟨wp, rfl⟩ : ∃ wp : World, wp = wr := ⟨_, rfl⟩
          obtain ⟨a, m, k, B5, o5, hm, hne, D5, hNn, hb5⟩ := hY
          have HM := Lib.hid hm
          have HALL := Lib.hid hall
          have HNE := Lib.hid hne
          clear hm hall hne
          have l5 := B5.lt
          have c5 := B5.cell 0
          by_cases hlt : j + 2 < n
          · have hki : (j : Int) < ((n - 2 : Nat) : Int) := by omega
            have hk0 : (0 : Int) ≤ (j : Int) := by omega
            obtain rfl := HA.out (by omega)
            have dL := (hb5.cell (p := ⟨b0, o0 + (2 + j), none⟩) hbL).trans (HC.out (2 + j) (by omega))
            rw [show 2 + j = j + 2 by omega] at dL
            have dL2 : wp.cell? ⟨b0, o0 + 2 + j, none⟩ = some (.int .i64 (gI L (j + 2))) := by rw [Nat.add_assoc, show 2 + j = j + 2 by omega]; exact dL
            have hx := HNUM.out (j + 2) hlt
            have HSJ := Lib.hid (HS.out j hlt)
            have HLE := Lib.hid (HLK.out j hj)
            have HLT := Lib.hid (show x0 - x1 + gI L (j + 2) ≤ 2000 → ∀ i, i < j + 1 → gI L (i + 2) + (x0 - x1) ≤ 2000 from fun h i hi => by
              by_cases e : i = j
              · subst e; omega
              · exact HALL.out i (by omega))
            have HBAD := Lib.hid (show ¬ x0 - x1 + gI L (j + 2) ≤ 2000 → braB (tuF L) = false from fun h => by
              cases hc : braB (tuF L)
              · rfl
              · have := (HBR.out.1 hc) j (by have := HN.out; omega)
                omega)
            generalize gI L (j + 2) = x at *
            generalize tuK L j = X at *
            clear dL
            have hw1 : IntKind.i64.wrap (x + x0) = x + x0 := IntWalk.i64_in _ (by omega)
            have hw2 : IntKind.i64.wrap (x + x0 - x1) = x + x0 - x1 := IntWalk.i64_in _ (by omega)
            by_cases hbig : x + x0 - x1 > 2000
            · obtain ⟨e1, e2⟩ := tuC_bad HTU.out (HBAD.out (by omega))
              clear HBAD HLT HSJ HLE HALL HNE HM o5 B5 c5
              have HE1 := Lib.hid e1
              have HE2 := Lib.hid e2
              clear e1 e2
              have f0 := D5.free 0
              have e0' := D5.cell 0
              have q0 := (D5.set 0 (.slice none 0 0)).cell 0
              have hfin := hb5.setCell (p := ⟨w.heap.size, 0, none⟩) (Nat.le_refl _) (.slice none 0 0)
              go_wp2
              exact bodyPost_ret (v := .tuple #[.agg #[.slice none 0 0], .int .i64 5]) (by simp [results, Tryd.results17, go_sem, q0]) rfl (by rw [HE1.out, HE2.out, okL_false rfl]; exact retBC_err hfin)
            · have HALL2 := Lib.hid (HLT.out (by omega))
              have f5 := B5.free 0
              have hz5 : w.heap.size + 1 ≤ wp.heap.size := by have := D5.lt; omega
              clear HBAD HLT HALL
              go_wp2_with (at_builtin; refine wpList_pushL rfl (.tmp 49) (.tmp 51) 24 rfl (w.heap.size + 1) 2 i0 Tryd.underlying24 hi hz0 hz1 hz2 (.slice a m k) X (x + x0 - x1) rfl o5 rfl (by have := HLE.out; omega) hz5 ?_; intro g2 kg2 w6 ho hk2 hl; rw [HM.out] at ho ⊢; have hcell := (hk2.cell (p := ⟨w2.heap.size + 1, 0, none⟩) l5 (fun e => HNE.out _ e rfl)).trans c5; have hfree := (hk2.frozen (p := ⟨w2.heap.size + 1, 0, none⟩) l5 (fun e => HNE.out _ e rfl)).trans f5)
              have HF := Lib.hid (show BoxI w (w6.setCell ⟨w2.heap.size + 1, 0, none⟩ (.slice (some ⟨g2, 0, none⟩) (m + 1) kg2)) (w2.heap.size + 1) (tuK L (j + 1)) from by
                rw [HSJ.out, show x + (x0 - x1) = x + x0 - x1 by omega]; exact boxI_push B5 o5 HM.out HNE.out D5 hNn hb5 ho hk2 hl (by omega))
              clear B5 o5 D5 hb5 HNE hcell hfree ho hk2 hl c5 f5 HSJ HM HLE dL2 hw1 hw2
              go_wp2
              go_roundw
              case rel => exact ⟨j + 1, by omega, by go_num, HF.out, HALL2.out⟩
              case measure => simp [intOf]; omega
          · have hke : j + 2 = n := by omega
            have hki : ¬ (j : Int) < ((n - 2 : Nat) : Int) := by omega
            have hF : tuF L = tuK L j := by unfold tuF; rw [HN.out, show n - 2 = j by omega]
            have hB := HBR.out.2 (fun i hi => HALL.out i (by have := HN.out; omega))
            obtain ⟨e1, e2⟩ := tuC_ok HTU.out hB
            have HE1 := Lib.hid e1
            have HE2 := Lib.hid e2
            have HFT := Lib.hid hF
            clear e1 e2 hF hB HALL HBR HTU HT HS HZ HH HLK HNUM HC
            generalize tuK L j = X at *
            have f0 := D5.free 0
            have e0' := D5.cell 0
            have q0 := (D5.set 0 (.slice a m k)).cell 0
            have HF := Lib.hid (show RetBC w X 0 (.returned (.tuple #[.agg #[.slice a m k], .int .i64 0])) (wp.setCell ⟨w.heap.size, 0, none⟩ (.slice a m k)) from
              ⟨a, k, by rw [HM.out], by rw [HM.out]; exact (o5.other (g := w.heap.size) (fun q hq => by have := (o5.block q hq).1; omega) 0 _).base_le (by omega), hb5.setCell (p := ⟨w.heap.size, 0, none⟩) (Nat.le_refl _) _⟩)
            clear HM o5 B5 D5 hb5 HNE
            go_wp2
            exact bodyPost_ret (v := .tuple #[.agg #[.slice a m k], .int .i64 0]) (by simp [results, Tryd.results17, go_sem, q0]) rfl (by rw [HE1.out, HE2.out, okL_true rfl, HFT.out]; exact HF.out)
end Go.Proofs.YtglghdkjppcedaaDoor
