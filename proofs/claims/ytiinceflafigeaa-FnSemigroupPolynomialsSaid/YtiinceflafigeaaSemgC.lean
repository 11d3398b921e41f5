/- Contracts: DeltaInvariant, MilnorOfBranch; the draw of generators. -/
import Derived.Test.YtiinceflafigeaaSemgP
import Derived.Test.YtiinceflafigeaaDrwG
import Derived.Deep.RegionLaw
namespace Go.Proofs.Ytiinceflafigeaa
open Go.RowKit

set_option maxHeartbeats 1000000 in
theorem deltaInv_c (v : Value) (T : List Int) (w : World) (h : Rd w v T) (hok : BraOk T) :
    Calls Try.prog 156 #[.agg #[v]] w fun e w' => e = .returned (.tuple #[.int .i64 (deltaL (seqP T)), .int .i64 0]) ∧ Below w.heap.size w w' := by
  have hx := Boxed.start w 26 #[v]
  obtain ⟨a1, k1, rfl⟩ := h.len0
  have hc := braB_iff.2 hok
  have hn := seqP_num hok
  go_enter Try.func156, Try.ntmps156
  go_wp2_with fail
  refine (implIsBranch_c _ T _ (hx.rd h)).mono ?_
  rintro e w1 ⟨rfl, hb⟩
  rw [hc]
  have hx1 := hx.trans hb
  have c0 := hx1.cell 0
  go_wp2_with fail
  refine (sequence_c _ T _ (hx1.rd h) hok).mono ?_
  rintro e w2 ⟨u, rfl, hO, hb2⟩
  go_wp2_with fail
  refine (deltaOf_c _ (seqP T) _ hO.rd (fun i hi => by have := hn.1 i hi; omega) (by omega)).mono ?_
  rintro e w3 ⟨rfl, rfl⟩
  clear hn hO
  go_wp2
  go_ret2
  exact ⟨rfl, (hx1.trans hb2).below⟩
set_option maxHeartbeats 1000000 in
theorem milnor_c (v : Value) (T : List Int) (w : World) (h : Rd w v T) (hok : BraOk T) :
    Calls Try.prog 56 #[.agg #[v]] w fun e w' => e = .returned (.tuple #[.int .i64 (conI T), .int .i64 0]) ∧ Below w.heap.size w w' := by
  have hx := Boxed.start w 26 #[v]
  obtain ⟨a1, k1, rfl⟩ := h.len0
  have c0 := hx.cell 0
  have hd := delta_two (seqP T)
  rw [mu_con hok] at hd
  have hcb := conTo_bd hok (T.length - 1) (by have := hok.len; omega)
  have hl := bra_len hok
  have e : conTo T (T.length - 1) = conI T := rfl
  rw [e] at hcb
  have hw : IntKind.i64.wrap (2 * deltaL (seqP T)) = conI T := by rw [hd]; exact IntWalk.i64_in _ (by omega)
  go_enter Try.func56, Try.ntmps56
  go_wp2_with fail
  refine (deltaInv_c _ T _ (hx.rd h) hok).mono ?_
  rintro e w1 ⟨rfl, hb⟩
  have HF : Hid (2 * deltaL (seqP T) = conI T) := Lib.hid hd
  have hd1 : 0 ≤ 2 * deltaL (seqP T) + 64 := by omega
  have hd2 : 2 * deltaL (seqP T) ≤ 1000000000000000000 := by omega
  clear hd hw hcb e
  generalize deltaL (seqP T) = d at *
  go_wp2
  go_ret2
  exact ⟨show Ending.returned (.tuple #[.int .i64 (2 * d), .int .i64 0]) = _ by rw [HF.out], (hx.trans hb).below⟩

/-- A branch with n terms and a code. -/
def RvBC (w : World) (n : Nat) (xs : List Int) (c : Int) (e : Ending) (w' : World) : Prop :=
  ∃ a k, e = .returned (.tuple #[.agg #[.slice a n k], .int .i64 c]) ∧ Rd w' (.slice a n k) xs ∧ Below w.heap.size w w'
theorem rvBC_bc {w : World} {n : Nat} {xs ys : List Int} {c d : Int} {e : Ending} {w' : World} (h : RetBC w ys d e w') (h1 : ys = xs) (h2 : xs.length = n) (h3 : d = c) : RvBC w n xs c e w' := by
  subst h1 h2 h3
  obtain ⟨a, k, he, ho, hb⟩ := h
  exact ⟨a, k, he, ho.rd, hb⟩
theorem bogGens_c (v : Value) (T : List Int) (w : World) (h : Rd w v (vTo T T.length)) (hok : BraOk T) :
    Calls Try.prog 54 #[v] w (RvBC w T.length T 0) := by
  obtain ⟨h1, h2, h3⟩ := bog_gens hok
  exact (implBog_c v _ w h).mono fun _ _ hh => rvBC_bc hh (by rw [okL_true h2, h3]) rfl h1
theorem conductor_ok (v : Value) (T : List Int) (w : World) (h : Rd w v T) (hok : BraOk T) :
    Calls Try.prog 55 #[.agg #[v]] w fun e w' => e = .returned (.tuple #[.int .i64 (conI T), .int .i64 0]) ∧ Below w.heap.size w w' := by
  have hb := braB_iff.2 hok
  refine (implConductorOf_c v T w h).mono fun e w' ⟨h1, h2⟩ => ⟨?_, h2⟩
  rw [h1, okN_true hb, okC_true hb]; rfl
theorem genBack_c (v : Value) (G : List Int) (w : World) (h : Rd w v (okL (bogB G) (tTo G G.length))) (h0 : bogC G = 0) :
    Calls Try.prog 39 #[.agg #[v]] w (RvC w G.length G 0) := by
  obtain ⟨h1, h2⟩ := bog_zeroC h0
  rw [okL_true h1] at h
  have hl : (tTo G G.length).length = G.length := tTo_len G _
  exact (implGeneratorsOf_c v _ w h).mono fun _ _ hh => rvC_ic hh (by rw [okL_true (braB_iff.2 h2), hl]; exact vTo_tTo) rfl (okC_true (braB_iff.2 h2))

/-- A list of at most eight numbers is handed back. -/
def RetLi (w : World) (e : Ending) (w' : World) : Prop := ∃ a n k xs, e = .returned (.slice a n k) ∧ xs.length = n ∧ Rd w' (.slice a n k) xs ∧ NewV w (.slice a n k) ∧ n ≤ 8 ∧ Below w.heap.size w w'
theorem retLi_own {w w' : World} {v : Value} {xs : List Int} (hO : OwnI w' w.heap.size v xs) (hl : xs.length ≤ 8) (hb : Below w.heap.size w w') : RetLi w (.returned v) w' := by
  obtain ⟨a, k, rfl⟩ := hO.form
  exact ⟨a, _, k, xs, rfl, rfl, hO.rd, fun b hb => (hO.block b hb).1, hl, hb⟩
set_option maxRecDepth 100000 in
set_option maxHeartbeats 8000000 in
theorem drawBranchOfGenerators_w (v : Value) (C : List Int) (w : World) (h : Rd8 w v C) :
    Calls Try.prog 59 #[v] w (RetLi w) := by
  obtain ⟨i0, hi, hz0, hz1, hz2⟩ := info_parts Try.infoI
  go_enter Try.func59, Try.ntmps59
  go_wp2_with fail
  refine (from_w v C _ h).mono ?_
  rintro e w1 ⟨g, rfl, hg, s1, hb1⟩
  have hg1 : g < w1.heap.size := s1.lt
  clear h
  go_wp2_with fail
  refine (draw_w g _ s1).mono ?_
  rintro e w2 ⟨T, a, k, rfl, hO, hok, s2, hk2⟩
  have hB2 := keeps_draw hb1 hg hk2
  have hs2 := hk2.size
  clear s1 hb1 hk2
  go_wp2_with fail
  refine (l05Generators_c _ T _ hO.rd hok).mono ?_
  rintro e w3 ⟨a3, k3, rfl, hO3, hb3⟩
  have s3 := s2.below hb3
  have hB3 := below_step hB2 hb3
  have hs3 := hb3.size
  have hl7 := bra_len hok
  have hp := hok.len
  obtain ⟨G, hG⟩ : ∃ G, G = vTo T T.length := ⟨_, rfl⟩
  have hGl : G.length = T.length := by rw [hG]; simp
  rw [← hG] at hO3 ⊢
  have hn1 : 0 < G.length := by omega
  have hn2 : G.length ≤ 7 := by omega
  clear hO hok s2 hb3 hB2 hG hGl hl7 hp
  obtain ⟨ga, ka, hea, hga1, hga2, hca1, hca2⟩ := Own.pos hO3 hn1
  injection hea with q1 q2 q3
  subst q1 q3
  clear q2
  go_wp2_with fail
  refine (next_w g 10 _ s3 (by omega) (by omega)).mono ?_
  rintro e w4 ⟨x, rfl, hx0, hx1, s4, hk4⟩
  have hO4 := hO3.keeps hk4 (fun q hq => by have := (hO3.block q hq).1; omega)
  have hB4 := keeps_draw hB3 hg hk4
  have hs4 := hk4.size
  clear s3 hB3 hk4 hO3
  have hga4 := (hO4.block ga rfl).2
  by_cases hx : x = 0
  · have b0 : (x == 0) = true := by simp [hx]
    clear hx
    go_wp2_with fail
    refine (next_w g (G.length : Int) _ s4 (by omega) (by omega)).mono ?_
    rintro e w5 ⟨j, rfl, hj0, hj1, s5, hk5⟩
    obtain ⟨j, rfl⟩ := Int.eq_ofNat_of_zero_le hj0
    have hO5 := hO4.keeps hk5 (fun q hq => by have := (hO4.block q hq).1; omega)
    have hB5 := keeps_draw hB4 hg hk5
    have hs5 := hk5.size
    have s6 := s5.below ((Below.refl _ _).alloc (Nat.le_refl _) (.cells #[.int .i64 1, .int .i64 2, .int .i64 5, .int .i64 0, .int .i64 1000001, .int .i64 6] 2))
    have hr6 : Rd (w5.alloc (.cells #[.int .i64 1, .int .i64 2, .int .i64 5, .int .i64 0, .int .i64 1000001, .int .i64 6] 2)) (.slice (some ⟨w5.heap.size, 0, none⟩) 6 6) [1, 2, 5, 0, 1000001, 6] := rd_news w5 2 [1, 2, 5, 0, 1000001, 6] (by simp)
    have hO6 := hO5.below ((Below.refl _ _).alloc (Nat.le_refl _) (.cells #[.int .i64 1, .int .i64 2, .int .i64 5, .int .i64 0, .int .i64 1000001, .int .i64 6] 2)) (Nat.le_refl _)
    have hB6 := hB5.alloc (hB5.size) (.cells #[.int .i64 1, .int .i64 2, .int .i64 5, .int .i64 0, .int .i64 1000001, .int .i64 6] 2)
    clear s4 hB4 hk5 hO4 s5 hO5
    go_wp2_with fail
    refine (pick_w g _ [1, 2, 5, 0, 1000001, 6] _ s6 hr6 (by simp) (by simp) (fun b off e => by injection e with e; injection e with e; injection e; omega) ⟨_, rfl⟩).mono ?_
    rintro e w7 ⟨i, hi', rfl, s7, hk7⟩
    generalize gI [1, 2, 5, 0, 1000001, 6] i = y at *
    have hO7 := hO6.keeps hk7 (fun q hq => by have := (hO6.block q hq).1; omega)
    have hB7 := keeps_draw hB6 hg hk7
    have hjn : j < G.length := by omega
    have c7 := hO7.cell j hjn
    have f7 := hO7.free j
    have hO8 := hO7.set j y
    have hB8 := hB7.setCell (p := ⟨ga, j, none⟩) (by show w.heap.size ≤ ga; omega) (.int .i64 y)
    have HF := Lib.hid (retLi_own (hO8.base_le (base' := w.heap.size) (by omega)) (by simp; omega) hB8)
    clear hO7 hB7 hO8 hB8 hr6 hO6 s6 hk7
    go_wp2
    go_ret
    exact HF.out
  · have b0 : (x == 0) = false := by simp [hx]
    clear hx
    by_cases hx : x = 1
    · have b1 : (x == 1) = true := by simp [hx]
      clear hx
      have s5 := s4.below ((Below.refl _ _).alloc (Nat.le_refl _) (.cells #[.int .i64 7, .int .i64 50, .int .i64 101] 2))
      have hr5 : Rd (w4.alloc (.cells #[.int .i64 7, .int .i64 50, .int .i64 101] 2)) (.slice (some ⟨w4.heap.size, 0, none⟩) 3 3) [7, 50, 101] := rd_news w4 2 [7, 50, 101] (by simp)
      have hO5 := hO4.below ((Below.refl _ _).alloc (Nat.le_refl _) (.cells #[.int .i64 7, .int .i64 50, .int .i64 101] 2)) (Nat.le_refl _)
      have hB5 := hB4.alloc (hB4.size) (.cells #[.int .i64 7, .int .i64 50, .int .i64 101] 2)
      clear s4 hB4 hO4
      go_wp2_with fail
      refine (pick_w g _ [7, 50, 101] _ s5 hr5 (by simp) (by simp) (fun b off e => by injection e with e; injection e with e; injection e; omega) ⟨_, rfl⟩).mono ?_
      rintro e w7 ⟨i, hi', rfl, s7, hk7⟩
      generalize gI [7, 50, 101] i = y at *
      have hO7 := hO5.keeps hk7 (fun q hq => by have := (hO5.block q hq).1; omega)
      have hB7 := keeps_draw hB5 hg hk7
      have hs7 := hk7.size
      simp at hs7
      have hO7' := hO7.base_le (base' := w.heap.size) (by omega)
      clear hO5 hB5 hr5 s5 hk7
      go_wp2_with (at_builtin; refine wpList_push rfl (.tmp 26) (.tmp 30) 24 rfl w.heap.size 2 i0 Try.underlying24 hi hz0 hz1 hz2 (.slice (some ⟨ga, 0, none⟩) G.length k3) G y rfl hO7' rfl (by omega) (by omega) ?_; intro v' w8 hO8 hk8)
      have hB8 := hB7.trans (hk8.below hB7.size (fun q hq => by simp [Value.ownBlock] at hq; omega))
      have HF := Lib.hid (retLi_own hO8 (by simp; omega) hB8)
      obtain ⟨a9, k9, rfl⟩ := hO8.form
      clear hO7 hB7 hO8 hB8 hO7' hk8
      go_wp2
      go_ret
      exact HF.out
    · have b1 : (x == 1) = false := by simp [hx]
      clear hx
      by_cases hx : x = 2
      · have b2 : (x == 2) = true := by simp [hx]
        clear hx
        by_cases hk : k3 = 1
        · subst hk
          have HF : Hid (RetLi w (.returned (.slice (some ⟨ga, 0, none⟩) 0 0)) w4) := Lib.hid ⟨_, 0, 0, [], rfl, rfl, ⟨some ⟨ga, 0, none⟩, 0, rfl, by simp, by simp, fun h => absurd rfl h⟩, fun b hb => by (simp [Value.ownBlock] at hb; omega), by omega, hB4⟩
          clear hO4 hB4
          go_wp2
          go_ret
          exact HF.out
        · have HF : Hid (RetLi w (.returned (.slice (some ⟨ga, 1, none⟩) (G.length - 1) (k3 - 1))) w4) := Lib.hid ⟨_, _, _, G.drop 1, rfl, by simp, rd_drop1 hO4 hn1, fun b hb => by (simp [Value.ownBlock] at hb; omega), by omega, hB4⟩
          clear hO4 hB4
          go_wp2
          go_ret
          exact HF.out
      · have b2 : (x == 2) = false := by simp [hx]
        clear hx
        by_cases hx : x = 3
        · have b3 : (x == 3) = true := by simp [hx]
          clear hx
          go_wp2_with fail
          refine (next_w g (G.length : Int) _ s4 (by omega) (by omega)).mono ?_
          rintro e w5 ⟨j, rfl, hj0, hj1, s5, hk5⟩
          obtain ⟨j, rfl⟩ := Int.eq_ofNat_of_zero_le hj0
          have hO5 := hO4.keeps hk5 (fun q hq => by have := (hO4.block q hq).1; omega)
          have hB5 := keeps_draw hB4 hg hk5
          have hs5 := hk5.size
          have hjn : j < G.length := by omega
          have c5 := hO5.cell j hjn
          have f5 := hO5.free j
          have s5d := s5.below (Below.refl w5.heap.size w5).drew
          have hO5d := hO5.below (Below.refl w5.heap.size w5).drew (Nat.le_refl _)
          have hB5d := hB5.drew
          clear s4 hB4 hk5 hO4 s5
          go_upto_region 12 with fail
          go_region_law (first
            | (go_simp; go_at_call 151; (with_reducible refine (next_w g 4 _ s5d (by omega) (by omega)).mono ?_); rintro e w7 ⟨y, rfl, hy0, hy1, s7, hk7⟩; have hO7 := hO5d.keeps hk7 (fun q hq => by have := (hO5d.block q hq).1; omega); have hB7 := keeps_draw hB5d hg hk7; have c7 := hO7.cell j hjn; have f7 := hO7.free j))
          all_goals
            have hO8 := hO7.set j (IntKind.i64.wrap (IntKind.i64.wrap (gI G j + 1) + y))
            have hB8 := hB7.setCell (p := ⟨ga, j, none⟩) (by show w.heap.size ≤ ga; omega) (.int .i64 (IntKind.i64.wrap (IntKind.i64.wrap (gI G j + 1) + y)))
            have HF := Lib.hid (retLi_own (hO8.base_le (base' := w.heap.size) (by omega)) (by simp; omega) hB8)
            clear hO7 hB7 hO8 hB8 c7 f7 hk7 s7
            go_wp2
            go_ret
            exact HF.out
        · have b3 : (x == 3) = false := by simp [hx]
          clear hx
          have HF := Lib.hid (retLi_own (hO4.base_le (base' := w.heap.size) (by omega)) (by omega) hB4)
          clear hO4 hB4
          go_wp2
          go_ret
          exact HF.out
end Go.Proofs.Ytiinceflafigeaa
