/- The draws of codes: l04Count, l06Some, DrawCurvetteOfCode. -/
import Derived.Test.YtiinceflafigeaaDrwB
import Derived.Test.YtiinceflafigeaaPtC
import Derived.Test.YtiinceflafigeaaSeqL
import Derived.Test.YtiinceflafigeaaSq
namespace Go.Proofs.Ytiinceflafigeaa
open Go.RowKit

/-- The rows of a list of lists of known lengths. -/
theorem RdR.atC {w : World} {a : Option Addr} {n m k : Nat} {R : List (List Int)} (h : RdR w (.slice a n k) R) (hn : R.length = n) (hp : 0 < n) (hr : ∀ i, i < n → (gR R i).length = m) (hm : 0 < m) : ∃ b off, a = some ⟨b, off, none⟩ ∧ b < w.heap.size ∧ ∀ i, i < n → ∃ br or kr, w.cell? ⟨b, off + i, none⟩ = some (.slice (some ⟨br, or, none⟩) m kr) ∧ br < w.heap.size ∧ ∀ j, j < m → w.cell? ⟨br, or + j, none⟩ = some (.int .i64 (gI (gR R i) j)) := by
  subst hn
  obtain ⟨b, off, cap, he, _, _, hb, hc⟩ := h.cells hp
  injection he with e1 _ _
  refine ⟨b, off, e1, hb, fun i hi => ?_⟩
  obtain ⟨u, hu, hrd⟩ := hc i hi
  obtain ⟨br, or, kr, rfl, _, _, hbr, hcr⟩ := hrd.cells (by rw [hr i hi]; exact hm)
  refine ⟨br, or, kr, by rw [hu, hr i hi], hbr, fun j hj => hcr j (by rw [hr i hi]; exact hj)⟩

set_option maxRecDepth 100000 in
set_option maxHeartbeats 2000000 in
theorem l04Count_w (v : Value) (T : List Int) (w : World) (h : Rd w v T) (hok : BraOk T) :
    Calls Try.prog 199 #[.agg #[v]] w fun e w' => ∃ n : Nat, e = .returned (.int .i64 (n : Int)) ∧ 1 ≤ n ∧ Below w.heap.size w w' := by
  have hx := Boxed.start w 26 #[v]
  obtain ⟨a, c, rfl⟩ := h.len0
  have c0 := hx.cell 0
  go_enter Try.func199, Try.ntmps199
  go_wp2_with fail
  refine (l04Runs_c _ T _ (hx.rd h) hok).mono ?_
  rintro e w1 ⟨a1, k1, V, rfl, hO, hb⟩
  have hx1 := hx.trans hb
  have hrd := hO.rd
  have hw2 : ∀ i, i < (rowsOf (pre T (T.length - 1))).length → (gR (rowsOf (pre T (T.length - 1))) i).length = 2 := fun i hi => by rw [gR_rowsOf (by simpa [rowsOf] using hi)]; rfl
  generalize rowsOf (pre T (T.length - 1)) = R at *
  have HX := Lib.hid hx1.below
  have hrl : R.length ≤ 9223372036854775807 := by obtain ⟨_, _, _, q1, q2, _⟩ := hrd; omega
  clear c0 hO hx1 hb hx h
  by_cases hp : 0 < R.length
  · obtain ⟨b, off, rfl, hbl, hc⟩ := hrd.atC rfl hp hw2 (by omega)
    have HC := Lib.hid hc
    clear hc hrd hw2
    go_wp2
    go_loopw [4, 5] (fun cv iv wr => ∃ (k : Nat) (z : Int), k ≤ R.length ∧ iv = .int .i64 (k : Int) ∧ cv = .int .i64 z ∧ w1 = wr) (fun _ iv _ => R.length - (intOf iv).toNat)
    case atStart => exact ⟨0, 0, Nat.zero_le _, rfl, rfl, rfl⟩
    case round =>
      obtain ⟨k, z, hk, rfl, rfl, rfl⟩ := hrel
      by_cases hlt : k < R.length
      · obtain ⟨br, or, kr, d0, hbr, d1⟩ := HC.out k hlt
        have d1 := d1 0 (by omega)
        rw [Nat.add_zero] at d1
        have hki : (k : Int) < (R.length : Int) := by omega
        have hk0 : (0 : Int) ≤ (k : Int) := by omega
        generalize gI (gR R k) 0 = y at *
        go_wp2
        go_roundw
        case rel => exact ⟨k + 1, _, by omega, by go_num, rfl, trivial⟩
        case measure => simp [intOf]; omega
      · have hki : ¬ (k : Int) < (R.length : Int) := by omega
        by_cases hz : z < 1
        · go_wp2
          all_goals
            first
              | (go_ret; exact ⟨1, rfl, by omega, HX.out⟩)
              | (exfalso; omega)
        · obtain ⟨n, rfl⟩ : ∃ n : Nat, z = (n : Int) := ⟨z.toNat, by omega⟩
          go_wp2
          all_goals
            first
              | (go_ret; exact ⟨n, rfl, by omega, HX.out⟩)
              | (exfalso; omega)
  · obtain rfl : R = [] := List.length_eq_zero_iff.1 (by omega)
    go_wp2
    go_loopw [4, 5] (fun cv iv wr => iv = .int .i64 0 ∧ cv = .int .i64 0 ∧ w1 = wr) (fun _ iv _ => 0)
    case atStart => exact ⟨rfl, rfl, rfl⟩
    case round =>
      obtain ⟨rfl, rfl, rfl⟩ := hrel
      go_wp2
      all_goals
        first
          | (go_ret; exact ⟨1, rfl, by omega, HX.out⟩)
          | (exfalso; omega)
theorem l06Code_z (v : Value) (T : List Int) (k : Nat) (z : Int) (w : World) (hz : z = (k : Int)) (h : Rd w v T) (hok : BraOk T) (hk1 : 1 ≤ k) (hk : k ≤ 400) :
    Calls Try.prog 106 #[.agg #[v], .int .i64 z] w (RetI w (codeL (seqL T k))) := by
  subst hz; exact l06Code_c v T k w h hok hk1 hk
/-- A list of numbers is drawn. -/
def RetLi (w : World) (e : Ending) (w' : World) : Prop := ∃ a k xs, e = .returned (.slice a xs.length k) ∧ Rd w' (.slice a xs.length k) xs ∧ xs.length ≤ 1000 ∧ Below w.heap.size w w'
theorem retLi_own {w w' : World} {v : Value} {xs : List Int} {base : Nat} (h : OwnI w' base v xs) (hl : xs.length ≤ 1000) (hb : Below w.heap.size w w') : RetLi w (.returned v) w' := by
  obtain ⟨a, k, rfl⟩ := h.form
  exact ⟨a, k, xs, rfl, h.rd, hl, hb⟩
set_option maxRecDepth 100000 in
set_option maxHeartbeats 8000000 in
theorem l06Some_w (v : Value) (C : List Int) (w : World) (h : Rd8 w v C) :
    Calls Try.prog 121 #[v] w (RetLi w) := by
  obtain ⟨i0, hi, hz0, hz1, hz2⟩ := info_parts Try.infoI
  go_enter Try.func121, Try.ntmps121
  go_wp2_with fail
  refine (from_w v C _ h).mono ?_
  rintro e w1 ⟨g, rfl, hg, s1, fr⟩
  clear h
  go_wp2_with fail
  refine (next_w g 4 _ s1 (by omega) (by omega)).mono ?_
  rintro e w2 ⟨x, rfl, hx0, hx1, s2, hk2⟩
  replace fr := keeps_draw fr hg hk2
  clear s1 hk2
  by_cases hx : x = 0
  · subst hx
    go_wp2_with fail
    refine (draw_w g _ s2).mono ?_
    rintro e w3 ⟨T, a, k, rfl, hO, hok, s3, hk3⟩
    replace fr := keeps_draw fr hg hk3
    clear s2 hk3
    have B := Blk.new w3 26 #[.slice a T.length k]
    have hal : Below w3.heap.size w3 (w3.alloc (.cells #[.slice a T.length k] 26)) := (Below.refl _ _).alloc (Nat.le_refl _) _
    have hr := hO.rd.below hal (Nat.le_refl _)
    replace fr := below_step fr hal
    clear hal hO s3
    have c0 := B.cell 0
    go_upto_region 4 with fail
    generalize w3.alloc (.cells #[.slice a T.length k] 26) = w4 at *
    have HC : w4.cell? ⟨w3.heap.size, 0, none⟩ = some (.slice a T.length k) := c0
    have frd := below_step fr (Below.refl w4.heap.size w4).drew
    have Bd := B.drewN 1
    have hrd := hr.below (Below.refl w4.heap.size w4).drew (Nat.le_refl _)
    clear c0 B fr
    go_wp2_with fail
    go_region_held3 (fun X => X.cell? ⟨w3.heap.size, 0, none⟩ = some (.slice a T.length k))
      (first | assumption | exact HC)
      (first
        | (go_at_call 199; (with_reducible refine (l04Count_w _ T _ hrd hok).mono ?_); rintro e w5 ⟨n, rfl, hn1, hb5⟩; have HC : w5.cell? ⟨w3.heap.size, 0, none⟩ = some (.slice a T.length k) := (Bd.stays hb5).cell 0; have hr5 := hrd.below hb5 (Nat.le_refl _); have fr5 := below_step frd hb5)
        | (go_at_call 106; (with_reducible refine (l06Code_z _ T (min n 60) _ _ (by split <;> omega) hr5 hok (by omega) (by omega)).mono ?_); rintro e w6 ⟨ua, uk, rfl, hO6, hb6⟩; have fr6 := below_step fr5 hb6; have HC6 : w6.cell? ⟨w3.heap.size, 0, none⟩ = some (.slice a T.length k) := ((Bd.stays hb5).stays hb6).cell 0; have hl6 : (codeL (seqL T (min n 60))).length ≤ 1000 := (by simp; omega); generalize (if (60 : Int) < (n : Int) then (60 : Int) else (n : Int)) = z at *; generalize codeL (seqL T (min n 60)) = K at *)
        | fail)
    all_goals
      have HF := Lib.hid (retLi_own hO6 hl6 fr6)
      clear hO6 hl6 fr6
      go_wp2
      go_ret
      exact HF.out
  · have hxz : (x == 0) = false := by simpa using hx
    clear hx
    go_wp2_with fail
    have hnil := own_empty w2 w2.heap.size (Nat.le_refl _)
    have hal : Below w2.heap.size w2 (w2.alloc (.cells #[] 2)) := (Below.refl _ _).alloc (Nat.le_refl _) _
    have s3 := s2.below hal
    replace fr := below_step fr hal
    have hgl : g < w2.heap.size := s2.lt
    clear s2 hal
    refine (next_w g 12 _ s3 (by omega) (by omega)).mono ?_
    rintro e w3 ⟨y, rfl, hy0, hy1, s4, hk4⟩
    replace fr := keeps_draw fr hg hk4
    have hO := hnil.keeps hk4 (fun b hb e => by simp [Value.ownBlock] at hb; omega)
    have hz4 : w2.heap.size < w3.heap.size := by have := hk4.size; simp at this; omega
    clear s3 hnil hk4
    go_wp2_with fail
    go_loopw [5, 6] (fun lv kv wr => ∃ (k : Nat) (xs : List Int), k + xs.length ≤ 12 ∧ kv = .int .i64 (k : Int) ∧ OwnI wr w2.heap.size lv xs ∧ Src wr g ∧ Below w.heap.size w wr ∧ w2.heap.size < wr.heap.size) (fun _ kv _ => (intOf kv).toNat)
    case atStart => exact ⟨y.toNat, [], by simp; omega, by congr 1; omega, hO, s4, fr, hz4⟩
    case round =>
      obtain ⟨k, xs, hkx, rfl, hO, s5, fr, hz5⟩ := hrel
      clear s4 hz4
      obtain ⟨wo, rfl⟩ : ∃ wo : World, wo = wr := ⟨_, rfl⟩
      obtain ⟨la, lk, rfl⟩ := hO.form
      by_cases hk0 : 0 < k
      · have hkg : (k : Int) > 0 := by omega
        go_upto_region 10 with fail
        go_cut [35] from 24 to 54 (fun s wc => ∃ b : Bool, s = .bool b ∧ (b = true → 0 < xs.length) ∧ OwnI wc w2.heap.size (.slice la xs.length lk) xs ∧ Src wc g ∧ Below w.heap.size w wc ∧ w2.heap.size < wc.heap.size)
        case first =>
          by_cases hl : 0 < xs.length
          · have hlg : (xs.length : Int) > 0 := by omega
            go_wp2_with fail
            refine (next_w g 2 _ s5 (by omega) (by omega)).mono ?_
            rintro e w6 ⟨z, rfl, hz0', hz1', s6, hk6⟩
            have HF := Lib.hid (show OwnI w6 w2.heap.size (.slice la xs.length lk) xs ∧ Src w6 g ∧ Below w.heap.size w w6 ∧ w2.heap.size < w6.heap.size from ⟨hO.keeps hk6 (fun b hb e => by have := (hO.block b hb).1; omega), s6, keeps_draw fr hg hk6, by have := hk6.size; omega⟩)
            clear hO s5 fr hz5 s6 hk6
            go_wp2
            all_goals
              go_meet
              exact ⟨_, rfl, fun _ => hl, HF.out⟩
          · have hlg : ¬ (xs.length : Int) > 0 := by omega
            have HF := Lib.hid (show OwnI wo w2.heap.size (.slice la xs.length lk) xs ∧ Src wo g ∧ Below w.heap.size w wo ∧ w2.heap.size < wo.heap.size from ⟨hO, s5, fr, hz5⟩)
            clear hO s5 fr hz5
            go_wp2
            all_goals
              go_meet
              exact ⟨false, rfl, by simp, HF.out⟩
        case rest =>
          clear hO s5 fr hz5
          obtain ⟨b, rfl, hbl, hO, s6, fr, hz6⟩ := hcut
          go_upto_if 35 with fail
          go_cut [7, 8] from 24 to 54 (fun s _ wc => ∃ z : Int, s = .int .i64 z ∧ OwnI wc w2.heap.size (.slice la xs.length lk) xs ∧ Src wc g ∧ Below w.heap.size w wc ∧ w2.heap.size < wc.heap.size)
          case first =>
            cases b
            · have HF := Lib.hid (show OwnI wc w2.heap.size (.slice la xs.length lk) xs ∧ Src wc g ∧ Below w.heap.size w wc ∧ w2.heap.size < wc.heap.size from ⟨hO, s6, fr, hz6⟩)
              clear hO s6 fr hz6
              go_wp2
              go_meet
              exact ⟨0, rfl, HF.out⟩
            · have hl := hbl rfl
              obtain ⟨b0, off, cap, he, _, _, hb0, hc0⟩ := hO.rd.cells hl
              injection he with e1 _ e3
              subst e1 e3
              have d := hc0 (xs.length - 1) (by omega)
              generalize gI xs (xs.length - 1) = y1 at *
              have hw1 : IntKind.i64.wrap ((xs.length : Int) - 1) = ((xs.length - 1 : Nat) : Int) := by rw [IntWalk.i64_in _ (by omega)]; omega
              have hlt1 : ((xs.length - 1 : Nat) : Int) < (xs.length : Int) := by omega
              have hge1 : (0 : Int) ≤ ((xs.length - 1 : Nat) : Int) := by omega
              clear hc0 hbl
              by_cases hy1 : y1 = 0
              · have HF := Lib.hid (show OwnI wc w2.heap.size (.slice (some ⟨b0, off, none⟩) xs.length lk) xs ∧ Src wc g ∧ Below w.heap.size w wc ∧ w2.heap.size < wc.heap.size from ⟨hO, s6, fr, hz6⟩)
                clear hO s6 fr hz6
                go_wp2
                all_goals
                  go_meet
                  exact ⟨_, rfl, HF.out⟩
              · have hyb : (y1 != 0) = true := by simpa using hy1
                clear hy1
                go_wp2_with fail
                refine (next_w g 2 _ s6 (by omega) (by omega)).mono ?_
                rintro e w7 ⟨z, rfl, hz0', hz1', s7, hk7⟩
                have HF := Lib.hid (show OwnI w7 w2.heap.size (.slice (some ⟨b0, off, none⟩) xs.length lk) xs ∧ Src w7 g ∧ Below w.heap.size w w7 ∧ w2.heap.size < w7.heap.size from ⟨hO.keeps hk7 (fun b hb e => by have := (hO.block b hb).1; omega), s7, keeps_draw fr hg hk7, by have := hk7.size; omega⟩)
                clear hO s6 fr hz6 s7 hk7
                go_wp2
                all_goals
                  go_meet
                  exact ⟨_, rfl, HF.out⟩
          case rest =>
            clear hO s6 fr hz6
            obtain ⟨z, rfl, hO, s7, fr, hz7⟩ := hcut
            go_wp2_with (at_builtin; refine wpList_push rfl (.tmp 51) (.tmp 53) 24 rfl w2.heap.size 2 i0 Try.underlying24 hi hz0 hz1 hz2 _ xs z rfl hO rfl (by omega) (by omega) ?_; intro v' w9 hO9 hk9)
            have hsz9 := hk9.size
            have HF := Lib.hid (show OwnI w9 w2.heap.size v' (xs ++ [z]) ∧ Src w9 g ∧ Below w.heap.size w w9 ∧ w2.heap.size < w9.heap.size from ⟨hO9, s7.keeps hk9 (fun q hq e => by have := (hO.block q e).1; omega), fr.trans (hk9.below fr.size (fun b e => by have := (hO.block b e).1; omega)), by omega⟩)
            go_roundw
            case rel => exact ⟨k - 1, xs ++ [z], by simp; omega, by congr 1; omega, HF.out⟩
            case measure => simp [intOf]; omega
      · obtain rfl : k = 0 := by omega
        go_wp2_with fail
        refine (next_w g 16 _ s5 (by omega) (by omega)).mono ?_
        rintro e w6 ⟨z, rfl, hz0', hz1', s6, hk6⟩
        replace hO := hO.keeps hk6 (fun b hb e => by have := (hO.block b hb).1; omega)
        replace fr := keeps_draw fr hg hk6
        replace hz5 : w2.heap.size < w6.heap.size := by have := hk6.size; omega
        clear s5 hk6
        by_cases h0 : z = 0
        · subst h0
          have hal : Below w6.heap.size w6 (w6.alloc (.cells #[.int .i64 1, .int .i64 3, .int .i64 (-1), .int .i64 2] 2)) := (Below.refl _ _).alloc (Nat.le_refl _) _
          have s7 := s6.below hal
          have hr7 := rd_news' (w := w6) (g := w6.heap.size) rfl 2 [1, 3, -1, 2] (by simp)
          have hO7 := hO.below hal (Nat.le_refl _)
          have fr7 := below_step fr hal
          have hgz : g < w6.heap.size := s6.lt
          have hz7 : w2.heap.size < (w6.alloc (.cells #[.int .i64 1, .int .i64 3, .int .i64 (-1), .int .i64 2] 2)).heap.size := by simp; omega
          clear s6 hO fr hal hz5
          go_wp2_with fail
          refine (pick_w g _ [1, 3, -1, 2] _ s7 hr7 (by simp) (by simp) (fun b off e => by injection e with e; injection e with e; injection e; omega) ⟨_, rfl⟩).mono ?_
          rintro e w8 ⟨j, hj, rfl, s8, hk8⟩
          generalize gI [1, 3, -1, 2] j = z1 at *
          have hO8 := hO7.keeps hk8 (fun b hb e => by have := (hO7.block b hb).1; omega)
          have fr8 := keeps_draw fr7 hg hk8
          have hz8 : w2.heap.size < w8.heap.size := by have := hk8.size; omega
          clear s7 hO7 fr7 hk8 hr7 hz7
          go_wp2_with (at_builtin; refine wpList_push rfl (.tmp 59) (.tmp 63) 24 rfl w2.heap.size 2 i0 Try.underlying24 hi hz0 hz1 hz2 _ xs z1 rfl hO8 rfl (by omega) (by omega) ?_; intro v' w9 hO9 hk9)
          have HF := Lib.hid (retLi_own (w := w) hO9 (by simp; omega) (fr8.trans (hk9.below fr8.size (fun b e => by have := (hO8.block b e).1; omega))))
          clear hO9 hk9 hO8 fr8
          go_wp2
          go_ret
          exact HF.out
        · have hb0 : (z == 0) = false := by simpa using h0
          by_cases h1 : z = 1
          · subst h1
            clear h0
            have hal : Below w6.heap.size w6 (w6.alloc (.cells #[.int .i64 398, .int .i64 399, .int .i64 400] 2)) := (Below.refl _ _).alloc (Nat.le_refl _) _
            have s7 := s6.below hal
            have hr7 := rd_news' (w := w6) (g := w6.heap.size) rfl 2 [398, 399, 400] (by simp)
            have fr7 := below_step fr hal
            have hgz : g < w6.heap.size := s6.lt
            have hz7 : w2.heap.size < (w6.alloc (.cells #[.int .i64 398, .int .i64 399, .int .i64 400] 2)).heap.size := by simp; omega
            clear s6 hO fr hal hz5
            go_wp2_with fail
            refine (pick_w g _ [398, 399, 400] _ s7 hr7 (by simp) (by simp) (fun b off e => by injection e with e; injection e with e; injection e; omega) ⟨_, rfl⟩).mono ?_
            rintro e w8 ⟨j, hj, rfl, s8, hk8⟩
            have hp := pick3 (P := fun z => 398 ≤ z ∧ z ≤ 400) hj (by omega) (by omega) (by omega)
            generalize gI [398, 399, 400] j = z1 at *
            obtain ⟨n, rfl⟩ : ∃ n : Nat, z1 = (n : Int) := ⟨z1.toNat, by omega⟩
            have fr8 := keeps_draw fr7 hg hk8
            have hz8 : w2.heap.size < w8.heap.size := by have := hk8.size; omega
            clear s7 fr7 hk8 hr7 hz7
            go_wp2_with (at_make; refine wpList_make_full _ rfl (.tmp 69) (.tmp 69) 24 rfl w8.heap.size 2 i0 (.int .i64 0) 1 Try.underlying24 hi hz0 hz1 _ _ _ _ n rfl rfl rfl rfl ?c1 ?c2 ?c3 ?_)
            case c1 => rw [hz2]; omega
            case c2 => unfold maxLen; omega
            case c3 => exact Nat.le_refl _
            intro w9 hown9 hgrow9
            have hb9 : Below w8.heap.size w8 w9 := (Below.refl _ _).grown hgrow9 (Nat.le_refl _) (by simp)
            rw [toList_madeCells_one] at hown9
            have hO9 := own_made hown9
            have fr9 := below_step fr8 hb9
            have hz9 : w8.heap.size ≤ w9.heap.size := hb9.size
            have hzl : (zeroL n).length = n := by simp
            clear hown9 hgrow9 hb9 fr8
            go_wp2_with (at_builtin; refine wpList_push rfl (.tmp 70) (.tmp 71) 24 rfl w8.heap.size 2 i0 Try.underlying24 hi hz0 hz1 hz2 _ (zeroL n) 0 rfl hO9 rfl (by omega) (by omega) ?_; intro v' w10 hO10 hk10)
            have HF := Lib.hid (retLi_own (w := w) hO10 (by simp; omega) (fr9.trans (hk10.below fr9.size (fun b e => by have := (hO9.block b e).1; omega))))
            clear hO10 hk10 hO9 fr9
            go_wp2
            go_ret
            exact HF.out
          · have hb1 : (z == 1) = false := by simpa using h1
            have HF := Lib.hid (retLi_own hO (by omega) fr)
            clear hO s6 fr hz5 h0 h1
            go_wp2
            go_ret
            exact HF.out
set_option maxHeartbeats 1000000 in
theorem drawCurvetteOfCode_w (v : Value) (C : List Int) (w : World) (h : Rd8 w v C) :
    Calls Try.prog 22 #[v] w (RetLi w) := by
  go_enter Try.func22, Try.ntmps22
  go_wp2_with fail
  refine (l06Some_w v C _ h).mono ?_
  rintro e w1 ⟨a, k, xs, rfl, hr, hl, fr⟩
  have HF : Hid (RetLi w (.returned (.slice a xs.length k)) w1) := Lib.hid ⟨a, k, xs, rfl, hr, hl, fr⟩
  clear hr fr
  go_wp2
  go_ret
  exact HF.out
end Go.Proofs.Ytiinceflafigeaa
