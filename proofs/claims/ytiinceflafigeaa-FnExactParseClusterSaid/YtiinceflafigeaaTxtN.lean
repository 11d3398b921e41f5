/- Contracts: impl.numberOf, signedOf, pointOf. -/
import Derived.Test.YtiinceflafigeaaTxtI
namespace Go.Proofs.Ytiinceflafigeaa
open Go.RowKit

theorem get_bang {b : ByteArray} {i : Nat} (h : i < b.size) : b.get! i = b[i]'h := by
  cases b with
  | mk d => exact getElem!_pos d i h
theorem toList_loop (b : ByteArray) : ∀ (n i : Nat) (r : List UInt8), n = b.size - i → ByteArray.toList.loop b i r = r.reverse ++ (lB b).drop i := by
  intro n
  induction n with
  | zero =>
    intro i r h
    unfold ByteArray.toList.loop
    rw [if_neg (by omega), List.drop_eq_nil_of_le (by rw [lB_len]; omega), List.append_nil]
  | succ n ih =>
    intro i r h
    unfold ByteArray.toList.loop
    rw [if_pos (by omega), ih (i + 1) _ (by omega)]
    have hi : i < b.size := by omega
    have hi' : i < (lB b).length := by rw [lB_len]; exact hi
    rw [List.drop_eq_getElem_cons hi', List.reverse_cons, List.append_assoc, lB_get hi hi', get_bang hi]
    rfl
theorem toList_lB (b : ByteArray) : b.toList = lB b := by
  unfold ByteArray.toList
  rw [toList_loop b _ 0 [] rfl]; simp
theorem toList_nil {b : ByteArray} (h : b.toList = []) : lB b = [] := by rw [← toList_lB]; exact h
/-- A number and a truth. -/
def RetNb (w : World) (t : List UInt8) (e : Ending) (w' : World) : Prop := ∃ n : Int, e = .returned (.tuple #[.int .i64 n, .bool (numB t)]) ∧ 0 ≤ n ∧ n < 1000000000 ∧ (numB t = true → n = valN t) ∧ Drew w w'
set_option maxHeartbeats 1000000 in
theorem numberOf_c (s : ByteArray) (w : World) (hs : s.size ≤ 4194304) :
    Calls Try.prog 206 #[.string s] w (RetNb w (lB s)) := by
  go_enter Try.func206, Try.ntmps206
  go_wp2_with fail
  refine (digitsOf_c s _ hs).mono ?_
  rintro e w1 ⟨n, r, b, rfl, hn0, hn1, hy, hno, hd⟩
  cases hb : numB (lB s)
  · have h2 := hno hb
    have HF : Hid (RetNb w (lB s) (.returned (.tuple #[.int .i64 n, .bool false])) w1) := Lib.hid ⟨n, by rw [hb], hn0, hn1, (fun h => by rw [hb] at h; cases h), hd⟩
    clear hy hno hd hb
    cases b
    · go_wp2
      go_ret2
      exact HF.out
    · have hr : r ≠ ByteArray.empty := fun e => h2 rfl (by rw [e]; rfl)
      have hrb : r.toList.isEmpty = false := by
        have h3 := h2 rfl
        cases hz : r.toList.isEmpty
        · rfl
        · exfalso
          exact h3 (toList_nil (List.isEmpty_iff.1 hz))
      clear h2 hr
      go_wp2
      go_ret2
      exact HF.out
  · obtain ⟨rfl, h1, h2⟩ := hy hb
    have hr : r = ByteArray.empty := lB_inj (by rw [h1]; rfl)
    have HF : Hid (RetNb w (lB s) (.returned (.tuple #[.int .i64 n, .bool true])) w1) := Lib.hid ⟨n, by rw [hb], hn0, hn1, fun _ => h2, hd⟩
    subst hr
    clear hy hno hd hb h1 h2
    go_wp2
    go_ret2
    exact HF.out
/-- A number with a sign, and a truth. -/
def RetSg (w : World) (t : List UInt8) (e : Ending) (w' : World) : Prop := ∃ n : Int, e = .returned (.tuple #[.int .i64 n, .bool (sgB t)]) ∧ -1000000000 < n ∧ n < 1000000000 ∧ (sgB t = true → n = sgV t) ∧ Drew w w'
set_option maxHeartbeats 1000000 in
theorem signedOf_c (s : ByteArray) (w : World) (hs : s.size ≤ 4194304) :
    Calls Try.prog 205 #[.string s] w (RetSg w (lB s)) := by
  by_cases hp : 0 < s.size
  · by_cases h45 : s[0]'hp = 45
    · have hb : (((s[0]'hp).toNat : Int) == 45) = true := by rw [h45]; rfl
      have hx : lB s = 45 :: lB (s.extract 1 s.size) := by
        rw [lB_cut]
        have hp' : 0 < (lB s).length := by rw [lB_len]; exact hp
        conv => lhs; rw [← List.drop_zero (l := lB s), List.drop_eq_getElem_cons hp', lB_get hp hp', h45]
        rw [List.take_of_length_le (by simp [lB_len])]
      have hsz : (s.extract 1 s.size).size ≤ 4194304 := by simp; omega
      have HX := Lib.hid hx
      clear hx h45
      go_enter Try.func205, Try.ntmps205
      go_wp2_with fail
      refine (numberOf_c _ _ hsz).mono ?_
      rintro e w1 ⟨n, rfl, hn0, hn1, hv, hd⟩
      have hw : IntKind.i64.wrap (-n) = -n := IntWalk.i64_in _ (by omega)
      cases hnb : numB (lB (s.extract 1 s.size))
      · have HF : Hid (RetSg w (lB s) (.returned (.tuple #[.int .i64 (-n), .bool false])) w1) := Lib.hid ⟨-n, by rw [HX.out, sgB_neg, hnb]; rfl, by omega, by omega, (fun h => by rw [HX.out, sgB_neg, hnb] at h; cases h), hd⟩
        clear hv hd hnb hsz
        go_wp2
        go_ret2
        exact HF.out
      · have hv := hv hnb
        have HF : Hid (∀ b, b = decide (0 < n) → RetSg w (lB s) (.returned (.tuple #[.int .i64 (-n), .bool b])) w1) := Lib.hid (fun b hb => by
          have e : sgB (lB s) = b := by
            rw [HX.out, sgB_neg, hnb, hb, hv]
            simp
          exact ⟨-n, by rw [e], by omega, by omega, (fun _ => by rw [HX.out, sgV_neg, hv]), hd⟩)
        clear hv hd hnb hsz
        by_cases h0 : 0 < n
        · have h0b : decide (n > 0) = true := decide_eq_true h0
          go_wp2
          go_ret2
          exact HF.out _ (decide_eq_true h0).symm
        · have h0b : decide (n > 0) = false := decide_eq_false h0
          go_wp2
          go_ret2
          exact HF.out _ (decide_eq_false (by omega)).symm
    · have hb : (((s[0]'hp).toNat : Int) == 45) = false := by
        rw [beq_eq_false_iff_ne]
        intro e
        exact h45 (UInt8.toNat_inj.1 (by show (s[0]'hp).toNat = 45; omega))
      have hh : (lB s).head? ≠ some 45 := by
        have hp' : 0 < (lB s).length := by rw [lB_len]; exact hp
        rw [List.head?_eq_getElem?, List.getElem?_eq_getElem hp', lB_get hp hp']
        intro e; exact h45 (Option.some.inj e)
      have e1 := sgB_nn hh
      have e2 := sgV_nn hh
      have HB := Lib.hid e1
      have HV := Lib.hid e2
      clear h45 hh e1 e2
      go_enter Try.func205, Try.ntmps205
      go_wp2_with fail
      refine (numberOf_c _ _ hs).mono ?_
      rintro e w1 ⟨n, rfl, hn0, hn1, hv, hd⟩
      have HF : Hid (RetSg w (lB s) (.returned (.tuple #[.int .i64 n, .bool (numB (lB s))])) w1) := Lib.hid ⟨n, by rw [HB.out], by omega, by omega, (fun h => by rw [HB.out] at h; rw [HV.out]; exact hv h), hd⟩
      clear hv hd
      generalize numB (lB s) = bb at *
      go_wp2
      go_ret2
      exact HF.out
  · have hz : s.size = 0 := by omega
    have hl : lB s = [] := List.eq_nil_of_length_eq_zero (by rw [lB_len]; exact hz)
    have HL := Lib.hid hl
    clear hl
    have hzg : ¬ ((s.size : Int) > 0) := by omega
    go_enter Try.func205, Try.ntmps205
    go_wp2_with fail
    refine (numberOf_c _ _ hs).mono ?_
    rintro e w1 ⟨n, rfl, hn0, hn1, hv, hd⟩
    have HF : Hid (RetSg w (lB s) (.returned (.tuple #[.int .i64 n, .bool (numB (lB s))])) w1) := Lib.hid ⟨n, by rw [HL.out]; rfl, by omega, by omega, (fun h => by rw [HL.out] at h; cases h), hd⟩
    clear hv hd
    generalize numB (lB s) = bb at *
    go_wp2
    go_ret2
    exact HF.out
theorem results_tmp4 {fn : Func} {t u v x : Tmp} (h : fn.results = #[.tmp t, .tmp u, .tmp v, .tmp x]) (tmps : Array Value) (P : Program) (w : World) :
    (results fn tmps).run P w = .ok (.tuple #[tmps.getD t undef, tmps.getD u undef, tmps.getD v undef, tmps.getD x undef]) w := by
  simp [results, h]
/-- Three numbers and a truth. -/
def RetPt (w : World) (t : List UInt8) (e : Ending) (w' : World) : Prop := ∃ x y z : Int, e = .returned (.tuple #[.int .i64 x, .int .i64 y, .int .i64 z, .bool (imB t)]) ∧ (imB t = true → x = imW t ∧ y = imP t ∧ z = imS t) ∧ Drew w w'
set_option maxHeartbeats 2000000 in
theorem parted_c (s : ByteArray) (c : UInt8) (w : World) (hs : s.size ≤ 4194304) :
    Calls Try.prog 204 #[.string s, .int .u8 (c.toNat : Int)] w (RetPa w (bef c (lB s)) (aft c (lB s)) (hasC c (lB s))) := by
  rcases cut_first c (lB s) with h | ⟨u, r, h1, h2⟩
  · obtain ⟨e1, e2, e3⟩ := hasC_no h
    rw [e1, e2, e3]; exact parted_no s c w hs h
  · obtain ⟨e1, e2, e3⟩ := hasC_at (r := r) h2
    rw [h1, e1, e2, e3]; exact parted_yes s c u r w hs h1 h2
theorem bef_len (c : UInt8) (t : List UInt8) : (bef c t).length ≤ t.length ∧ (aft c t).length ≤ t.length := by
  rcases cut_first c t with h | ⟨u, r, h1, h2⟩
  · obtain ⟨e1, e2, e3⟩ := hasC_no h
    rw [e2, e3]; simp
  · obtain ⟨e1, e2, e3⟩ := hasC_at (r := r) h2
    rw [h1, e2, e3]; simp; omega
theorem retPt_A {w w' : World} {t : List UInt8} {x : Int} (h : hasC 58 t = false) (hv : sgB (bef 58 t) = true → x = sgV (bef 58 t)) (hd : Drew w w') : RetPt w t (.returned (.tuple #[.int .i64 x, .int .i64 (-1), .int .i64 (-1), .bool (sgB (bef 58 t))])) w' := by
  have e : imB t = sgB (bef 58 t) := by unfold imB; rw [h]; simp
  exact ⟨x, -1, -1, by rw [e], (fun h2 => by rw [e] at h2; exact ⟨hv h2, by simp [imP, h], by simp [imS, h]⟩), hd⟩
theorem retPt_B {w w' : World} {t : List UInt8} {x y z : Int} (h : sgB (bef 58 t) = false) (hd : Drew w w') : RetPt w t (.returned (.tuple #[.int .i64 x, .int .i64 y, .int .i64 z, .bool false])) w' := by
  have e : imB t = false := by unfold imB; rw [h]; rfl
  exact ⟨x, y, z, by rw [e], (fun h2 => by rw [e] at h2; cases h2), hd⟩
theorem retPt_C {w w' : World} {t : List UInt8} {x y : Int} (h : hasC 58 t = true) (hs : sgB (bef 58 t) = true) (h2 : hasC 44 (aft 58 t) = false) (hv : x = sgV (bef 58 t)) (hy : numB (bef 44 (aft 58 t)) = true → y = valN (bef 44 (aft 58 t))) (hd : Drew w w') : RetPt w t (.returned (.tuple #[.int .i64 x, .int .i64 y, .int .i64 (-1), .bool (numB (bef 44 (aft 58 t)))])) w' := by
  have e : imB t = numB (bef 44 (aft 58 t)) := by unfold imB; rw [h, hs, h2]; simp
  exact ⟨x, y, -1, by rw [e], (fun h3 => by rw [e] at h3; exact ⟨hv, by simp [imP, h, hy h3], by simp [imS, h2]⟩), hd⟩
theorem retPt_D {w w' : World} {t : List UInt8} {x y z : Int} (h : hasC 58 t = true) (h2 : numB (bef 44 (aft 58 t)) = false) (hd : Drew w w') : RetPt w t (.returned (.tuple #[.int .i64 x, .int .i64 y, .int .i64 z, .bool false])) w' := by
  have e : imB t = false := by unfold imB; rw [h, h2]; simp
  exact ⟨x, y, z, by rw [e], (fun h2 => by rw [e] at h2; cases h2), hd⟩
theorem retPt_E {w w' : World} {t : List UInt8} {x y z : Int} (h : hasC 58 t = true) (hs : sgB (bef 58 t) = true) (h2 : hasC 44 (aft 58 t) = true) (hn : numB (bef 44 (aft 58 t)) = true) (hv : x = sgV (bef 58 t)) (hy : y = valN (bef 44 (aft 58 t))) (hz : numB (aft 44 (aft 58 t)) = true → z = valN (aft 44 (aft 58 t))) (hd : Drew w w') : RetPt w t (.returned (.tuple #[.int .i64 x, .int .i64 y, .int .i64 z, .bool (numB (aft 44 (aft 58 t)))])) w' := by
  have e : imB t = numB (aft 44 (aft 58 t)) := by unfold imB; rw [h, hs, h2, hn]; simp
  exact ⟨x, y, z, by rw [e], (fun h3 => by rw [e] at h3; exact ⟨hv, by simp [imP, h, hy], by simp [imS, h, h2, hz h3]⟩), hd⟩
set_option maxHeartbeats 4000000 in
theorem pointOf_c (s : ByteArray) (w : World) (hs : s.size ≤ 4194304) :
    Calls Try.prog 131 #[.string s] w (RetPt w (lB s)) := by
  have hb1 := bef_len 58 (lB s)
  have hb2 := bef_len 44 (aft 58 (lB s))
  rw [lB_len] at hb1
  go_enter Try.func131, Try.ntmps131
  go_wp2_with fail
  refine (parted_c s 58 _ hs).mono ?_
  rintro e w1 ⟨x1, y1, rfl, hx1, hy1, hd1⟩
  have hxs : x1.size ≤ 4194304 := by rw [← lB_len, hx1]; omega
  have hys : y1.size ≤ 4194304 := by rw [← lB_len, hy1]; omega
  have HX1 := Lib.hid hx1
  have HY1 := Lib.hid hy1
  clear hx1 hy1
  go_wp2_with fail
  refine (signedOf_c x1 _ hxs).mono ?_
  rintro e w2 ⟨n, rfl, hn0, hn1, hv, hd2⟩
  rw [HX1.out] at hv ⊢
  have hd := hd1.trans hd2
  clear hd1 hd2
  cases hm : hasC 58 (lB s)
  · have HF := Lib.hid (retPt_A hm hv hd)
    clear hm hv hd hb1 hb2
    generalize sgB (bef 58 (lB s)) = bb at *
    cases bb
    · go_wp2
      try simp only [Exit.inBlock, Exit.then]
      refine bodyPost_ret (results_tmp4 rfl _ _ _) rfl ?_
      exact HF.out
    · go_wp2
      try simp only [Exit.inBlock, Exit.then]
      refine bodyPost_ret (results_tmp4 rfl _ _ _) rfl ?_
      exact HF.out
  · cases hs1 : sgB (bef 58 (lB s))
    · have HF := Lib.hid (retPt_B (x := n) (y := -1) (z := -1) hs1 hd)
      clear hm hv hd hb1 hb2 hs1
      go_wp2
      try simp only [Exit.inBlock, Exit.then]
      refine bodyPost_ret (results_tmp4 rfl _ _ _) rfl ?_
      exact HF.out
    · have hV := Lib.hid (hv hs1)
      clear hv
      go_wp2_with fail
      refine (parted_c y1 44 _ hys).mono ?_
      rintro e w3 ⟨x2, y2, rfl, hx2, hy2, hd3⟩
      rw [HY1.out] at hx2 hy2 ⊢
      have hxs2 : x2.size ≤ 4194304 := by rw [← lB_len, hx2]; omega
      have hys2 : y2.size ≤ 4194304 := by rw [← lB_len, hy2]; omega
      have HX2 := Lib.hid hx2
      have HY2 := Lib.hid hy2
      clear hx2 hy2
      have hM := Lib.hid hm
      have hS := Lib.hid hs1
      have hD := Lib.hid (hd.trans hd3)
      clear hm hs1 hd hd3
      go_wp2_with fail
      refine (numberOf_c x2 _ hxs2).mono ?_
      rintro e w4 ⟨p, rfl, hp0, hp1, hpv, hd4⟩
      rw [HX2.out] at hpv ⊢
      cases hm2 : hasC 44 (aft 58 (lB s))
      · have HF := Lib.hid (retPt_C hM.out hS.out hm2 hV.out hpv (hD.out.trans hd4))
        clear hm2 hpv hd4 hb1 hb2
        generalize numB (bef 44 (aft 58 (lB s))) = bb at *
        cases bb
        · go_wp2
          try simp only [Exit.inBlock, Exit.then]
          refine bodyPost_ret (results_tmp4 rfl _ _ _) rfl ?_
          exact HF.out
        · go_wp2
          try simp only [Exit.inBlock, Exit.then]
          refine bodyPost_ret (results_tmp4 rfl _ _ _) rfl ?_
          exact HF.out
      · cases hn2 : numB (bef 44 (aft 58 (lB s)))
        · have HF := Lib.hid (retPt_D (x := n) (y := p) (z := -1) hM.out hn2 (hD.out.trans hd4))
          clear hm2 hpv hd4 hb1 hb2 hn2
          go_wp2
          try simp only [Exit.inBlock, Exit.then]
          refine bodyPost_ret (results_tmp4 rfl _ _ _) rfl ?_
          exact HF.out
        · have hpv := hpv hn2
          have hM2 := Lib.hid hm2
          have hN2 := Lib.hid hn2
          have hPV := Lib.hid hpv
          have hD4 := Lib.hid (hD.out.trans hd4)
          clear hm2 hn2 hpv hd4
          go_wp2_with fail
          refine (numberOf_c y2 _ hys2).mono ?_
          rintro e w5 ⟨q, rfl, hq0, hq1, hqv, hd5⟩
          rw [HY2.out] at hqv ⊢
          have HF := Lib.hid (retPt_E hM.out hS.out hM2.out hN2.out hV.out hPV.out hqv (hD4.out.trans hd5))
          clear hqv hd5 hb1 hb2
          generalize numB (aft 44 (aft 58 (lB s))) = bb at *
          go_wp2
          try simp only [Exit.inBlock, Exit.then]
          refine bodyPost_ret (results_tmp4 rfl _ _ _) rfl ?_
          exact HF.out
end Go.Proofs.Ytiinceflafigeaa
