/- Contracts: impl.numberOf, signedOf, pointOf. -/
import Derived.Test.YtiinceflafigeaaDoorTxtI
namespace Go.Proofs.YtiinceflafigeaaDoor
open Go.RowKit

theorem get_bang {b : ByteArray} {i : Nat} (h : i < b.size) : b.get! i = b[i]'h := by
  cases b with
  | mk d => exact getElem!_pos d i h
theorem toList_loop (b : ByteArray) : ∀ (n i : Nat) (r : List UInt8), n = b.size - i → ByteArray.toList.loop b i r = r.reverse ++ (lB b).drop i := by
  intro n
  induction n with
  | zero =>
    intro i r h
    unfold ByteArray.toList.loop
    rw [if_neg (by omega), List.drop_eq_nil_of_le (by rw [lB_len]; omega), List.append_nil]
  | succ n ih =>
    intro i r h
    unfold ByteArray.toList.loop
    rw [if_pos (by omega), ih (i + 1) _ (by omega)]
    have hi : i < b.size := by omega
    have hi' : i < (lB b).length := by rw [lB_len]; exact hi
    rw [List.drop_eq_getElem_cons hi', List.reverse_cons, List.append_assoc, lB_get hi hi', get_bang hi]
    rfl
theorem toList_lB (b : ByteArray) : b.toList = lB b := by
  unfold ByteArray.toList
  rw [toList_loop b _ 0 [] rfl]; simp
theorem toList_nil {b : ByteArray} (h : b.toList = []) : lB b = [] := by rw [← toList_lB]; exact h
/-- A number and a truth. -/
def RetNb (w : World) (t : List UInt8) (e : Ending) (w' : World) : Prop := ∃ n : Int, e = .returned (.tuple #[.int .i64 n, .bool (numB t)]) ∧ 0 ≤ n ∧ n < 1000000000 ∧ (numB t = true → n = valN t) ∧ Drew w w'
set_option maxHeartbeats 1000000 in
theorem numberOf_c (s : ByteArray) (w : World) (hs : s.size ≤ 4194304) :
    Calls Tryd.prog 34 #[.string s] w (RetNb w (lB s)) := by
  go_enter Tryd.func34, Tryd.ntmps34
  go_wp2_with fail
  refine (digitsOf_c s _ hs).mono ?_
  rintro e w1 ⟨n, r, b, rfl, hn0, hn1, hy, hno, hd⟩
  cases hb : numB (lB s)
  · have h2 := hno hb
    have HF : Hid (RetNb w (lB s) (.returned (.tuple #[.int .i64 n, .bool false])) w1) := Lib.hid ⟨n, by rw [hb], hn0, hn1, (fun h => by rw [hb] at h; cases h), hd⟩
    clear hy hno hd hb
    cases b
    · go_wp2
      go_ret2
      exact HF.out
    · have hr : r ≠ ByteArray.empty := fun e => h2 rfl (by rw [e]; rfl)
      have hrb : r.toList.isEmpty = false := by
        have h3 := h2 rfl
        cases hz : r.toList.isEmpty
        · rfl
        · exfalso
          exact h3 (toList_nil (List.isEmpty_iff.1 hz))
      clear h2 hr
      go_wp2
      go_ret2
      exact HF.out
  · obtain ⟨rfl, h1, h2⟩ := hy hb
    have hr : r = ByteArray.empty := lB_inj (by rw [h1]; rfl)
    have HF : Hid (RetNb w (lB s) (.returned (.tuple #[.int .i64 n, .bool true])) w1) := Lib.hid ⟨n, by rw [hb], hn0, hn1, fun _ => h2, hd⟩
    subst hr
    clear hy hno hd hb h1 h2
    go_wp2
    go_ret2
    exact HF.out
/-- A number with a sign, and a truth. -/
def RetSg (w : World) (t : List UInt8) (e : Ending) (w' : World) : Prop := ∃ n : Int, e = .returned (.tuple #[.int .i64 n, .bool (sgB t)]) ∧ -1000000000 < n ∧ n < 1000000000 ∧ (sgB t = true → n = sgV t) ∧ Drew w w'
theorem results_tmp4 {fn : Func} {t u v x : Tmp} (h : fn.results = #[.tmp t, .tmp u, .tmp v, .tmp x]) (tmps : Array Value) (P : Program) (w : World) :
    (results fn tmps).run P w = .ok (.tuple #[tmps.getD t undef, tmps.getD u undef, tmps.getD v undef, tmps.getD x undef]) w := by
  simp [results, h]
/-- Three numbers and a truth. -/
def RetPt (w : World) (t : List UInt8) (e : Ending) (w' : World) : Prop := ∃ x y z : Int, e = .returned (.tuple #[.int .i64 x, .int .i64 y, .int .i64 z, .bool (imB t)]) ∧ (imB t = true → x = imW t ∧ y = imP t ∧ z = imS t) ∧ Drew w w'
set_option maxHeartbeats 2000000 in
theorem parted_c (s : ByteArray) (c : UInt8) (w : World) (hs : s.size ≤ 4194304) :
    Calls Tryd.prog 33 #[.string s, .int .u8 (c.toNat : Int)] w (RetPa w (bef c (lB s)) (aft c (lB s)) (hasC c (lB s))) := by
  rcases cut_first c (lB s) with h | ⟨u, r, h1, h2⟩
  · obtain ⟨e1, e2, e3⟩ := hasC_no h
    rw [e1, e2, e3]; exact parted_no s c w hs h
  · obtain ⟨e1, e2, e3⟩ := hasC_at (r := r) h2
    rw [h1, e1, e2, e3]; exact parted_yes s c u r w hs h1 h2
theorem bef_len (c : UInt8) (t : List UInt8) : (bef c t).length ≤ t.length ∧ (aft c t).length ≤ t.length := by
  rcases cut_first c t with h | ⟨u, r, h1, h2⟩
  · obtain ⟨e1, e2, e3⟩ := hasC_no h
    rw [e2, e3]; simp
  · obtain ⟨e1, e2, e3⟩ := hasC_at (r := r) h2
    rw [h1, e2, e3]; simp; omega
theorem retPt_A {w w' : World} {t : List UInt8} {x : Int} (h : hasC 58 t = false) (hv : sgB (bef 58 t) = true → x = sgV (bef 58 t)) (hd : Drew w w') : RetPt w t (.returned (.tuple #[.int .i64 x, .int .i64 (-1), .int .i64 (-1), .bool (sgB (bef 58 t))])) w' := by
  have e : imB t = sgB (bef 58 t) := by unfold imB; rw [h]; simp
  exact ⟨x, -1, -1, by rw [e], (fun h2 => by rw [e] at h2; exact ⟨hv h2, by simp [imP, h], by simp [imS, h]⟩), hd⟩
theorem retPt_B {w w' : World} {t : List UInt8} {x y z : Int} (h : sgB (bef 58 t) = false) (hd : Drew w w') : RetPt w t (.returned (.tuple #[.int .i64 x, .int .i64 y, .int .i64 z, .bool false])) w' := by
  have e : imB t = false := by unfold imB; rw [h]; rfl
  exact ⟨x, y, z, by rw [e], (fun h2 => by rw [e] at h2; cases h2), hd⟩
theorem retPt_C {w w' : World} {t : List UInt8} {x y : Int} (h : hasC 58 t = true) (hs : sgB (bef 58 t) = true) (h2 : hasC 44 (aft 58 t) = false) (hv : x = sgV (bef 58 t)) (hy : numB (bef 44 (aft 58 t)) = true → y = valN (bef 44 (aft 58 t))) (hd : Drew w w') : RetPt w t (.returned (.tuple #[.int .i64 x, .int .i64 y, .int .i64 (-1), .bool (numB (bef 44 (aft 58 t)))])) w' := by
  have e : imB t = numB (bef 44 (aft 58 t)) := by unfold imB; rw [h, hs, h2]; simp
  exact ⟨x, y, -1, by rw [e], (fun h3 => by rw [e] at h3; exact ⟨hv, by simp [imP, h, hy h3], by simp [imS, h2]⟩), hd⟩
theorem retPt_D {w w' : World} {t : List UInt8} {x y z : Int} (h : hasC 58 t = true) (h2 : numB (bef 44 (aft 58 t)) = false) (hd : Drew w w') : RetPt w t (.returned (.tuple #[.int .i64 x, .int .i64 y, .int .i64 z, .bool false])) w' := by
  have e : imB t = false := by unfold imB; rw [h, h2]; simp
  exact ⟨x, y, z, by rw [e], (fun h2 => by rw [e] at h2; cases h2), hd⟩
theorem retPt_E {w w' : World} {t : List UInt8} {x y z : Int} (h : hasC 58 t = true) (hs : sgB (bef 58 t) = true) (h2 : hasC 44 (aft 58 t) = true) (hn : numB (bef 44 (aft 58 t)) = true) (hv : x = sgV (bef 58 t)) (hy : y = valN (bef 44 (aft 58 t))) (hz : numB (aft 44 (aft 58 t)) = true → z = valN (aft 44 (aft 58 t))) (hd : Drew w w') : RetPt w t (.returned (.tuple #[.int .i64 x, .int .i64 y, .int .i64 z, .bool (numB (aft 44 (aft 58 t)))])) w' := by
  have e : imB t = numB (aft 44 (aft 58 t)) := by unfold imB; rw [h, hs, h2, hn]; simp
  exact ⟨x, y, z, by rw [e], (fun h3 => by rw [e] at h3; exact ⟨hv, by simp [imP, h, hy], by simp [imS, h, h2, hz h3]⟩), hd⟩
end Go.Proofs.YtiinceflafigeaaDoor
