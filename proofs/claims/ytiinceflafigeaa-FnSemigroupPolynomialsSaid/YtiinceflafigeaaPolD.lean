/- Contracts: polynomials: ranges of coefficients, sums of products, values at 1, symmetry, binomials. -/
import Derived.Test.YtiinceflafigeaaBpP
import Derived.Test.YtiinceflafigeaaBegin
import Derived.Test.YtiinceflafigeaaPushS
import Derived.Deep.RegionHeld3
import Derived.Test.YtiinceflafigeaaMatL
import Derived.Test.YtiinceflafigeaaSemgP
namespace Go.Proofs.Ytiinceflafigeaa
open Go.RowKit

def coB (n : Int) : Prop := -1000000000000 ≤ n ∧ n ≤ 1000000000000
theorem coB_in {n : Int} (h : coB n) : inB n (-1000000000000) 1000000000000 = true := inB_iff.2 h
theorem isCoef_c (n : Int) (w : World) :
    Calls Try.prog 190 #[.int .i64 n] w fun e w' => e = .returned (.bool (inB n (-1000000000000) 1000000000000)) ∧ w = w' := by
  go_enter Try.func190, Try.ntmps190
  go_wp2_with (go_at_call 136; refine (inRange_c _ _ _ _).mono ?_; rintro e w' ⟨rfl, rfl⟩)
  go_ret
  exact ⟨rfl, rfl⟩
/-- A polynomial's coefficients. -/
def PolOk (xs : List Int) : Prop := 0 < xs.length ∧ xs.length ≤ 2001 ∧ ∀ i, i < xs.length → coB (gI xs i)
set_option maxRecDepth 100000 in
theorem isPoly_yes (v : Value) (xs : List Int) (w : World) (h : Rd w v xs) (hp : PolOk xs) (hl : gI xs (xs.length - 1) ≠ 0) :
    Calls Try.prog 187 #[v] w fun e w' => e = .returned (.bool true) ∧ w = w' := by
  obtain ⟨h0, h1, h2⟩ := hp
  obtain ⟨b, off, cap, rfl, _, _, hbl, hc⟩ := h.cells h0
  obtain ⟨n, hn⟩ : ∃ n, xs.length = n + 1 := ⟨xs.length - 1, by omega⟩
  rw [hn] at hl hc h1 h2 ⊢
  simp only [Nat.add_sub_cancel] at hl
  have d1 := hc n (by omega)
  have hz : (gI xs n == 0) = false := beq_eq_false_iff_ne.2 hl
  have HC := Lib.hid hc
  have HB := Lib.hid h2
  clear hc h2 hn h hl
  generalize gI xs n = y at d1 hz
  go_enter Try.func187, Try.ntmps187
  go_wp2_with fail
  go_loop [24] (fun iv => ∃ k : Nat, k ≤ n + 1 ∧ iv = .int .i64 (k : Int)) (fun iv => n + 1 - (intOf iv).toNat)
  case atStart => exact ⟨0, by omega, rfl⟩
  case round =>
    obtain ⟨k, hk, rfl⟩ := hrel
    clear d1 hz
    by_cases hlt : k < n + 1
    · have hki : (k : Int) < (n : Int) + 1 := by omega
      have dk := HC.out k hlt
      have hin := coB_in (HB.out k hlt)
      generalize gI xs k = x at *
      go_wp2_with fail
      refine (isCoef_c x _).mono ?_
      rintro e w' ⟨rfl, rfl⟩
      rw [hin]
      go_wp2
      go_round
      case rel => exact ⟨k + 1, by omega, by go_num⟩
      case measure => simp [intOf]; omega
    · have hki : ¬ (k : Int) < (n : Int) + 1 := by omega
      go_wp2
      go_ret
      exact ⟨rfl, rfl⟩
/-- What plusProduct hands back. -/
def ppV (s a b : Int) : Int := if a = 0 ∨ b = 0 then s else if 2000000000000 / absI b < absI a then 0 else s + a * b
def ppB (s a b : Int) : Bool := if a = 0 ∨ b = 0 then true else if 2000000000000 / absI b < absI a then false else inB (s + a * b) (-1000000000000) 1000000000000
theorem pp_ok {s a b : Int} (hs : coB s) (h : ppB s a b = true) : ppV s a b = s + a * b ∧ coB (ppV s a b) := by
  unfold ppB at h
  unfold ppV
  by_cases h0 : a = 0 ∨ b = 0
  · rw [if_pos h0]
    refine ⟨?_, hs⟩
    rcases h0 with rfl | rfl <;> omega
  · rw [if_neg h0] at h ⊢
    by_cases h1 : 2000000000000 / absI b < absI a
    · rw [if_pos h1] at h; cases h
    · rw [if_neg h1] at h ⊢
      exact ⟨rfl, inB_iff.1 h⟩
set_option maxRecDepth 100000 in
theorem plusX_c (s a b : Int) (w : World) (hs : coB s) (ha : coB a) (hb : coB b) :
    Calls Try.prog 221 #[.int .i64 s, .int .i64 a, .int .i64 b] w fun e w' => e = .returned (.tuple #[.int .i64 (ppV s a b), .bool (ppB s a b)]) ∧ w = w' := by
  unfold coB at hs ha hb
  by_cases ha0 : a = 0
  · subst ha0
    have e1 : ppV s 0 b = s := by unfold ppV; rw [if_pos (.inl rfl)]
    have e2 : ppB s 0 b = true := by unfold ppB; rw [if_pos (.inl rfl)]
    rw [e1, e2]
    go_enter Try.func221, Try.ntmps221
    go_wp2
    go_ret2
    exact ⟨rfl, rfl⟩
  · have hz : (a == 0) = false := beq_eq_false_iff_ne.2 ha0
    by_cases hb0 : b = 0
    · subst hb0
      have e1 : ppV s a 0 = s := by unfold ppV; rw [if_pos (.inr rfl)]
      have e2 : ppB s a 0 = true := by unfold ppB; rw [if_pos (.inr rfl)]
      rw [e1, e2]
      go_enter Try.func221, Try.ntmps221
      go_wp2
      go_ret2
      exact ⟨rfl, rfl⟩
    · have hzb : (b == 0) = false := beq_eq_false_iff_ne.2 hb0
      have ea : absI a = a.natAbs := by unfold absI; split <;> omega
      have eb : absI b = b.natAbs := by unfold absI; split <;> omega
      have hb1 : 0 < absI b := by omega
      have hb2 := absI_le b 1000000000000 (by omega) (by omega)
      have ha2 := absI_le a 1000000000000 (by omega) (by omega)
      have hab : absI a ≤ 2000000000000 / absI b → -2000000000000 ≤ a * b ∧ a * b ≤ 2000000000000 := fun h => by
        have h1 : absI a * absI b ≤ 2000000000000 := by
          have := Int.mul_le_mul_of_nonneg_right h (Int.le_of_lt hb1)
          have h2 := Int.ediv_mul_le 2000000000000 (show absI b ≠ 0 by omega)
          omega
        have h3 : ((a * b).natAbs : Int) = absI a * absI b := by rw [ea, eb, Int.natAbs_mul]; simp
        omega
      have HAB := Lib.hid hab
      clear ea eb hab
      have hA0 := absI_nn a
      have hwm : ∀ x : Int, -2000000000000 ≤ x → x ≤ 2000000000000 → IntKind.i64.wrap x = x ∧ IntKind.i64.wrap (s + x) = s + x := fun x h1 h2 => ⟨IntWalk.i64_in _ (by omega), IntWalk.i64_in _ (by omega)⟩
      have HWM := Lib.hid hwm
      have HV : Hid (ppV s a b = if 2000000000000 / absI b < absI a then 0 else s + a * b) := Lib.hid (by unfold ppV; rw [if_neg (fun h => h.elim ha0 hb0)])
      have HW : Hid (ppB s a b = if 2000000000000 / absI b < absI a then false else inB (s + a * b) (-1000000000000) 1000000000000) := Lib.hid (by unfold ppB; rw [if_neg (fun h => h.elim ha0 hb0)])
      clear hwm
      generalize ppV s a b = V at *
      generalize ppB s a b = B at *
      go_enter Try.func221, Try.ntmps221
      go_wp2_with fail
      refine (abs_c a _ (by omega) (by omega)).mono ?_
      rintro e w1 ⟨rfl, rfl⟩
      go_wp2_with fail
      refine (abs_c b _ (by omega) (by omega)).mono ?_
      rintro e w1 ⟨rfl, rfl⟩
      generalize absI a = A at *
      generalize absI b = C at *
      by_cases hg : 2000000000000 / C < A
      · have e1 := HV.out
        have e2 := HW.out
        rw [if_pos hg] at e1 e2
        subst e1 e2
        go_wp2
        go_ret2
        exact ⟨rfl, rfl⟩
      · obtain ⟨h1, h2⟩ := HAB.out (by omega)
        obtain ⟨g1, g2⟩ := HWM.out _ h1 h2
        have e1 := HV.out
        have e2 := HW.out
        rw [if_neg hg] at e1 e2
        clear HV HW
        subst e1 e2
        generalize hab : a * b = x at *
        go_wp2_with fail
        refine (isCoef_c _ _).mono ?_
        rintro e w1 ⟨rfl, rfl⟩
        go_wp2
        go_ret2
        exact ⟨by rw [hab]; rfl, rfl⟩
theorem plusProduct_c (s a b : Int) (w : World) (hs : coB s) (ha : coB a) (hb : coB b) :
    Calls Try.prog 221 #[.int .i64 s, .int .i64 a, .int .i64 b] w fun e w' => (∃ (x : Int) (ok : Bool), e = .returned (.tuple #[.int .i64 x, .bool ok]) ∧ (ok = true → x = s + a * b ∧ coB x)) ∧ w = w' :=
  (plusX_c s a b w hs ha hb).mono fun _ _ ⟨he, hw⟩ => ⟨⟨_, _, he, fun h => pp_ok hs h⟩, hw⟩
def RetTr (w : World) (xs : List Int) (e : Ending) (w' : World) : Prop := (∃ (a : Option Addr) (m k : Nat), e = .returned (.slice a m k) ∧ (m = 0 → ∀ i, i < xs.length → gI xs i = 0)) ∧ w = w'
set_option maxRecDepth 100000 in
/-- Zeros at the end are taken away: nothing is left of zeros alone. -/
theorem trimmed_c (v : Value) (xs : List Int) (w : World) (h : Rd w v xs) :
    Calls Try.prog 222 #[v] w (RetTr w xs) := by
  by_cases h0 : 0 < xs.length
  · obtain ⟨b, off, cap, rfl, hcap, hcap2, hbl, hc⟩ := h.cells h0
    have HC := Lib.hid hc
    clear hc h
    generalize hn : xs.length = n at *
    go_enter Try.func222, Try.ntmps222
    go_wp2_with fail
    go_loop [0] (fun sv => ∃ k : Nat, k ≤ n ∧ sv = .slice (some ⟨b, off, none⟩) k cap ∧ Hid (∀ i, k ≤ i → i < n → gI xs i = 0)) (fun sv => match sv with | .slice _ k _ => k | _ => 0)
    case atStart => exact ⟨n, Nat.le_refl _, rfl, Lib.hid (fun i h1 h2 => by omega)⟩
    case round =>
      obtain ⟨k, hk, rfl, HZ⟩ := hrel
      by_cases hk0 : k = 0
      · subst hk0
        go_wp2
        go_ret
        exact ⟨⟨_, _, _, rfl, fun _ i hi => HZ.out i (Nat.zero_le _) (by omega)⟩, rfl⟩
      · obtain ⟨j, rfl⟩ : ∃ j, k = j + 1 := ⟨k - 1, by omega⟩
        have dj := HC.out j (by omega)
        have hcj : j ≤ cap := by omega
        by_cases hz : gI xs j = 0
        · have HZ2 : Hid (∀ i, j ≤ i → i < n → gI xs i = 0) := Lib.hid (fun i h1 h2 => by
            by_cases e : i = j
            · subst e; exact hz
            · exact HZ.out i (by omega) h2)
          rw [hz] at dj
          go_wp2
          go_round
          case rel => exact ⟨j, by omega, rfl, HZ2⟩
          case measure => show j < j + 1; omega
        · have hzb : (gI xs j == 0) = false := beq_eq_false_iff_ne.2 hz
          generalize gI xs j = y at dj hzb
          go_wp2
          go_ret
          exact ⟨⟨_, _, _, rfl, fun h => by omega⟩, rfl⟩
  · have hx : xs = [] := List.eq_nil_of_length_eq_zero (by omega)
    subst hx
    obtain ⟨a, k, rfl⟩ := h.len0
    go_enter Try.func222, Try.ntmps222
    go_wp2_with fail
    go_loop [0] (fun sv => sv = .slice a 0 k) (fun _ => 0)
    case atStart => rfl
    case round =>
      subst hrel
      go_wp2
      go_ret
      exact ⟨⟨_, _, _, rfl, fun _ i hi => by simp at hi⟩, rfl⟩
set_option maxRecDepth 100000 in
/-- The value at 1, by the sums from behind. -/
theorem evalOne_c (v : Value) (xs : List Int) (f : Nat → Int) (w : World) (h : Rd w v xs) (hp : PolOk xs) (hl : gI xs (xs.length - 1) ≠ 0) (hf0 : f xs.length = 0) (hf : ∀ k, k < xs.length → f k = f (k + 1) + gI xs k) (hb : ∀ k, -1000 ≤ f k ∧ f k ≤ 1000) :
    Calls Try.prog 101 #[v, .int .i64 1] w fun e w' => e = .returned (.tuple #[.int .i64 (f 0), .int .i64 0]) ∧ w = w' := by
  obtain ⟨b, off, cap, rfl, hcap, hcap2, hbl, hc⟩ := h.cells hp.1
  have hn2 := hp.2.1
  have h0 := hp.1
  have HC := Lib.hid hc
  have HF := Lib.hid hf
  have HB := Lib.hid hb
  clear hc hf hb
  go_enter Try.func101, Try.ntmps101
  go_wp2_with fail
  refine (isPoly_yes _ xs _ h hp hl).mono ?_
  rintro e w' ⟨rfl, rfl⟩
  clear h hp hl
  go_wp2_with fail
  refine (inRange_c 1 (-1000) 1000 _).mono ?_
  rintro e w' ⟨rfl, rfl⟩
  have hin : inB 1 (-1000) 1000 = true := rfl
  rw [hin]
  generalize hn : xs.length = n at *
  go_wp2_with fail
  go_loop [6, 7] (fun sv iv => ∃ k : Nat, k ≤ n ∧ sv = .int .i64 (f k) ∧ iv = .int .i64 ((k : Int) - 1)) (fun _ iv => (intOf iv + 1).toNat)
  case atStart => exact ⟨n, Nat.le_refl _, by rw [hf0], rfl⟩
  case round =>
    clear hf0
    obtain ⟨k, hk, rfl, rfl⟩ := hrel
    by_cases hk0 : k = 0
    · subst hk0
      go_wp2
      go_ret2
      exact ⟨rfl, rfl⟩
    · obtain ⟨j, rfl⟩ : ∃ j, k = j + 1 := ⟨k - 1, by omega⟩
      have ej : ((j + 1 : Nat) : Int) - 1 = j := by omega
      rw [ej]
      have dj := HC.out j (by omega)
      have hj := HF.out j (by omega)
      have hb1 := HB.out (j + 1)
      have hb2 := HB.out j
      have hjn : (j : Int) < (n : Int) := by omega
      have hcf : inB (f (j + 1) + gI xs j) (-1000000000000) 1000000000000 = true := inB_iff.2 (by omega)
      have hb3 : -1000 ≤ f (j + 1) + gI xs j ∧ f (j + 1) + gI xs j ≤ 1000 := by omega
      have HJ := Lib.hid hj
      clear hj hb2
      generalize gI xs j = x at *
      obtain ⟨y, hy⟩ : ∃ y, f (j + 1) = y := ⟨_, rfl⟩
      rw [hy] at hb1 hb3 hcf ⊢
      have HY := Lib.hid hy
      clear hy
      go_wp2_with fail
      refine (isCoef_c _ _).mono ?_
      rintro e w' ⟨rfl, rfl⟩
      rw [hcf]
      have hj0 : (0 : Int) ≤ (j : Int) := by omega
      go_wp2
      go_round
      case rel => exact ⟨j, by omega, by rw [HJ.out, HY.out], by go_num⟩
      case measure => simp [intOf]
set_option maxRecDepth 100000 in
theorem reversed_c (v : Value) (xs : List Int) (w : World) (h : Rd w v xs) (hp : 0 < xs.length) (hn : xs.length ≤ 1000000) :
    Calls Try.prog 189 #[v] w (RetI w xs.reverse) := by
  obtain ⟨a, cap, rfl⟩ := h.len0
  go_enter Try.func189, Try.ntmps189
  go_wp2_with fail
  refine (clone_c _ xs _ h hp hn).mono ?_
  rintro e w1 ⟨a1, k1, rfl, ho, hb⟩
  go_wp2_with fail
  refine (reverse_c _ xs _ _ ho hn).mono ?_
  rintro e w2 ⟨rfl, ho2, hk⟩
  have hb2 : Below w.heap.size w w2 := hb.trans (hk.below hb.size (fun g hg => (ho.block g hg).1))
  have HR := Lib.hid (retI_mk ho2 hb2)
  clear ho2 hk hb ho
  go_wp2
  go_ret
  exact HR.out
set_option maxRecDepth 100000 in
theorem isSym_c (v : Value) (xs : List Int) (w : World) (h : Rd w v xs) (hp : PolOk xs) (hl : gI xs (xs.length - 1) ≠ 0) (hr : xs.reverse = xs) :
    Calls Try.prog 100 #[v] w fun e w' => e = .returned (.tuple #[.bool true, .int .i64 0]) ∧ Below w.heap.size w w' := by
  have h' := h
  obtain ⟨a, cap, rfl⟩ := h'.len0
  go_enter Try.func100, Try.ntmps100
  go_wp2_with fail
  refine (isPoly_yes _ xs _ h hp hl).mono ?_
  rintro e w' ⟨rfl, rfl⟩
  go_wp2_with fail
  refine (reversed_c _ xs _ h hp.1 (by have := hp.2.1; omega)).mono ?_
  rintro e w1 ⟨a1, k1, rfl, ho, hb⟩
  rw [hr] at ho ⊢
  have h1 := h.below hb (Nat.le_refl _)
  go_wp2_with fail
  refine (slicesEqual_c _ _ xs xs _ h1 ho.rd).mono ?_
  rintro e w2 ⟨rfl, hd⟩
  rw [eqB_self]
  have hb2 := below_step hb (hd.below _)
  go_wp2
  go_ret2
  exact ⟨rfl, hb2⟩
theorem binL_set (d : Nat) (h : 1 ≤ d) : ((List.replicate (d + 1) (0 : Int)).set 0 (-1)).set d 1 = binL d := by
  refine gI_ext (by simp) fun i hi => ?_
  have hi' : i < d + 1 := by simpa using hi
  rw [gI_binL hi']
  by_cases e : d = i
  · subst e
    rw [gI_set_at (by simp), if_neg (by omega), if_pos rfl]
  · rw [gI_set_ne e]
    by_cases e2 : 0 = i
    · subst e2
      rw [gI_set_at (by simp), if_pos rfl]
    · rw [gI_set_ne e2, gI_rep hi', if_neg (by omega), if_neg (by omega)]
set_option maxRecDepth 100000 in
theorem binomial_c (d : Nat) (w : World) (h1 : 1 ≤ d) (h2 : d ≤ 2000) :
    Calls Try.prog 192 #[.int .i64 (d : Int)] w (RetI w (binL d)) := by
  obtain ⟨i0, hi, hz0, hz1, hz2⟩ := info_parts Try.infoI
  have hmk : ∀ W : World, (Instr.makeSlice 24 (.int .i64 ((d : Int) + 1)) (.int .i64 ((d : Int) + 1))).run Try.prog W = .ok (.slice (some ⟨W.heap.size, 0, none⟩) (d + 1) (d + 1)) (W.alloc (.cells (madeCells #[.int .i64 0] (d + 1)) 2)) := fun W => by
    have := run_make_row 24 2 i0 _ Try.underlying24 hi hz0 hz1 rfl .i64 .i64 (d + 1) (by rw [hz2]; omega) (by omega) W
    rwa [show ((d + 1 : Nat) : Int) = (d : Int) + 1 by omega] at this
  have hE := ownI_made (w := w.alloc (.cells (madeCells #[.int .i64 0] (d + 1)) 2)) (e := 2) (base := w.heap.size) (g := w.heap.size) (n := d + 1) (Blk.new' rfl) (Nat.le_refl _) (by unfold maxLen; omega)
  have hb : Below w.heap.size w (w.alloc (.cells (madeCells #[.int .i64 0] (d + 1)) 2)) := (Below.refl _ _).alloc (Nat.le_refl _) _
  go_enter Try.func192, Try.ntmps192
  go_upto_region 2 with fail
  generalize w.alloc (.cells (madeCells #[.int .i64 0] (d + 1)) 2) = w1 at *
  clear hmk
  have hO : OwnI w1 w.heap.size (.slice (some ⟨w.heap.size, 0, none⟩) (List.replicate (d + 1) (0 : Int)).length (d + 1)) (List.replicate (d + 1) 0) := by rw [List.length_replicate]; exact hE
  have c0 := hO.cell 0 (by simp)
  have cd := hO.cell d (by simp)
  rw [gI_rep (by omega)] at c0 cd
  have f0 := hO.free 0
  have fd := hO.free d
  have s1 := hO.set 0 (-1)
  have s2 := Own.set (xs := (List.replicate (d + 1) (0 : Int)).set 0 (-1)) (by rw [List.length_set]; exact s1) d 1
  rw [binL_set d h1, List.length_set, List.length_replicate] at s2
  have hk := ((Keeps.refl (fun k => k = w.heap.size) w1).setCell (p := ⟨w.heap.size, 0, none⟩) rfl (.int .i64 (-1))).setCell (p := ⟨w.heap.size, d, none⟩) rfl (.int .i64 1)
  have HR := Lib.hid (retI_mk s2 (hb.trans (hk.below hb.size (fun q e => by omega))))
  have hdd : (d : Int) < (d : Int) + 1 := by omega
  have hd0 : (0 : Int) < (d : Int) + 1 := by omega
  clear hE hb hO s1 s2 hk
  go_wp2
  go_ret
  exact HR.out
end Go.Proofs.Ytiinceflafigeaa

/- Contract: impl.productOf with a binomial. -/
namespace Go.Proofs.Ytiinceflafigeaa
open Go.RowKit

/-- A polynomial and a code: if the code is 0, the polynomial is as told. -/
def RetPQ (w : World) (Q : List Int → Prop) (e : Ending) (w' : World) : Prop :=
  ∃ (a : Option Addr) (n k : Nat) (xs : List Int) (c : Int), e = .returned (.tuple #[.slice a n k, .int .i64 c]) ∧ xs.length = n ∧ Rd w' (.slice a n k) xs ∧ Below w.heap.size w w' ∧ (c = 0 → PolOk xs ∧ Q xs)
theorem retPQ_no {w w' : World} {Q : List Int → Prop} {c : Int} (hb : Below w.heap.size w w') (hc : c ≠ 0) : RetPQ w Q (.returned (.tuple #[.slice none 0 0, .int .i64 c])) w' :=
  ⟨none, 0, 0, [], c, rfl, rfl, rd_nil _, hb, fun h => absurd h hc⟩
set_option maxRecDepth 100000 in
set_option maxHeartbeats 4000000 in
theorem productOf_c (v u : Value) (p : List Int) (d : Nat) (w : World) (h : Rd w v p) (h' : Rd w u (binL d)) (hp : PolOk p) (h1 : 1 ≤ d) (h2 : d ≤ 2000) :
    Calls Try.prog 191 #[v, u] w (RetPQ w fun q => q.length = p.length + d ∧ gz q = nd d (gz p)) := by
  obtain ⟨i0, hi, hz0, hz1, hz2⟩ := info_parts Try.infoI
  obtain ⟨hp0, hp1, hp2⟩ := hp
  obtain ⟨bp, op, kp, rfl, _, _, hbp, hcp⟩ := h.cells hp0
  obtain ⟨bq, oq, kq, rfl, _, _, hbq, hcq⟩ := h'.cells (by simp)
  simp only [binL_len] at hcq ⊢
  have HP := Lib.hid hp2
  obtain ⟨n, hn⟩ : ∃ n, p.length = n := ⟨_, rfl⟩
  have HE := Lib.hid (show gz (cvL p (binL d) (n + d) (d + 1) 0) = nd d (gz p) by rw [← hn]; exact cvL_bin h1)
  have HSET := Lib.hid (fun k i (hi : i < n) (hN : i + k < n + d) => cvL_set (p := p) (q := binL d) (N := n + d) (k := k) (i := i) (by omega))
  have HNEXT := Lib.hid (fun k => show cvL p (binL d) (n + d) k n = cvL p (binL d) (n + d) (k + 1) 0 by rw [← hn]; exact cvL_next)
  have HSKIP := Lib.hid (fun k (hk : gI (binL d) k = 0) => cvL_skip (p := p) (q := binL d) (N := n + d) hk)
  have HLEN := Lib.hid (fun k i => cvL_len p (binL d) (n + d) k i)
  have HST := Lib.hid (cvL_start p (binL d) (n + d))
  have HQB := Lib.hid (fun k (hk : k < d + 1) => binL_bd (d := d) hk)
  rw [hn] at hp0 hp1 hcp hp2 ⊢
  have HCP := Lib.hid hcp
  have HCQ := Lib.hid hcq
  have HPB : Hid (∀ i, i < n → coB (gI p i)) := Lib.hid (fun i hi => HP.out i (by omega))
  clear hcp hcq hp2 hn h h' HP
  have e1 : ((n : Int) == 0) = false := beq_eq_false_iff_ne.2 (by omega)
  have e2 : ((d : Int) + 1 == 0) = false := beq_eq_false_iff_ne.2 (by omega)
  by_cases hbig : 2001 < n + d
  · have hbg : (n : Int) + ((d : Int) + 1) - 1 > 2001 := by omega
    go_enter Try.func191, Try.ntmps191
    go_wp2
    go_ret2
    exact retPQ_no (Below.refl _ _) (by decide)
  · have hbg : ¬ (n : Int) + ((d : Int) + 1) - 1 > 2001 := by omega
    have hmk : ∀ W : World, (Instr.makeSlice 24 (.int .i64 ((n : Int) + ((d : Int) + 1) - 1)) (.int .i64 ((n : Int) + ((d : Int) + 1) - 1))).run Try.prog W = .ok (.slice (some ⟨W.heap.size, 0, none⟩) (n + d) (n + d)) (W.alloc (.cells (madeCells #[.int .i64 0] (n + d)) 2)) := fun W => by
      have := run_make_row 24 2 i0 _ Try.underlying24 hi hz0 hz1 rfl .i64 .i64 (n + d) (by rw [hz2]; omega) (by omega) W
      rwa [show ((n + d : Nat) : Int) = (n : Int) + ((d : Int) + 1) - 1 by omega] at this
    have hE := ownI_made (w := w.alloc (.cells (madeCells #[.int .i64 0] (n + d)) 2)) (e := 2) (base := w.heap.size) (g := w.heap.size) (n := n + d) (Blk.new' rfl) (Nat.le_refl _) (by unfold maxLen; omega)
    have hb : Below w.heap.size w (w.alloc (.cells (madeCells #[.int .i64 0] (n + d)) 2)) := (Below.refl _ _).alloc (Nat.le_refl _) _
    rw [← HST.out] at hE
    have HB0 : Hid (∀ i, i < n + d → coB (gI (cvL p (binL d) (n + d) 0 0) i)) := Lib.hid (fun i hi => by rw [HST.out, gI_rep hi]; unfold coB; omega)
    go_enter Try.func191, Try.ntmps191
    go_upto_region 6 with fail
    generalize w.alloc (.cells (madeCells #[.int .i64 0] (n + d)) 2) = w1 at *
    clear hmk
    go_wp2_with fail
    go_loopw [38] (fun kv wr => ∃ k : Nat, k ≤ d + 1 ∧ kv = .int .i64 (k : Int) ∧ OwnI wr w.heap.size (.slice (some ⟨w.heap.size, 0, none⟩) (n + d) (n + d)) (cvL p (binL d) (n + d) k 0) ∧ Hid (∀ i, i < n + d → coB (gI (cvL p (binL d) (n + d) k 0) i)) ∧ Below w.heap.size w wr) (fun kv _ => d + 1 - (intOf kv).toNat)
    case atStart => exact ⟨0, by omega, rfl, hE, HB0, hb⟩
    case round =>
      obtain ⟨k, hk, rfl, hO, HB, hbl⟩ := hrel
      clear hE HB0 hb
      obtain ⟨wo, rfl⟩ : ∃ wo : World, wo = wr := ⟨_, rfl⟩
      by_cases hlt : k < d + 1
      · have hki : (k : Int) < (d : Int) + 1 := by omega
        have dq := HCQ.out k hlt
        rw [← hbl.cell (p := ⟨bq, oq + k, none⟩) hbq] at dq
        by_cases hq0 : gI (binL d) k = 0
        · rw [hq0] at dq
          rw [HSKIP.out k hq0] at hO HB
          have HR := Lib.hid (show OwnI wo w.heap.size (.slice (some ⟨w.heap.size, 0, none⟩) (n + d) (n + d)) (cvL p (binL d) (n + d) (k + 1) 0) ∧ Below w.heap.size w wo from ⟨hO, hbl⟩)
          clear hO hbl
          go_wp2
          go_roundw
          case rel => exact ⟨k + 1, by omega, by go_num, HR.out.1, HB, HR.out.2⟩
          case measure => simp [intOf]; omega
        · have hqz : (gI (binL d) k == 0) = false := beq_eq_false_iff_ne.2 hq0
          have hqb := HQB.out k hlt
          have hqc : coB (gI (binL d) k) := by unfold coB; omega
          have HST2 := Lib.hid (fun i (hi : i < n) => HSET.out k i hi (by omega))
          clear HSKIP hqb hq0
          obtain ⟨q, hqq⟩ : ∃ q, gI (binL d) k = q := ⟨_, rfl⟩
          rw [hqq] at dq hqz hqc HST2
          have HQQ := Lib.hid hqq
          clear hqq
          go_wp2_with fail
          go_loopw [47] (fun iv wr => ∃ i : Nat, i ≤ n ∧ iv = .int .i64 (i : Int) ∧ OwnI wr w.heap.size (.slice (some ⟨w.heap.size, 0, none⟩) (n + d) (n + d)) (cvL p (binL d) (n + d) k i) ∧ Hid (∀ z, z < n + d → coB (gI (cvL p (binL d) (n + d) k i) z)) ∧ Below w.heap.size w wr) (fun iv _ => n - (intOf iv).toNat)
          case atStart => exact ⟨0, by omega, rfl, hO, HB, hbl⟩
          case round =>
            obtain ⟨i, hi2, rfl, hO2, HB2, hbl2⟩ := hrel
            clear hO HB hbl dq
            obtain ⟨wo, rfl⟩ : ∃ wo : World, wo = wr := ⟨_, rfl⟩
            by_cases hil : i < n
            · have hii : (i : Int) < (n : Int) := by omega
              have hikl : i + k < n + d := by omega
              have hik : (i : Int) + (k : Int) < (n : Int) + (d : Int) := by omega
              have hik0 : (0 : Int) ≤ (i : Int) + (k : Int) := by omega
              have dp := HCP.out i hil
              rw [← hbl2.cell (p := ⟨bp, op + i, none⟩) hbp] at dp
              have hO3 : OwnI wo w.heap.size (.slice (some ⟨w.heap.size, 0, none⟩) (cvL p (binL d) (n + d) k i).length (n + d)) (cvL p (binL d) (n + d) k i) := by rw [HLEN.out]; exact hO2
              have cx := hO3.cell (i + k) (by rw [HLEN.out]; exact hikl)
              have fx := hO3.free (i + k)
              have hxb := HB2.out (i + k) hikl
              have hpb := HPB.out i hil
              have hst := HST2.out i hil
              have sx := fun y => hO3.set (i + k) y
              obtain ⟨x, hx⟩ : ∃ x, gI (cvL p (binL d) (n + d) k i) (i + k) = x := ⟨_, rfl⟩
              obtain ⟨pi, hpi⟩ : ∃ x, gI p i = x := ⟨_, rfl⟩
              rw [hx] at cx hxb hst
              rw [hpi] at dp hpb hst
              have HST3 := Lib.hid hst
              have HSX := Lib.hid sx
              clear hst sx hx hpi hO3 hO2
              go_wp2_with fail
              refine (plusProduct_c x pi q _ hxb hpb hqc).mono ?_
              rintro e w2 ⟨⟨y, ok, rfl, hy⟩, rfl⟩
              have HY := Lib.hid hy
              clear hy
              cases ok
              · go_wp2
                go_ret2
                exact retPQ_no hbl2 (by decide)
              · obtain ⟨hy1, hy2⟩ := HY.out rfl
                have hO4 := HSX.out y
                rw [hy1, HST3.out, HLEN.out, ← hy1] at hO4
                have HR := Lib.hid (show OwnI (wo.setCell ⟨w.heap.size, i + k, none⟩ (.int .i64 y)) w.heap.size (.slice (some ⟨w.heap.size, 0, none⟩) (n + d) (n + d)) (cvL p (binL d) (n + d) k (i + 1)) ∧ Below w.heap.size w (wo.setCell ⟨w.heap.size, i + k, none⟩ (.int .i64 y)) from ⟨hO4, hbl2.setCell (p := ⟨w.heap.size, i + k, none⟩) (Nat.le_refl _) _⟩)
                have HB3 : Hid (∀ z, z < n + d → coB (gI (cvL p (binL d) (n + d) k (i + 1)) z)) := Lib.hid (fun z hz => by
                  rw [← HST3.out, ← hy1]
                  by_cases e : i + k = z
                  · subst e; rw [gI_set_at (by rw [HLEN.out]; exact hz)]; exact hy2
                  · rw [gI_set_ne e]; exact HB2.out z hz)
                clear hO4 hy1 hy2 hbl2 HSX
                go_wp2
                go_roundw
                case rel => exact ⟨i + 1, by omega, by go_num, HR.out.1, HB3, HR.out.2⟩
                case measure => simp [intOf]; omega
            · have hie : i = n := by omega
              have hii : ¬ (i : Int) < (n : Int) := by omega
              rw [hie] at hO2 HB2
              have HR := Lib.hid (show OwnI wo w.heap.size (.slice (some ⟨w.heap.size, 0, none⟩) (n + d) (n + d)) (cvL p (binL d) (n + d) (k + 1) 0) ∧ Below w.heap.size w wo from ⟨by rw [← HNEXT.out]; exact hO2, hbl2⟩)
              have HB3 : Hid (∀ z, z < n + d → coB (gI (cvL p (binL d) (n + d) (k + 1) 0) z)) := Lib.hid (fun z hz => by rw [← HNEXT.out]; exact HB2.out z hz)
              clear hO2 hbl2 hie
              go_wp2
              go_roundw
              case rel => exact ⟨k + 1, by omega, by go_num, HR.out.1, HB3, HR.out.2⟩
              case measure => simp [intOf]; omega
      · have hke : k = d + 1 := by omega
        have hki : ¬ (k : Int) < (d : Int) + 1 := by omega
        subst hke
        have HR : Hid (RetPQ w (fun q => q.length = n + d ∧ gz q = nd d (gz p)) (.returned (.tuple #[.slice (some ⟨w.heap.size, 0, none⟩) (n + d) (n + d), .int .i64 0])) wo) := Lib.hid
          ⟨_, _, _, cvL p (binL d) (n + d) (d + 1) 0, 0, rfl, HLEN.out _ _, hO.rd, hbl, fun _ => ⟨⟨by rw [HLEN.out]; omega, by rw [HLEN.out]; omega, fun i hi => HB.out i (by rw [HLEN.out] at hi; exact hi)⟩, HLEN.out _ _, HE.out⟩⟩
        clear hO hbl
        go_wp2
        go_ret2
        exact HR.out
end Go.Proofs.Ytiinceflafigeaa

/- Contract: impl.quotientOf by a binomial. -/
namespace Go.Proofs.Ytiinceflafigeaa
open Go.RowKit

theorem Try.infoN : (Try.prog.info? 3).map (fun i => (i.zero, i.size, i.bytes)) = some (some (.int .i64 0), 1, 8) := by kernel_rfl
/-- The places of a binomial's numbers, below k. -/
def plcL (d k : Nat) : List Int := if k = 0 then [] else if k ≤ d then [0] else [0, (d : Int)]
theorem plcL_one (d : Nat) (h : 1 ≤ d) : plcL d 1 = [0] := by unfold plcL; rw [if_neg (by omega), if_pos h]
theorem plcL_mid {d k : Nat} (h : 1 ≤ k) (h2 : k ≤ d) : plcL d k = [0] := by unfold plcL; rw [if_neg (by omega), if_pos h2]
theorem plcL_end (d : Nat) : plcL d (d + 1) = [0, (d : Int)] := by unfold plcL; rw [if_neg (by omega), if_neg (by omega)]
theorem ownN_empty (w : World) : Own 3 (w.alloc (.cells #[] 3)) w.heap.size (.slice (some ⟨w.heap.size, 0, none⟩) 0 0) [] :=
  World.ownsRow_lit w #[] 0 (Nat.le_refl _) (by unfold maxLen; omega) rfl
/-- How the inner loop of the quotient stands: none, one, both numbers are taken off. -/
def QuoS (p O R : List Int) (d j : Nat) (i : Nat) (R' : List Int) : Prop :=
  (i = 0 → R' = R) ∧ (i = 1 → R' = R.set j (gI R j + -(gI R (j + d)) * gI (binL d) 0)) ∧ (2 ≤ i → QuoI p (O.set j (gI R (j + d))) R' d j)
set_option maxRecDepth 100000 in
set_option maxHeartbeats 8000000 in
theorem quotientOf_c (v u : Value) (p : List Int) (d : Nat) (w : World) (h : Rd w v p) (h' : Rd w u (binL d)) (hp : PolOk p) (h1 : 1 ≤ d) (h2 : d ≤ 2000) :
    Calls Try.prog 193 #[v, u] w (RetPQ w fun q => q.length + d = p.length ∧ nd d (gz q) = gz p) := by
  obtain ⟨i0, hi, hz0, hz1, hz2⟩ := info_parts Try.infoI
  obtain ⟨iN, hiN, hzN0, hzN1, hzN2⟩ := info_parts Try.infoN
  obtain ⟨hp0, hp1, hp2⟩ := hp
  obtain ⟨bp, op, kp, rfl, _, _, hbp, hcp⟩ := h.cells hp0
  obtain ⟨bq, oq, kq, rfl, _, _, hbq, hcq⟩ := h'.cells (by simp)
  simp only [binL_len] at hcq ⊢
  have HP := Lib.hid hp2
  have HCQ := Lib.hid hcq
  have HQB := Lib.hid (fun k (hk : k < d + 1) => binL_bd (d := d) hk)
  have HQ0 : Hid (gI (binL d) 0 = -1) := Lib.hid (by rw [gI_binL (by omega), if_pos rfl])
  have HQD : Hid (gI (binL d) d = 1) := Lib.hid (by rw [gI_binL (by omega), if_neg (by omega), if_pos rfl])
  have HQM : Hid (∀ k, 1 ≤ k → k < d → gI (binL d) k = 0) := Lib.hid (fun k a b => by rw [gI_binL (by omega), if_neg (by omega), if_neg (by omega)])
  clear hcq hp2
  have e2 : ((d : Int) + 1 == 0) = false := beq_eq_false_iff_ne.2 (by omega)
  by_cases hsm : p.length < d + 1
  · have hsm2 : (p.length : Int) < (d : Int) + 1 := by omega
    have hpp : (p.length : Int) > 0 := by omega
    clear h h' hcp
    go_enter Try.func193, Try.ntmps193
    go_wp2
    go_ret2
    exact retPQ_no (Below.refl _ _) (by decide)
  · obtain ⟨m, hm⟩ : ∃ m, p.length = m + d := ⟨p.length - d, by omega⟩
    have hm1 : 1 ≤ m := by omega
    have hsm2 : ¬ (m : Int) + (d : Int) < (d : Int) + 1 := by omega
    have hpp : (m : Int) + (d : Int) > 0 := by omega
    have hpz : ((m : Int) + (d : Int) == 0) = false := beq_eq_false_iff_ne.2 (by omega)
    have HM := Lib.hid hm
    rw [hm] at hp0 hp1 h hcp ⊢
    have HCP := Lib.hid hcp
    clear hcp hsm hm
    have hE := ownN_empty w
    have hb : Below w.heap.size w (w.alloc (.cells #[] 3)) := (Below.refl _ _).alloc (Nat.le_refl _) _
    go_enter Try.func193, Try.ntmps193
    go_upto_region 6 with fail
    generalize w.alloc (.cells #[] 3) = w1 at *
    go_wp2_with fail
    go_loopw [6, 41] (fun pv kv wr => ∃ (k m a c : Nat), k ≤ d + 1 ∧ kv = .int .i64 (k : Int) ∧ pv = .slice (some ⟨a, 0, none⟩) m c ∧ (plcL d k).length = m ∧ m ≤ k ∧ Own 3 wr w.heap.size (.slice (some ⟨a, 0, none⟩) m c) (plcL d k) ∧ Below w.heap.size w wr) (fun _ kv _ => d + 1 - (intOf kv).toNat)
    case atStart => exact ⟨0, 0, _, _, by omega, rfl, rfl, rfl, by omega, hE, hb⟩
    case round =>
      obtain ⟨k, ml, a, c, hk, rfl, rfl, hml, hmk, hO, hbl⟩ := hrel
      clear hE hb
      obtain ⟨wo, rfl⟩ : ∃ wo : World, wo = wr := ⟨_, rfl⟩
      by_cases hlt : k < d + 1
      · have hki : (k : Int) < (d : Int) + 1 := by omega
        have dq := HCQ.out k hlt
        rw [← hbl.cell (p := ⟨bq, oq + k, none⟩) hbq] at dq
        by_cases hmid : 1 ≤ k ∧ k < d
        · rw [HQM.out k hmid.1 hmid.2] at dq
          have HR := Lib.hid (show Own 3 wo w.heap.size (.slice (some ⟨a, 0, none⟩) ml c) (plcL d (k + 1)) ∧ Below w.heap.size w wo ∧ (plcL d (k + 1)).length = ml from by
            rw [plcL_mid hmid.1 (by omega)] at hO hml
            rw [plcL_mid (by omega) (by omega)]
            exact ⟨hO, hbl, hml⟩)
          clear hO hbl hml
          go_wp2
          go_roundw
          case rel => exact ⟨k + 1, ml, a, c, by omega, by go_num, rfl, HR.out.2.2, by omega, HR.out.1, HR.out.2.1⟩
          case measure => simp [intOf]; omega
        · have hnx : plcL d (k + 1) = plcL d k ++ [(k : Int)] := by
            by_cases hk0 : k = 0
            · subst hk0; rw [plcL_one d h1]; rfl
            · have hkd : k = d := by omega
              subst hkd; rw [plcL_end, plcL_mid h1 (Nat.le_refl _)]; rfl
          have hqn : (gI (binL d) k == 0) = false := by
            rw [beq_eq_false_iff_ne]
            by_cases hk0 : k = 0
            · subst hk0; rw [HQ0.out]; decide
            · have hkd : k = d := by omega
              subst hkd; rw [HQD.out]; decide
          have hqn2 : (gI (binL d) k != 0) = true := by rw [bne, hqn]; rfl
          have HNX := Lib.hid hnx
          have hsz := hbl.size
          clear hnx hmid
          generalize gI (binL d) k = q at *
          generalize plcL d k = X at *
          subst hml
          go_wp2_with (at_builtin; refine wpList_pushL rfl (.tmp 48) (.tmp 50) 157 rfl w.heap.size 3 iN Try.underlying157 hiN hzN0 hzN1 hzN2 _ X (k : Int) rfl hO rfl (by omega) hsz ?_; intro g cap w2 ho hk2 hl)
          have HR := Lib.hid (show Own 3 w2 w.heap.size (.slice (some ⟨g, 0, none⟩) (X.length + 1) cap) (plcL d (k + 1)) ∧ Below w.heap.size w w2 ∧ (plcL d (k + 1)).length = X.length + 1 from ⟨by rw [HNX.out]; exact ho, hbl.trans (hk2.below hbl.size (fun b e => (hO.block b e).1)), by rw [HNX.out]; simp⟩)
          clear ho hk2 hl hO hbl
          go_wp2
          go_roundw
          case rel => exact ⟨k + 1, _, _, _, by omega, by go_num, rfl, HR.out.2.2, by omega, HR.out.1, HR.out.2.1⟩
          case measure => simp [intOf]; omega
      · have hke : k = d + 1 := by omega
        have hki : ¬ (k : Int) < (d : Int) + 1 := by omega
        subst hke
        rw [plcL_end] at hO hml
        have hml2 : ml = 2 := by simp at hml; omega
        subst hml2
        have hlv := h.below hbl (Nat.le_refl _)
        clear hml hmk hk
        go_wp2_with fail
        refine (clone_c _ p _ hlv (by rw [HM.out]; omega) (by rw [HM.out]; omega)).mono ?_
        rintro e w2 ⟨ar, kr, rfl, hoR, hb2⟩
        rw [HM.out] at hoR ⊢
        obtain ⟨gr, hgr, hgr1, hgr2⟩ : ∃ gr, ar = some ⟨gr, 0, none⟩ ∧ wo.heap.size ≤ gr ∧ gr < w2.heap.size := by
          rcases hoR.shape with ⟨q1, q2⟩ | ⟨g, cap, q1, q2, q3, _⟩
          · have := HM.out; rw [q2] at this; simp at this; omega
          · injection q1 with q1 _ _; exact ⟨g, q1, q2, q3⟩
        subst hgr
        have hga := hO.block a rfl
        have hO2 := hO.below hb2 (Nat.le_refl _)
        have hbl2 := below_step hbl hb2
        clear hlv hbl hb2 hO
        have hmk : ∀ W : World, (Instr.makeSlice 24 (.int .i64 ((m : Int) + (d : Int) - ((d : Int) + 1) + 1)) (.int .i64 ((m : Int) + (d : Int) - ((d : Int) + 1) + 1))).run Try.prog W = .ok (.slice (some ⟨W.heap.size, 0, none⟩) m m) (W.alloc (.cells (madeCells #[.int .i64 0] m) 2)) := fun W => by
          have := run_make_row 24 2 i0 _ Try.underlying24 hi hz0 hz1 rfl .i64 .i64 m (by rw [hz2]; omega) (by omega) W
          rwa [show (m : Int) = (m : Int) + (d : Int) - ((d : Int) + 1) + 1 by omega] at this
        have hX := ownI_made (w := w2.alloc (.cells (madeCells #[.int .i64 0] m) 2)) (e := 2) (base := w.heap.size) (g := w2.heap.size) (n := m) (Blk.new' rfl) (Below.size hbl2) (by unfold maxLen; omega)
        have hal : Below w2.heap.size w2 (w2.alloc (.cells (madeCells #[.int .i64 0] m) 2)) := (Below.refl _ _).alloc (Nat.le_refl _) _
        have hO3 := hO2.below hal (Nat.le_refl _)
        have hR3 := (hoR.below hal (Nat.le_refl _)).base_le (base' := w.heap.size) (by omega)
        have hbl3 := below_step hbl2 hal
        have hsz3 : w2.heap.size < (w2.alloc (.cells (madeCells #[.int .i64 0] m) 2)).heap.size := by simp
        go_upto_region 14 with fail
        clear hO2 hoR hbl2 hal hmk
        generalize w2.alloc (.cells (madeCells #[.int .i64 0] m) 2) = w3 at *
        have dql := HCQ.out d (by omega)
        rw [HQD.out, ← hbl3.cell (p := ⟨bq, oq + d, none⟩) hbq] at dql
        have HB0 : Hid (∀ i, i < m + d → coB (gI p i)) := Lib.hid (fun i hi => HP.out i (by rw [HM.out]; exact hi))
        have HQI : Hid (QuoI p (List.replicate m 0) p d m) := Lib.hid (by
          have := quo_start (p := p) (d := d) (by rw [HM.out]; omega)
          rwa [HM.out, Nat.add_sub_cancel] at this)
        have HBO : Hid (∀ i, i < m → coB (gI (List.replicate m 0) i)) := Lib.hid (fun i hi => by rw [gI_rep hi]; unfold coB; omega)
        go_wp2_with fail
        go_loopw [12] (fun kv wr => ∃ (k : Nat) (O R : List Int), k ≤ m ∧ kv = .int .i64 ((k : Int) - 1) ∧ OwnI wr w.heap.size (.slice (some ⟨w2.heap.size, 0, none⟩) m m) O ∧ OwnI wr w.heap.size (.slice (some ⟨gr, 0, none⟩) (m + d) kr) R ∧ Own 3 wr w.heap.size (.slice (some ⟨a, 0, none⟩) 2 c) [0, (d : Int)] ∧ Hid (QuoI p O R d k) ∧ Hid (∀ i, i < m + d → coB (gI R i)) ∧ Hid (∀ i, i < m → coB (gI O i)) ∧ Below w.heap.size w wr) (fun kv _ => (intOf kv + 1).toNat)
        case atStart => exact ⟨m, _, _, Nat.le_refl _, rfl, hX, hR3, hO3, HQI, HB0, HBO, hbl3⟩
        case round =>
          obtain ⟨k, O, R, hk, rfl, hX4, hR4, hO4, HQ4, HB4, HBO4, hbl4⟩ := hrel
          clear hX hR3 hO3 hbl3 HQI HB0 HBO dql hsz3
          obtain ⟨wo, rfl⟩ : ∃ wo : World, wo = wr := ⟨_, rfl⟩
          have hlO : O.length = m := by have := HQ4.out.1; rw [HM.out] at this; omega
          have hlR : R.length = m + d := by have := HQ4.out.2.1; rw [HM.out] at this; omega
          by_cases hk0 : k = 0
          · subst hk0
            have hrr : Rd wo (.slice (some ⟨gr, 0, none⟩) (m + d) kr) R := hR4.rd
            go_wp2_with fail
            refine (trimmed_c _ R _ hrr).mono ?_
            rintro e w5 ⟨⟨ta, tn, tk, rfl, htz⟩, rfl⟩
            by_cases ht0 : tn = 0
            · subst ht0
              have HR : Hid (RetPQ w (fun q => q.length + d = m + d ∧ nd d (gz q) = gz p) (.returned (.tuple #[.slice (some ⟨w2.heap.size, 0, none⟩) m m, .int .i64 0])) wo) := Lib.hid
                ⟨_, _, _, O, 0, rfl, hlO, hX4.rd, hbl4, fun _ => ⟨⟨by omega, by omega, fun i hi => HBO4.out i (by omega)⟩, by omega, quo_end HQ4.out (htz rfl)⟩⟩
              clear hX4 hR4 hO4 hbl4 htz hrr hlO hlR
              go_wp2
              go_ret2
              exact HR.out
            · have htp : (tn : Int) > 0 := by omega
              clear htz hrr
              go_wp2
              go_ret2
              exact retPQ_no hbl4 (by decide)
          · obtain ⟨j, rfl⟩ : ∃ j, k = j + 1 := ⟨k - 1, by omega⟩
            have ej : ((j + 1 : Nat) : Int) - 1 = j := by omega
            rw [ej]
            have hR5 : OwnI wo w.heap.size (.slice (some ⟨gr, 0, none⟩) R.length kr) R := by rw [hlR]; exact hR4
            have hX5 : OwnI wo w.heap.size (.slice (some ⟨w2.heap.size, 0, none⟩) O.length m) O := by rw [hlO]; exact hX4
            have ct := hR5.cell (j + d) (by omega)
            obtain ⟨t, ht⟩ : ∃ t, gI R (j + d) = t := ⟨_, rfl⟩
            rw [ht] at ct
            have htb := HB4.out (j + d) (by omega)
            rw [ht] at htb
            have hij0 : (0 : Int) ≤ (j : Int) := by omega
            have hij1 : (j : Int) < (m : Int) := by omega
            have hix : (j : Int) + ((d : Int) + 1) - 1 = ((j + d : Nat) : Int) := by omega
            have hix1 : ((j + d : Nat) : Int) < (m : Int) + (d : Int) := by omega
            have cX := hX5.cell j (by omega)
            have fX := hX5.free j
            have hX6 := hX5.set j t
            rw [hlO] at hX6
            have hw2 : w.heap.size ≤ w2.heap.size := by omega
            have hks := (Keeps.refl (fun q => q = w2.heap.size) wo).setCell (p := ⟨w2.heap.size, j, none⟩) rfl (.int .i64 t)
            have hR6 := hR4.keeps hks (fun g hg e => by simp [Value.ownBlock] at hg; omega)
            have hO6 := hO4.keeps hks (fun g hg e => by simp [Value.ownBlock] at hg; omega)
            have hbl6 := hbl4.setCell (p := ⟨w2.heap.size, j, none⟩) hw2 (.int .i64 t)
            have HBO6 : Hid (∀ i, i < m → coB (gI (O.set j t) i)) := Lib.hid (fun i hi => by
              by_cases e : j = i
              · subst e; rw [gI_set_at (by omega)]; exact htb
              · rw [gI_set_ne e]; exact HBO4.out i hi)
            clear hX4 hR4 hO4 hbl4 hX5 hR5 hks
            by_cases ht0 : t = 0
            · subst ht0
              have HQ6 : Hid (QuoI p (O.set j 0) R d j) := Lib.hid (by
                have := quo_skip HQ4.out (by omega) (by exact ht)
                rwa [ht] at this)
              have HR := Lib.hid (show OwnI (wo.setCell ⟨w2.heap.size, j, none⟩ (.int .i64 0)) w.heap.size (.slice (some ⟨w2.heap.size, 0, none⟩) m m) (O.set j 0) ∧ OwnI (wo.setCell ⟨w2.heap.size, j, none⟩ (.int .i64 0)) w.heap.size (.slice (some ⟨gr, 0, none⟩) (m + d) kr) R ∧ Own 3 (wo.setCell ⟨w2.heap.size, j, none⟩ (.int .i64 0)) w.heap.size (.slice (some ⟨a, 0, none⟩) 2 c) [0, (d : Int)] ∧ Below w.heap.size w (wo.setCell ⟨w2.heap.size, j, none⟩ (.int .i64 0)) from ⟨hX6, hR6, hO6, hbl6⟩)
              clear hX6 hR6 hO6 hbl6 ht
              go_wp2
              go_roundw
              case rel => exact ⟨j, O.set j 0, R, by omega, by go_num, HR.out.1, HR.out.2.1, HR.out.2.2.1, HQ6, HB4, HBO6, HR.out.2.2.2⟩
              case measure => simp [intOf]
            · have htz : (t == 0) = false := beq_eq_false_iff_ne.2 ht0
              have htb2 := htb
              unfold coB at htb2
              have hnt : coB (-t) := by unfold coB; omega
              have HT := Lib.hid ht
              have HQS : Hid (QuoS p O R d j 0 R) := Lib.hid ⟨fun _ => rfl, fun h => by omega, fun h => by omega⟩
              clear ht ht0
              go_upto_region 23 with fail
              clear cX fX ct hix hix1
              generalize wo.setCell ⟨w2.heap.size, j, none⟩ (.int .i64 t) = w6 at *
              go_wp2_with fail
              go_loopw [98] (fun iv wr => ∃ (i : Nat) (R' : List Int), i ≤ 2 ∧ iv = .int .i64 (i : Int) ∧ OwnI wr w.heap.size (.slice (some ⟨w2.heap.size, 0, none⟩) m m) (O.set j t) ∧ OwnI wr w.heap.size (.slice (some ⟨gr, 0, none⟩) (m + d) kr) R' ∧ Own 3 wr w.heap.size (.slice (some ⟨a, 0, none⟩) 2 c) [0, (d : Int)] ∧ Hid (QuoS p O R d j i R') ∧ R'.length = m + d ∧ Hid (∀ i, i < m + d → coB (gI R' i)) ∧ Below w.heap.size w wr) (fun iv _ => 2 - (intOf iv).toNat)
              case atStart => exact ⟨0, R, by omega, rfl, hX6, hR6, hO6, HQS, hlR, HB4, hbl6⟩
              case round =>
                obtain ⟨i, R', hi2, rfl, hX8, hR8, hO8, HQ8, hlR', HB8, hbl8⟩ := hrel
                clear hX6 hR6 hO6 hbl6 HQS
                obtain ⟨wo, rfl⟩ : ∃ wo : World, wo = wr := ⟨_, rfl⟩
                by_cases hi0 : i = 0
                · subst hi0
                  have hpc := hO8.cell 0 (by simp)
                  have dq := HCQ.out 0 (by omega)
                  rw [HQ0.out, ← hbl8.cell (p := ⟨bq, oq + 0, none⟩) hbq] at dq
                  rw [Nat.add_zero] at dq
                  have hpd : wo.cell? ⟨a, 0, none⟩ = some (.int .i64 0) := hpc
                  clear hpc
                  have hRc : OwnI wo w.heap.size (.slice (some ⟨gr, 0, none⟩) R'.length kr) R' := by rw [hlR']; exact hR8
                  have cx := hRc.cell j (by omega)
                  have fx := hRc.free j
                  obtain ⟨x, hx⟩ : ∃ x, gI R' j = x := ⟨_, rfl⟩
                  rw [hx] at cx
                  have hxb := HB8.out j (by omega)
                  rw [hx] at hxb
                  have HX := Lib.hid hx
                  have HS := Lib.hid (fun n y => (hRc.below (below_drewN (Below.refl wo.heap.size wo) n) (Nat.le_refl _)).set j y)
                  have hz0 : (0 : Int) ≤ (j : Int) := by omega
                  have hz1' : (j : Int) < (m : Int) + (d : Int) := by omega
                  have HPO := Lib.hid (show ppB x (-t) (-1) = true → ppV x (-t) (-1) = x + -t * (-1) ∧ coB (ppV x (-t) (-1)) from pp_ok hxb)
                  obtain ⟨V, hV⟩ : ∃ V, ppV x (-t) (-1) = V := ⟨_, rfl⟩
                  obtain ⟨B, hB⟩ : ∃ B, ppB x (-t) (-1) = B := ⟨_, rfl⟩
                  rw [hV, hB] at HPO
                  clear hx hRc
                  go_wp2_with fail
                  go_quiet ((go_at_call 221; exact quiet_eq ((plusX_c x (-t) (-1) _ hxb hnt (by unfold coB; omega)).mono fun e w' ⟨he, hw'⟩ => ⟨by rw [he, hV, hB], hw'⟩)))
                  cases B
                  · go_wp2
                    go_ret2
                    exact retPQ_no (below_drewN hbl8 _) (by decide)
                  · obtain ⟨hV1, hV2⟩ := HPO.out rfl
                    have HALL : Hid (∀ n, OwnI ((wo.drewN n).setCell ⟨gr, j, none⟩ (.int .i64 V)) w.heap.size (.slice (some ⟨w2.heap.size, 0, none⟩) m m) (O.set j t) ∧ OwnI ((wo.drewN n).setCell ⟨gr, j, none⟩ (.int .i64 V)) w.heap.size (.slice (some ⟨gr, 0, none⟩) (m + d) kr) (R'.set j V) ∧ Own 3 ((wo.drewN n).setCell ⟨gr, j, none⟩ (.int .i64 V)) w.heap.size (.slice (some ⟨a, 0, none⟩) 2 c) [0, (d : Int)] ∧ Below w.heap.size w ((wo.drewN n).setCell ⟨gr, j, none⟩ (.int .i64 V))) := Lib.hid (fun n => by
                      have hdn := below_drewN (Below.refl wo.heap.size wo) n
                      have hks := (Keeps.of_below (M := fun q => q = gr) hdn).setCell (p := ⟨gr, j, none⟩) rfl (.int .i64 V)
                      have h9 := HS.out n V
                      rw [hlR'] at h9
                      exact ⟨hX8.keeps hks (fun g hg e => by simp [Value.ownBlock] at hg; omega), h9, hO8.keeps hks (fun g hg e => by simp [Value.ownBlock] at hg; omega), (below_drewN hbl8 n).setCell (p := ⟨gr, j, none⟩) (by show w.heap.size ≤ gr; omega) _⟩)
                    have HQ9 : Hid (QuoS p O R d j 1 (R'.set j V)) := Lib.hid (by
                      have hx := HX.out
                      have ht := HT.out
                      have hq := HQ0.out
                      have h0 := HQ8.out.1 rfl
                      subst h0
                      refine ⟨fun h => by omega, fun _ => ?_, fun h => by omega⟩
                      rw [ht, hx, hq, hV1])
                    have HB9 : Hid (∀ i, i < m + d → coB (gI (R'.set j V) i)) := Lib.hid (fun i hi => by
                      by_cases e : j = i
                      · subst e; rw [gI_set_at (by omega)]; exact hV2
                      · rw [gI_set_ne e]; exact HB8.out i hi)
                    have hl9 : (R'.set j V).length = m + d := by simpa using hlR'
                    clear hX8 hR8 hO8 hbl8 hV1 hV2 HS
                    generalize R'.set j V = R9 at *
                    go_wp2
                    go_roundw
                    case rel => exact ⟨1, R9, by omega, by go_num, (HALL.out _).1, (HALL.out _).2.1, (HALL.out _).2.2.1, HQ9, hl9, HB9, (HALL.out _).2.2.2⟩
                    case measure => simp [intOf]
                · by_cases hi1 : i = 1
                  · subst hi1
                    have hpc := hO8.cell 1 (by simp)
                    have dq := HCQ.out d (by omega)
                    rw [HQD.out, ← hbl8.cell (p := ⟨bq, oq + d, none⟩) hbq] at dq
                    have hpd : wo.cell? ⟨a, 1, none⟩ = some (.int .i64 (d : Int)) := hpc
                    clear hpc
                    have hRc : OwnI wo w.heap.size (.slice (some ⟨gr, 0, none⟩) R'.length kr) R' := by rw [hlR']; exact hR8
                    have cx := hRc.cell (j + d) (by omega)
                    have fx := hRc.free (j + d)
                    obtain ⟨x, hx⟩ : ∃ x, gI R' (j + d) = x := ⟨_, rfl⟩
                    rw [hx] at cx
                    have hxb := HB8.out (j + d) (by omega)
                    rw [hx] at hxb
                    have HX := Lib.hid hx
                    have HS := Lib.hid (fun n y => (hRc.below (below_drewN (Below.refl wo.heap.size wo) n) (Nat.le_refl _)).set (j + d) y)
                    have hz0 : (0 : Int) ≤ (j : Int) + (d : Int) := by omega
                    have hz1' : (j : Int) + (d : Int) < (m : Int) + (d : Int) := by omega
                    have HPO := Lib.hid (show ppB x (-t) (1) = true → ppV x (-t) (1) = x + -t * (1) ∧ coB (ppV x (-t) (1)) from pp_ok hxb)
                    obtain ⟨V, hV⟩ : ∃ V, ppV x (-t) (1) = V := ⟨_, rfl⟩
                    obtain ⟨B, hB⟩ : ∃ B, ppB x (-t) (1) = B := ⟨_, rfl⟩
                    rw [hV, hB] at HPO
                    clear hx hRc
                    go_wp2_with fail
                    go_quiet ((go_at_call 221; exact quiet_eq ((plusX_c x (-t) (1) _ hxb hnt (by unfold coB; omega)).mono fun e w' ⟨he, hw'⟩ => ⟨by rw [he, hV, hB], hw'⟩)))
                    cases B
                    · go_wp2
                      go_ret2
                      exact retPQ_no (below_drewN hbl8 _) (by decide)
                    · obtain ⟨hV1, hV2⟩ := HPO.out rfl
                      have HALL : Hid (∀ n, OwnI ((wo.drewN n).setCell ⟨gr, j + d, none⟩ (.int .i64 V)) w.heap.size (.slice (some ⟨w2.heap.size, 0, none⟩) m m) (O.set j t) ∧ OwnI ((wo.drewN n).setCell ⟨gr, j + d, none⟩ (.int .i64 V)) w.heap.size (.slice (some ⟨gr, 0, none⟩) (m + d) kr) (R'.set (j + d) V) ∧ Own 3 ((wo.drewN n).setCell ⟨gr, j + d, none⟩ (.int .i64 V)) w.heap.size (.slice (some ⟨a, 0, none⟩) 2 c) [0, (d : Int)] ∧ Below w.heap.size w ((wo.drewN n).setCell ⟨gr, j + d, none⟩ (.int .i64 V))) := Lib.hid (fun n => by
                        have hdn := below_drewN (Below.refl wo.heap.size wo) n
                        have hks := (Keeps.of_below (M := fun q => q = gr) hdn).setCell (p := ⟨gr, j + d, none⟩) rfl (.int .i64 V)
                        have h9 := HS.out n V
                        rw [hlR'] at h9
                        exact ⟨hX8.keeps hks (fun g hg e => by simp [Value.ownBlock] at hg; omega), h9, hO8.keeps hks (fun g hg e => by simp [Value.ownBlock] at hg; omega), (below_drewN hbl8 n).setCell (p := ⟨gr, j + d, none⟩) (by show w.heap.size ≤ gr; omega) _⟩)
                      have HQ9 : Hid (QuoS p O R d j 2 (R'.set (j + d) V)) := Lib.hid (by
                        have hx := HX.out
                        have ht := HT.out
                        have h0 := HQ8.out.2.1 rfl
                        refine ⟨fun h => by omega, fun h => by omega, fun _ => ?_⟩
                        have h3 : gI R' (j + d) = gI R (j + d) := by rw [h0, gI_set_ne (by omega)]
                        rw [h3, ht] at hx
                        have h4 := quo_step (x := gI R j + -(gI R (j + d)) * gI (binL d) 0) (y := V) HQ4.out (by omega) h1 rfl (by rw [ht, HQD.out, hV1, hx])
                        rw [← h0] at h4
                        exact h4)
                      have HB9 : Hid (∀ i, i < m + d → coB (gI (R'.set (j + d) V) i)) := Lib.hid (fun i hi => by
                        by_cases e : j + d = i
                        · subst e; rw [gI_set_at (by omega)]; exact hV2
                        · rw [gI_set_ne e]; exact HB8.out i hi)
                      have hl9 : (R'.set (j + d) V).length = m + d := by simpa using hlR'
                      clear hX8 hR8 hO8 hbl8 hV1 hV2 HS
                      generalize R'.set (j + d) V = R9 at *
                      go_wp2
                      go_roundw
                      case rel => exact ⟨2, R9, by omega, by go_num, (HALL.out _).1, (HALL.out _).2.1, (HALL.out _).2.2.1, HQ9, hl9, HB9, (HALL.out _).2.2.2⟩
                      case measure => simp [intOf]
                  · have hie : i = 2 := by omega
                    subst hie
                    have HQ9 := Lib.hid (HQ8.out.2.2 (Nat.le_refl _))
                    rw [HT.out] at HQ9
                    clear HQ8
                    go_wp2
                    go_roundw
                    case rel => exact ⟨j, O.set j t, R', by omega, by go_num, hX8, hR8, hO8, HQ9, HB8, HBO6, hbl8⟩
                    case measure => simp [intOf]
end Go.Proofs.Ytiinceflafigeaa

/- Contract: impl.BinomialProduct of rows [d, 1] and [d, -1]. -/
namespace Go.Proofs.Ytiinceflafigeaa
open Go.RowKit

/-- The rows of a list of lists of known lengths. -/
theorem RdR.atP {w : World} {a : Option Addr} {n m k : Nat} {R : List (List Int)} (h : RdR w (.slice a n k) R) (hn : R.length = n) (hp : 0 < n) (hr : ∀ i, i < n → (gR R i).length = m) (hm : 0 < m) : ∃ b off, a = some ⟨b, off, none⟩ ∧ b < w.heap.size ∧ ∀ i, i < n → ∃ br or kr, w.cell? ⟨b, off + i, none⟩ = some (.slice (some ⟨br, or, none⟩) m kr) ∧ br < w.heap.size ∧ ∀ j, j < m → w.cell? ⟨br, or + j, none⟩ = some (.int .i64 (gI (gR R i) j)) := by
  subst hn
  obtain ⟨b, off, cap, he, _, _, hb, hc⟩ := h.cells hp
  injection he with e1 _ _
  refine ⟨b, off, e1, hb, fun i hi => ?_⟩
  obtain ⟨u, hu, hrd⟩ := hc i hi
  obtain ⟨br, or, kr, rfl, _, _, hbr, hcr⟩ := hrd.cells (by rw [hr i hi]; exact hm)
  refine ⟨br, or, kr, by rw [hu, hr i hi], hbr, fun j hj => hcr j (by rw [hr i hi]; exact hj)⟩
theorem one_ok : PolOk [1] := ⟨by decide, by decide, fun i hi => by
  have : i = 0 := by simp at hi; omega
  subst this; unfold coB; decide⟩
theorem gz_one : gz [1] = delF := by
  funext z
  unfold gz delF
  by_cases h : z = 0
  · subst h; rfl
  · rw [if_neg h, if_neg (by simp; omega)]
theorem take_zero_up (R : List (List Int)) (f : Int → Int) : upM (R.take 0) f = f ∧ upD (R.take 0) = 0 ∧ dnM (R.take 0) f = f ∧ dnD (R.take 0) = 0 := ⟨rfl, rfl, rfl, rfl⟩
theorem row_up {R : List (List Int)} {k : Nat} (h : k < R.length) {d : Int} (h0 : gI (gR R k) 0 = d) (h1 : gI (gR R k) 1 = 1) : (∀ f, upM (R.take (k + 1)) f = nd d (upM (R.take k) f)) ∧ upD (R.take (k + 1)) = upD (R.take k) + d ∧ (∀ f, dnM (R.take (k + 1)) f = dnM (R.take k) f) ∧ dnD (R.take (k + 1)) = dnD (R.take k) := by
  refine ⟨fun f => ?_, ?_, fun f => ?_, ?_⟩
  · rw [upM_step h, h0, h1]; rfl
  · rw [upD_step h, h0, h1]; show _ + d * 1 = _; omega
  · rw [dnM_step h, h0, h1]; rfl
  · rw [dnD_step h, h0, h1]; show _ + d * 0 = _; omega
theorem row_dn {R : List (List Int)} {k : Nat} (h : k < R.length) {d : Int} (h0 : gI (gR R k) 0 = d) (h1 : gI (gR R k) 1 = -1) : (∀ f, upM (R.take (k + 1)) f = upM (R.take k) f) ∧ upD (R.take (k + 1)) = upD (R.take k) ∧ (∀ f, dnM (R.take (k + 1)) f = nd d (dnM (R.take k) f)) ∧ dnD (R.take (k + 1)) = dnD (R.take k) + d := by
  refine ⟨fun f => ?_, ?_, fun f => ?_, ?_⟩
  · rw [upM_step h, h0, h1]; rfl
  · rw [upD_step h, h0, h1]; show _ + d * 0 = _; omega
  · rw [dnM_step h, h0, h1]; rfl
  · rw [dnD_step h, h0, h1]; show _ + d * 1 = _; omega
theorem ownI_lit1 (w : World) : OwnI (w.alloc (.cells #[.int .i64 1] 2)) w.heap.size (.slice (some ⟨w.heap.size, 0, none⟩) 1 1) [1] :=
  World.ownsRow_lit w #[.int .i64 1] 1 (Nat.le_refl _) (by unfold maxLen; omega) rfl
/-- How an inner loop stands: nothing done, done. -/
def UpS (R : List (List Int)) (k i : Nat) (xs : List Int) : Prop :=
  (i = 0 → gz xs = upM (R.take k) delF ∧ (xs.length : Int) = 1 + upD (R.take k)) ∧ (i = 1 → gz xs = upM (R.take (k + 1)) delF ∧ (xs.length : Int) = 1 + upD (R.take (k + 1)))
def DnS (R : List (List Int)) (k i : Nat) (xs : List Int) : Prop :=
  (i = 0 → dnM (R.take k) (gz xs) = upM R delF ∧ (xs.length : Int) = 1 + upD R - dnD (R.take k)) ∧ (i = 1 → dnM (R.take (k + 1)) (gz xs) = upM R delF ∧ (xs.length : Int) = 1 + upD R - dnD (R.take (k + 1)))
set_option maxRecDepth 100000 in
set_option maxHeartbeats 8000000 in
theorem binProd_c (v : Value) (R : List (List Int)) (w : World) (h : RdR w v R) (hr0 : ∀ i, i < R.length → (gR R i).length = 2) (h40 : R.length ≤ 40) (hbd : ∀ i, i < R.length → (-100000000000000000 ≤ gI (gR R i) 0 ∧ gI (gR R i) 0 ≤ 100000000000000000) ∧ (gI (gR R i) 1 = 1 ∨ gI (gR R i) 1 = -1)) :
    Calls Try.prog 102 #[v] w (RetPQ w (BinP R)) := by
  obtain ⟨i0, hi, hz0, hz1, hz2⟩ := info_parts Try.infoI
  obtain ⟨n, hn⟩ : ∃ n, R.length = n := ⟨_, rfl⟩
  obtain ⟨a, cap, rfl⟩ := h.len0
  rw [hn] at h hr0 h40 hbd ⊢
  have hr := hr0
  have HBD := Lib.hid hbd
  have HN := Lib.hid hn
  have hng : ¬ (n : Int) > 40 := by omega
  clear hn hbd hr0
  go_enter Try.func102, Try.ntmps102
  go_wp2_with fail
  go_loopw [4, 23] (fun gv kv wr => ∃ (k : Nat) (g : Int), k ≤ n ∧ kv = .int .i64 (k : Int) ∧ gv = .int .i64 g ∧ 0 ≤ g ∧ g ≤ 2000 * (k : Int) ∧ Hid (g = upD (R.take k)) ∧ Hid (∀ i, i < k → 1 ≤ gI (gR R i) 0 ∧ gI (gR R i) 0 ≤ 2000) ∧ Below w.heap.size w wr) (fun _ kv _ => n - (intOf kv).toNat)
  case atStart => exact ⟨0, 0, by omega, rfl, rfl, by omega, by omega, Lib.hid rfl, Lib.hid (fun i hi => by omega), Below.refl _ _⟩
  case round =>
    obtain ⟨k, g, hk, rfl, rfl, hg0, hg1, HG, HV, hbl⟩ := hrel
    obtain ⟨wo, rfl⟩ : ∃ wo : World, wo = wr := ⟨_, rfl⟩
    by_cases hlt : k < n
    · have hki : (k : Int) < (n : Int) := by omega
      obtain ⟨b, off, rfl, hbb, hrows⟩ := h.atP HN.out (by omega : 0 < n) hr (by decide)
      obtain ⟨br, or, kr, hcr, hbr, hce⟩ := hrows k hlt
      have c0 := hce 0 (by decide)
      have c1 := hce 1 (by decide)
      rw [Nat.add_zero] at c0
      rw [← hbl.cell (p := ⟨b, off + k, none⟩) hbb] at hcr
      rw [← hbl.cell (p := ⟨br, or, none⟩) hbr] at c0
      rw [← hbl.cell (p := ⟨br, or + 1, none⟩) hbr] at c1
      clear hrows hce
      obtain ⟨hb1, hb2⟩ := HBD.out k hlt
      obtain ⟨d, hd⟩ : ∃ d, gI (gR R k) 0 = d := ⟨_, rfl⟩
      rw [hd] at hb1 c0
      cases hin : inB d 1 2000
      · clear hb2
        go_wp2_with fail
        refine (inRange_c d 1 2000 _).mono ?_
        rintro e w' ⟨rfl, rfl⟩
        rw [hin]
        clear hin
        go_wp2
        go_ret2
        exact retPQ_no hbl (by decide)
      · have hin2 := inB_iff.1 hin
        have HV2 : Hid (∀ i, i < k + 1 → 1 ≤ gI (gR R i) 0 ∧ gI (gR R i) 0 ≤ 2000) := Lib.hid (fun i hi => by
          by_cases e : i = k
          · subst e; rw [hd]; exact hin2
          · exact HV.out i (by omega))
        have HD := Lib.hid hd
        clear hd
        rcases hb2 with he | he
        · have HG2 : Hid (g + d = upD (R.take (k + 1))) := Lib.hid (by rw [(row_up (by rw [HN.out]; exact hlt) HD.out he).2.1, HG.out])
          rw [he] at c1
          have hi1 : inB 1 (-20) 20 = true := rfl
          clear he
          go_wp2_with fail
          refine (inRange_c d 1 2000 _).mono ?_
          rintro e w' ⟨rfl, rfl⟩
          rw [hin]
          go_wp2_with fail
          refine (inRange_c 1 (-20) 20 _).mono ?_
          rintro e w' ⟨rfl, rfl⟩
          rw [hi1]
          clear hin hi1
          go_wp2_with fail
          go_quiet (fail)
          go_wp2
          go_roundw
          case rel => exact ⟨k + 1, g + d, by omega, by go_num, by go_num, by omega, by omega, HG2, HV2, below_drewN hbl _⟩
          case measure => simp [intOf]; omega
        · have HG2 : Hid (g = upD (R.take (k + 1))) := Lib.hid (by rw [(row_dn (by rw [HN.out]; exact hlt) HD.out he).2.1, HG.out])
          rw [he] at c1
          have hi1 : inB (-1) (-20) 20 = true := rfl
          clear he
          go_wp2_with fail
          refine (inRange_c d 1 2000 _).mono ?_
          rintro e w' ⟨rfl, rfl⟩
          rw [hin]
          go_wp2_with fail
          refine (inRange_c (-1) (-20) 20 _).mono ?_
          rintro e w' ⟨rfl, rfl⟩
          rw [hi1]
          clear hin hi1
          go_wp2_with fail
          go_quiet (fail)
          go_wp2
          go_roundw
          case rel => exact ⟨k + 1, g, by omega, by go_num, by go_num, by omega, by omega, HG2, HV2, below_drewN hbl _⟩
          case measure => simp [intOf]; omega
    · have hke : n = k := by omega
      have hki : ¬ (k : Int) < (n : Int) := by omega
      subst hke
      by_cases hbig : 2000 < g
      · have hbg : g > 2000 := hbig
        go_wp2
        go_ret2
        exact retPQ_no hbl (by decide)
      · have hbg : ¬ g > 2000 := hbig
        go_upto_region 14 with fail
        have hR1 : Rd (wo.alloc (.cells #[.int .i64 1] 2)) (.slice (some ⟨wo.heap.size, 0, none⟩) 1 1) [1] := (ownI_lit1 wo).rd
        have hb1 := below_step hbl ((Below.refl wo.heap.size wo).alloc (Nat.le_refl _) (.cells #[.int .i64 1] 2))
        generalize wo.alloc (.cells #[.int .i64 1] 2) = wz at *
        have HU0 : Hid (gz [1] = upM (R.take 0) delF ∧ (([1] : List Int).length : Int) = 1 + upD (R.take 0)) := Lib.hid ⟨gz_one, rfl⟩
        have HOK := Lib.hid one_ok
        clear hbl hbig hbg hg0 hg1 HG hlt hki hk
        go_wp2_with fail
        go_loopw [7, 60] (fun pv kv wr => ∃ (k : Nat) (ao : Option Addr) (no co : Nat) (xs : List Int), k ≤ n ∧ kv = .int .i64 (k : Int) ∧ pv = .slice ao no co ∧ Rd wr (.slice ao no co) xs ∧ Hid (PolOk xs) ∧ Hid (gz xs = upM (R.take k) delF ∧ (xs.length : Int) = 1 + upD (R.take k)) ∧ Below w.heap.size w wr) (fun _ kv _ => n - (intOf kv).toNat)
        case atStart => exact ⟨0, _, _, _, [1], by omega, rfl, rfl, hR1, HOK, HU0, hb1⟩
        case round =>
          obtain ⟨k, ao, no, co, xs, hk, rfl, rfl, hX, HOK, HU, hbl⟩ := hrel
          clear hR1 hb1 HU0
          obtain ⟨wo, rfl⟩ : ∃ wo : World, wo = wr := ⟨_, rfl⟩
          by_cases hlt : k < n
          · have hki : (k : Int) < (n : Int) := by omega
            obtain ⟨b, off, rfl, hbb, hrows⟩ := h.atP HN.out (by omega : 0 < n) hr (by decide)
            obtain ⟨br, or, kr, hcr, hbr, hce⟩ := hrows k hlt
            have c0 := hce 0 (by decide)
            have c1 := hce 1 (by decide)
            rw [Nat.add_zero] at c0
            rw [← hbl.cell (p := ⟨b, off + k, none⟩) hbb] at hcr
            rw [← hbl.cell (p := ⟨br, or, none⟩) hbr] at c0
            rw [← hbl.cell (p := ⟨br, or + 1, none⟩) hbr] at c1
            clear hrows hce
            have hv := HV.out k hlt
            obtain ⟨d, hd⟩ : ∃ d, gI (gR R k) 0 = d := ⟨_, rfl⟩
            rw [hd] at hv c0
            obtain ⟨d, rfl⟩ := Int.eq_ofNat_of_zero_le (show 0 ≤ d by omega)
            have hd1 : 1 ≤ d := by omega
            have hd2 : d ≤ 2000 := by omega
            have HD := Lib.hid hd
            clear hd hv
            rcases (HBD.out k hlt).2 with he | he
            · obtain ⟨g1, g2, _, _⟩ := row_up (by rw [HN.out]; exact hlt) HD.out he
              have HG1 := Lib.hid g1
              have HG2 := Lib.hid g2
              rw [he] at c1
              clear g1 g2 he
              have HC := Lib.hid (show ∀ W, Below wo.heap.size wo W → W.cell? ⟨br, or, none⟩ = some (.int .i64 (d : Int)) ∧ W.cell? ⟨br, or + 1, none⟩ = some (.int .i64 1) from fun W hW => ⟨by rw [hW.cell (p := ⟨br, or, none⟩) (by show br < wo.heap.size; have := hbl.size; omega)]; exact c0, by rw [hW.cell (p := ⟨br, or + 1, none⟩) (by show br < wo.heap.size; have := hbl.size; omega)]; exact c1⟩)
              have HX0 := Lib.hid (show Hid (PolOk xs) ∧ Hid (gz xs = upM (R.take k) delF ∧ (xs.length : Int) = 1 + upD (R.take k)) from ⟨HOK, HU⟩)
              go_wp2_with fail
              go_loopw [7, 10] (fun pv iv wr => ∃ (i : Nat) (ao : Option Addr) (no co : Nat) (xs : List Int), i ≤ 1 ∧ iv = .int .i64 (i : Int) ∧ pv = .slice ao no co ∧ Rd wr (.slice ao no co) xs ∧ Hid (PolOk xs) ∧ Hid (UpS R k i xs) ∧ Below wo.heap.size wo wr ∧ Below w.heap.size w wr) (fun _ iv _ => 1 - (intOf iv).toNat)
              case atStart => exact ⟨0, _, _, _, xs, by omega, rfl, rfl, hX, HOK, Lib.hid ⟨fun _ => HU.out, fun h => by omega⟩, Below.refl _ _, hbl⟩
              case round =>
                obtain ⟨i, ai, ni, ci, ys, hi1, rfl, rfl, hY, HOY, HUY, hbo, hbw⟩ := hrel
                clear hX HOK HU hbl hcr c0 c1
                obtain ⟨wi, rfl⟩ : ∃ wi : World, wi = wr := ⟨_, rfl⟩
                obtain ⟨c0, c1⟩ := HC.out wi hbo
                by_cases hi0 : i = 0
                · subst hi0
                  go_wp2_with fail
                  refine (binomial_c d _ hd1 hd2).mono ?_
                  rintro e w3 ⟨ab, kb, rfl, hob, hbb3⟩
                  rw [binL_len] at hob ⊢
                  have hY3 := hY.below hbb3 (Nat.le_refl _)
                  have hbo3 := below_step hbo hbb3
                  have hbw3 := below_step hbw hbb3
                  clear hY hbo hbw hbb3 c0 c1
                  go_wp2_with fail
                  refine (productOf_c _ _ ys d _ hY3 hob.rd HOY.out hd1 hd2).mono ?_
                  rintro e w4 ⟨aq, nq, kq, zs, cq, rfl, hzl, hZ, hbb4, hq⟩
                  have hbo4 := below_step hbo3 hbb4
                  have hbw4 := below_step hbw3 hbb4
                  have HQ := Lib.hid hq
                  clear hq hY3 hob hbo3 hbw3 hbb4
                  by_cases hc0 : cq = 0
                  · subst hc0
                    obtain ⟨hq1, hq2, hq3⟩ := HQ.out rfl
                    have HO4 := Lib.hid hq1
                    have HU4 : Hid (UpS R k 1 zs) := Lib.hid ⟨fun h => by omega, fun _ => by
                      obtain ⟨u1, u2⟩ := HUY.out.1 rfl
                      rw [hq3, HG1.out, HG2.out, u1]
                      exact ⟨rfl, by omega⟩⟩
                    clear hq1 hq2 hq3 HQ hzl
                    go_wp2
                    go_roundw
                    case rel => exact ⟨1, _, _, _, zs, by omega, by go_num, rfl, hZ, HO4, HU4, hbo4, hbw4⟩
                    case measure => simp [intOf]
                  · have hcz : (cq != 0) = true := by simpa using hc0
                    clear HQ hZ hzl
                    have HF := Lib.hid (retPQ_no (Q := BinP R) hbw4 hc0)
                    clear hc0 hbo4 hbw4
                    go_wp2
                    go_ret2
                    exact HF.out
                · have hie : i = 1 := by omega
                  subst hie
                  have HU5 := Lib.hid (HUY.out.2 rfl)
                  clear HUY
                  go_wp2
                  go_roundw
                  case rel => exact ⟨k + 1, _, _, _, ys, by omega, by go_num, rfl, hY, HOY, HU5, hbw⟩
                  case measure => simp [intOf]; omega
            · obtain ⟨g1, g2, _, _⟩ := row_dn (by rw [HN.out]; exact hlt) HD.out he
              have HU2 : Hid (gz xs = upM (R.take (k + 1)) delF ∧ (xs.length : Int) = 1 + upD (R.take (k + 1))) := Lib.hid (by rw [g1, g2]; exact HU.out)
              rw [he] at c1
              clear g1 g2 he
              go_wp2_with fail
              go_loopw [7, 10] (fun pv iv wr => pv = .slice ao no co ∧ iv = .int .i64 0 ∧ wr = wo) (fun _ _ _ => 0)
              case atStart => exact ⟨rfl, rfl, rfl⟩
              case round =>
                obtain ⟨rfl, rfl, rfl⟩ := hrel
                go_wp2
                go_roundw
                case rel => exact ⟨k + 1, _, _, _, xs, by omega, by go_num, rfl, hX, HOK, HU2, hbl⟩
                case measure => simp [intOf]; omega
          · have hke : n = k := by omega
            have hki : ¬ (k : Int) < (n : Int) := by omega
            subst hke
            have HD0 : Hid (dnM (R.take 0) (gz xs) = upM R delF ∧ (xs.length : Int) = 1 + upD R - dnD (R.take 0)) := Lib.hid (by
              obtain ⟨u1, u2⟩ := HU.out
              have hx : R.take n = R := List.take_of_length_le (by rw [HN.out]; exact Nat.le_refl _)
              rw [hx] at u1 u2
              exact ⟨u1, by rw [u2]; show _ = 1 + upD R - 0; omega⟩)
            clear HU hlt hki hk
            go_wp2_with fail
            go_loopw [7, 87] (fun pv kv wr => ∃ (k : Nat) (ao : Option Addr) (no co : Nat) (xs : List Int), k ≤ n ∧ kv = .int .i64 (k : Int) ∧ pv = .slice ao no co ∧ xs.length = no ∧ Rd wr (.slice ao no co) xs ∧ Hid (PolOk xs) ∧ Hid (dnM (R.take k) (gz xs) = upM R delF ∧ (xs.length : Int) = 1 + upD R - dnD (R.take k)) ∧ Below w.heap.size w wr) (fun _ kv _ => n - (intOf kv).toNat)
            case atStart => exact ⟨0, _, _, _, xs, by omega, rfl, rfl, (by obtain ⟨q1, q2, q3, _⟩ := hX; injection q3 with _ q3 _; exact q3.symm), hX, HOK, HD0, hbl⟩
            case round =>
              obtain ⟨k, ao, no, co, xs, hk, rfl, rfl, hxl, hX, HOK, HU, hbl⟩ := hrel
              clear HD0
              obtain ⟨wo, rfl⟩ : ∃ wo : World, wo = wr := ⟨_, rfl⟩
              by_cases hlt : k < n
              · have hki : (k : Int) < (n : Int) := by omega
                obtain ⟨b, off, rfl, hbb, hrows⟩ := h.atP HN.out (by omega : 0 < n) hr (by decide)
                obtain ⟨br, or, kr, hcr, hbr, hce⟩ := hrows k hlt
                have c0 := hce 0 (by decide)
                have c1 := hce 1 (by decide)
                rw [Nat.add_zero] at c0
                rw [← hbl.cell (p := ⟨b, off + k, none⟩) hbb] at hcr
                rw [← hbl.cell (p := ⟨br, or, none⟩) hbr] at c0
                rw [← hbl.cell (p := ⟨br, or + 1, none⟩) hbr] at c1
                clear hrows hce
                have hv := HV.out k hlt
                obtain ⟨d, hd⟩ : ∃ d, gI (gR R k) 0 = d := ⟨_, rfl⟩
                rw [hd] at hv c0
                obtain ⟨d, rfl⟩ := Int.eq_ofNat_of_zero_le (show 0 ≤ d by omega)
                have hd1 : 1 ≤ d := by omega
                have hd2 : d ≤ 2000 := by omega
                have HD := Lib.hid hd
                clear hd hv
                rcases (HBD.out k hlt).2 with he | he
                · obtain ⟨_, _, g1, g2⟩ := row_up (by rw [HN.out]; exact hlt) HD.out he
                  have HU2 : Hid (dnM (R.take (k + 1)) (gz xs) = upM R delF ∧ (xs.length : Int) = 1 + upD R - dnD (R.take (k + 1))) := Lib.hid (by rw [g1, g2]; exact HU.out)
                  rw [he] at c1
                  clear g1 g2 he
                  go_wp2_with fail
                  go_loopw [7, 15] (fun pv iv wr => pv = .slice ao no co ∧ iv = .int .i64 1 ∧ wr = wo) (fun _ _ _ => 0)
                  case atStart => exact ⟨rfl, rfl, rfl⟩
                  case round =>
                    obtain ⟨rfl, rfl, rfl⟩ := hrel
                    go_wp2
                    go_roundw
                    case rel => exact ⟨k + 1, _, _, _, xs, by omega, by go_num, rfl, hxl, hX, HOK, HU2, hbl⟩
                    case measure => simp [intOf]; omega
                · obtain ⟨_, _, g1, g2⟩ := row_dn (by rw [HN.out]; exact hlt) HD.out he
                  have HG1 := Lib.hid g1
                  have HG2 := Lib.hid g2
                  rw [he] at c1
                  clear g1 g2 he
                  have HC := Lib.hid (show ∀ W, Below wo.heap.size wo W → W.cell? ⟨br, or, none⟩ = some (.int .i64 (d : Int)) from fun W hW => by rw [hW.cell (p := ⟨br, or, none⟩) (by show br < wo.heap.size; have := hbl.size; omega)]; exact c0)
                  have HS0 : Hid (DnS R k 0 xs) := Lib.hid ⟨fun _ => HU.out, fun h => by omega⟩
                  go_wp2_with fail
                  go_loopw [7, 15] (fun pv iv wr => ∃ (i : Nat) (ao : Option Addr) (no co : Nat) (xs : List Int), i ≤ 1 ∧ iv = .int .i64 ((i : Int) - 1) ∧ pv = .slice ao no co ∧ xs.length = no ∧ Rd wr (.slice ao no co) xs ∧ Hid (PolOk xs) ∧ Hid (DnS R k i xs) ∧ Below wo.heap.size wo wr ∧ Below w.heap.size w wr) (fun _ iv _ => (- (intOf iv)).toNat)
                  case atStart => exact ⟨0, _, _, _, xs, by omega, rfl, rfl, hxl, hX, HOK, HS0, Below.refl _ _, hbl⟩
                  case round =>
                    obtain ⟨i, ai, ni, ci, ys, hi1, rfl, rfl, hyl, hY, HOY, HUY, hbo, hbw⟩ := hrel
                    clear hX HOK HU hbl hcr c0 c1 HS0
                    obtain ⟨wi, rfl⟩ : ∃ wi : World, wi = wr := ⟨_, rfl⟩
                    have c0 := HC.out wi hbo
                    by_cases hi0 : i = 0
                    · subst hi0
                      go_wp2_with fail
                      refine (binomial_c d _ hd1 hd2).mono ?_
                      rintro e w3 ⟨ab, kb, rfl, hob, hbb3⟩
                      rw [binL_len] at hob ⊢
                      have hY3 := hY.below hbb3 (Nat.le_refl _)
                      have hbo3 := below_step hbo hbb3
                      have hbw3 := below_step hbw hbb3
                      clear hY hbo hbw hbb3 c0
                      go_wp2_with fail
                      refine (quotientOf_c _ _ ys d _ hY3 hob.rd HOY.out hd1 hd2).mono ?_
                      rintro e w4 ⟨aq, nq, kq, zs, cq, rfl, hzl, hZ, hbb4, hq⟩
                      have hbo4 := below_step hbo3 hbb4
                      have hbw4 := below_step hbw3 hbb4
                      have HQ := Lib.hid hq
                      have HYL := Lib.hid hyl
                      clear hq hY3 hob hbo3 hbw3 hbb4 hyl
                      by_cases hc0 : cq = 0
                      · subst hc0
                        obtain ⟨hq1, hq2, hq3⟩ := HQ.out rfl
                        have HO4 := Lib.hid hq1
                        have HU4 : Hid (DnS R k 1 zs) := Lib.hid ⟨fun h => by omega, fun _ => by
                          obtain ⟨u1, u2⟩ := HUY.out.1 rfl
                          rw [HG1.out, HG2.out, ← dnM_nd, hq3, u1]
                          exact ⟨rfl, by omega⟩⟩
                        clear hq1 hq2 hq3 HQ
                        go_wp2
                        go_roundw
                        case rel => exact ⟨1, _, _, _, zs, by omega, by go_num, rfl, hzl, hZ, HO4, HU4, hbo4, hbw4⟩
                        case measure => simp [intOf]
                      · have hcz : (cq != 0) = true := by simpa using hc0
                        clear HQ hZ hzl
                        have HF := Lib.hid (retPQ_no (Q := BinP R) hbw4 hc0)
                        clear hc0 hbo4 hbw4
                        go_wp2
                        go_ret2
                        exact HF.out
                    · have hie : i = 1 := by omega
                      subst hie
                      have HU5 := Lib.hid (HUY.out.2 rfl)
                      clear HUY
                      go_wp2
                      go_roundw
                      case rel => exact ⟨k + 1, _, _, _, ys, by omega, by go_num, rfl, hyl, hY, HOY, HU5, hbw⟩
                      case measure => simp [intOf]; omega
              · have hke : n = k := by omega
                have hki : ¬ (k : Int) < (n : Int) := by omega
                have HF : Hid (RetPQ w (BinP R) (.returned (.tuple #[.slice ao no co, .int .i64 0])) wo) := Lib.hid ⟨_, _, _, xs, 0, rfl, hxl, hX, hbl, fun _ => ⟨HOK.out, by
                  obtain ⟨u1, u2⟩ := HU.out
                  have hx : R.take k = R := List.take_of_length_le (by rw [HN.out]; omega)
                  rw [hx] at u1 u2
                  exact ⟨u1, u2⟩⟩⟩
                clear hX hxl hbl hke
                go_wp2
                go_ret2
                exact HF.out
end Go.Proofs.Ytiinceflafigeaa

/- The polynomial of a semigroup: its ends, its symmetry, its sum; its binomials' rows. -/
namespace Go.Proofs.Ytiinceflafigeaa
open Go.RowKit

theorem poC_zero {T : List Int} (h : poC T = 0) : BraOk T ∧ ¬ 2000 < conI T := by
  unfold poC at h
  by_cases hb : braB T = true
  · rw [if_pos hb] at h
    by_cases h2 : 2000 < conI T
    · rw [if_pos h2] at h; cases h
    · exact ⟨braB_iff.1 hb, h2⟩
  · rw [if_neg hb] at h; cases h
theorem pp_len {T : List Int} (h : poC T = 0) : ((ppL T).length : Int) = conI T + 1 ∧ (ppL T).length = (conI T).toNat + 1 := by
  have hn := conI_nn (poC_zero h).1
  rw [ppL_ok h, poL_len]
  omega
theorem gI_pp {T : List Int} (h : poC T = 0) {i : Nat} (hi : i < (ppL T).length) : gI (ppL T) i = spI T (i : Int) := by
  have hl := (pp_len h).2
  rw [ppL_ok h, gI_lt (by rw [poL_len]; omega)]
  simp [poL]
theorem pp_pol {T : List Int} (h : poC T = 0) : PolOk (ppL T) := by
  have hl := pp_len h
  have := (poC_zero h).2
  refine ⟨by omega, by omega, fun i hi => ?_⟩
  rw [gI_pp h hi]
  have := spI_bd T (i : Int)
  unfold coB; omega
theorem pp_last {T : List Int} (h : poC T = 0) : gI (ppL T) ((ppL T).length - 1) ≠ 0 := by
  have hok := (poC_zero h).1
  have hl := (pp_len h).2
  have hn := conI_nn hok
  rw [gI_pp h (by omega), hl, Nat.add_sub_cancel, show (((conI T).toNat : Nat) : Int) = conI T by omega, spI_of (conI_val hok) (b := false) (by have := val_sym hok 0; rw [valB_zero hok] at this; simpa using this)]
  decide
theorem pp_rev {T : List Int} (h : poC T = 0) : (ppL T).reverse = ppL T := by
  have hok := (poC_zero h).1
  have hl := pp_len h
  refine gI_ext (by simp) fun i hi => ?_
  have hi' : i < (ppL T).length := by simpa using hi
  rw [gI_rev hi', gI_pp h (by omega), gI_pp h hi']
  have e : (((ppL T).length - 1 - i : Nat) : Int) = conI T - i := by omega
  rw [e]
  have s1 := val_sym hok ((i : Int) - 1)
  have s2 := val_sym hok (i : Int)
  rw [show conI T - 1 - ((i : Int) - 1) = conI T - i by omega] at s1
  rw [show conI T - 1 - (i : Int) = conI T - i - 1 by omega] at s2
  rw [spI_of s1 s2, spI_of (T := T) (v := (i : Int)) rfl rfl]
  cases valB T (i : Int) <;> cases valB T ((i : Int) - 1) <;> rfl
/-- The sum of the numbers from k on. -/
def sfx (T : List Int) (k : Nat) : Int := 1 - if valB T ((k : Int) - 1) = true then 1 else 0
theorem sfx_bd (T : List Int) (k : Nat) : -1000 ≤ sfx T k ∧ sfx T k ≤ 1000 := by unfold sfx; split <;> omega
theorem sfx_zero {T : List Int} (h : poC T = 0) : sfx T 0 = 1 := by
  unfold sfx
  rw [valB_neg (poC_zero h).1 (by decide)]; rfl
theorem sfx_end {T : List Int} (h : poC T = 0) : sfx T (ppL T).length = 0 := by
  unfold sfx
  rw [(pp_len h).1, show conI T + 1 - 1 = conI T by omega, conI_val (poC_zero h).1]; rfl
theorem sfx_step {T : List Int} (h : poC T = 0) {k : Nat} (hk : k < (ppL T).length) : sfx T k = sfx T (k + 1) + gI (ppL T) k := by
  rw [gI_pp h hk]
  unfold sfx spI
  rw [show ((k + 1 : Nat) : Int) - 1 = (k : Int) by omega]
  omega
/-- The rows of the binomials. -/
theorem sbTo_rows {T : List Int} (h : BraOk T) : ∀ k, k < T.length → ∀ i, i < (sbTo T k).length → (gR (sbTo T k) i).length = 2 ∧ (-100000000000000000 ≤ gI (gR (sbTo T k) i) 0 ∧ gI (gR (sbTo T k) i) 0 ≤ 100000000000000000) ∧ (gI (gR (sbTo T k) i) 1 = 1 ∨ gI (gR (sbTo T k) i) 1 = -1) := by
  intro k
  induction k with
  | zero => intro _ i hi; simp [sbTo_zero] at hi
  | succ k ih =>
    intro hk i hi
    have hv := vI_bd h hk
    have hr := rI_bd h (k + 1)
    have hm := mul_bd hr.1 hr.2 (by omega : 0 ≤ vI T (k + 1)) hv.2
    rw [sbTo_succ] at hi ⊢
    by_cases hlt : i < (sbTo T k).length
    · rw [gR_app_lt hlt]; exact ih (by omega) i hlt
    · rw [gR_app_ge hlt]
      have : i - (sbTo T k).length = 0 ∨ i - (sbTo T k).length = 1 := by simp at hi; omega
      rcases this with e | e <;> rw [e]
      · exact ⟨rfl, ⟨by show -100000000000000000 ≤ rI T (k + 1) * vI T (k + 1); omega, by show rI T (k + 1) * vI T (k + 1) ≤ 100000000000000000; omega⟩, .inl rfl⟩
      · exact ⟨rfl, ⟨by show -100000000000000000 ≤ vI T (k + 1); omega, by show vI T (k + 1) ≤ 100000000000000000; omega⟩, .inr rfl⟩
theorem sb_rows {T : List Int} (h : BraOk T) : (sbL T).length ≤ 40 ∧ ∀ i, i < (sbL T).length → (gR (sbL T) i).length = 2 ∧ (-100000000000000000 ≤ gI (gR (sbL T) i) 0 ∧ gI (gR (sbL T) i) 0 ≤ 100000000000000000) ∧ (gI (gR (sbL T) i) 1 = 1 ∨ gI (gR (sbL T) i) 1 = -1) := by
  have hl := h.len
  have h7 := bra_len h
  by_cases e : T.length = 1
  · rw [sbL_one e]
    exact ⟨by simp, fun i hi => by simp at hi⟩
  · rw [sbL_more e]
    refine ⟨by rw [List.length_append, sbTo_len]; simp; omega, fun i hi => ?_⟩
    by_cases hlt : i < (sbTo T (T.length - 1)).length
    · rw [gR_app_lt hlt]; exact sbTo_rows h _ (by omega) i hlt
    · rw [gR_app_ge hlt]
      have hv := vI_bd h hl
      have : i - (sbTo T (T.length - 1)).length = 0 ∨ i - (sbTo T (T.length - 1)).length = 1 := by simp at hi; omega
      rcases this with e | e <;> rw [e]
      · exact ⟨rfl, ⟨by show -100000000000000000 ≤ vI T 0; omega, by show vI T 0 ≤ 100000000000000000; omega⟩, .inr rfl⟩
      · exact ⟨rfl, ⟨by show (-100000000000000000 : Int) ≤ 1; omega, by show (1 : Int) ≤ 100000000000000000; omega⟩, .inl rfl⟩
end Go.Proofs.Ytiinceflafigeaa
