/- Contracts: CodeOf, CountSatellites. -/
import Derived.Test.YtiinceflafigeaaPtsS
namespace Go.Proofs.Ytiinceflafigeaa
open Go.RowKit

theorem ck_len (T : List Int) (k : Int) : (ckL T k (codeL (seqL T k.toNat))).length ≤ 400 := by
  by_cases h : ckC T k = 0
  · rw [ckL_ok h]
    have := ckC_zero h
    simp; omega
  · rw [ckL_no h]; simp

set_option maxRecDepth 100000 in
theorem specCodeOf_c (v : Value) (T : List Int) (k : Int) (w : World) (h : Rd w v T) :
    Calls Try.prog 90 #[.agg #[v], .int .i64 k] w (RetIC w (ckL T k (codeL (seqL T k.toNat))) (ckC T k)) := by
  have hx := Boxed.start w 26 #[v]
  obtain ⟨a, c, rfl⟩ := h.len0
  have c0 := hx.cell 0
  by_cases h0 : ckC T k = 0
  · obtain ⟨hok, hk1, hk2⟩ := ckC_zero h0
    obtain ⟨n, rfl⟩ := Int.eq_ofNat_of_zero_le (show 0 ≤ k by omega)
    have HL := Lib.hid (ckL_ok (xs := codeL (seqL T ((n : Int)).toNat)) h0)
    go_enter Try.func90, Try.ntmps90
    go_wp2_with fail
    refine (l06Range_c _ T _ _ (hx.rd h)).mono ?_
    rintro e w1 ⟨rfl, hb⟩
    rw [h0]
    have hx1 := hx.trans hb
    have c1 := hx1.cell 0
    clear c0
    go_wp2_with fail
    refine (l06Code_c _ T n _ (hx1.rd h) hok (by omega) (by omega)).mono ?_
    rintro e w3 ⟨ac, kc, rfl, hO, hb3⟩
    have HF := Lib.hid (show RetIC w (ckL T n (codeL (seqL T ((n : Int)).toNat))) (ckC T n) (.returned (.tuple #[.slice ac (codeL (seqL T n)).length kc, .int .i64 0])) w3 by
      rw [HL.out, h0]
      exact ⟨ac, kc, rfl, hO.base_le (Nat.le_of_lt hx1.size), (hx1.trans hb3).below⟩)
    rw [codeL_len, seqL_len] at HF ⊢
    clear hO HL h0 c1
    go_wp2
    go_ret2
    exact HF.out
  · have HL := Lib.hid (ckL_no (xs := codeL (seqL T k.toNat)) h0)
    go_enter Try.func90, Try.ntmps90
    go_wp2_with fail
    refine (l06Range_c _ T _ _ (hx.rd h)).mono ?_
    rintro e w1 ⟨rfl, hb⟩
    have hne : (ckC T k != 0) = true := by simp [h0]
    have HF := Lib.hid (show RetIC w (ckL T k (codeL (seqL T k.toNat))) (ckC T k) (.returned (.tuple #[.slice none 0 0, .int .i64 (ckC T k)])) w1 by rw [HL.out]; exact retIC_nil (hx.trans hb).below)
    clear HL h0
    go_wp2
    go_ret2
    exact HF.out

/-- How many of the first n numbers are not 0. -/
def cnz (xs : List Int) : Nat → Int
  | 0 => 0
  | n + 1 => cnz xs n + (if gI xs n = 0 then 0 else 1)
theorem cnz_yes {xs : List Int} {n : Nat} (h : gI xs n = 0) : cnz xs (n + 1) = cnz xs n := by simp [cnz, h]
theorem cnz_no {xs : List Int} {n : Nat} (h : ¬ gI xs n = 0) : cnz xs (n + 1) = cnz xs n + 1 := by simp [cnz, h]
theorem cnz_bd (xs : List Int) (n : Nat) : 0 ≤ cnz xs n ∧ cnz xs n ≤ n := by
  induction n with
  | zero => simp [cnz]
  | succ n ih => rw [cnz]; split <;> omega
/-- The number of satellites. -/
def csN (T : List Int) (k : Int) : Int := cnz (ckL T k (codeL (seqL T k.toNat))) (ckL T k (codeL (seqL T k.toNat))).length
theorem csN_no {T : List Int} {k : Int} (h : ckC T k ≠ 0) : csN T k = 0 := by unfold csN; rw [ckL_no h]; rfl

set_option maxRecDepth 100000 in
set_option maxHeartbeats 1000000 in
theorem implCountSatellites_c (v : Value) (T : List Int) (k : Int) (w : World) (h : Rd w v T) :
    Calls Try.prog 93 #[.agg #[v], .int .i64 k] w fun e w' => e = .returned (.tuple #[.int .i64 (csN T k), .int .i64 (ckC T k)]) ∧ Below w.heap.size w w' := by
  have hx := Boxed.start w 26 #[v]
  obtain ⟨a, c, rfl⟩ := h.len0
  have c0 := hx.cell 0
  have hll := ck_len T k
  have HCS := Lib.hid (show csN T k = cnz (ckL T k (codeL (seqL T k.toNat))) (ckL T k (codeL (seqL T k.toNat))).length from rfl)
  go_enter Try.func93, Try.ntmps93
  go_wp2_with fail
  refine (implCodeOf_c _ T k _ (hx.rd h)).mono ?_
  rintro e w1 ⟨ac, kc, rfl, hO, hb⟩
  have hx1 := hx.trans hb
  generalize ckL T k (codeL (seqL T k.toNat)) = xs at *
  clear c0
  go_wp2_with fail
  go_loopw [8, 10, 19] (fun nv _ iv wr => ∃ i : Nat, i ≤ xs.length ∧ iv = .int .i64 i ∧ nv = .int .i64 (cnz xs i) ∧ w1 = wr) (fun _ _ iv _ => xs.length - (intOf iv).toNat)
  case atStart => exact ⟨0, Nat.zero_le _, rfl, rfl, rfl⟩
  case round =>
    obtain ⟨i, hi, rfl, rfl, rfl⟩ := hrel
    have hi0 : (0 : Int) ≤ (i : Int) := Int.natCast_nonneg _
    by_cases hlt : i < xs.length
    · have hii : (i : Int) < (xs.length : Int) := by omega
      obtain ⟨g, cg, hge, _⟩ := Own.pos hO (by omega)
      injection hge with he1 _ he3
      subst he1
      have dx := hO.cell i hlt
      have hb2 := cnz_bd xs i
      by_cases hz : gI xs i = 0
      · have HY := Lib.hid (cnz_yes hz)
        rw [hz] at dx
        clear hz
        generalize cnz xs i = y at *
        go_wp2
        go_roundw
        case rel => exact ⟨i + 1, by omega, by go_num, by rw [HY.out], by first | rfl | trivial⟩
        case measure => simp [intOf]; omega
      · have HY := Lib.hid (cnz_no hz)
        generalize gI xs i = x at *
        have hxb : (x != 0) = true := by simp [hz]
        generalize cnz xs i = y at *
        go_wp2
        go_roundw
        case rel => exact ⟨i + 1, by omega, by go_num, by rw [HY.out], by first | rfl | trivial⟩
        case measure => simp [intOf]; omega
    · have hie : i = xs.length := by omega
      subst hie
      have HF := Lib.hid hx1.below
      rw [← HCS.out]
      go_wp2
      go_ret2
      exact ⟨rfl, HF.out⟩

set_option maxRecDepth 100000 in
set_option maxHeartbeats 1000000 in
theorem specCountSatellites_c (v : Value) (T : List Int) (k : Int) (w : World) (h : Rd w v T) :
    Calls Try.prog 94 #[.agg #[v], .int .i64 k] w fun e w' => e = .returned (.tuple #[.int .i64 (csN T k), .int .i64 (ckC T k)]) ∧ Below w.heap.size w w' := by
  have hx := Boxed.start w 26 #[v]
  obtain ⟨a, c, rfl⟩ := h.len0
  have c0 := hx.cell 0
  by_cases h0 : ckC T k = 0
  · obtain ⟨hok, hk1, hk2⟩ := ckC_zero h0
    obtain ⟨n, rfl⟩ := Int.eq_ofNat_of_zero_le (show 0 ≤ k by omega)
    have HCS := Lib.hid (show csN T n = cnz (codeL (seqL T n)) (codeL (seqL T n)).length by unfold csN; rw [ckL_ok h0]; rfl)
    have H0 := Lib.hid h0
    have hll : (codeL (seqL T n)).length ≤ 400 := by simp; omega
    go_enter Try.func94, Try.ntmps94
    go_wp2_with fail
    refine (l06Range_c _ T _ _ (hx.rd h)).mono ?_
    rintro e w1 ⟨rfl, hb⟩
    rw [h0]
    have hx1 := hx.trans hb
    have c1 := hx1.cell 0
    clear c0 h0
    go_wp2_with fail
    refine (l06Code_c _ T n _ (hx1.rd h) hok (by omega) (by omega)).mono ?_
    rintro e w3 ⟨ac, kc, rfl, hO, hb3⟩
    have hx3 := hx1.trans hb3
    generalize codeL (seqL T n) = xs at *
    clear c1
    go_wp2_with fail
    go_loopw [8, 9] (fun nv iv wr => ∃ i : Nat, i ≤ xs.length ∧ iv = .int .i64 i ∧ nv = .int .i64 (cnz xs i) ∧ w3 = wr) (fun _ iv _ => xs.length - (intOf iv).toNat)
    case atStart => exact ⟨0, Nat.zero_le _, rfl, rfl, rfl⟩
    case round =>
      obtain ⟨i, hi, rfl, rfl, rfl⟩ := hrel
      have hi0 : (0 : Int) ≤ (i : Int) := Int.natCast_nonneg _
      by_cases hlt : i < xs.length
      · have hii : (i : Int) < (xs.length : Int) := by omega
        obtain ⟨g, cg, hge, _⟩ := Own.pos hO (by omega)
        injection hge with he1 _ he3
        subst he1
        have dx := hO.cell i hlt
        have hb2 := cnz_bd xs i
        by_cases hz : gI xs i = 0
        · have HY := Lib.hid (cnz_yes hz)
          rw [hz] at dx
          clear hz
          generalize cnz xs i = y at *
          go_wp2
          go_roundw
          case rel => exact ⟨i + 1, by omega, by go_num, by rw [HY.out], by first | rfl | trivial⟩
          case measure => simp [intOf]; omega
        · have HY := Lib.hid (cnz_no hz)
          generalize gI xs i = x at *
          have hxb : (x != 0) = true := by simp [hz]
          generalize cnz xs i = y at *
          go_wp2
          go_roundw
          case rel => exact ⟨i + 1, by omega, by go_num, by rw [HY.out], by first | rfl | trivial⟩
          case measure => simp [intOf]; omega
      · have hie : i = xs.length := by omega
        subst hie
        have HF := Lib.hid hx3.below
        rw [← HCS.out]
        go_wp2
        go_ret2
        rw [H0.out]
        exact ⟨rfl, HF.out⟩
  · have HL := Lib.hid (csN_no h0)
    go_enter Try.func94, Try.ntmps94
    go_wp2_with fail
    refine (l06Range_c _ T _ _ (hx.rd h)).mono ?_
    rintro e w1 ⟨rfl, hb⟩
    have hne : (ckC T k != 0) = true := by simp [h0]
    have HF := Lib.hid (hx.trans hb).below
    clear h0
    go_wp2
    go_ret2
    rw [HL.out]
    exact ⟨rfl, HF.out⟩
end Go.Proofs.Ytiinceflafigeaa
