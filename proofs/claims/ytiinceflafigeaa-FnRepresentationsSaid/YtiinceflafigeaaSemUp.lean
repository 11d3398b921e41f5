/- Contracts: ValuesUpTo, GapsOf. -/
import Derived.Test.YtiinceflafigeaaSemIs
namespace Go.Proofs.Ytiinceflafigeaa
open Go.RowKit

/-- The numbers below k with p. -/
def selTo (p : Nat → Bool) : Nat → List Int
  | 0 => []
  | k + 1 => if p k = true then selTo p k ++ [(k : Int)] else selTo p k
theorem selTo_yes {p : Nat → Bool} {k : Nat} (h : p k = true) : selTo p (k + 1) = selTo p k ++ [(k : Int)] := by simp [selTo, h]
theorem selTo_no {p : Nat → Bool} {k : Nat} (h : p k = false) : selTo p (k + 1) = selTo p k := by simp [selTo, h]
theorem selTo_len (p : Nat → Bool) : ∀ k, (selTo p k).length ≤ k := by
  intro k
  induction k with
  | zero => simp [selTo]
  | succ k ih =>
    cases h : p k
    · rw [selTo_no h]; omega
    · rw [selTo_yes h, List.length_append]; simp; omega
/-- The values up to z; the gaps. -/
def vuL (T : List Int) (z : Int) : List Int := if svC T z = 0 then selTo (fun v => valB T (v : Int)) (z.toNat + 1) else []
theorem vuL_no {T : List Int} {z : Int} (h : svC T z ≠ 0) : vuL T z = [] := by simp [vuL, h]
theorem vuL_ok {T : List Int} {z : Int} (h : svC T z = 0) : vuL T z = selTo (fun v => valB T (v : Int)) (z.toNat + 1) := by simp [vuL, h]
theorem vuL_len (T : List Int) (z : Int) : (vuL T z).length ≤ 20001 := by
  unfold vuL
  split
  · rename_i h
    have h1 := selTo_len (fun v => valB T (v : Int)) (z.toNat + 1)
    have h2 : inB z 0 20000 = true := by
      cases c : inB z 0 20000
      · unfold svC at h; rw [c] at h; split at h <;> simp at h
      · rfl
    have := inB_iff.1 h2
    omega
  · simp
def gpC (T : List Int) : Int := if braB T = true then (if 20000 < conI T then 3 else 0) else 1
def gpL (T : List Int) : List Int := if gpC T = 0 then selTo (fun v => !valB T (v : Int)) (conI T).toNat else []
theorem gpC_bra {T : List Int} (h : braB T = false) : gpC T = 1 := by simp [gpC, h]
theorem gpC_big {T : List Int} (h : braB T = true) (h' : 20000 < conI T) : gpC T = 3 := by simp [gpC, h, h']
theorem gpC_ok {T : List Int} (h : braB T = true) (h' : ¬ 20000 < conI T) : gpC T = 0 := by simp [gpC, h, h']
theorem gpL_no {T : List Int} (h : gpC T ≠ 0) : gpL T = [] := by simp [gpL, h]
theorem gpL_ok {T : List Int} (h : gpC T = 0) : gpL T = selTo (fun v => !valB T (v : Int)) (conI T).toNat := by simp [gpL, h]
theorem gpL_len (T : List Int) : (gpL T).length ≤ 20000 := by
  unfold gpL
  split
  · rename_i h
    have h1 := selTo_len (fun v => !valB T (v : Int)) (conI T).toNat
    unfold gpC at h
    split at h
    · split at h
      · simp at h
      · omega
    · simp at h
  · simp
/-- The conductor itself is no gap. -/
theorem gap_end {T : List Int} (h : BraOk T) {m : Nat} (hm : conI T = (m : Int)) : selTo (fun v => !valB T (v : Int)) (m + 1) = selTo (fun v => !valB T (v : Int)) m := by
  refine selTo_no ?_
  show (!valB T (m : Int)) = false
  rw [← hm, conI_val h]; rfl
theorem ret_ic {w w' : World} {v : Value} {xs ys : List Int} {c d : Int} (h : OwnI w' w.heap.size v xs) (hb : Below w.heap.size w w') (e1 : xs = ys) (e2 : c = d) : RetIC w ys d (.returned (.tuple #[v, .int .i64 c])) w' := by
  subst e1; subst e2; exact retIC_mk h hb
theorem ret_nil {w w' : World} {ys : List Int} {c d : Int} (hb : Below w.heap.size w w') (e1 : ys = []) (e2 : c = d) : RetIC w ys d (.returned (.tuple #[.slice none 0 0, .int .i64 c])) w' := by
  subst e1; subst e2; exact retIC_nil hb

set_option maxRecDepth 100000 in
set_option maxHeartbeats 4000000 in
theorem implValuesUpTo_c (v : Value) (T : List Int) (z : Int) (w : World) (h : Rd w v T) :
    Calls Try.prog 37 #[.agg #[v], .int .i64 z] w (RetIC w (vuL T z) (svC T z)) := by
  obtain ⟨i0, hi, hz0, hz1, hz2⟩ := info_parts Try.infoI
  have hx := Boxed.start w 26 #[v]
  obtain ⟨a, k, rfl⟩ := h.len0
  have c0 := hx.cell 0
  cases hbr : braB T
  · have HC := Lib.hid (svC_bra (z := z) hbr)
    have HB := Lib.hid (vuL_no (z := z) (by rw [svC_bra hbr]; decide))
    go_enter Try.func37, Try.ntmps37
    go_wp2_with fail
    refine (implIsBranch_c _ T _ (hx.rd h)).mono ?_
    rintro e w1 ⟨rfl, hb⟩
    rw [hbr]
    go_wp2
    go_ret2
    exact ret_nil (hx.trans hb).below HB.out HC.out.symm
  · cases hin : inB z 0 20000
    · have HC := Lib.hid (svC_num hbr hin)
      have HB := Lib.hid (vuL_no (by rw [svC_num hbr hin]; decide))
      go_enter Try.func37, Try.ntmps37
      go_wp2_with fail
      refine (implIsBranch_c _ T _ (hx.rd h)).mono ?_
      rintro e w1 ⟨rfl, hb⟩
      rw [hbr]
      go_wp2_with fail
      refine (inRange_c _ _ _ _).mono ?_
      rintro e w2 ⟨rfl, rfl⟩
      rw [hin]
      go_wp2
      go_ret2
      exact ret_nil (hx.trans hb).below HB.out HC.out.symm
    · have HC := Lib.hid (svC_ok hbr hin)
      have HB := Lib.hid (vuL_ok (svC_ok hbr hin))
      have hok := braB_iff.1 hbr
      have hzz := inB_iff.1 hin
      obtain ⟨m, rfl⟩ := Int.eq_ofNat_of_zero_le hzz.1
      have hmb : (m : Int) ≤ 20000 := by omega
      go_enter Try.func37, Try.ntmps37
      go_wp2_with fail
      refine (implIsBranch_c _ T _ (hx.rd h)).mono ?_
      rintro e w1 ⟨rfl, hb⟩
      rw [hbr]
      have hx1 := hx.trans hb
      go_wp2_with fail
      refine (inRange_c _ _ _ _).mono ?_
      rintro e w2 ⟨rfl, rfl⟩
      rw [hin]
      have c2 := hx1.cell 0
      go_wp2_with fail
      refine (semOf_c _ T _ (hx1.rd h) hok).mono ?_
      rintro e w3 ⟨gl, gp, rfl, hl, hr, hb3⟩
      have hx3 := hx1.trans hb3
      have B4 := Blk.new w3 103 #[.slice (some ⟨gl, 0, none⟩) (nT T) (nT T), .slice (some ⟨gp, 0, none⟩) (nT T) (nT T)]
      have hal : Below w3.heap.size w3 (w3.alloc (.cells #[.slice (some ⟨gl, 0, none⟩) (nT T) (nT T), .slice (some ⟨gp, 0, none⟩) (nT T) (nT T)] 103)) := (Below.refl _ _).alloc (Nat.le_refl _) _
      have hl4 := hl.rd.below hal (Nat.le_refl _)
      have hx4 := hx3.trans hal
      go_wp2_with fail
      obtain ⟨w4, hw4⟩ : ∃ w4 : World, w4 = w3.alloc (.cells #[.slice (some ⟨gl, 0, none⟩) (nT T) (nT T), .slice (some ⟨gp, 0, none⟩) (nT T) (nT T)] 103) := ⟨_, rfl⟩
      rw [← hw4] at B4 hl4 hx4 ⊢
      have hE : OwnI (w4.alloc (.cells #[] 2)) w4.heap.size (.slice (some ⟨w3.heap.size + 1, 0, none⟩) 0 0) [] := own_empty_at w4 _ _ (by rw [hw4]; simp) (by rw [hw4]; simp)
      have ha5 : Below w4.heap.size w4 (w4.alloc (.cells #[] 2)) := (Below.refl _ _).alloc (Nat.le_refl _) _
      clear hw4 c2 hal hl hr
      go_loopw [7, 8] (fun lv iv wr => ∃ k : Nat, k ≤ m + 1 ∧ iv = .int .i64 k ∧ OwnI wr w4.heap.size lv (selTo (fun v => valB T (v : Int)) k) ∧ Below w4.heap.size w4 wr) (fun _ iv _ => m + 1 - (intOf iv).toNat)
      case atStart => exact ⟨0, Nat.zero_le _, rfl, hE, ha5⟩
      case round =>
        obtain ⟨k, hk, rfl, hO, hbl⟩ := hrel
        clear hE ha5
        obtain ⟨wo, rfl⟩ : ∃ wo : World, wo = wr := ⟨_, rfl⟩
        have hk0 : (0 : Int) ≤ (k : Int) := Int.natCast_nonneg _
        by_cases hlt : k < m + 1
        · have hki : (k : Int) ≤ (m : Int) := by omega
          have B5 := B4.stays hbl
          have q0 := B5.cell 0
          have q1 := B5.cell 1
          have hsl := hbl.size
          go_wp2_with fail
          refine (has_c _ _ T (k : Int) _ (hl4.below hbl (Nat.le_refl _)) hok hk0).mono ?_
          rintro e w6 ⟨rfl, hb6⟩
          have hbl6 := hbl.trans (hb6.mono hsl)
          have hO6 := hO.below hb6 (Nat.le_refl _)
          clear hO hbl q0 q1 B5
          cases hv : valB T (k : Int)
          · have HY := Lib.hid (selTo_no (p := (fun v => valB T (v : Int))) (show (fun v => valB T (v : Int)) k = false by simp [hv]))
            have ho2 : OwnI w6 w4.heap.size u7 (selTo (fun v => valB T (v : Int)) (k + 1)) := by rw [HY.out]; exact hO6
            clear hO6
            go_wp2
            go_roundw
            case rel => exact ⟨k + 1, by omega, by go_num, ho2, hbl6⟩
            case measure => simp [intOf]; omega
          · have HY := Lib.hid (selTo_yes (p := (fun v => valB T (v : Int))) (show (fun v => valB T (v : Int)) k = true by simp [hv]))
            have hll := selTo_len (fun v => valB T (v : Int)) k
            have hsz : w4.heap.size ≤ w6.heap.size := hbl6.size
            go_wp2_with (at_builtin; refine wpList_push rfl (.tmp 26) (.tmp 28) 24 rfl w4.heap.size 2 i0 Try.underlying24 hi hz0 hz1 hz2 u7 (selTo (fun v => valB T (v : Int)) k) (k : Int) rfl hO6 rfl (by omega) hsz ?_; intro v' w7 hown' hkp)
            have hbl7 := hbl6.trans (hkp.below hsz (fun g hg => (hO6.block g hg).1))
            rw [← HY.out] at hown'
            go_roundw
            case rel => exact ⟨k + 1, by omega, by go_num, hown', hbl7⟩
            case measure => simp [intOf]; omega
        · have hke : k = m + 1 := by omega
          have hkn : (m : Int) < (k : Int) := by omega
          have hO2 : OwnI wo w.heap.size u7 (selTo (fun v => valB T (v : Int)) (m + 1)) := by rw [← hke]; exact hO.base_le (Nat.le_of_lt (Nat.lt_of_succ_le hx4.size))
          have HH := Lib.hid hO2
          have hfr := (hx4.trans (hbl.mono (Nat.le_refl _))).below
          clear hO hO2
          go_wp2
          go_ret2
          exact ret_ic HH.out hfr (show selTo (fun v => valB T (v : Int)) (m + 1) = vuL T (m : Int) by rw [HB.out]; rfl) HC.out.symm


set_option maxRecDepth 100000 in
set_option maxHeartbeats 4000000 in
theorem implGapsOf_c (v : Value) (T : List Int) (w : World) (h : Rd w v T) :
    Calls Try.prog 52 #[.agg #[v]] w (RetIC w (gpL T) (gpC T)) := by
  obtain ⟨i0, hi, hz0, hz1, hz2⟩ := info_parts Try.infoI
  have hx := Boxed.start w 26 #[v]
  obtain ⟨a, k, rfl⟩ := h.len0
  have c0 := hx.cell 0
  cases hbr : braB T
  · have HC := Lib.hid (gpC_bra hbr)
    have HB := Lib.hid (gpL_no (by rw [gpC_bra hbr]; decide))
    go_enter Try.func52, Try.ntmps52
    go_wp2_with fail
    refine (implIsBranch_c _ T _ (hx.rd h)).mono ?_
    rintro e w1 ⟨rfl, hb⟩
    rw [hbr]
    go_wp2
    go_ret2
    exact ret_nil (hx.trans hb).below HB.out HC.out.symm
  · have hok := braB_iff.1 hbr
    obtain ⟨m, hm⟩ := Int.eq_ofNat_of_zero_le (conI_nn hok)
    have hcm : conTo T (T.length - 1) = (m : Int) := hm
    by_cases hbig : 20000 < conI T
    · have HC := Lib.hid (gpC_big hbr hbig)
      have HB := Lib.hid (gpL_no (by rw [gpC_big hbr hbig]; decide))
      rw [hm] at hbig
      go_enter Try.func52, Try.ntmps52
      go_wp2_with fail
      refine (implIsBranch_c _ T _ (hx.rd h)).mono ?_
      rintro e w1 ⟨rfl, hb⟩
      rw [hbr]
      have hx1 := hx.trans hb
      have c1 := hx1.cell 0
      go_wp2_with fail
      refine (conductor_c _ T _ (hx1.rd h) hok).mono ?_
      rintro e w2 ⟨rfl, hb2⟩
      rw [hcm]
      go_wp2
      go_ret2
      exact ret_nil (hx1.trans hb2).below HB.out HC.out.symm
    · have HC := Lib.hid (gpC_ok hbr hbig)
      have HB := Lib.hid (gpL_ok (gpC_ok hbr hbig))
      rw [hm] at hbig HB
      have hmb : (m : Int) ≤ 20000 := by omega
      have HM := Lib.hid hm
      go_enter Try.func52, Try.ntmps52
      go_wp2_with fail
      refine (implIsBranch_c _ T _ (hx.rd h)).mono ?_
      rintro e w1 ⟨rfl, hb⟩
      rw [hbr]
      have hx0 := hx.trans hb
      have c1 := hx0.cell 0
      go_wp2_with fail
      refine (conductor_c _ T _ (hx0.rd h) hok).mono ?_
      rintro e w2 ⟨rfl, hb2⟩
      rw [hcm]
      have hx1 := hx0.trans hb2
      have c2 := hx1.cell 0
      go_wp2_with fail
      refine (semOf_c _ T _ (hx1.rd h) hok).mono ?_
      rintro e w3 ⟨gl, gp, rfl, hl, hr, hb3⟩
      have hx3 := hx1.trans hb3
      have B4 := Blk.new w3 103 #[.slice (some ⟨gl, 0, none⟩) (nT T) (nT T), .slice (some ⟨gp, 0, none⟩) (nT T) (nT T)]
      have hal : Below w3.heap.size w3 (w3.alloc (.cells #[.slice (some ⟨gl, 0, none⟩) (nT T) (nT T), .slice (some ⟨gp, 0, none⟩) (nT T) (nT T)] 103)) := (Below.refl _ _).alloc (Nat.le_refl _) _
      have hl4 := hl.rd.below hal (Nat.le_refl _)
      have hx4 := hx3.trans hal
      go_wp2_with fail
      obtain ⟨w4, hw4⟩ : ∃ w4 : World, w4 = w3.alloc (.cells #[.slice (some ⟨gl, 0, none⟩) (nT T) (nT T), .slice (some ⟨gp, 0, none⟩) (nT T) (nT T)] 103) := ⟨_, rfl⟩
      rw [← hw4] at B4 hl4 hx4 ⊢
      have hE : OwnI (w4.alloc (.cells #[] 2)) w4.heap.size (.slice (some ⟨w3.heap.size + 1, 0, none⟩) 0 0) [] := own_empty_at w4 _ _ (by rw [hw4]; simp) (by rw [hw4]; simp)
      have ha5 : Below w4.heap.size w4 (w4.alloc (.cells #[] 2)) := (Below.refl _ _).alloc (Nat.le_refl _) _
      clear hw4 c2 hal hl hr
      go_loopw [6, 7] (fun lv iv wr => ∃ k : Nat, k ≤ m ∧ iv = .int .i64 k ∧ OwnI wr w4.heap.size lv (selTo (fun v => !valB T (v : Int)) k) ∧ Below w4.heap.size w4 wr) (fun _ iv _ => m - (intOf iv).toNat)
      case atStart => exact ⟨0, Nat.zero_le _, rfl, hE, ha5⟩
      case round =>
        obtain ⟨k, hk, rfl, hO, hbl⟩ := hrel
        clear hE ha5
        obtain ⟨wo, rfl⟩ : ∃ wo : World, wo = wr := ⟨_, rfl⟩
        have hk0 : (0 : Int) ≤ (k : Int) := Int.natCast_nonneg _
        by_cases hlt : k < m
        · have hki : (k : Int) < (m : Int) := by omega
          have B5 := B4.stays hbl
          have q0 := B5.cell 0
          have q1 := B5.cell 1
          have hsl := hbl.size
          go_wp2_with fail
          refine (has_c _ _ T (k : Int) _ (hl4.below hbl (Nat.le_refl _)) hok hk0).mono ?_
          rintro e w6 ⟨rfl, hb6⟩
          have hbl6 := hbl.trans (hb6.mono hsl)
          have hO6 := hO.below hb6 (Nat.le_refl _)
          clear hO hbl q0 q1 B5
          cases hv : valB T (k : Int)
          · have HY := Lib.hid (selTo_yes (p := (fun v => !valB T (v : Int))) (show (fun v => !valB T (v : Int)) k = true by simp [hv]))
            have hll := selTo_len (fun v => !valB T (v : Int)) k
            have hsz : w4.heap.size ≤ w6.heap.size := hbl6.size
            go_wp2_with (at_builtin; refine wpList_push rfl (.tmp 27) (.tmp 29) 24 rfl w4.heap.size 2 i0 Try.underlying24 hi hz0 hz1 hz2 u6 (selTo (fun v => !valB T (v : Int)) k) (k : Int) rfl hO6 rfl (by omega) hsz ?_; intro v' w7 hown' hkp)
            have hbl7 := hbl6.trans (hkp.below hsz (fun g hg => (hO6.block g hg).1))
            rw [← HY.out] at hown'
            go_roundw
            case rel => exact ⟨k + 1, by omega, by go_num, hown', hbl7⟩
            case measure => simp [intOf]; omega
          · have HY := Lib.hid (selTo_no (p := (fun v => !valB T (v : Int))) (show (fun v => !valB T (v : Int)) k = false by simp [hv]))
            have ho2 : OwnI w6 w4.heap.size u6 (selTo (fun v => !valB T (v : Int)) (k + 1)) := by rw [HY.out]; exact hO6
            clear hO6
            go_wp2
            go_roundw
            case rel => exact ⟨k + 1, by omega, by go_num, ho2, hbl6⟩
            case measure => simp [intOf]; omega
        · have hke : k = m := by omega
          have hkn : (m : Int) ≤ (k : Int) := by omega
          have hO2 : OwnI wo w.heap.size u6 (selTo (fun v => !valB T (v : Int)) (m)) := by rw [← hke]; exact hO.base_le (Nat.le_of_lt (Nat.lt_of_succ_le hx4.size))
          have HH := Lib.hid hO2
          have hfr := (hx4.trans (hbl.mono (Nat.le_refl _))).below
          clear hO hO2
          go_wp2
          go_ret2
          exact ret_ic HH.out hfr (show selTo (fun v => !valB T (v : Int)) m = gpL T by rw [HB.out]; rfl) HC.out.symm


set_option maxRecDepth 100000 in
set_option maxHeartbeats 4000000 in
theorem specGapsOf_c (v : Value) (T : List Int) (w : World) (h : Rd w v T) :
    Calls Try.prog 53 #[.agg #[v]] w (RetIC w (gpL T) (gpC T)) := by
  obtain ⟨i0, hi, hz0, hz1, hz2⟩ := info_parts Try.infoI
  have hx := Boxed.start w 26 #[v]
  obtain ⟨a, k, rfl⟩ := h.len0
  have c0 := hx.cell 0
  cases hbr : braB T
  · have HC := Lib.hid (gpC_bra hbr)
    have HB := Lib.hid (gpL_no (by rw [gpC_bra hbr]; decide))
    go_enter Try.func53, Try.ntmps53
    go_wp2_with fail
    refine (l03Is_c _ T _ (hx.rd h)).mono ?_
    rintro e w1 ⟨rfl, hb⟩
    rw [hbr]
    go_wp2
    go_ret2
    exact ret_nil (hx.trans hb).below HB.out HC.out.symm
  · have hok := braB_iff.1 hbr
    obtain ⟨m, hm⟩ := Int.eq_ofNat_of_zero_le (conI_nn hok)
    have hcm : conTo T (T.length - 1) = (m : Int) := hm
    by_cases hbig : 20000 < conI T
    · have HC := Lib.hid (gpC_big hbr hbig)
      have HB := Lib.hid (gpL_no (by rw [gpC_big hbr hbig]; decide))
      rw [hm] at hbig
      go_enter Try.func53, Try.ntmps53
      go_wp2_with fail
      refine (l03Is_c _ T _ (hx.rd h)).mono ?_
      rintro e w1 ⟨rfl, hb⟩
      rw [hbr]
      have hx1 := hx.trans hb
      have c1 := hx1.cell 0
      go_wp2_with fail
      refine (l05Conductor_c _ T _ (hx1.rd h) hok).mono ?_
      rintro e w2 ⟨rfl, hb2⟩
      rw [hcm]
      go_wp2
      go_ret2
      exact ret_nil (hx1.trans hb2).below HB.out HC.out.symm
    · have HC := Lib.hid (gpC_ok hbr hbig)
      have HB := Lib.hid (gpL_ok (gpC_ok hbr hbig))
      rw [hm] at hbig HB
      have hmb : (m : Int) ≤ 20000 := by omega
      have HM := Lib.hid hm
      go_enter Try.func53, Try.ntmps53
      go_wp2_with fail
      refine (l03Is_c _ T _ (hx.rd h)).mono ?_
      rintro e w1 ⟨rfl, hb⟩
      rw [hbr]
      have hx0 := hx.trans hb
      have c1 := hx0.cell 0
      go_wp2_with fail
      refine (l05Conductor_c _ T _ (hx0.rd h) hok).mono ?_
      rintro e w2 ⟨rfl, hb2⟩
      rw [hcm]
      have hx1 := hx0.trans hb2
      have c2 := hx1.cell 0
      go_wp2_with fail
      refine (l05Values_c _ T m _ (hx1.rd h) hok (by omega)).mono ?_
      rintro e w4 ⟨g, rfl, hB, hb3⟩
      have hx4 := hx1.trans hb3
      have hE : OwnI (w4.alloc (.cells #[] 2)) w4.heap.size (.slice (some ⟨w4.heap.size, 0, none⟩) 0 0) [] := own_empty w4 _ (Nat.le_refl _)
      have ha5 : Below w4.heap.size w4 (w4.alloc (.cells #[] 2)) := (Below.refl _ _).alloc (Nat.le_refl _) _
      clear c2
      go_wp2_with fail
      go_loopw [6, 7] (fun lv iv wr => ∃ k : Nat, k ≤ m + 1 ∧ iv = .int .i64 k ∧ OwnI wr w4.heap.size lv (selTo (fun v => !valB T (v : Int)) k) ∧ Below w4.heap.size w4 wr) (fun _ iv _ => m + 1 - (intOf iv).toNat)
      case atStart => exact ⟨0, Nat.zero_le _, rfl, hE, ha5⟩
      case round =>
        obtain ⟨k, hk, rfl, hO, hbl⟩ := hrel
        clear hE ha5
        obtain ⟨wo, rfl⟩ : ∃ wo : World, wo = wr := ⟨_, rfl⟩
        have hk0 : (0 : Int) ≤ (k : Int) := Int.natCast_nonneg _
        by_cases hlt : k < m + 1
        · have hki : (k : Int) < ((m + 1 : Nat) : Int) := by omega
          have hki2 : (k : Int) < (m : Int) + 1 := by omega
          have dB := (hB.below hbl (Nat.le_refl _)).cell (i := k) hlt
          have hsl := hbl.size
          cases hv : valB T (k : Int)
          · rw [hv] at dB
            have HY := Lib.hid (selTo_yes (p := (fun v => !valB T (v : Int))) (show (fun v => !valB T (v : Int)) k = true by simp [hv]))
            have hll := selTo_len (fun v => !valB T (v : Int)) k
            have hsz : w4.heap.size ≤ wo.heap.size := hbl.size
            go_wp2_with (at_builtin; refine wpList_push rfl (.tmp 30) (.tmp 32) 24 rfl w4.heap.size 2 i0 Try.underlying24 hi hz0 hz1 hz2 u6 (selTo (fun v => !valB T (v : Int)) k) (k : Int) rfl hO rfl (by omega) hsz ?_; intro v' w7 hown' hkp)
            have hbl7 := hbl.trans (hkp.below hsz (fun g hg => (hO.block g hg).1))
            rw [← HY.out] at hown'
            go_roundw
            case rel => exact ⟨k + 1, by omega, by go_num, hown', hbl7⟩
            case measure => simp [intOf]; omega
          · rw [hv] at dB
            have HY := Lib.hid (selTo_no (p := (fun v => !valB T (v : Int))) (show (fun v => !valB T (v : Int)) k = false by simp [hv]))
            have ho2 : OwnI wo w4.heap.size u6 (selTo (fun v => !valB T (v : Int)) (k + 1)) := by rw [HY.out]; exact hO
            clear hO
            go_wp2
            go_roundw
            case rel => exact ⟨k + 1, by omega, by go_num, ho2, hbl⟩
            case measure => simp [intOf]; omega
        · have hke : k = m + 1 := by omega
          have hkn : ((m + 1 : Nat) : Int) ≤ (k : Int) := by omega
          have hO2 : OwnI wo w.heap.size u6 (selTo (fun v => !valB T (v : Int)) (m + 1)) := by rw [← hke]; exact hO.base_le (Nat.le_of_lt (Nat.lt_of_succ_le hx4.size))
          have HH := Lib.hid hO2
          have hfr := (hx4.trans (hbl.mono (Nat.le_refl _))).below
          clear hO hO2
          go_wp2
          go_ret2
          exact ret_ic HH.out hfr ((gap_end hok HM.out).trans (show selTo (fun v => !valB T (v : Int)) m = gpL T by rw [HB.out]; rfl)) HC.out.symm

end Go.Proofs.Ytiinceflafigeaa
