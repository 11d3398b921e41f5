/- Contract: spec.l05Values. -/
import Derived.Test.YtiinceflafigeaaSem
import Derived.Test.YtiinceflafigeaaSemOf
import Derived.Test.YtiinceflafigeaaL03Is
namespace Go.Proofs.Ytiinceflafigeaa
open Go.RowKit

theorem Try.infoB : (Try.prog.info? 4).map (fun i => (i.zero, i.size, i.bytes)) = some (some (.bool false), 1, 1) := by kernel_rfl

theorem generatorsS_p (v : Value) (T : List Int) (w : World) (h : Rd w v T) (hok : BraOk T) :
    Calls Try.prog 140 #[.agg #[v]] w fun e w' => ∃ g c, e = .returned (.slice (some ⟨g, 0, none⟩) T.length c) ∧ OwnI w' w.heap.size (.slice (some ⟨g, 0, none⟩) T.length c) (vTo T T.length) ∧ Below w.heap.size w w' := by
  refine (l05Generators_c v T w h hok).mono ?_
  rintro e w1 ⟨ge, ke, rfl, ho, hb1⟩
  obtain ⟨g, c, hge, h1⟩ := Own.pos ho (by have := hok.len; simp; omega)
  rw [hge] at ho ⊢
  rw [vTo_len] at ho ⊢
  exact ⟨g, c, rfl, ho, hb1⟩

theorem ownB_made {e : TypeId} {w : World} {base g n : Nat} (h : Blk w g e (madeCells #[.bool false] n)) (hb : base ≤ g) (hn : n ≤ maxLen) : OwnB e w base g n (fun _ => false) := by
  refine ⟨by simp, .inr ⟨g, n, _, rfl, hb, h, Nat.le_refl _, hn, by simp [madeCells], ?_⟩⟩
  rw [toList_madeCells_one, Nat.mul_one, List.take_of_length_le (by simp)]
  apply List.ext_getElem
  · simp
  · intro i h1 h2; simp

set_option maxRecDepth 100000 in
set_option maxHeartbeats 4000000 in
theorem l05Values_c (v : Value) (T : List Int) (m : Nat) (w : World) (h : Rd w v T) (hok : BraOk T) (hm : m ≤ 1000000) :
    Calls Try.prog 141 #[.agg #[v], .int .i64 (m : Int)] w (RetBo 4 w T (m + 1)) := by
  obtain ⟨j0, ji, jz0, jz1, jz2⟩ := info_parts Try.infoB
  have hx := Boxed.start w 26 #[v]
  have hp := hok.len
  have hl := bra_len hok
  obtain ⟨a, cap, rfl⟩ := h.len0
  have hmk : ∀ W : World, (Instr.makeSlice 106 (.int .i64 ((m : Int) + 1)) (.int .i64 ((m : Int) + 1))).run Try.prog W = .ok (.slice (some ⟨W.heap.size, 0, none⟩) (m + 1) (m + 1)) (W.alloc (.cells (madeCells #[.bool false] (m + 1)) 4)) := fun W => by
    have := run_make_row 106 4 j0 _ Try.underlying106 ji jz0 jz1 rfl .i64 .i64 (m + 1) (by rw [jz2]; omega) (by omega) W
    rwa [show ((m + 1 : Nat) : Int) = (m : Int) + 1 by omega] at this
  have wm : IntKind.i64.wrap ((m : Int) + 1) = (m : Int) + 1 := IntWalk.i64_in _ (by omega)
  have hx0 := hx.trans (Below.refl _ _).drew
  go_enter Try.func141, Try.ntmps141
  go_wp2_with fail
  obtain ⟨w1, hw1⟩ : ∃ w1 : World, w1 = w.alloc (.cells #[.slice a T.length cap] 26) := ⟨_, rfl⟩
  rw [← hw1] at hx ⊢
  have hz1 : w.heap.size + 1 ≤ w1.heap.size := by rw [hw1]; simp
  clear hw1
  have a0 : Below w1.heap.size w1 w1.drew := (Below.refl _ _).drew
  have a1 : Below w1.heap.size w1 (w1.alloc (.cells (madeCells #[.bool false] (m + 1)) 4)).drew := ((Below.refl _ _).alloc (Nat.le_refl _) _).drew
  have x0 := hx.trans a0
  have x1 := hx.trans a1
  have k0 := x0.cell 0
  have k1 := x1.cell 0
  have n1 : Blk (w1.alloc (.cells (madeCells #[.bool false] (m + 1)) 4)).drew w1.heap.size 4 (madeCells #[.bool false] (m + 1)) := (Blk.new w1 _ _).drewN 1
  go_cut [5, 6] from 9 to 13 (fun s5 s6 wc => ∃ gv cv g : Nat, s5 = .slice (some ⟨gv, 0, none⟩) T.length cv ∧ s6 = .slice (some ⟨g, 0, none⟩) (m + 1) (m + 1) ∧ OwnI wc w1.heap.size (.slice (some ⟨gv, 0, none⟩) T.length cv) (vTo T T.length) ∧ OwnB 4 wc w1.heap.size g (m + 1) (fun _ => false) ∧ gv ≠ g ∧ Boxed w wc 26 #[.slice a T.length cap])
  case first =>
    go_region_held3 (fun w' => w'.cell? ⟨w.heap.size, 0, none⟩ = some (.slice a T.length cap))
      (first | assumption | exact k0 | exact k1 | exact HC | exact HD)
      (first
        | (go_at_call 140; (with_reducible refine (generatorsS_p _ T _ (x0.rd h) hok).mono ?_); rintro e wa ⟨g1, c1, rfl, oa, hba⟩; have xa := x0.trans hba; have HC : wa.cell? ⟨w.heap.size, 0, none⟩ = some (.slice a T.length cap) := xa.cell 0; have ga := oa.block g1 rfl; have b1 : Below wa.heap.size wa (wa.alloc (.cells (madeCells #[.bool false] (m + 1)) 4)) := (Below.refl _ _).alloc (Nat.le_refl _) _; have xb := xa.trans b1; have HD : (wa.alloc (.cells (madeCells #[.bool false] (m + 1)) 4)).cell? ⟨w.heap.size, 0, none⟩ = some (.slice a T.length cap) := xb.cell 0)
        | (go_at_call 140; (with_reducible refine (generatorsS_p _ T _ (x1.rd h) hok).mono ?_); rintro e wa ⟨g1, c1, rfl, oa, hba⟩; have xa := x1.trans hba; have HC : wa.cell? ⟨w.heap.size, 0, none⟩ = some (.slice a T.length cap) := xa.cell 0; have ga := oa.block g1 rfl; have m1 := n1.stays hba))
    · have e1 := oa.base_le (base' := w1.heap.size) (Nat.le_refl _)
      have hsa := hba.size
      have hs1 : w1.heap.size ≤ w1.drew.heap.size := Nat.le_refl _
      go_wp2
      go_meet
      exact ⟨g1, c1, _, rfl, rfl, e1.below b1 (Nat.le_refl _), ownB_made (Blk.new wa _ _) (by omega) (by unfold maxLen; omega), by omega, xb⟩
    · have hs1 : w1.heap.size + 1 ≤ ((w1.alloc (.cells (madeCells #[.bool false] (m + 1)) 4)).drew).heap.size := by simp
      have e1 := oa.base_le (base' := w1.heap.size) (by omega)
      go_wp2
      go_meet
      exact ⟨g1, c1, _, rfl, rfl, e1, ownB_made m1 (Nat.le_refl _) (by unfold maxLen; omega), by omega, xa⟩
  case rest =>
    obtain ⟨gv, cv, g, rfl, rfl, oV, oB, hne, hbx⟩ := hcut
    clear k0 k1 n1 hmk x0 x1 a0 a1 hx hx0 wm
    have dB := oB.cell (i := 0) (by omega)
    have fB := oB.free 0
    have hm0 : (0 : Int) < ((m + 1 : Nat) : Int) := by omega
    have hm1 : (0 : Int) < (m : Int) + 1 := by omega
    have hgB := oB.block
    have oB1 := (oB.set 0 true).congr (f' := valTo T 1 false) (fun i hi => by
      unfold upd valTo
      by_cases e : i = 0
      · subst e; simp; exact valB_zero hok
      · simp [e])
    have oV1 : OwnI (wc.setCell ⟨g, 0, none⟩ (.bool true)) w1.heap.size (.slice (some ⟨gv, 0, none⟩) T.length cv) (vTo T T.length) := oV.other (g := g) (fun k hk => by simp [Value.ownBlock] at hk; omega) 0 (.bool true)
    have bx1 : Boxed w (wc.setCell ⟨g, 0, none⟩ (.bool true)) 26 #[.slice a T.length cap] := hbx.wrote ((Keeps.refl (fun k => w.heap.size + 1 ≤ k) wc).setCell (p := ⟨g, 0, none⟩) (by dsimp only; omega) (.bool true))
    go_wp2_with fail
    go_loopw [7, 8] (fun kv _ wr => ∃ k : Nat, 1 ≤ k ∧ k ≤ m + 1 ∧ kv = .int .i64 k ∧ OwnI wr w1.heap.size (.slice (some ⟨gv, 0, none⟩) T.length cv) (vTo T T.length) ∧ OwnB 4 wr w1.heap.size g (m + 1) (valTo T k false) ∧ Boxed w wr 26 #[.slice a T.length cap]) (fun kv _ _ => m + 1 - (intOf kv).toNat)
    case atStart => exact ⟨1, Nat.le_refl _, by omega, rfl, oV1, oB1, bx1⟩
    case round =>
      obtain ⟨k, hk1, hk, rfl, oV2, oB2, bx2⟩ := hrel
      clear oB1 oV1 bx1 dB fB oV oB hbx
      obtain ⟨wo, rfl⟩ : ∃ wo : World, wo = wr := ⟨_, rfl⟩
      by_cases hlt : k ≤ m
      · have hkm : (k : Int) ≤ (m : Int) := by omega
        have HIX := Lib.hid hlt
        go_wp2_with fail
        go_loopw [8] (fun iv wr => ∃ i : Nat, i ≤ T.length ∧ iv = .int .i64 i ∧ OwnI wr w1.heap.size (.slice (some ⟨gv, 0, none⟩) T.length cv) (vTo T T.length) ∧ OwnB 4 wr w1.heap.size g (m + 1) (valTo T k (hasTo T k i)) ∧ Boxed w wr 26 #[.slice a T.length cap]) (fun iv _ => T.length - (intOf iv).toNat)
        case atStart => exact ⟨0, Nat.zero_le _, rfl, oV2, oB2, bx2⟩
        case round =>
          obtain ⟨i, hi, rfl, oV3, oB3, bx3⟩ := hrel
          clear oV2 oB2 bx2
          obtain ⟨wi, rfl⟩ : ∃ wi : World, wi = wr := ⟨_, rfl⟩
          have dK := oB3.cell (i := k) (by omega)
          have fK := oB3.free k
          rw [valTo_at] at dK
          have hkm1 : (k : Int) < (m : Int) + 1 := by omega
          have hk0 : (0 : Int) ≤ (k : Int) := Int.natCast_nonneg _
          have hgi := oB3.block
          by_cases hil : i < T.length
          · have hil' : (i : Int) < (T.length : Int) := by omega
            have hi0 : (0 : Int) ≤ (i : Int) := Int.natCast_nonneg _
            cases hb : hasTo T k i
            · rw [hb] at dK
              have oV4 := (show OwnI wi w1.heap.size (.slice (some ⟨gv, 0, none⟩) (vTo T T.length).length cv) (vTo T T.length) by rw [vTo_len]; exact oV3)
              have dV := oV4.cell i (by simpa using hil)
              rw [gI_vTo hil] at dV
              have hv := vI_bd hok hil
              have HN := Lib.hid (hasTo_succ T k i)
              have hw : ∀ x : Bool, OwnI (wi.setCell ⟨g, k, none⟩ (.bool x)) w1.heap.size (.slice (some ⟨gv, 0, none⟩) T.length cv) (vTo T T.length) ∧ OwnB 4 (wi.setCell ⟨g, k, none⟩ (.bool x)) w1.heap.size g (m + 1) (valTo T k x) ∧ Boxed w (wi.setCell ⟨g, k, none⟩ (.bool x)) 26 #[.slice a T.length cap] := fun x =>
                ⟨oV3.other (g := g) (fun q hq => by simp [Value.ownBlock] at hq; omega) k (.bool x), by have := oB3.set k x; rwa [valTo_set] at this, bx3.wrote ((Keeps.refl (fun q => w.heap.size + 1 ≤ q) wi).setCell (p := ⟨g, k, none⟩) (by dsimp only; omega) (.bool x))⟩
              have HW := Lib.hid hw
              by_cases hle : vI T i ≤ (k : Int)
              · obtain ⟨q, hq⟩ := Int.eq_ofNat_of_zero_le (show 0 ≤ (k : Int) - vI T i by omega)
                have hqk : q < k := by omega
                have dQ := oB3.cell (i := q) (by omega)
                rw [valTo_lt T _ hqk] at dQ
                have hq1 : (q : Int) < (m : Int) + 1 := by omega
                have hq0 : (0 : Int) ≤ (q : Int) := Int.natCast_nonneg _
                have HE : Hid (hasTo T k (i + 1) = valB T (q : Int)) := Lib.hid (by rw [HN.out, hb, hq]; simp [hle])
                have wq : IntKind.i64.wrap (q : Int) = q := IntWalk.i64_in _ (by omega)
                clear hw oV4 HN oV3 oB3
                generalize vI T i = x at dV hv hle hq
                generalize valB T (q : Int) = y at dQ HE
                go_wp2
                go_roundw
                case rel =>
                  have h3 := HW.out y
                  exact ⟨i + 1, by omega, by go_num, h3.1, by rw [HE.out]; exact h3.2.1, h3.2.2⟩
                case measure => simp [intOf]; omega
              · have HE : Hid (hasTo T k (i + 1) = false) := Lib.hid (by rw [HN.out, hb]; simp [hle])
                have hle2 : (k : Int) < vI T i := by omega
                clear hw oV4 HN oV3 oB3
                generalize vI T i = x at dV hv hle hle2
                go_wp2
                go_roundw
                case rel =>
                  have h3 := HW.out false
                  exact ⟨i + 1, by omega, by go_num, h3.1, by rw [HE.out]; exact h3.2.1, h3.2.2⟩
                case measure => simp [intOf]; omega
            · rw [hb] at dK
              have HE : Hid (valB T (k : Int) = true) := Lib.hid (by rw [← hasTo_all hok (by omega), hasTo_up T.length (by omega) hb])
              have oB4 : OwnB 4 wi w1.heap.size g (m + 1) (valTo T (k + 1) false) := by rw [← valTo_next, HE.out, ← hb]; exact oB3
              clear oB3
              go_wp2
              go_roundw
              case rel => exact ⟨k + 1, by omega, by omega, by go_num, oV3, oB4, bx3⟩
              case measure => simp [intOf]; omega
          · have hi' : i = T.length := by omega
            subst hi'
            have oB4 : OwnB 4 wi w1.heap.size g (m + 1) (valTo T (k + 1) false) := by rw [← valTo_next, ← hasTo_all hok (by omega)]; exact oB3
            clear oB3
            go_wp2
            go_roundw
            case rel => exact ⟨k + 1, by omega, by omega, by go_num, oV3, oB4, bx3⟩
            case measure => simp [intOf]; omega
      · have hk' : k = m + 1 := by omega
        have hgt : (m : Int) < (k : Int) := by omega
        have hfin : OwnB 4 wo w.heap.size g (m + 1) (fun i => valB T (i : Int)) := by
          have e : k = m + 1 := hk'
          subst e
          exact (oB2.congr (fun i hi => valTo_lt T false hi)).base_le (by omega)
        go_wp2
        go_ret
        exact ⟨g, rfl, hfin, bx2.below⟩
end Go.Proofs.Ytiinceflafigeaa

/- Contracts: IsValue. -/
namespace Go.Proofs.Ytiinceflafigeaa
open Go.RowKit

/-- The code of a branch and a number. -/
def svC (T : List Int) (z : Int) : Int := if braB T = true then (if inB z 0 20000 = true then 0 else 2) else 1
def svB (T : List Int) (z : Int) : Bool := braB T && (inB z 0 20000 && valB T z)
theorem svC_bra {T : List Int} {z : Int} (h : braB T = false) : svC T z = 1 := by simp [svC, h]
theorem svC_num {T : List Int} {z : Int} (h : braB T = true) (h' : inB z 0 20000 = false) : svC T z = 2 := by simp [svC, h, h']
theorem svC_ok {T : List Int} {z : Int} (h : braB T = true) (h' : inB z 0 20000 = true) : svC T z = 0 := by simp [svC, h, h']
theorem svB_bra {T : List Int} {z : Int} (h : braB T = false) : svB T z = false := by simp [svB, h]
theorem svB_num {T : List Int} {z : Int} (h' : inB z 0 20000 = false) : svB T z = false := by simp [svB, h']
theorem svB_ok {T : List Int} {z : Int} (h : braB T = true) (h' : inB z 0 20000 = true) : svB T z = valB T z := by simp [svB, h, h']

theorem ret_bi {a b : Bool} {c d : Int} (h : a = b) (h' : c = d) : Ending.returned (.tuple #[.bool a, .int .i64 c]) = .returned (.tuple #[.bool b, .int .i64 d]) := by rw [h, h']

set_option maxHeartbeats 1000000 in
theorem implIsValue_c (v : Value) (T : List Int) (z : Int) (w : World) (h : Rd w v T) :
    Calls Try.prog 35 #[.agg #[v], .int .i64 z] w fun e w' => e = .returned (.tuple #[.bool (svB T z), .int .i64 (svC T z)]) ∧ Below w.heap.size w w' := by
  have hx := Boxed.start w 26 #[v]
  obtain ⟨a, k, rfl⟩ := h.len0
  have c0 := hx.cell 0
  cases hbr : braB T
  · have HC := Lib.hid (svC_bra (z := z) hbr)
    have HB := Lib.hid (svB_bra (z := z) hbr)
    go_enter Try.func35, Try.ntmps35
    go_wp2_with fail
    refine (implIsBranch_c _ T _ (hx.rd h)).mono ?_
    rintro e w1 ⟨rfl, hb⟩
    rw [hbr]
    go_wp2
    go_ret2
    exact ⟨ret_bi HB.out.symm HC.out.symm, (hx.trans hb).below⟩
  · cases hin : inB z 0 20000
    · have HC := Lib.hid (svC_num hbr hin)
      have HB := Lib.hid (svB_num (T := T) hin)
      go_enter Try.func35, Try.ntmps35
      go_wp2_with fail
      refine (implIsBranch_c _ T _ (hx.rd h)).mono ?_
      rintro e w1 ⟨rfl, hb⟩
      rw [hbr]
      go_wp2_with fail
      refine (inRange_c _ _ _ _).mono ?_
      rintro e w2 ⟨rfl, rfl⟩
      rw [hin]
      go_wp2
      go_ret2
      exact ⟨ret_bi HB.out.symm HC.out.symm, (hx.trans hb).below⟩
    · have HC := Lib.hid (svC_ok hbr hin)
      have HB := Lib.hid (svB_ok hbr hin)
      have hok := braB_iff.1 hbr
      have hz := (inB_iff.1 hin).1
      go_enter Try.func35, Try.ntmps35
      go_wp2_with fail
      refine (implIsBranch_c _ T _ (hx.rd h)).mono ?_
      rintro e w1 ⟨rfl, hb⟩
      rw [hbr]
      have hx1 := hx.trans hb
      go_wp2_with fail
      refine (inRange_c _ _ _ _).mono ?_
      rintro e w2 ⟨rfl, rfl⟩
      rw [hin]
      have c1 := hx1.cell 0
      go_wp2_with fail
      refine (semOf_c _ T _ (hx1.rd h) hok).mono ?_
      rintro e w3 ⟨gl, gp, rfl, hl, hr, hb3⟩
      have hx3 := hx1.trans hb3
      clear c1
      go_wp2_with fail
      refine (has_c _ _ T z _ hl.rd hok hz).mono ?_
      rintro e w4 ⟨rfl, hb4⟩
      rw [← HB.out]
      generalize hy : svB T z = y
      have HYY := Lib.hid hy
      clear hy HB
      go_wp2
      go_ret2
      exact ⟨ret_bi HYY.out.symm HC.out.symm, (hx3.trans hb4).below⟩

set_option maxHeartbeats 1000000 in
theorem specIsValue_c (v : Value) (T : List Int) (z : Int) (w : World) (h : Rd w v T) :
    Calls Try.prog 36 #[.agg #[v], .int .i64 z] w fun e w' => e = .returned (.tuple #[.bool (svB T z), .int .i64 (svC T z)]) ∧ Below w.heap.size w w' := by
  have hx := Boxed.start w 26 #[v]
  obtain ⟨a, k, rfl⟩ := h.len0
  have c0 := hx.cell 0
  cases hbr : braB T
  · have HC := Lib.hid (svC_bra (z := z) hbr)
    have HB := Lib.hid (svB_bra (z := z) hbr)
    go_enter Try.func36, Try.ntmps36
    go_wp2_with fail
    refine (l03Is_c _ T _ (hx.rd h)).mono ?_
    rintro e w1 ⟨rfl, hb⟩
    rw [hbr]
    go_wp2
    go_ret2
    exact ⟨ret_bi HB.out.symm HC.out.symm, (hx.trans hb).below⟩
  · cases hin : inB z 0 20000
    · have HC := Lib.hid (svC_num hbr hin)
      have HB := Lib.hid (svB_num (T := T) hin)
      go_enter Try.func36, Try.ntmps36
      go_wp2_with fail
      refine (l03Is_c _ T _ (hx.rd h)).mono ?_
      rintro e w1 ⟨rfl, hb⟩
      rw [hbr]
      go_wp2_with fail
      refine (l01In_c _ _ _ _).mono ?_
      rintro e w2 ⟨rfl, rfl⟩
      rw [hin]
      go_wp2
      go_ret2
      exact ⟨ret_bi HB.out.symm HC.out.symm, (hx.trans hb).below⟩
    · have HC := Lib.hid (svC_ok hbr hin)
      have HB := Lib.hid (svB_ok hbr hin)
      have hok := braB_iff.1 hbr
      have hz := inB_iff.1 hin
      obtain ⟨m, rfl⟩ := Int.eq_ofNat_of_zero_le hz.1
      have hm0 : (0 : Int) ≤ (m : Int) := Int.natCast_nonneg _
      have hm1 : (m : Int) < (m : Int) + 1 := by omega
      go_enter Try.func36, Try.ntmps36
      go_wp2_with fail
      refine (l03Is_c _ T _ (hx.rd h)).mono ?_
      rintro e w1 ⟨rfl, hb⟩
      rw [hbr]
      have hx1 := hx.trans hb
      go_wp2_with fail
      refine (l01In_c _ _ _ _).mono ?_
      rintro e w2 ⟨rfl, rfl⟩
      rw [hin]
      have c1 := hx1.cell 0
      go_wp2_with fail
      refine (l05Values_c _ T m _ (hx1.rd h) hok (by omega)).mono ?_
      rintro e w3 ⟨g, rfl, hB, hb3⟩
      have d := hB.cell (i := m) (by omega)
      rw [← HB.out] at d
      generalize hy : svB T (m : Int) = y at d
      have HYY := Lib.hid hy
      clear c1 HB hy
      go_wp2
      go_ret2
      exact ⟨ret_bi HYY.out.symm HC.out.symm, (hx1.trans hb3).below⟩
end Go.Proofs.Ytiinceflafigeaa
