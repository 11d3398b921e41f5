/- Contracts: points of a branch, the reference. -/
import Derived.Test.YtiinceflafigeaaSeqL
import Derived.Test.YtiinceflafigeaaPtsI
import Derived.Test.YtiinceflafigeaaL03Is
namespace Go.Proofs.Ytiinceflafigeaa
open Go.RowKit

theorem l06Range_c (v : Value) (T : List Int) (k : Int) (w : World) (h : Rd w v T) :
    Calls Try.prog 105 #[.agg #[v], .int .i64 k] w fun e w' => e = .returned (.int .i64 (ckC T k)) ∧ Below w.heap.size w w' := by
  have hx := Boxed.start w 26 #[v]
  obtain ⟨a, c, rfl⟩ := h.len0
  have c0 := hx.cell 0
  cases hbr : braB T
  · have HC := Lib.hid (ckC_bra (k := k) hbr)
    go_enter Try.func105, Try.ntmps105
    go_wp2_with fail
    refine (l03Is_c _ T _ (hx.rd h)).mono ?_
    rintro e w1 ⟨rfl, hb⟩
    rw [hbr]
    go_wp2
    go_ret
    exact ⟨ret_int HC.out.symm, (hx.trans hb).below⟩
  · cases hin : inB k 1 400
    · have HC := Lib.hid (ckC_num hbr hin)
      go_enter Try.func105, Try.ntmps105
      go_wp2_with fail
      refine (l03Is_c _ T _ (hx.rd h)).mono ?_
      rintro e w1 ⟨rfl, hb⟩
      rw [hbr]
      go_wp2_with fail
      refine (l01In_c _ _ _ _).mono ?_
      rintro e w2 ⟨rfl, rfl⟩
      rw [hin]
      go_wp2
      go_ret
      exact ⟨ret_int HC.out.symm, (hx.trans hb).below⟩
    · have HC := Lib.hid (ckC_ok hbr hin)
      go_enter Try.func105, Try.ntmps105
      go_wp2_with fail
      refine (l03Is_c _ T _ (hx.rd h)).mono ?_
      rintro e w1 ⟨rfl, hb⟩
      rw [hbr]
      go_wp2_with fail
      refine (l01In_c _ _ _ _).mono ?_
      rintro e w2 ⟨rfl, rfl⟩
      rw [hin]
      go_wp2
      go_ret
      exact ⟨ret_int HC.out.symm, (hx.trans hb).below⟩

/-- The number of the code at x (of the point x + 1), when the first n points have been looked at. -/
def cdA (M : List Int) (n x : Nat) : Int := if 0 ≤ secTo M (x + 1) (min n x) then ((x + 1 : Nat) : Int) - secTo M (x + 1) (min n x) else 0
def cdL (M : List Int) (n : Nat) : List Int := (List.range (M.length - 1)).map (cdA M n)
@[simp] theorem cdL_len (M : List Int) (n : Nat) : (cdL M n).length = M.length - 1 := by simp [cdL]
theorem cdL_zero (M : List Int) : cdL M 0 = List.replicate (M.length - 1) 0 := gI_ext (by simp) (fun i hi => by
  rw [cdL_len] at hi
  rw [gI_rep hi, gI_lt (by simpa using hi)]
  simp [cdL, cdA, secTo])
theorem cdL_all (M : List Int) : cdL M M.length = codeL M := gI_ext (by simp) (fun i hi => by
  rw [cdL_len] at hi
  rw [gI_codeL (by omega), gI_lt (by simpa using hi)]
  simp only [cdL, List.getElem_map, List.getElem_range]
  unfold cdA cI sI
  rw [Nat.min_eq_right (show i ≤ M.length by omega), Nat.add_sub_cancel])
/-- While the point i is looked at: up to j the points have been seen. -/
def cdM (M : List Int) (i j : Nat) : List Int := (List.range (M.length - 1)).map fun x => if x + 1 < j then cdA M (i + 1) x else cdA M i x
@[simp] theorem cdM_len (M : List Int) (i j : Nat) : (cdM M i j).length = M.length - 1 := by simp [cdM]
theorem gI_cdM {M : List Int} {i j x : Nat} (h : x + 1 < M.length) : gI (cdM M i j) x = if x + 1 < j then cdA M (i + 1) x else cdA M i x := by rw [gI_lt (by simp; omega)]; simp [cdM]
theorem gI_cdL {M : List Int} {n x : Nat} (h : x + 1 < M.length) : gI (cdL M n) x = cdA M n x := by rw [gI_lt (by simp; omega)]; simp [cdL]
theorem cdA_same {M : List Int} {i x : Nat} (h : ¬ (i < x ∧ pB M i (x + 1) = true)) : cdA M (i + 1) x = cdA M i x := by
  unfold cdA
  by_cases hx : i < x
  · have hp : pB M i (x + 1) = false := by
      cases c : pB M i (x + 1)
      · rfl
      · exact absurd ⟨hx, c⟩ h
    rw [Nat.min_eq_left (by omega), Nat.min_eq_left (by omega), secTo_no hp]
  · rw [Nat.min_eq_right (by omega), Nat.min_eq_right (by omega)]
theorem cdA_hit {M : List Int} {i x : Nat} (hx : i < x) (hp : pB M i (x + 1) = true) : cdA M (i + 1) x = ((x + 1 : Nat) : Int) - (i : Int) := by
  unfold cdA
  rw [Nat.min_eq_left (by omega), secTo_yes hp, if_pos (by omega)]
theorem cdM_start (M : List Int) (i : Nat) : cdL M i = cdM M i (i + 1) := gI_ext (by simp) (fun x hx => by
  rw [cdL_len] at hx
  rw [gI_cdL (by omega), gI_cdM (by omega)]
  split
  · exact (cdA_same (by omega)).symm
  · rfl)
theorem cdM_skip {M : List Int} {i j : Nat} (hj : j < M.length) (h : ¬ (i + 1 < j ∧ pB M i j = true)) (h0 : 0 < j) : cdM M i j = cdM M i (j + 1) := gI_ext (by simp) (fun x hx => by
  rw [cdM_len] at hx
  rw [gI_cdM (by omega), gI_cdM (by omega)]
  by_cases e : x + 1 = j
  · subst e
    rw [if_neg (by omega), if_pos (by omega)]
    exact (cdA_same (fun hh => h ⟨by omega, hh.2⟩)).symm
  · by_cases e2 : x + 1 < j
    · rw [if_pos e2, if_pos (by omega)]
    · rw [if_neg e2, if_neg (by omega)])
theorem cdM_put {M : List Int} {i q : Nat} (hj : q + 1 < M.length) (hi : i < q) (hp : pB M i (q + 1) = true) : (cdM M i (q + 1)).set q (((q + 1 : Nat) : Int) - (i : Int)) = cdM M i (q + 1 + 1) := gI_ext (by simp) (fun x hx => by
  have hx' : x + 1 < M.length := by simp at hx; omega
  by_cases e : q = x
  · subst e
    rw [gI_set_at (by simp; omega), gI_cdM hx', if_pos (by omega), cdA_hit hi hp]
  · rw [gI_set_ne e, gI_cdM hx', gI_cdM hx']
    by_cases e2 : x + 1 < q + 1
    · rw [if_pos e2, if_pos (by omega)]
    · rw [if_neg e2, if_neg (by omega)])
theorem cdM_end {M : List Int} (h : Eu M) {i j : Nat} (hij : i < j) (hb : j = M.length ∨ pB M i j = false) : cdM M i j = cdL M (i + 1) := gI_ext (by simp) (fun x hx => by
  rw [cdM_len] at hx
  rw [gI_cdM (by omega), gI_cdL (by omega)]
  split
  · rfl
  · rename_i hx2
    refine (cdA_same (fun hh => ?_)).symm
    rcases hb with hb | hb
    · omega
    · have := pB_down h (by omega : x + 1 < M.length) hij (by omega : j ≤ x + 1) hh.2
      rw [hb] at this; exact absurd this (by simp))

set_option maxRecDepth 100000 in
set_option maxHeartbeats 4000000 in
theorem l06Code_c (v : Value) (T : List Int) (k : Nat) (w : World) (h : Rd w v T) (hok : BraOk T) (hk1 : 1 ≤ k) (hk : k ≤ 400) :
    Calls Try.prog 106 #[.agg #[v], .int .i64 (k : Int)] w (RetI w (codeL (seqL T k))) := by
  obtain ⟨i0, hi, hz0, hz1, hz2⟩ := info_parts Try.infoI
  have hx := Boxed.start w 26 #[v]
  obtain ⟨a, cap, rfl⟩ := h.len0
  obtain ⟨n, rfl⟩ : ∃ n, k = n + 1 := ⟨k - 1, by omega⟩
  have hmk : ∀ W : World, (Instr.makeSlice 24 (.int .i64 (n : Int)) (.int .i64 (n : Int))).run Try.prog W = .ok (.slice (some ⟨W.heap.size, 0, none⟩) n n) (W.alloc (.cells (madeCells #[.int .i64 0] n) 2)) := fun W => run_make_row 24 2 i0 _ Try.underlying24 hi hz0 hz1 rfl .i64 .i64 n (by rw [hz2]; omega) (by omega) W
  have f1 : ((n + 1 : Nat) : Int) - 1 = (n : Int) := by omega
  have f2 : (n : Int) + 1 - 1 = (n : Int) := by omega
  have f3 : IntKind.i64.wrap (n : Int) = (n : Int) := IntWalk.i64_in _ (by omega)
  have hal0 : Below (w.alloc (.cells #[.slice a T.length cap] 26)).heap.size (w.alloc (.cells #[.slice a T.length cap] 26)) ((w.alloc (.cells #[.slice a T.length cap] 26)).alloc (.cells (madeCells #[.int .i64 0] n) 2)) := (Below.refl _ _).alloc (Nat.le_refl _) _
  have hx1 := hx.trans hal0
  have hE0 := ownI_made (w := (w.alloc (.cells #[.slice a T.length cap] 26)).alloc (.cells (madeCells #[.int .i64 0] n) 2)) (e := 2) (base := w.heap.size + 1) (g := w.heap.size + 1) (n := n) (Blk.new' (by simp)) (Nat.le_refl _) (by unfold maxLen; omega)
  have c0 := hx1.cell 0
  have hEu := eu_seq hok (n + 1)
  have hMl := seqL_len T (n + 1)
  go_enter Try.func106, Try.ntmps106
  go_wp2_with fail
  have hcall := l06Sequence_c (.slice a T.length cap) T (n + 1) _ (hx1.rd h) hok (by omega)
  rw [show ((n + 1 : Nat) : Int) = (n : Int) + 1 by omega] at hcall
  refine hcall.mono ?_
  rintro e w1 ⟨am, km, rfl, oM, hb1⟩
  have hx2 := hx1.trans hb1
  have hO1 := hE0.below hb1 (Nat.le_refl _)
  obtain ⟨gm, cm, hme, hgm0, hgm1, _, _⟩ := Own.pos oM (by rw [hMl]; omega)
  injection hme with hme1 hme2 hme3
  subst hme1
  subst hme3
  have hM1 : ∀ x, x < n + 1 → w1.cell? ⟨gm, x, none⟩ = some (.int .i64 (gI (seqL T (n + 1)) x)) := fun x hx => oM.cell x (by rw [hMl]; exact hx)
  have hgb := hx1.size
  simp at hgm0
  rw [hMl]
  clear hE0 hal0 c0 hcall hmk hme2
  generalize hMM : seqL T (n + 1) = M at *
  clear oM
  have HMM := Lib.hid hMM
  clear hMM
  have hml1 : M.length ≤ n + 1 := by omega
  have hml2 : n + 1 ≤ M.length := by omega
  have HML := Lib.hid hMl
  have hO2 : OwnI w1 (w.heap.size + 1) (.slice (some ⟨w.heap.size + 1, 0, none⟩) n n) (cdL M 0) := by rw [cdL_zero, HML.out]; exact hO1
  clear hMl hO1
  have hnn : (n : Int) < (n : Int) + 1 := by omega
  go_wp2_with fail
  go_loopw [7, 8, 9] (fun iv _ _ wr => ∃ i : Nat, i ≤ n + 1 ∧ iv = .int .i64 i ∧ OwnI wr (w.heap.size + 1) (.slice (some ⟨w.heap.size + 1, 0, none⟩) n n) (cdL M i) ∧ Keeps (fun q => q = w.heap.size + 1) w1 wr) (fun iv _ _ _ => n + 1 - (intOf iv).toNat)
  case atStart => exact ⟨0, Nat.zero_le _, rfl, hO2, Keeps.refl _ _⟩
  case round =>
    obtain ⟨i, hil, rfl, hO, hkp⟩ := hrel
    clear hO2
    obtain ⟨wo, rfl⟩ : ∃ wo : World, wo = wr := ⟨_, rfl⟩
    have hi0 : (0 : Int) ≤ (i : Int) := Int.natCast_nonneg _
    by_cases hlt : i < n + 1
    · have hii : (i : Int) < (n : Int) + 1 := by omega
      have hps := psum_self M i
      have wi1 : IntKind.i64.wrap ((i : Int) + 1) = (i : Int) + 1 := IntWalk.i64_in _ (by omega)
      rw [cdM_start] at hO
      go_wp2_with fail
      go_loopw [8, 9] (fun sv jv wr => ∃ j : Nat, i < j ∧ j ≤ n + 1 ∧ jv = .int .i64 j ∧ sv = .int .i64 (psum M i (j - 1)) ∧ OwnI wr (w.heap.size + 1) (.slice (some ⟨w.heap.size + 1, 0, none⟩) n n) (cdM M i j) ∧ Keeps (fun q => q = w.heap.size + 1) w1 wr) (fun _ jv _ => n + 1 - (intOf jv).toNat)
      case atStart => exact ⟨i + 1, by omega, by omega, by go_num, by rw [Nat.add_sub_cancel, hps], hO, hkp⟩
      case round =>
        obtain ⟨j, hij, hjl, rfl, rfl, hO2, hkp2⟩ := hrel
        clear hO hkp hps
        obtain ⟨wi, rfl⟩ : ∃ wi : World, wi = wr := ⟨_, rfl⟩
        have hj0 : (0 : Int) ≤ (j : Int) := Int.natCast_nonneg _
        by_cases hjt : j < n + 1
        · have hji : (j : Int) < (n : Int) + 1 := by omega
          obtain ⟨q, rfl⟩ : ∃ q, j = q + 1 := ⟨j - 1, by omega⟩
          have dj := (hkp2.cell (p := ⟨gm, q + 1, none⟩) hgm1 (show ¬ gm = w.heap.size + 1 by omega)).trans (hM1 (q + 1) hjt)
          have di := (hkp2.cell (p := ⟨gm, i, none⟩) hgm1 (show ¬ gm = w.heap.size + 1 by omega)).trans (hM1 i hlt)
          have hs := psum_succ M (i := i) (j := q) (by omega)
          have hsb := psum_bd hEu i (q + 1) (by omega) (by omega)
          have hsq := psum_bd hEu i q (by omega) (by omega)
          have hmi := hEu.pos i (by omega)
          have hmj := hEu.pos (q + 1) (by omega)
          have f5 : (0 : Int) ≤ (q : Int) + 1 := by omega
          have f7 : ((q : Int) + 1).toNat = q + 1 := by omega
          have f8 : (q : Int) + 1 < (n : Int) + 1 := by omega
          have e0 : q + 1 - 1 = q := by omega
          rw [e0]
          have hss : psum M i q + gI M (q + 1) = psum M i (q + 1) := hs.symm
          have ws : IntKind.i64.wrap (psum M i (q + 1)) = psum M i (q + 1) := IntWalk.i64_in _ (by omega)
          cases hpb : pB M i (q + 1)
          · have hgt : gI M i < psum M i (q + 1) := by
              apply Int.not_le.1
              intro hle
              rw [pB_iff.2 ⟨hij, hle⟩] at hpb
              exact absurd hpb (by simp)
            rw [cdM_end hEu hij (.inr hpb)] at hO2
            have HF := Lib.hid hO2
            clear hO2 hs hpb e0
            generalize psum M i (q + 1) = s2 at *
            generalize psum M i q = s1 at *
            generalize gI M (q + 1) = x1 at *
            generalize gI M i = x0 at *
            go_wp2
            go_roundw
            case rel => exact ⟨i + 1, by omega, by go_num, HF.out, hkp2⟩
            case measure => simp [intOf]; omega
          · have hle := (pB_iff.1 hpb).2
            have hng : ¬ gI M i < psum M i (q + 1) := by omega
            by_cases hiq : i < q
            · have hfar : (i : Int) + 1 < (q : Int) + 1 := by omega
              have hfar2 : (i : Int) < (q : Int) := by omega
              have hput0 := cdM_put (by omega) hiq hpb
              have oC : OwnI wi (w.heap.size + 1) (.slice (some ⟨w.heap.size + 1, 0, none⟩) (cdM M i (q + 1)).length n) (cdM M i (q + 1)) := by rw [cdM_len, HML.out]; exact hO2
              have hqn : q < (cdM M i (q + 1)).length := by rw [cdM_len]; omega
              have dC := oC.cell q hqn
              have fC := oC.free q
              have hset := oC.set q (((q + 1 : Nat) : Int) - (i : Int))
              rw [hput0, cdM_len, HML.out, Nat.add_sub_cancel] at hset
              have hkp3 := hkp2.setCell (p := ⟨w.heap.size + 1, q, none⟩) rfl (.int .i64 (((q + 1 : Nat) : Int) - (i : Int)))
              have g1 : (q : Int) + 1 - 1 = (q : Int) := by omega
              have g2 : IntKind.i64.wrap (q : Int) = (q : Int) := IntWalk.i64_in _ (by omega)
              have g3 : (0 : Int) ≤ (q : Int) := by omega
              have g4 : (q : Int) < (n : Int) := by omega
              have g5 : IntKind.i64.wrap ((q : Int) + 1 - (i : Int)) = (q : Int) + 1 - (i : Int) := IntWalk.i64_in _ (by omega)
              have e9 : (((q + 1 : Nat) : Int) - (i : Int)) = (q : Int) + 1 - (i : Int) := by omega
              rw [e9] at hset hkp3
              have HF := Lib.hid hset
              have HK := Lib.hid hkp3
              clear hO2 oC hset hkp3 hs hpb e0 hput0 hqn e9
              generalize hs2 : psum M i (q + 1) = s2 at *
              have HS2 := Lib.hid hs2
              clear hs2
              generalize psum M i q = s1 at *
              generalize gI M (q + 1) = x1 at *
              generalize gI M i = x0 at *
              generalize gI (cdM M i (q + 1)) q = y0 at dC
              go_wp2
              go_roundw
              case rel => exact ⟨q + 1 + 1, by omega, by omega, by go_num, by rw [Nat.add_sub_cancel, HS2.out], HF.out, HK.out⟩
              case measure => simp [intOf]; omega
            · have hqi : q = i := by omega
              subst hqi
              rw [cdM_skip (by omega) (by omega) (by omega)] at hO2
              have HF := Lib.hid hO2
              clear hO2 hs hpb e0
              generalize hs2 : psum M q (q + 1) = s2 at *
              have HS2 := Lib.hid hs2
              clear hs2
              generalize psum M q q = s1 at *
              generalize gI M (q + 1) = x1 at *
              generalize gI M q = x0 at *
              go_wp2
              go_roundw
              case rel => exact ⟨q + 1 + 1, by omega, by omega, by go_num, by rw [Nat.add_sub_cancel, HS2.out], HF.out, hkp2⟩
              case measure => simp [intOf]; omega
        · have hje : j = n + 1 := by omega
          subst hje
          rw [cdM_end hEu hij (.inl HML.out.symm)] at hO2
          have HF := Lib.hid hO2
          have hnl : ¬ ((n + 1 : Nat) : Int) < (n : Int) + 1 := by omega
          clear hO2
          go_wp2
          go_roundw
          case rel => exact ⟨i + 1, by omega, by go_num, HF.out, hkp2⟩
          case measure => simp [intOf]; omega
    · have hie : i = n + 1 := by omega
      subst hie
      have hnl : ¬ ((n + 1 : Nat) : Int) < (n : Int) + 1 := by omega
      have hfin : OwnI wo w.heap.size (.slice (some ⟨w.heap.size + 1, 0, none⟩) n n) (codeL M) := by
        rw [← cdL_all, HML.out]
        exact hO.base_le (Nat.le_succ _)
      have hret := retI_mk hfin (hx2.below.trans (hkp.below (by have := hx2.size; omega) (fun x hx => by omega)))
      have HF := Lib.hid hret
      clear hfin hret hO
      go_wp2
      go_ret
      exact HF.out
end Go.Proofs.Ytiinceflafigeaa

/- Contracts: CodeOf, CountSatellites. -/
namespace Go.Proofs.Ytiinceflafigeaa
open Go.RowKit

theorem ck_len (T : List Int) (k : Int) : (ckL T k (codeL (seqL T k.toNat))).length ≤ 400 := by
  by_cases h : ckC T k = 0
  · rw [ckL_ok h]
    have := ckC_zero h
    simp; omega
  · rw [ckL_no h]; simp

set_option maxRecDepth 100000 in
theorem specCodeOf_c (v : Value) (T : List Int) (k : Int) (w : World) (h : Rd w v T) :
    Calls Try.prog 90 #[.agg #[v], .int .i64 k] w (RetIC w (ckL T k (codeL (seqL T k.toNat))) (ckC T k)) := by
  have hx := Boxed.start w 26 #[v]
  obtain ⟨a, c, rfl⟩ := h.len0
  have c0 := hx.cell 0
  by_cases h0 : ckC T k = 0
  · obtain ⟨hok, hk1, hk2⟩ := ckC_zero h0
    obtain ⟨n, rfl⟩ := Int.eq_ofNat_of_zero_le (show 0 ≤ k by omega)
    have HL := Lib.hid (ckL_ok (xs := codeL (seqL T ((n : Int)).toNat)) h0)
    go_enter Try.func90, Try.ntmps90
    go_wp2_with fail
    refine (l06Range_c _ T _ _ (hx.rd h)).mono ?_
    rintro e w1 ⟨rfl, hb⟩
    rw [h0]
    have hx1 := hx.trans hb
    have c1 := hx1.cell 0
    clear c0
    go_wp2_with fail
    refine (l06Code_c _ T n _ (hx1.rd h) hok (by omega) (by omega)).mono ?_
    rintro e w3 ⟨ac, kc, rfl, hO, hb3⟩
    have HF := Lib.hid (show RetIC w (ckL T n (codeL (seqL T ((n : Int)).toNat))) (ckC T n) (.returned (.tuple #[.slice ac (codeL (seqL T n)).length kc, .int .i64 0])) w3 by
      rw [HL.out, h0]
      exact ⟨ac, kc, rfl, hO.base_le (Nat.le_of_lt hx1.size), (hx1.trans hb3).below⟩)
    rw [codeL_len, seqL_len] at HF ⊢
    clear hO HL h0 c1
    go_wp2
    go_ret2
    exact HF.out
  · have HL := Lib.hid (ckL_no (xs := codeL (seqL T k.toNat)) h0)
    go_enter Try.func90, Try.ntmps90
    go_wp2_with fail
    refine (l06Range_c _ T _ _ (hx.rd h)).mono ?_
    rintro e w1 ⟨rfl, hb⟩
    have hne : (ckC T k != 0) = true := by simp [h0]
    have HF := Lib.hid (show RetIC w (ckL T k (codeL (seqL T k.toNat))) (ckC T k) (.returned (.tuple #[.slice none 0 0, .int .i64 (ckC T k)])) w1 by rw [HL.out]; exact retIC_nil (hx.trans hb).below)
    clear HL h0
    go_wp2
    go_ret2
    exact HF.out

/-- How many of the first n numbers are not 0. -/
def cnz (xs : List Int) : Nat → Int
  | 0 => 0
  | n + 1 => cnz xs n + (if gI xs n = 0 then 0 else 1)
theorem cnz_yes {xs : List Int} {n : Nat} (h : gI xs n = 0) : cnz xs (n + 1) = cnz xs n := by simp [cnz, h]
theorem cnz_no {xs : List Int} {n : Nat} (h : ¬ gI xs n = 0) : cnz xs (n + 1) = cnz xs n + 1 := by simp [cnz, h]
theorem cnz_bd (xs : List Int) (n : Nat) : 0 ≤ cnz xs n ∧ cnz xs n ≤ n := by
  induction n with
  | zero => simp [cnz]
  | succ n ih => rw [cnz]; split <;> omega
/-- The number of satellites. -/
def csN (T : List Int) (k : Int) : Int := cnz (ckL T k (codeL (seqL T k.toNat))) (ckL T k (codeL (seqL T k.toNat))).length
theorem csN_no {T : List Int} {k : Int} (h : ckC T k ≠ 0) : csN T k = 0 := by unfold csN; rw [ckL_no h]; rfl

set_option maxRecDepth 100000 in
set_option maxHeartbeats 1000000 in
theorem implCountSatellites_c (v : Value) (T : List Int) (k : Int) (w : World) (h : Rd w v T) :
    Calls Try.prog 93 #[.agg #[v], .int .i64 k] w fun e w' => e = .returned (.tuple #[.int .i64 (csN T k), .int .i64 (ckC T k)]) ∧ Below w.heap.size w w' := by
  have hx := Boxed.start w 26 #[v]
  obtain ⟨a, c, rfl⟩ := h.len0
  have c0 := hx.cell 0
  have hll := ck_len T k
  have HCS := Lib.hid (show csN T k = cnz (ckL T k (codeL (seqL T k.toNat))) (ckL T k (codeL (seqL T k.toNat))).length from rfl)
  go_enter Try.func93, Try.ntmps93
  go_wp2_with fail
  refine (implCodeOf_c _ T k _ (hx.rd h)).mono ?_
  rintro e w1 ⟨ac, kc, rfl, hO, hb⟩
  have hx1 := hx.trans hb
  generalize ckL T k (codeL (seqL T k.toNat)) = xs at *
  clear c0
  go_wp2_with fail
  go_loopw [8, 10, 19] (fun nv _ iv wr => ∃ i : Nat, i ≤ xs.length ∧ iv = .int .i64 i ∧ nv = .int .i64 (cnz xs i) ∧ w1 = wr) (fun _ _ iv _ => xs.length - (intOf iv).toNat)
  case atStart => exact ⟨0, Nat.zero_le _, rfl, rfl, rfl⟩
  case round =>
    obtain ⟨i, hi, rfl, rfl, rfl⟩ := hrel
    have hi0 : (0 : Int) ≤ (i : Int) := Int.natCast_nonneg _
    by_cases hlt : i < xs.length
    · have hii : (i : Int) < (xs.length : Int) := by omega
      obtain ⟨g, cg, hge, _⟩ := Own.pos hO (by omega)
      injection hge with he1 _ he3
      subst he1
      have dx := hO.cell i hlt
      have hb2 := cnz_bd xs i
      by_cases hz : gI xs i = 0
      · have HY := Lib.hid (cnz_yes hz)
        rw [hz] at dx
        clear hz
        generalize cnz xs i = y at *
        go_wp2
        go_roundw
        case rel => exact ⟨i + 1, by omega, by go_num, by rw [HY.out], by first | rfl | trivial⟩
        case measure => simp [intOf]; omega
      · have HY := Lib.hid (cnz_no hz)
        generalize gI xs i = x at *
        have hxb : (x != 0) = true := by simp [hz]
        generalize cnz xs i = y at *
        go_wp2
        go_roundw
        case rel => exact ⟨i + 1, by omega, by go_num, by rw [HY.out], by first | rfl | trivial⟩
        case measure => simp [intOf]; omega
    · have hie : i = xs.length := by omega
      subst hie
      have HF := Lib.hid hx1.below
      rw [← HCS.out]
      go_wp2
      go_ret2
      exact ⟨rfl, HF.out⟩

set_option maxRecDepth 100000 in
set_option maxHeartbeats 1000000 in
theorem specCountSatellites_c (v : Value) (T : List Int) (k : Int) (w : World) (h : Rd w v T) :
    Calls Try.prog 94 #[.agg #[v], .int .i64 k] w fun e w' => e = .returned (.tuple #[.int .i64 (csN T k), .int .i64 (ckC T k)]) ∧ Below w.heap.size w w' := by
  have hx := Boxed.start w 26 #[v]
  obtain ⟨a, c, rfl⟩ := h.len0
  have c0 := hx.cell 0
  by_cases h0 : ckC T k = 0
  · obtain ⟨hok, hk1, hk2⟩ := ckC_zero h0
    obtain ⟨n, rfl⟩ := Int.eq_ofNat_of_zero_le (show 0 ≤ k by omega)
    have HCS := Lib.hid (show csN T n = cnz (codeL (seqL T n)) (codeL (seqL T n)).length by unfold csN; rw [ckL_ok h0]; rfl)
    have H0 := Lib.hid h0
    have hll : (codeL (seqL T n)).length ≤ 400 := by simp; omega
    go_enter Try.func94, Try.ntmps94
    go_wp2_with fail
    refine (l06Range_c _ T _ _ (hx.rd h)).mono ?_
    rintro e w1 ⟨rfl, hb⟩
    rw [h0]
    have hx1 := hx.trans hb
    have c1 := hx1.cell 0
    clear c0 h0
    go_wp2_with fail
    refine (l06Code_c _ T n _ (hx1.rd h) hok (by omega) (by omega)).mono ?_
    rintro e w3 ⟨ac, kc, rfl, hO, hb3⟩
    have hx3 := hx1.trans hb3
    generalize codeL (seqL T n) = xs at *
    clear c1
    go_wp2_with fail
    go_loopw [8, 9] (fun nv iv wr => ∃ i : Nat, i ≤ xs.length ∧ iv = .int .i64 i ∧ nv = .int .i64 (cnz xs i) ∧ w3 = wr) (fun _ iv _ => xs.length - (intOf iv).toNat)
    case atStart => exact ⟨0, Nat.zero_le _, rfl, rfl, rfl⟩
    case round =>
      obtain ⟨i, hi, rfl, rfl, rfl⟩ := hrel
      have hi0 : (0 : Int) ≤ (i : Int) := Int.natCast_nonneg _
      by_cases hlt : i < xs.length
      · have hii : (i : Int) < (xs.length : Int) := by omega
        obtain ⟨g, cg, hge, _⟩ := Own.pos hO (by omega)
        injection hge with he1 _ he3
        subst he1
        have dx := hO.cell i hlt
        have hb2 := cnz_bd xs i
        by_cases hz : gI xs i = 0
        · have HY := Lib.hid (cnz_yes hz)
          rw [hz] at dx
          clear hz
          generalize cnz xs i = y at *
          go_wp2
          go_roundw
          case rel => exact ⟨i + 1, by omega, by go_num, by rw [HY.out], by first | rfl | trivial⟩
          case measure => simp [intOf]; omega
        · have HY := Lib.hid (cnz_no hz)
          generalize gI xs i = x at *
          have hxb : (x != 0) = true := by simp [hz]
          generalize cnz xs i = y at *
          go_wp2
          go_roundw
          case rel => exact ⟨i + 1, by omega, by go_num, by rw [HY.out], by first | rfl | trivial⟩
          case measure => simp [intOf]; omega
      · have hie : i = xs.length := by omega
        subst hie
        have HF := Lib.hid hx3.below
        rw [← HCS.out]
        go_wp2
        go_ret2
        rw [H0.out]
        exact ⟨rfl, HF.out⟩
  · have HL := Lib.hid (csN_no h0)
    go_enter Try.func94, Try.ntmps94
    go_wp2_with fail
    refine (l06Range_c _ T _ _ (hx.rd h)).mono ?_
    rintro e w1 ⟨rfl, hb⟩
    have hne : (ckC T k != 0) = true := by simp [h0]
    have HF := Lib.hid (hx.trans hb).below
    clear h0
    go_wp2
    go_ret2
    rw [HL.out]
    exact ⟨rfl, HF.out⟩
end Go.Proofs.Ytiinceflafigeaa
