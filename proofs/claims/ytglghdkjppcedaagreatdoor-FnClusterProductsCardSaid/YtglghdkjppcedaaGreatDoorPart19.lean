/- Contracts: points of a branch, the reference. -/
import Derived.Test.YtglghdkjppcedaaGreatDoorPart18
import Derived.Test.YtglghdkjppcedaaGreatDoorPart17
import Derived.Test.YtglghdkjppcedaaGreatDoorPart6
import Derived.Test.YtglghdkjppcedaaGreatDoorPart16
import Derived.Test.YtglghdkjppcedaaGreatDoorPart3
import Derived.Test.YtglghdkjppcedaaGreatDoorPart7
import Derived.StillTailTactics
import Derived.BigQuiet
namespace Go.Proofs.YtglghdkjppcedaaGreatDoor
open Go.RowKit

/-- The number of the code at x (of the point x + 1), when the first n points have been looked at. -/
def cdA (M : List Int) (n x : Nat) : Int := if 0 ≤ secTo M (x + 1) (min n x) then ((x + 1 : Nat) : Int) - secTo M (x + 1) (min n x) else 0
def cdL (M : List Int) (n : Nat) : List Int := (List.range (M.length - 1)).map (cdA M n)
@[simp] theorem cdL_len (M : List Int) (n : Nat) : (cdL M n).length = M.length - 1 := by simp [cdL]
theorem cdL_zero (M : List Int) : cdL M 0 = List.replicate (M.length - 1) 0 := gI_ext (by simp) (fun i hi => by
  rw [cdL_len] at hi
  rw [gI_rep hi, gI_lt (by simpa using hi)]
  simp [cdL, cdA, secTo])
theorem cdL_all (M : List Int) : cdL M M.length = codeL M := gI_ext (by simp) (fun i hi => by
  rw [cdL_len] at hi
  rw [gI_codeL (by omega), gI_lt (by simpa using hi)]
  simp only [cdL, List.getElem_map, List.getElem_range]
  unfold cdA cI sI
  rw [Nat.min_eq_right (show i ≤ M.length by omega), Nat.add_sub_cancel])
/-- While the point i is looked at: up to j the points have been seen. -/
def cdM (M : List Int) (i j : Nat) : List Int := (List.range (M.length - 1)).map fun x => if x + 1 < j then cdA M (i + 1) x else cdA M i x
@[simp] theorem cdM_len (M : List Int) (i j : Nat) : (cdM M i j).length = M.length - 1 := by simp [cdM]
theorem gI_cdM {M : List Int} {i j x : Nat} (h : x + 1 < M.length) : gI (cdM M i j) x = if x + 1 < j then cdA M (i + 1) x else cdA M i x := by rw [gI_lt (by simp; omega)]; simp [cdM]
theorem gI_cdL {M : List Int} {n x : Nat} (h : x + 1 < M.length) : gI (cdL M n) x = cdA M n x := by rw [gI_lt (by simp; omega)]; simp [cdL]
theorem cdA_same {M : List Int} {i x : Nat} (h : ¬ (i < x ∧ pB M i (x + 1) = true)) : cdA M (i + 1) x = cdA M i x := by
  unfold cdA
  by_cases hx : i < x
  · have hp : pB M i (x + 1) = false := by
      cases c : pB M i (x + 1)
      · rfl
      · exact absurd ⟨hx, c⟩ h
    rw [Nat.min_eq_left (by omega), Nat.min_eq_left (by omega), secTo_no hp]
  · rw [Nat.min_eq_right (by omega), Nat.min_eq_right (by omega)]
theorem cdA_hit {M : List Int} {i x : Nat} (hx : i < x) (hp : pB M i (x + 1) = true) : cdA M (i + 1) x = ((x + 1 : Nat) : Int) - (i : Int) := by
  unfold cdA
  rw [Nat.min_eq_left (by omega), secTo_yes hp, if_pos (by omega)]
theorem cdM_start (M : List Int) (i : Nat) : cdL M i = cdM M i (i + 1) := gI_ext (by simp) (fun x hx => by
  rw [cdL_len] at hx
  rw [gI_cdL (by omega), gI_cdM (by omega)]
  split
  · exact (cdA_same (by omega)).symm
  · rfl)
theorem cdM_skip {M : List Int} {i j : Nat} (hj : j < M.length) (h : ¬ (i + 1 < j ∧ pB M i j = true)) (h0 : 0 < j) : cdM M i j = cdM M i (j + 1) := gI_ext (by simp) (fun x hx => by
  rw [cdM_len] at hx
  rw [gI_cdM (by omega), gI_cdM (by omega)]
  by_cases e : x + 1 = j
  · subst e
    rw [if_neg (by omega), if_pos (by omega)]
    exact (cdA_same (fun hh => h ⟨by omega, hh.2⟩)).symm
  · by_cases e2 : x + 1 < j
    · rw [if_pos e2, if_pos (by omega)]
    · rw [if_neg e2, if_neg (by omega)])
theorem cdM_put {M : List Int} {i q : Nat} (hj : q + 1 < M.length) (hi : i < q) (hp : pB M i (q + 1) = true) : (cdM M i (q + 1)).set q (((q + 1 : Nat) : Int) - (i : Int)) = cdM M i (q + 1 + 1) := gI_ext (by simp) (fun x hx => by
  have hx' : x + 1 < M.length := by simp at hx; omega
  by_cases e : q = x
  · subst e
    rw [gI_set_at (by simp; omega), gI_cdM hx', if_pos (by omega), cdA_hit hi hp]
  · rw [gI_set_ne e, gI_cdM hx', gI_cdM hx']
    by_cases e2 : x + 1 < q + 1
    · rw [if_pos e2, if_pos (by omega)]
    · rw [if_neg e2, if_neg (by omega)])
theorem cdM_end {M : List Int} (h : Eu M) {i j : Nat} (hij : i < j) (hb : j = M.length ∨ pB M i j = false) : cdM M i j = cdL M (i + 1) := gI_ext (by simp) (fun x hx => by
  rw [cdM_len] at hx
  rw [gI_cdM (by omega), gI_cdL (by omega)]
  split
  · rfl
  · rename_i hx2
    refine (cdA_same (fun hh => ?_)).symm
    rcases hb with hb | hb
    · omega
    · have := pB_down h (by omega : x + 1 < M.length) hij (by omega : j ≤ x + 1) hh.2
      rw [hb] at this; exact absurd this (by simp))

set_option maxRecDepth 100000 in
set_option maxHeartbeats 4000000 in
theorem l06Code_c (v : Value) (T : List Int) (k : Nat) (w : World) (h : Rd w v T) (hok : BraOk T) (hk1 : 1 ≤ k) (hk : k ≤ 400) :
    Calls Tryz.prog 84 #[.agg #[v], .int .i64 (k : Int)] w (RetI w (codeL (seqL T k))) := by
  obtain ⟨i0, hi, hz0, hz1, hz2⟩ := info_parts Tryz.infoI
  have hx := Boxed.start w 90 #[v]
  obtain ⟨a, cap, rfl⟩ := h.len0
  obtain ⟨n, rfl⟩ : ∃ n, k = n + 1 := ⟨k - 1, by omega⟩
  have hmk : ∀ W : World, (Instr.makeSlice 24 (.int .i64 (n : Int)) (.int .i64 (n : Int))).run Tryz.prog W = .ok (.slice (some ⟨W.heap.size, 0, none⟩) n n) (W.alloc (.cells (madeCells #[.int .i64 0] n) 2)) := fun W => run_make_row 24 2 i0 _ Tryz.underlying24 hi hz0 hz1 rfl .i64 .i64 n (by rw [hz2]; omega) (by omega) W
  have f1 : ((n + 1 : Nat) : Int) - 1 = (n : Int) := by omega
  have f2 : (n : Int) + 1 - 1 = (n : Int) := by omega
  have f3 : IntKind.i64.wrap (n : Int) = (n : Int) := IntWalk.i64_in _ (by omega)
  have hal0 : Below (w.alloc (.cells #[.slice a T.length cap] 90)).heap.size (w.alloc (.cells #[.slice a T.length cap] 90)) ((w.alloc (.cells #[.slice a T.length cap] 90)).alloc (.cells (madeCells #[.int .i64 0] n) 2)) := (Below.refl _ _).alloc (Nat.le_refl _) _
  have hx1 := hx.trans hal0
  have hE0 := ownI_made (w := (w.alloc (.cells #[.slice a T.length cap] 90)).alloc (.cells (madeCells #[.int .i64 0] n) 2)) (e := 2) (base := w.heap.size + 1) (g := w.heap.size + 1) (n := n) (Blk.new' (by simp)) (Nat.le_refl _) (by unfold maxLen; omega)
  have c0 := hx1.cell 0
  have hEu := eu_seq hok (n + 1)
  have hMl := seqL_len T (n + 1)
  go_enter Tryz.func84, Tryz.ntmps84
  go_wp2_with fail
  have hcall := l06Sequence_c (.slice a T.length cap) T (n + 1) _ (hx1.rd h) hok (by omega)
  rw [show ((n + 1 : Nat) : Int) = (n : Int) + 1 by omega] at hcall
  refine hcall.mono ?_
  rintro e w1 ⟨am, km, rfl, oM, hb1⟩
  have hx2 := hx1.trans hb1
  have hO1 := hE0.below hb1 (Nat.le_refl _)
  obtain ⟨gm, cm, hme, hgm0, hgm1, _, _⟩ := Own.pos oM (by rw [hMl]; omega)
  injection hme with hme1 hme2 hme3
  subst hme1
  subst hme3
  have hM1 : ∀ x, x < n + 1 → w1.cell? ⟨gm, x, none⟩ = some (.int .i64 (gI (seqL T (n + 1)) x)) := fun x hx => oM.cell x (by rw [hMl]; exact hx)
  have hgb := hx1.size
  simp at hgm0
  rw [hMl]
  clear hE0 hal0 c0 hcall hmk hme2
  generalize hMM : seqL T (n + 1) = M at *
  clear oM
  have HMM := Lib.hid hMM
  clear hMM
  have hml1 : M.length ≤ n + 1 := by omega
  have hml2 : n + 1 ≤ M.length := by omega
  have HML := Lib.hid hMl
  have hO2 : OwnI w1 (w.heap.size + 1) (.slice (some ⟨w.heap.size + 1, 0, none⟩) n n) (cdL M 0) := by rw [cdL_zero, HML.out]; exact hO1
  clear hMl hO1
  have hnn : (n : Int) < (n : Int) + 1 := by omega
  go_wp2_with fail
  go_loopw [7, 8, 9] (fun iv _ _ wr => ∃ i : Nat, i ≤ n + 1 ∧ iv = .int .i64 i ∧ OwnI wr (w.heap.size + 1) (.slice (some ⟨w.heap.size + 1, 0, none⟩) n n) (cdL M i) ∧ Keeps (fun q => q = w.heap.size + 1) w1 wr) (fun iv _ _ _ => n + 1 - (intOf iv).toNat)
  case atStart => exact ⟨0, Nat.zero_le _, rfl, hO2, Keeps.refl _ _⟩
  case round =>
    obtain ⟨i, hil, rfl, hO, hkp⟩ := hrel
    clear hO2
    obtain ⟨wo, rfl⟩ : ∃ wo : World, wo = wr := ⟨_, rfl⟩
    have hi0 : (0 : Int) ≤ (i : Int) := Int.natCast_nonneg _
    by_cases hlt : i < n + 1
    · have hii : (i : Int) < (n : Int) + 1 := by omega
      have hps := psum_self M i
      have wi1 : IntKind.i64.wrap ((i : Int) + 1) = (i : Int) + 1 := IntWalk.i64_in _ (by omega)
      rw [cdM_start] at hO
      go_wp2_with fail
      go_loopw [8, 9] (fun sv jv wr => ∃ j : Nat, i < j ∧ j ≤ n + 1 ∧ jv = .int .i64 j ∧ sv = .int .i64 (psum M i (j - 1)) ∧ OwnI wr (w.heap.size + 1) (.slice (some ⟨w.heap.size + 1, 0, none⟩) n n) (cdM M i j) ∧ Keeps (fun q => q = w.heap.size + 1) w1 wr) (fun _ jv _ => n + 1 - (intOf jv).toNat)
      case atStart => exact ⟨i + 1, by omega, by omega, by go_num, by rw [Nat.add_sub_cancel, hps], hO, hkp⟩
      case round =>
        obtain ⟨j, hij, hjl, rfl, rfl, hO2, hkp2⟩ := hrel
        clear hO hkp hps
        obtain ⟨wi, rfl⟩ : ∃ wi : World, wi = wr := ⟨_, rfl⟩
        have hj0 : (0 : Int) ≤ (j : Int) := Int.natCast_nonneg _
        by_cases hjt : j < n + 1
        · have hji : (j : Int) < (n : Int) + 1 := by omega
          obtain ⟨q, rfl⟩ : ∃ q, j = q + 1 := ⟨j - 1, by omega⟩
          have dj := (hkp2.cell (p := ⟨gm, q + 1, none⟩) hgm1 (show ¬ gm = w.heap.size + 1 by omega)).trans (hM1 (q + 1) hjt)
          have di := (hkp2.cell (p := ⟨gm, i, none⟩) hgm1 (show ¬ gm = w.heap.size + 1 by omega)).trans (hM1 i hlt)
          have hs := psum_succ M (i := i) (j := q) (by omega)
          have hsb := psum_bd hEu i (q + 1) (by omega) (by omega)
          have hsq := psum_bd hEu i q (by omega) (by omega)
          have hmi := hEu.pos i (by omega)
          have hmj := hEu.pos (q + 1) (by omega)
          have f5 : (0 : Int) ≤ (q : Int) + 1 := by omega
          have f7 : ((q : Int) + 1).toNat = q + 1 := by omega
          have f8 : (q : Int) + 1 < (n : Int) + 1 := by omega
          have e0 : q + 1 - 1 = q := by omega
          rw [e0]
          have hss : psum M i q + gI M (q + 1) = psum M i (q + 1) := hs.symm
          have ws : IntKind.i64.wrap (psum M i (q + 1)) = psum M i (q + 1) := IntWalk.i64_in _ (by omega)
          cases hpb : pB M i (q + 1)
          · have hgt : gI M i < psum M i (q + 1) := by
              apply Int.not_le.1
              intro hle
              rw [pB_iff.2 ⟨hij, hle⟩] at hpb
              exact absurd hpb (by simp)
            rw [cdM_end hEu hij (.inr hpb)] at hO2
            have HF := Lib.hid hO2
            clear hO2 hs hpb e0
            generalize psum M i (q + 1) = s2 at *
            generalize psum M i q = s1 at *
            generalize gI M (q + 1) = x1 at *
            generalize gI M i = x0 at *
            go_wp2
            go_roundw
            case rel => exact ⟨i + 1, by omega, by go_num, HF.out, hkp2⟩
            case measure => simp [intOf]; omega
          · have hle := (pB_iff.1 hpb).2
            have hng : ¬ gI M i < psum M i (q + 1) := by omega
            by_cases hiq : i < q
            · have hfar : (i : Int) + 1 < (q : Int) + 1 := by omega
              have hfar2 : (i : Int) < (q : Int) := by omega
              have hput0 := cdM_put (by omega) hiq hpb
              have oC : OwnI wi (w.heap.size + 1) (.slice (some ⟨w.heap.size + 1, 0, none⟩) (cdM M i (q + 1)).length n) (cdM M i (q + 1)) := by rw [cdM_len, HML.out]; exact hO2
              have hqn : q < (cdM M i (q + 1)).length := by rw [cdM_len]; omega
              have dC := oC.cell q hqn
              have fC := oC.free q
              have hset := oC.set q (((q + 1 : Nat) : Int) - (i : Int))
              rw [hput0, cdM_len, HML.out, Nat.add_sub_cancel] at hset
              have hkp3 := hkp2.setCell (p := ⟨w.heap.size + 1, q, none⟩) rfl (.int .i64 (((q + 1 : Nat) : Int) - (i : Int)))
              have g1 : (q : Int) + 1 - 1 = (q : Int) := by omega
              have g2 : IntKind.i64.wrap (q : Int) = (q : Int) := IntWalk.i64_in _ (by omega)
              have g3 : (0 : Int) ≤ (q : Int) := by omega
              have g4 : (q : Int) < (n : Int) := by omega
              have g5 : IntKind.i64.wrap ((q : Int) + 1 - (i : Int)) = (q : Int) + 1 - (i : Int) := IntWalk.i64_in _ (by omega)
              have e9 : (((q + 1 : Nat) : Int) - (i : Int)) = (q : Int) + 1 - (i : Int) := by omega
              rw [e9] at hset hkp3
              have HF := Lib.hid hset
              have HK := Lib.hid hkp3
              clear hO2 oC hset hkp3 hs hpb e0 hput0 hqn e9
              generalize hs2 : psum M i (q + 1) = s2 at *
              have HS2 := Lib.hid hs2
              clear hs2
              generalize psum M i q = s1 at *
              generalize gI M (q + 1) = x1 at *
              generalize gI M i = x0 at *
              generalize gI (cdM M i (q + 1)) q = y0 at dC
              go_wp2
              go_roundw
              case rel => exact ⟨q + 1 + 1, by omega, by omega, by go_num, by rw [Nat.add_sub_cancel, HS2.out], HF.out, HK.out⟩
              case measure => simp [intOf]; omega
            · have hqi : q = i := by omega
              subst hqi
              rw [cdM_skip (by omega) (by omega) (by omega)] at hO2
              have HF := Lib.hid hO2
              clear hO2 hs hpb e0
              generalize hs2 : psum M q (q + 1) = s2 at *
              have HS2 := Lib.hid hs2
              clear hs2
              generalize psum M q q = s1 at *
              generalize gI M (q + 1) = x1 at *
              generalize gI M q = x0 at *
              go_wp2
              go_roundw
              case rel => exact ⟨q + 1 + 1, by omega, by omega, by go_num, by rw [Nat.add_sub_cancel, HS2.out], HF.out, hkp2⟩
              case measure => simp [intOf]; omega
        · have hje : j = n + 1 := by omega
          subst hje
          rw [cdM_end hEu hij (.inl HML.out.symm)] at hO2
          have HF := Lib.hid hO2
          have hnl : ¬ ((n + 1 : Nat) : Int) < (n : Int) + 1 := by omega
          clear hO2
          go_wp2
          go_roundw
          case rel => exact ⟨i + 1, by omega, by go_num, HF.out, hkp2⟩
          case measure => simp [intOf]; omega
    · have hie : i = n + 1 := by omega
      subst hie
      have hnl : ¬ ((n + 1 : Nat) : Int) < (n : Int) + 1 := by omega
      have hfin : OwnI wo w.heap.size (.slice (some ⟨w.heap.size + 1, 0, none⟩) n n) (codeL M) := by
        rw [← cdL_all, HML.out]
        exact hO.base_le (Nat.le_succ _)
      have hret := retI_mk hfin (hx2.below.trans (hkp.below (by have := hx2.size; omega) (fun x hx => by omega)))
      have HF := Lib.hid hret
      clear hfin hret hO
      go_wp2
      go_ret
      exact HF.out
end Go.Proofs.YtglghdkjppcedaaGreatDoor

/- Contracts: CodeOf, CountSatellites. -/
namespace Go.Proofs.YtglghdkjppcedaaGreatDoor
open Go.RowKit

/-- How many of the first n numbers are not 0. -/
def cnz (xs : List Int) : Nat → Int
  | 0 => 0
  | n + 1 => cnz xs n + (if gI xs n = 0 then 0 else 1)
/-- The number of satellites. -/
def csN (T : List Int) (k : Int) : Int := cnz (ckL T k (codeL (seqL T k.toNat))) (ckL T k (codeL (seqL T k.toNat))).length
end Go.Proofs.YtglghdkjppcedaaGreatDoor

/- Contracts: MultiplicitiesAt. What is handed back lies in the first cells of a block of the call's own that has more. -/
namespace Go.Proofs.YtglghdkjppcedaaGreatDoor
open Go.RowKit

/-- The slice v has the numbers xs, in cells of a block from base on that may be written. -/
def OwnQ (w : World) (base : Nat) (v : Value) (xs : List Int) : Prop :=
  (v = .slice none 0 0 ∧ xs = []) ∨ ∃ g, v = .slice (some ⟨g, 0, none⟩) xs.length xs.length ∧ base ≤ g ∧ g < w.heap.size ∧ xs.length ≤ 1000000000 ∧ (∀ i, i < xs.length → w.cell? ⟨g, i, none⟩ = some (.int .i64 (gI xs i))) ∧ ∀ i, w.frozen? ⟨g, i, none⟩ = false
theorem OwnQ.nil (w : World) (base : Nat) : OwnQ w base (.slice none 0 0) [] := .inl ⟨rfl, rfl⟩
theorem OwnQ.block {w : World} {base : Nat} {v : Value} {xs : List Int} (h : OwnQ w base v xs) : ∀ g, v.ownBlock = some g → base ≤ g ∧ g < w.heap.size := by
  intro g hg
  rcases h with ⟨rfl, _⟩ | ⟨g', rfl, h1, h2, _⟩
  · simp [Value.ownBlock] at hg
  · simp [Value.ownBlock] at hg; omega
theorem OwnQ.rd {w : World} {base : Nat} {v : Value} {xs : List Int} (h : OwnQ w base v xs) : Rd w v xs := by
  rcases h with ⟨rfl, rfl⟩ | ⟨g, rfl, h1, h2, h3, h4, _⟩
  · exact rd_nil w
  · exact ⟨_, _, rfl, Nat.le_refl _, by omega, fun _ => ⟨g, 0, rfl, h2, fun i hi => by rw [Nat.zero_add]; exact h4 i hi⟩⟩
theorem OwnQ.keeps {w w' : World} {base : Nat} {v : Value} {xs : List Int} {M : Nat → Prop} (h : OwnQ w base v xs) (hk : Keeps M w w') (hn : ∀ g, v.ownBlock = some g → ¬ M g) : OwnQ w' base v xs := by
  rcases h with h | ⟨g, rfl, h1, h2, h3, h4, h5⟩
  · exact .inl h
  · have hg := hn g rfl
    exact .inr ⟨g, rfl, h1, Nat.lt_of_lt_of_le h2 hk.size, h3, fun i hi => by rw [hk.cell (p := ⟨g, i, none⟩) h2 hg]; exact h4 i hi, fun i => by rw [hk.frozen (p := ⟨g, i, none⟩) h2 hg]; exact h5 i⟩
theorem OwnQ.below {w w' : World} {base : Nat} {v : Value} {xs : List Int} {B : Nat} (h : OwnQ w base v xs) (hb : Below B w w') (hB : w.heap.size ≤ B) : OwnQ w' base v xs :=
  h.keeps (M := fun _ => False) (Keeps.of_below (hb.mono hB)) (fun _ _ => id)
theorem OwnQ.base_le {w : World} {base base' : Nat} {v : Value} {xs : List Int} (h : OwnQ w base v xs) (hB : base' ≤ base) : OwnQ w base' v xs := by
  rcases h with h | ⟨g, h0, h1, h2⟩
  · exact .inl h
  · exact .inr ⟨g, h0, Nat.le_trans hB h1, h2⟩

/-- What MultiplicitiesAt hands back. -/
def RetQC (w : World) (xs : List Int) (c : Int) (e : Ending) (w' : World) : Prop :=
  ∃ a k, e = .returned (.tuple #[.slice a xs.length k, .int .i64 c]) ∧ OwnQ w' w.heap.size (.slice a xs.length k) xs ∧ Below w.heap.size w w'
end Go.Proofs.YtglghdkjppcedaaGreatDoor

/- Contracts: ProximatesOf. -/
namespace Go.Proofs.YtglghdkjppcedaaGreatDoor
open Go.RowKit

/-- The rows behind the code. -/
def ckM (T : List Int) (k : Int) (R : List (List Int)) : List (List Int) := if ckC T k = 0 then R else []
def rwL (T : List Int) (k : Nat) : List (List Int) := (List.range k).map (rwT T k)
@[simp] theorem rwL_len (T : List Int) (k : Nat) : (rwL T k).length = k := by simp [rwL]
end Go.Proofs.YtglghdkjppcedaaGreatDoor

/- Contracts of the helpers of laws.go: likeInts, likeRows5, hasInt, big. -/
namespace Go.Proofs.YtglghdkjppcedaaGreatDoor
open Go.RowKit

set_option maxHeartbeats 400000 in
theorem likeInts_c (v u : Value) (xs ys : List Int) (w : World) (h : Rd w v xs) (h' : Rd w u ys) :
    Calls Tryz.prog 10 #[v, u] w fun e w' => e = .returned (.bool (eqB xs ys)) ∧ Drew w w' := by
  obtain ⟨a, cap, rfl, hcap1, hcap2, hrd⟩ := h
  obtain ⟨a', cap', rfl, hcap1', hcap2', hrd'⟩ := h'
  by_cases hl : xs.length = ys.length
  · have HL := Lib.hid hl
    have hd : ((xs.length : Int) != (ys.length : Int)) = false := by simp [hl]
    clear hl
    go_enter Tryz.func10, Tryz.ntmps10
    go_wp2
    go_loopw [5] (fun i wr => ∃ k : Nat, k ≤ xs.length ∧ i = .int .i64 k ∧ xs.take k = ys.take k ∧ Drew w wr) (fun i _ => xs.length - (intOf i).toNat)
    case atStart => exact ⟨0, Nat.zero_le _, rfl, rfl, Drew.refl _⟩
    case round =>
      obtain ⟨k, hk, rfl, ht, n, rfl⟩ := hrel
      by_cases hlt : k < xs.length
      · have hlt' : k < ys.length := by have := HL.out; omega
        obtain ⟨b, off, rfl, hbl, hcs⟩ := hrd (ne_of_lt_len hlt)
        obtain ⟨b', off', rfl, hbl', hcs'⟩ := hrd' (ne_of_lt_len hlt')
        have hc := hcs k hlt
        have hc' := hcs' k hlt'
        have HT := Lib.hid (take_eq_step ht hlt hlt')
        have HN : Hid (gI xs k ≠ gI ys k → eqB xs ys = false) := Lib.hid (by
          intro hne; simp only [eqB, decide_eq_false_iff_not]; intro e; exact hne (by rw [e]))
        clear ht hcs hcs' hrd hrd'
        generalize gI xs k = x at hc HT HN
        generalize gI ys k = y at hc' HT HN
        by_cases hxy : x = y
        · subst hxy
          have HT' := Lib.hid (HT.out rfl)
          clear HT HN
          go_wp2
          go_quiet (fail)
          go_wp2
          go_roundw
          case rel => exact ⟨k + 1, by omega, by go_num, HT'.out, by first | exact Drew.one _ _ | exact Drew.two _ _ _ | exact Drew.refl _⟩
          case measure => simp [intOf]; omega
        · have hf := Lib.hid (HN.out hxy)
          have hxb : (x != y) = true := by simp [hxy]
          clear HT HN hxy
          go_wp2
          go_quiet (fail)
          go_wp2
          go_ret
          exact ⟨ret_bool hf.out.symm, by first | exact Drew.one _ _ | exact Drew.two _ _ _ | exact Drew.refl _⟩
      · go_wp2
        go_ret
        refine ⟨ret_bool ?_, Drew.one _ _⟩
        have hl := HL.out
        rw [List.take_of_length_le (by omega), List.take_of_length_le (by omega)] at ht
        simp [eqB, ht]
  · have HE : Hid (eqB xs ys = false) := Lib.hid (by simp only [eqB, decide_eq_false_iff_not]; intro e; exact hl (by rw [e]))
    have hd : ((xs.length : Int) != (ys.length : Int)) = true := by simp; omega
    clear hl
    go_enter Tryz.func10, Tryz.ntmps10
    go_wp2
    go_ret
    exact ⟨ret_bool HE.out.symm, Drew.refl _⟩

theorem big_no (v : Value) (C : List Int) (w : World) (h : Rd8w w v C) (hC : C.length ≤ 4096) :
    Calls Tryz.prog 4 #[v] w fun e w' => e = .returned (.bool false) ∧ w = w' := by
  obtain ⟨a, cap, rfl, _⟩ := h
  have hb : decide ((C.length : Int) > 4096) = false := decide_eq_false (by omega)
  go_enter Tryz.func4, Tryz.ntmps4
  go_wp2
  go_ret
  exact ⟨rfl, rfl⟩
theorem big_yes (v : Value) (C : List Int) (w : World) (h : Rd8w w v C) (hC : ¬ C.length ≤ 4096) :
    Calls Tryz.prog 4 #[v] w fun e w' => e = .returned (.bool true) ∧ w = w' := by
  obtain ⟨a, cap, rfl, _⟩ := h
  have hb : decide ((C.length : Int) > 4096) = true := decide_eq_true (by omega)
  go_enter Tryz.func4, Tryz.ntmps4
  go_wp2
  go_ret
  exact ⟨rfl, rfl⟩
/-- The list has the number. -/
def hasB (xs : List Int) (x : Int) : Bool := decide (∃ i, i < xs.length ∧ gI xs i = x)
end Go.Proofs.YtglghdkjppcedaaGreatDoor

/- What the laws of laws.go need of the contracts: slices that read as lists, no ownership. -/
namespace Go.Proofs.YtglghdkjppcedaaGreatDoor
open Go.RowKit

/-- A list of n numbers and a code. -/
def RvC (w : World) (n : Nat) (xs : List Int) (c : Int) (e : Ending) (w' : World) : Prop :=
  ∃ a k, e = .returned (.tuple #[.slice a n k, .int .i64 c]) ∧ Rd w' (.slice a n k) xs ∧ Below w.heap.size w w'
/-- A list of n lists and a code. -/
def RvMC (w : World) (n : Nat) (R : List (List Int)) (c : Int) (e : Ending) (w' : World) : Prop :=
  ∃ a k, e = .returned (.tuple #[.slice a n k, .int .i64 c]) ∧ RdR w' (.slice a n k) R ∧ Below w.heap.size w w'
theorem rvC_ic {w : World} {n : Nat} {xs ys : List Int} {c d : Int} {e : Ending} {w' : World} (h : RetIC w ys d e w') (h1 : ys = xs) (h2 : xs.length = n) (h3 : d = c) : RvC w n xs c e w' := by
  subst h1 h2 h3
  obtain ⟨a, k, he, ho, hb⟩ := h
  exact ⟨a, k, he, ho.rd, hb⟩
theorem rvMC_mc {w : World} {n : Nat} {R S : List (List Int)} {c d : Int} {e : Ending} {w' : World} (h : RetMC 2 w S d e w') (h1 : S = R) (h2 : R.length = n) (h3 : d = c) : RvMC w n R c e w' := by
  subst h1 h2 h3
  obtain ⟨a, k, V, he, ho, hb⟩ := h
  exact ⟨a, k, he, ho.rd, hb⟩
end Go.Proofs.YtglghdkjppcedaaGreatDoor

/- Contracts of the helpers of laws.go for lists of lists: square5, product5, times5, unit5. -/
namespace Go.Proofs.YtglghdkjppcedaaGreatDoor
open Go.RowKit

/-- The rows of a list of lists of known lengths. -/
theorem RdR.atN {w : World} {a : Option Addr} {n m k : Nat} {R : List (List Int)} (h : RdR w (.slice a n k) R) (hn : R.length = n) (hp : 0 < n) (hr : ∀ i, i < n → (gR R i).length = m) (hm : 0 < m) : ∃ b off, a = some ⟨b, off, none⟩ ∧ b < w.heap.size ∧ ∀ i, i < n → ∃ br or kr, w.cell? ⟨b, off + i, none⟩ = some (.slice (some ⟨br, or, none⟩) m kr) ∧ br < w.heap.size ∧ ∀ j, j < m → w.cell? ⟨br, or + j, none⟩ = some (.int .i64 (gI (gR R i) j)) := by
  subst hn
  obtain ⟨b, off, cap, he, _, _, hb, hc⟩ := h.cells hp
  injection he with e1 _ _
  refine ⟨b, off, e1, hb, fun i hi => ?_⟩
  obtain ⟨u, hu, hrd⟩ := hc i hi
  obtain ⟨br, or, kr, rfl, _, _, hbr, hcr⟩ := hrd.cells (by rw [hr i hi]; exact hm)
  refine ⟨br, or, kr, by rw [hu, hr i hi], hbr, fun j hj => hcr j (by rw [hr i hi]; exact hj)⟩

set_option maxHeartbeats 1000000 in
theorem square5_c (a : Option Addr) (n k : Nat) (R : List (List Int)) (w : World) (h : RdR w (.slice a n k) R) (hn : R.length = n) (hr : ∀ i, i < n → (gR R i).length = n) (hp : 0 < n) (h24 : n ≤ 1000) :
    Calls Tryz.prog 13 #[.slice a n k, .int .i64 (n : Int)] w fun e w' => e = .returned (.bool true) ∧ w = w' := by
  obtain ⟨b, off, rfl, hb, hc⟩ := h.atN hn hp hr hp
  have HC := Lib.hid hc
  clear hc h hr hn
  have hnn : ((n : Int) != (n : Int)) = false := by simp
  have hnn2 : ((n : Int) == (n : Int)) = true := by simp
  go_enter Tryz.func13, Tryz.ntmps13
  go_wp2
  go_loop [5] (fun iv => ∃ k : Nat, k ≤ n ∧ iv = .int .i64 (k : Int)) (fun iv => n - (intOf iv).toNat)
  case atStart => exact ⟨0, Nat.zero_le _, rfl⟩
  case round =>
    obtain ⟨i, hi, rfl⟩ := hrel
    by_cases hlt : i < n
    · obtain ⟨br, or, kr, d0, _, _⟩ := HC.out i hlt
      have hki : (i : Int) < (n : Int) := by omega
      have hk0 : (0 : Int) ≤ (i : Int) := by omega
      go_wp2
      go_round
      case rel => exact ⟨i + 1, by omega, by go_num⟩
      case measure => simp [intOf]; omega
    · have hki : ¬ (i : Int) < (n : Int) := by omega
      go_wp2
      go_ret
      exact ⟨rfl, rfl⟩

/-- The sum of the products of the first k numbers. -/
def dotP (xs ys : List Int) (k : Nat) : Int := sumTo (fun i => gI xs i * gI ys i) k
theorem dotP_succ (xs ys : List Int) (k : Nat) : dotP xs ys (k + 1) = dotP xs ys k + gI xs k * gI ys k := rfl
theorem dotP_bd {xs ys : List Int} {n : Nat} (hb : ∀ i, i < n → -100000000000000000 ≤ gI xs i * gI ys i ∧ gI xs i * gI ys i ≤ 100000000000000000) {k : Nat} (hk : k ≤ n) (h24 : n ≤ 24) : -2400000000000000000 ≤ dotP xs ys k ∧ dotP xs ys k ≤ 2400000000000000000 := by
  have := sumTo_bound (f := fun i => gI xs i * gI ys i) (n := k) (-100000000000000000) 100000000000000000 (fun i hi => hb i (by omega))
  unfold dotP
  omega
set_option maxHeartbeats 2000000 in
theorem product5_c (a a' : Option Addr) (n k k' : Nat) (xs ys : List Int) (w : World) (h : Rd w (.slice a n k) xs) (h' : Rd w (.slice a' n k') ys) (hx : xs.length = n) (hy : ys.length = n) (hp : 0 < n) (h24 : n ≤ 24) (hb : ∀ i, i < n → -100000000000000000 ≤ gI xs i * gI ys i ∧ gI xs i * gI ys i ≤ 100000000000000000) :
    Calls Tryz.prog 14 #[.slice a n k, .slice a' n k'] w fun e w' => e = .returned (.int .i64 (dotP xs ys n)) ∧ Drew w w' := by
  subst hx
  obtain ⟨b, off, cap, he, _, _, hbl, hc⟩ := h.cells hp
  injection he with e1 _ _
  subst e1
  obtain ⟨b', off', cap', he', _, _, hbl', hc'⟩ := h'.cells (by omega)
  injection he' with e1' _ _
  subst e1'
  have HB := Lib.hid hb
  have HC := Lib.hid hc
  have HC' := Lib.hid (fun i (hi : i < xs.length) => hc' i (by omega))
  generalize hn : xs.length = n at *
  clear hb hc hc' h h' hy hn
  go_enter Tryz.func14, Tryz.ntmps14
  go_wp2
  go_loopw [5, 6] (fun tv iv wr => ∃ k : Nat, k ≤ n ∧ iv = .int .i64 (k : Int) ∧ tv = .int .i64 (dotP xs ys k) ∧ Drew w wr) (fun _ iv _ => n - (intOf iv).toNat)
  case atStart => exact ⟨0, Nat.zero_le _, rfl, rfl, Drew.refl _⟩
  case round =>
    obtain ⟨i, hi, rfl, rfl, hd⟩ := hrel
    obtain ⟨wo, rfl⟩ : ∃ wo : World, wo = wr := ⟨_, rfl⟩
    have hdb := hd.below w.heap.size
    by_cases hlt : i < n
    · have dx : wo.cell? ⟨b, off + i, none⟩ = some (.int .i64 (gI xs i)) := by rw [hdb.cell (p := ⟨b, off + i, none⟩) hbl]; exact HC.out i hlt
      have dy : wo.cell? ⟨b', off' + i, none⟩ = some (.int .i64 (gI ys i)) := by rw [hdb.cell (p := ⟨b', off' + i, none⟩) hbl']; exact HC'.out i hlt
      have hki : (i : Int) < (n : Int) := by omega
      have hk0 : (0 : Int) ≤ (i : Int) := by omega
      have hbd := dotP_bd HB.out hi h24
      have hpr := HB.out i hlt
      have HS := Lib.hid (dotP_succ xs ys i)
      have HD := Lib.hid hd
      clear hd hdb
      generalize gI xs i = x at *
      generalize gI ys i = y at *
      generalize dotP xs ys i = t at *
      generalize hz : x * y = z at *
      have hz2 : IntKind.i64.wrap (x * y) = z := by rw [hz]; exact IntWalk.i64_in _ (by omega)
      have hz3 : IntKind.i64.wrap z = z := IntWalk.i64_in _ (by omega)
      have hz4 : IntKind.i64.wrap (t + z) = t + z := IntWalk.i64_in _ (by omega)
      go_wp2_with fail
      go_quiet (fail)
      go_wp2
      go_roundw
      case rel => exact ⟨i + 1, by omega, by go_num, by rw [HS.out], HD.out.trans (Drew.one _ _)⟩
      case measure => simp [intOf]; omega
    · have hki : ¬ (i : Int) < (n : Int) := by omega
      have hie : i = n := by omega
      subst hie
      go_wp2
      go_ret
      exact ⟨rfl, hd⟩

/-- A row of a product while it is summed up. -/
def rowT (A B : List (List Int)) (n i k j : Nat) : List Int := (List.range n).map fun c => sumTo (fun t => gI (gR A i) t * gI (gR B t) c) (if c < j then k + 1 else k)
@[simp] theorem rowT_len (A B : List (List Int)) (n i k j : Nat) : (rowT A B n i k j).length = n := by simp [rowT]
/-- The product of two lists of lists. -/
def mulR (A B : List (List Int)) (n : Nat) : List (List Int) := (List.range n).map fun i => rowT A B n i n 0
/-- A list of n lists. -/
def RvM (w : World) (n : Nat) (R : List (List Int)) (e : Ending) (w' : World) : Prop := ∃ a k, e = .returned (.slice a n k) ∧ RdR w' (.slice a n k) R ∧ Below w.heap.size w w'
/-- The rows of ones. -/
def unitR (n : Nat) : List (List Int) := (List.range n).map fun i => unitL n i
end Go.Proofs.YtglghdkjppcedaaGreatDoor
