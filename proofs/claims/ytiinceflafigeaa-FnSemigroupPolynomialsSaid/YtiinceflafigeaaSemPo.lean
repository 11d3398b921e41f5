/- Contracts: SemigroupPolynomial. -/
import Derived.Test.YtiinceflafigeaaSemUp
namespace Go.Proofs.Ytiinceflafigeaa
open Go.RowKit

/-- The coefficient at v. -/
def spI (T : List Int) (v : Int) : Int := (if valB T v = true then 1 else 0) - (if valB T (v - 1) = true then 1 else 0)
theorem spI_of {T : List Int} {v : Int} {a b : Bool} (h : valB T v = a) (h' : valB T (v - 1) = b) : spI T v = (if a = true then 1 else 0) - (if b = true then 1 else 0) := by simp only [spI, h, h']
theorem spI_bd (T : List Int) (v : Int) : -1 ≤ spI T v ∧ spI T v ≤ 1 := by unfold spI; split <;> split <;> omega
def poL (T : List Int) (n : Nat) : List Int := (List.range n).map fun (v : Nat) => spI T (v : Int)
@[simp] theorem poL_len (T : List Int) (n : Nat) : (poL T n).length = n := by simp [poL]
theorem poL_succ (T : List Int) (n : Nat) : poL T (n + 1) = poL T n ++ [spI T (n : Int)] := by simp [poL, List.range_succ]
def stP (T : List Int) (n k : Nat) : List Int := (List.range n).map fun (v : Nat) => if v < k then spI T (v : Int) else 0
@[simp] theorem stP_len (T : List Int) (n k : Nat) : (stP T n k).length = n := by simp [stP]
theorem gI_stP {T : List Int} {n k i : Nat} (h : i < n) : gI (stP T n k) i = if i < k then spI T (i : Int) else 0 := by rw [gI_lt (by simpa using h)]; simp [stP]
theorem stL_zero (T : List Int) (n : Nat) : stP T n 0 = List.replicate n 0 := gI_ext (by simp) (fun i hi => by rw [stP_len] at hi; rw [gI_stP hi, gI_rep hi]; simp)
theorem stL_all (T : List Int) (n : Nat) : stP T n n = poL T n := gI_ext (by simp) (fun i hi => by
  rw [stP_len] at hi
  rw [gI_stP hi, if_pos hi, gI_lt (by simpa using hi)]
  simp [poL])
theorem stL_set {T : List Int} {n k : Nat} (h : k < n) : (stP T n k).set k (spI T (k : Int)) = stP T n (k + 1) := by
  refine gI_ext (by simp) (fun i hi => ?_)
  have hi' : i < n := by simpa using hi
  rw [gI_stP hi']
  by_cases e : k = i
  · subst e
    rw [gI_set_at (by simpa using h), if_pos (by omega)]
  · rw [gI_set_ne e, gI_stP hi']
    by_cases e2 : i < k
    · rw [if_pos e2, if_pos (by omega)]
    · rw [if_neg e2, if_neg (by omega)]
theorem stL_same {T : List Int} {n k : Nat} (h : k < n) (h0 : spI T (k : Int) = 0) : stP T n (k + 1) = stP T n k := by
  rw [← stL_set h, h0]
  refine gI_ext (by simp) (fun i hi => ?_)
  by_cases e : k = i
  · subst e; rw [gI_set_at (by simpa using h), gI_stP h]; simp
  · rw [gI_set_ne e]
def poC (T : List Int) : Int := if braB T = true then (if 2000 < conI T then 3 else 0) else 1
def ppL (T : List Int) : List Int := if poC T = 0 then poL T ((conI T).toNat + 1) else []
theorem poC_bra {T : List Int} (h : braB T = false) : poC T = 1 := by simp [poC, h]
theorem poC_big {T : List Int} (h : braB T = true) (h' : 2000 < conI T) : poC T = 3 := by simp [poC, h, h']
theorem poC_ok {T : List Int} (h : braB T = true) (h' : ¬ 2000 < conI T) : poC T = 0 := by simp [poC, h, h']
theorem ppL_no {T : List Int} (h : poC T ≠ 0) : ppL T = [] := by simp [ppL, h]
theorem ppL_ok {T : List Int} (h : poC T = 0) : ppL T = poL T ((conI T).toNat + 1) := by simp [ppL, h]
theorem ppL_len (T : List Int) : (ppL T).length ≤ 2001 := by
  unfold ppL
  split
  · rename_i h
    unfold poC at h
    split at h
    · split at h
      · simp at h
      · simp; omega
    · simp at h
  · simp

set_option maxRecDepth 100000 in
set_option maxHeartbeats 4000000 in
theorem implSemigroupPolynomial_c (v : Value) (T : List Int) (w : World) (h : Rd w v T) :
    Calls Try.prog 96 #[.agg #[v]] w (RetIC w (ppL T) (poC T)) := by
  obtain ⟨i0, hi, hz0, hz1, hz2⟩ := info_parts Try.infoI
  have hx := Boxed.start w 26 #[v]
  obtain ⟨a, k, rfl⟩ := h.len0
  have c0 := hx.cell 0
  cases hbr : braB T
  · have HC := Lib.hid (poC_bra hbr)
    have HB := Lib.hid (ppL_no (by rw [poC_bra hbr]; decide))
    go_enter Try.func96, Try.ntmps96
    go_wp2_with fail
    refine (implIsBranch_c _ T _ (hx.rd h)).mono ?_
    rintro e w1 ⟨rfl, hb⟩
    rw [hbr]
    go_wp2
    go_ret2
    exact ret_nil (hx.trans hb).below HB.out HC.out.symm
  · have hok := braB_iff.1 hbr
    obtain ⟨m, hm⟩ := Int.eq_ofNat_of_zero_le (conI_nn hok)
    have hcm : conTo T (T.length - 1) = (m : Int) := hm
    by_cases hbig : 2000 < conI T
    · have HC := Lib.hid (poC_big hbr hbig)
      have HB := Lib.hid (ppL_no (by rw [poC_big hbr hbig]; decide))
      rw [hm] at hbig
      go_enter Try.func96, Try.ntmps96
      go_wp2_with fail
      refine (implIsBranch_c _ T _ (hx.rd h)).mono ?_
      rintro e w1 ⟨rfl, hb⟩
      rw [hbr]
      have hx1 := hx.trans hb
      have c1 := hx1.cell 0
      go_wp2_with fail
      refine (conductor_c _ T _ (hx1.rd h) hok).mono ?_
      rintro e w2 ⟨rfl, hb2⟩
      rw [hcm]
      go_wp2
      go_ret2
      exact ret_nil (hx1.trans hb2).below HB.out HC.out.symm
    · have HC := Lib.hid (poC_ok hbr hbig)
      have HB := Lib.hid (ppL_ok (poC_ok hbr hbig))
      rw [hm] at hbig HB
      have hmb : (m : Int) ≤ 2000 := by omega
      go_enter Try.func96, Try.ntmps96
      go_wp2_with fail
      refine (implIsBranch_c _ T _ (hx.rd h)).mono ?_
      rintro e w1 ⟨rfl, hb⟩
      rw [hbr]
      have hx0 := hx.trans hb
      have c1 := hx0.cell 0
      go_wp2_with fail
      refine (conductor_c _ T _ (hx0.rd h) hok).mono ?_
      rintro e w2 ⟨rfl, hb2⟩
      rw [hcm]
      have hx1 := hx0.trans hb2
      have c2 := hx1.cell 0
      go_wp2_with fail
      refine (semOf_c _ T _ (hx1.rd h) hok).mono ?_
      rintro e w3 ⟨gl, gp, rfl, hl, hr, hb3⟩
      have hx3 := hx1.trans hb3
      have B4 := Blk.new w3 103 #[.slice (some ⟨gl, 0, none⟩) (nT T) (nT T), .slice (some ⟨gp, 0, none⟩) (nT T) (nT T)]
      have hal : Below w3.heap.size w3 (w3.alloc (.cells #[.slice (some ⟨gl, 0, none⟩) (nT T) (nT T), .slice (some ⟨gp, 0, none⟩) (nT T) (nT T)] 103)) := (Below.refl _ _).alloc (Nat.le_refl _) _
      have hl4 := hl.rd.below hal (Nat.le_refl _)
      have hx4 := hx3.trans hal
      have hmk : ∀ W : World, (Instr.makeSlice 24 (.int .i64 ((m : Int) + 1)) (.int .i64 ((m : Int) + 1))).run Try.prog W = .ok (.slice (some ⟨W.heap.size, 0, none⟩) (m + 1) (m + 1)) (W.alloc (.cells (madeCells #[.int .i64 0] (m + 1)) 2)) := fun W => by
        have := run_make_row 24 2 i0 _ Try.underlying24 hi hz0 hz1 rfl .i64 .i64 (m + 1) (by rw [hz2]; omega) (by omega) W
        rwa [show ((m + 1 : Nat) : Int) = (m : Int) + 1 by omega] at this
      have wm : IntKind.i64.wrap ((m : Int) + 1) = (m : Int) + 1 := IntWalk.i64_in _ (by omega)
      have ha5 : Below (w3.alloc (.cells #[.slice (some ⟨gl, 0, none⟩) (nT T) (nT T), .slice (some ⟨gp, 0, none⟩) (nT T) (nT T)] 103)).heap.size (w3.alloc (.cells #[.slice (some ⟨gl, 0, none⟩) (nT T) (nT T), .slice (some ⟨gp, 0, none⟩) (nT T) (nT T)] 103)) ((w3.alloc (.cells #[.slice (some ⟨gl, 0, none⟩) (nT T) (nT T), .slice (some ⟨gp, 0, none⟩) (nT T) (nT T)] 103)).alloc (.cells (madeCells #[.int .i64 0] (m + 1)) 2)) := (Below.refl _ _).alloc (Nat.le_refl _) _
      have hE := ownI_made (w := (w3.alloc (.cells #[.slice (some ⟨gl, 0, none⟩) (nT T) (nT T), .slice (some ⟨gp, 0, none⟩) (nT T) (nT T)] 103)).alloc (.cells (madeCells #[.int .i64 0] (m + 1)) 2)) (e := 2) (base := w3.heap.size + 1) (g := w3.heap.size + 1) (n := m + 1) (Blk.new' (by simp)) (Nat.le_refl _) (by unfold maxLen; omega)
      rw [← stL_zero T] at hE
      have B5 := B4.stays ha5
      have hl5 := hl4.below ha5 (Nat.le_refl _)
      have hx5 := hx4.trans ha5
      have hzz : w3.heap.size + 2 ≤ ((w3.alloc (.cells #[.slice (some ⟨gl, 0, none⟩) (nT T) (nT T), .slice (some ⟨gp, 0, none⟩) (nT T) (nT T)] 103)).alloc (.cells (madeCells #[.int .i64 0] (m + 1)) 2)).heap.size := by simp
      have hgl := (hl.block gl rfl).2
      have hlc : ∀ W, Below w3.heap.size w3 W → Rd W (.slice (some ⟨gl, 0, none⟩) (nT T) (nT T)) (lstL T) := fun W hW => hl.rd.below hW (Nat.le_refl _)
      have HLD := Lib.hid hlc
      clear c2 hl4 hl5 hl hr hlc hz1 hz2
      go_wp2_with fail
      go_loopw [7] (fun iv wr => ∃ k : Nat, k ≤ m + 1 ∧ iv = .int .i64 k ∧ OwnI wr (w3.heap.size + 1) (.slice (some ⟨w3.heap.size + 1, 0, none⟩) (m + 1) (m + 1)) (stP T (m + 1) k) ∧ Blk wr w3.heap.size 103 #[.slice (some ⟨gl, 0, none⟩) (nT T) (nT T), .slice (some ⟨gp, 0, none⟩) (nT T) (nT T)] ∧ Below w3.heap.size w3 wr) (fun iv _ => m + 1 - (intOf iv).toNat)
      case atStart => exact ⟨0, Nat.zero_le _, rfl, hE, B5, hal.trans (ha5.mono (by simp))⟩
      case round =>
        obtain ⟨k, hk, rfl, hO, B6, hbl⟩ := hrel
        clear hE ha5 hal B4 B5 hmk wm hzz
        obtain ⟨wo, rfl⟩ : ∃ wo : World, wo = wr := ⟨_, rfl⟩
        have hk0 : (0 : Int) ≤ (k : Int) := Int.natCast_nonneg _
        by_cases hlt : k < m + 1
        · have hki : (k : Int) ≤ (m : Int) := by omega
          have hki2 : (k : Int) < (m : Int) + 1 := by omega
          have q0 := B6.cell 0
          have q1 := B6.cell 1
          have hsl := hbl.size
          go_wp2_with fail
          refine (has_c _ _ T (k : Int) _ (HLD.out _ hbl) hok hk0).mono ?_
          rintro e w6 ⟨rfl, hb6⟩
          have hO6 := (show OwnI w6 (w3.heap.size + 1) (.slice (some ⟨w3.heap.size + 1, 0, none⟩) (stP T (m + 1) k).length (m + 1)) (stP T (m + 1) k) by rw [stP_len]; exact hO.below hb6 (Nat.le_refl _))
          have B7 := B6.stays hb6
          have hb7 := hbl.trans (hb6.mono hsl)
          have d0 := hO6.cell k (by simpa using hlt)
          rw [gI_stP hlt, if_neg (Nat.lt_irrefl k)] at d0
          have f0 := hO6.free k
          have hput : ∀ x : Int, OwnI (w6.setCell ⟨w3.heap.size + 1, k, none⟩ (.int .i64 x)) (w3.heap.size + 1) (.slice (some ⟨w3.heap.size + 1, 0, none⟩) (m + 1) (m + 1)) ((stP T (m + 1) k).set k x) := fun x => by
            have := hO6.set k x; rw [stP_len] at this; exact this
          have HP := Lib.hid hput
          have HN := Lib.hid (stL_set (T := T) hlt)
          have hO7 : OwnI w6 (w3.heap.size + 1) (.slice (some ⟨w3.heap.size + 1, 0, none⟩) (m + 1) (m + 1)) (stP T (m + 1) k) := by rw [stP_len] at hO6; exact hO6
          have HO7 := Lib.hid hO7
          have hlast : ∀ x : Int, x = spI T (k : Int) → OwnI (w6.setCell ⟨w3.heap.size + 1, k, none⟩ (.int .i64 x)) (w3.heap.size + 1) (.slice (some ⟨w3.heap.size + 1, 0, none⟩) (m + 1) (m + 1)) (stP T (m + 1) (k + 1)) := fun x hx => by rw [← HN.out, ← hx]; exact hput x
          have HL := Lib.hid hlast
          have bX : ∀ x : Int, Blk (w6.setCell ⟨w3.heap.size + 1, k, none⟩ (.int .i64 x)) w3.heap.size 103 #[.slice (some ⟨gl, 0, none⟩) (nT T) (nT T), .slice (some ⟨gp, 0, none⟩) (nT T) (nT T)] := fun x => B7.other (by omega) k _
          have fX : ∀ x : Int, Below w3.heap.size w3 (w6.setCell ⟨w3.heap.size + 1, k, none⟩ (.int .i64 x)) := fun x => hb7.setCell (p := ⟨w3.heap.size + 1, k, none⟩) (by dsimp only; omega) _
          have HBX := Lib.hid bX
          have HFX := Lib.hid fX
          clear hO hO6 hO7 hput hlast bX fX hbl hb6 q0 q1 B6
          by_cases hk00 : k = 0
          · have hv0 : valB T (k : Int) = true := by subst hk00; exact valB_zero hok
            have HS1 : Hid ((1 : Int) = spI T (k : Int)) := Lib.hid (by rw [spI_of hv0 (valB_neg hok (by omega))]; simp)
            have hn1 : ¬ 0 < k := by omega
            have hn2 : ¬ (0 : Int) < (k : Int) := by omega
            rw [hv0]
            clear hk00 hv0
            go_wp2
            go_roundw
            case rel => exact ⟨k + 1, by omega, by go_num, HL.out 1 HS1.out, HBX.out 1, HFX.out 1⟩
            case measure => simp [intOf]; omega
          · have hkp : (0 : Int) < (k : Int) := by omega
            have hkp1 : (0 : Int) ≤ (k : Int) - 1 := by omega
            have hkw : IntKind.i64.wrap ((k : Int) - 1) = (k : Int) - 1 := IntWalk.i64_in _ (by omega)
            cases hv : valB T (k : Int)
            · have q0 := B7.cell 0
              have q1 := B7.cell 1
              go_wp2_with fail
              refine (has_c _ _ T ((k : Int) - 1) _ (HLD.out _ hb7) hok hkp1).mono ?_
              rintro e w8 ⟨rfl, hb8⟩
              have O8 := HO7.out.below hb8 (Nat.le_refl _)
              have B8 := B7.stays hb8
              have fr8 := hb7.trans (hb8.mono hb7.size)
              cases hv1 : valB T ((k : Int) - 1)
              · have hs : spI T (k : Int) = 0 := by rw [spI_of hv hv1]; simp
                have O9 : OwnI w8 (w3.heap.size + 1) (.slice (some ⟨w3.heap.size + 1, 0, none⟩) (m + 1) (m + 1)) (stP T (m + 1) (k + 1)) := by rw [stL_same hlt hs]; exact O8
                clear q0 q1
                go_wp2
                go_roundw
                case rel => exact ⟨k + 1, by omega, by go_num, O9, B8, fr8⟩
                case measure => simp [intOf]; omega
              · have hs : (-1 : Int) = spI T (k : Int) := by rw [spI_of hv hv1]; simp
                have O8' : OwnI w8 (w3.heap.size + 1) (.slice (some ⟨w3.heap.size + 1, 0, none⟩) (stP T (m + 1) k).length (m + 1)) (stP T (m + 1) k) := by rw [stP_len]; exact O8
                have d8 := O8'.cell k (by simpa using hlt)
                rw [gI_stP hlt, if_neg (Nat.lt_irrefl k)] at d8
                have f8 := O8'.free k
                have O9 := O8'.set k (-1)
                rw [stP_len] at O9
                have e9 : (stP T (m + 1) k).set k (-1) = stP T (m + 1) (k + 1) := by rw [hs]; exact HN.out
                rw [e9] at O9
                have B9 := B8.other (g' := w3.heap.size + 1) (by omega) k (.int .i64 (-1))
                have fr9 := fr8.setCell (p := ⟨w3.heap.size + 1, k, none⟩) (by dsimp only; omega) (.int .i64 (-1))
                clear q0 q1 hs e9
                go_wp2
                go_roundw
                case rel => exact ⟨k + 1, by omega, by go_num, O9, B9, fr9⟩
                case measure => simp [intOf]; omega
            · have B7' := HBX.out 1
              have fr7' := HFX.out 1
              have O7' := HP.out 1
              have q0 := B7'.cell 0
              have q1 := B7'.cell 1
              go_wp2_with fail
              refine (has_c _ _ T ((k : Int) - 1) _ (HLD.out _ fr7') hok hkp1).mono ?_
              rintro e w8 ⟨rfl, hb8⟩
              have O8 := O7'.below hb8 (Nat.le_refl _)
              have B8 := B7'.stays hb8
              have fr8 := fr7'.trans (hb8.mono fr7'.size)
              cases hv1 : valB T ((k : Int) - 1)
              · have hs : (1 : Int) = spI T (k : Int) := by rw [spI_of hv hv1]; simp
                have e9 : (stP T (m + 1) k).set k 1 = stP T (m + 1) (k + 1) := by rw [hs]; exact HN.out
                rw [e9] at O8
                clear q0 q1 hs e9 O7' B7' fr7'
                go_wp2
                go_roundw
                case rel => exact ⟨k + 1, by omega, by go_num, O8, B8, fr8⟩
                case measure => simp [intOf]; omega
              · have hs : (0 : Int) = spI T (k : Int) := by rw [spI_of hv hv1]; simp
                have O8' : OwnI w8 (w3.heap.size + 1) (.slice (some ⟨w3.heap.size + 1, 0, none⟩) ((stP T (m + 1) k).set k 1).length (m + 1)) ((stP T (m + 1) k).set k 1) := by rw [List.length_set, stP_len]; exact O8
                have d8 := O8'.cell k (by simpa using hlt)
                rw [gI_set_at (by simpa using hlt)] at d8
                have f8 := O8'.free k
                have O9 := O8'.set k 0
                rw [List.length_set, stP_len, List.set_set] at O9
                have e9 : (stP T (m + 1) k).set k 0 = stP T (m + 1) (k + 1) := by rw [hs]; exact HN.out
                rw [e9] at O9
                have B9 := B8.other (g' := w3.heap.size + 1) (by omega) k (.int .i64 0)
                have fr9 := fr8.setCell (p := ⟨w3.heap.size + 1, k, none⟩) (by dsimp only; omega) (.int .i64 0)
                clear q0 q1 hs e9 O7' B7' fr7'
                go_wp2
                go_roundw
                case rel => exact ⟨k + 1, by omega, by go_num, O9, B9, fr9⟩
                case measure => simp [intOf]; omega
        · have hke : k = m + 1 := by omega
          have hkn : (m : Int) < (k : Int) := by omega
          subst hke
          rw [stL_all] at hO
          have HH := Lib.hid (hO.base_le (base' := w.heap.size) (by have := hx3.size; omega))
          have hfr := (hx3.trans hbl).below
          clear hO
          go_wp2
          go_ret2
          exact ret_icw HH.out hfr (show poL T (m + 1) = ppL T by rw [HB.out]; rfl) HC.out.symm


set_option maxRecDepth 100000 in
set_option maxHeartbeats 4000000 in
theorem specSemigroupPolynomial_c (v : Value) (T : List Int) (w : World) (h : Rd w v T) :
    Calls Try.prog 97 #[.agg #[v]] w (RetIC w (ppL T) (poC T)) := by
  obtain ⟨i0, hi, hz0, hz1, hz2⟩ := info_parts Try.infoI
  have hx := Boxed.start w 26 #[v]
  obtain ⟨a, k, rfl⟩ := h.len0
  have c0 := hx.cell 0
  cases hbr : braB T
  · have HC := Lib.hid (poC_bra hbr)
    have HB := Lib.hid (ppL_no (by rw [poC_bra hbr]; decide))
    go_enter Try.func97, Try.ntmps97
    go_wp2_with fail
    refine (l03Is_c _ T _ (hx.rd h)).mono ?_
    rintro e w1 ⟨rfl, hb⟩
    rw [hbr]
    go_wp2
    go_ret2
    exact ret_nil (hx.trans hb).below HB.out HC.out.symm
  · have hok := braB_iff.1 hbr
    obtain ⟨m, hm⟩ := Int.eq_ofNat_of_zero_le (conI_nn hok)
    have hcm : conTo T (T.length - 1) = (m : Int) := hm
    by_cases hbig : 2000 < conI T
    · have HC := Lib.hid (poC_big hbr hbig)
      have HB := Lib.hid (ppL_no (by rw [poC_big hbr hbig]; decide))
      rw [hm] at hbig
      go_enter Try.func97, Try.ntmps97
      go_wp2_with fail
      refine (l03Is_c _ T _ (hx.rd h)).mono ?_
      rintro e w1 ⟨rfl, hb⟩
      rw [hbr]
      have hx1 := hx.trans hb
      have c1 := hx1.cell 0
      go_wp2_with fail
      refine (l05Conductor_c _ T _ (hx1.rd h) hok).mono ?_
      rintro e w2 ⟨rfl, hb2⟩
      rw [hcm]
      go_wp2
      go_ret2
      exact ret_nil (hx1.trans hb2).below HB.out HC.out.symm
    · have HC := Lib.hid (poC_ok hbr hbig)
      have HB := Lib.hid (ppL_ok (poC_ok hbr hbig))
      rw [hm] at hbig HB
      have hmb : (m : Int) ≤ 2000 := by omega
      go_enter Try.func97, Try.ntmps97
      go_wp2_with fail
      refine (l03Is_c _ T _ (hx.rd h)).mono ?_
      rintro e w1 ⟨rfl, hb⟩
      rw [hbr]
      have hx0 := hx.trans hb
      have c1 := hx0.cell 0
      go_wp2_with fail
      refine (l05Conductor_c _ T _ (hx0.rd h) hok).mono ?_
      rintro e w2 ⟨rfl, hb2⟩
      rw [hcm]
      have hx1 := hx0.trans hb2
      have c2 := hx1.cell 0
      go_wp2_with fail
      refine (l05Values_c _ T m _ (hx1.rd h) hok (by omega)).mono ?_
      rintro e w4 ⟨g, rfl, hB, hb3⟩
      have hx4 := hx1.trans hb3
      have hE : OwnI (w4.alloc (.cells #[] 2)) w4.heap.size (.slice (some ⟨w4.heap.size, 0, none⟩) 0 0) [] := own_empty w4 _ (Nat.le_refl _)
      have ha5 : Below w4.heap.size w4 (w4.alloc (.cells #[] 2)) := (Below.refl _ _).alloc (Nat.le_refl _) _
      clear c2
      go_wp2_with fail
      go_loopw [6, 7, 8] (fun lv iv _ wr => ∃ k : Nat, k ≤ m + 1 ∧ iv = .int .i64 k ∧ OwnI wr w4.heap.size lv (poL T k) ∧ Below w4.heap.size w4 wr) (fun _ iv _ _ => m + 1 - (intOf iv).toNat)
      case atStart => exact ⟨0, Nat.zero_le _, rfl, hE, ha5⟩
      case round =>
        obtain ⟨k, hk, rfl, hO, hbl⟩ := hrel
        clear hE ha5
        obtain ⟨wo, rfl⟩ : ∃ wo : World, wo = wr := ⟨_, rfl⟩
        have hk0 : (0 : Int) ≤ (k : Int) := Int.natCast_nonneg _
        by_cases hlt : k < m + 1
        · have hki : (k : Int) ≤ (m : Int) := by omega
          have hki2 : (k : Int) < (m : Int) + 1 := by omega
          have hBw := hB.below hbl (Nat.le_refl _)
          have dB := hBw.cell (i := k) hlt
          have hsl := hbl.size
          have HY := Lib.hid (poL_succ T k)
          have hll := poL_len T k
          have hpl : (poL T k).length ≤ 1000000 := by omega
          clear hll
          go_upto_if 28 with fail
          go_cut [8] from 20 to 30 (fun s8 wc => s8 = .int .i64 (if valB T (k : Int) = true then 1 else 0) ∧ wo = wc)
          case first =>
            cases hv : valB T (k : Int)
            · rw [hv] at dB
              go_wp2
              go_meet
              exact ⟨by simp [hv], rfl⟩
            · rw [hv] at dB
              go_wp2
              go_meet
              exact ⟨by simp [hv], rfl⟩
          case rest =>
          obtain ⟨rfl, rfl⟩ := hcut
          have hx1 : (0 : Int) ≤ (if valB T (k : Int) = true then (1 : Int) else 0) ∧ (if valB T (k : Int) = true then (1 : Int) else 0) ≤ 1 := by split <;> omega
          have HSP := Lib.hid (show spI T (k : Int) = (if valB T (k : Int) = true then (1 : Int) else 0) - (if valB T ((k : Int) - 1) = true then 1 else 0) from rfl)
          generalize (if valB T (k : Int) = true then (1 : Int) else 0) = x1 at hx1 HSP ⊢
          clear dB
          by_cases hk00 : k = 0
          · have HS : Hid (spI T (k : Int) = x1) := Lib.hid (by rw [HSP.out, valB_neg hok (show (k : Int) - 1 < 0 by omega)]; simp)
            have hn1 : ¬ 0 < k := by omega
            have hn2 : ¬ (0 : Int) < (k : Int) := by omega
            clear hk00
            clear hBw HSP hx1
            go_wp2_with (at_builtin; refine wpList_push rfl (.tmp 42) (.tmp 44) 24 rfl w4.heap.size 2 i0 Try.underlying24 hi hz0 hz1 hz2 u6 (poL T k) (x1) rfl hO rfl (by omega) hsl ?_; intro v' w7 hown' hkp)
            have hbl7 := hbl.trans (hkp.below hsl (fun g hg => (hO.block g hg).1))
            rw [← HS.out, ← HY.out] at hown'
            go_roundw
            case rel => exact ⟨k + 1, by omega, by go_num, hown', hbl7⟩
            case measure => simp [intOf]; omega
          · obtain ⟨q, rfl⟩ : ∃ q, k = q + 1 := ⟨k - 1, by omega⟩
            have dQ := hBw.cell (i := q) (by omega)
            have e1 : ((q + 1 : Nat) : Int) - 1 = (q : Int) := by omega
            rw [e1] at HSP
            have f1 : (q : Int) + 1 - 1 = (q : Int) := by omega
            have f2 : IntKind.i64.wrap (q : Int) = (q : Int) := IntWalk.i64_in _ (by omega)
            have f3 : (0 : Int) ≤ (q : Int) := by omega
            have f4 : (q : Int) < (m : Int) + 1 := by omega
            have f5 : (0 : Int) ≤ (q : Int) + 1 := by omega
            have f6 : (0 : Int) < (q : Int) + 1 := by omega
            have f7 : ((q : Int) + 1).toNat = q + 1 := by omega
            have f8 : (q : Int) + 1 < (m : Int) + 1 := by omega
            cases hv1 : valB T (q : Int)
            · have HS : Hid (spI T ((q + 1 : Nat) : Int) = x1) := Lib.hid (by rw [HSP.out, hv1]; simp)
              rw [hv1] at dQ
              clear hBw HSP hx1
              go_wp2_with (at_builtin; refine wpList_push rfl (.tmp 42) (.tmp 44) 24 rfl w4.heap.size 2 i0 Try.underlying24 hi hz0 hz1 hz2 u6 (poL T (q + 1)) (x1) rfl hO rfl (by omega) hsl ?_; intro v' w7 hown' hkp)
              have hbl7 := hbl.trans (hkp.below hsl (fun g hg => (hO.block g hg).1))
              rw [← HS.out, ← HY.out] at hown'
              go_roundw
              case rel => exact ⟨(q + 1) + 1, by omega, by go_num, hown', hbl7⟩
              case measure => simp [intOf]; omega
            · have HS : Hid (spI T ((q + 1 : Nat) : Int) = x1 - 1) := Lib.hid (by rw [HSP.out, hv1]; simp)
              have wx : IntKind.i64.wrap (x1 - 1) = x1 - 1 := IntWalk.i64_in _ (by omega)
              rw [hv1] at dQ
              clear hBw HSP hx1
              go_wp2_with (at_builtin; refine wpList_push rfl (.tmp 42) (.tmp 44) 24 rfl w4.heap.size 2 i0 Try.underlying24 hi hz0 hz1 hz2 u6 (poL T (q + 1)) (x1 - 1) rfl hO rfl (by omega) hsl ?_; intro v' w7 hown' hkp)
              have hbl7 := hbl.trans (hkp.below hsl (fun g hg => (hO.block g hg).1))
              rw [← HS.out, ← HY.out] at hown'
              go_roundw
              case rel => exact ⟨(q + 1) + 1, by omega, by go_num, hown', hbl7⟩
              case measure => simp [intOf]; omega
        · have hke : k = m + 1 := by omega
          have hkn : (m : Int) < (k : Int) := by omega
          subst hke
          have HH := Lib.hid (hO.base_le (base' := w.heap.size) (Nat.le_of_lt (Nat.lt_of_succ_le hx4.size)))
          have hfr := (hx4.trans (hbl.mono (Nat.le_refl _))).below
          clear hO
          go_wp2
          go_ret2
          exact ret_icw HH.out hfr (show poL T (m + 1) = ppL T by rw [HB.out]; rfl) HC.out.symm

end Go.Proofs.Ytiinceflafigeaa
