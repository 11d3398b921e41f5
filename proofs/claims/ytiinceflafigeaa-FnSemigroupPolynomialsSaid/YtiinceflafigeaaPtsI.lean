/- Contracts: points of a branch, the program. -/
import Derived.Test.YtiinceflafigeaaSeqI
import Derived.Test.YtiinceflafigeaaProxI
import Derived.Test.YtiinceflafigeaaL03Is
namespace Go.Proofs.Ytiinceflafigeaa
open Go.RowKit

/-- The code of a branch and a number of points. -/
def ckC (T : List Int) (k : Int) : Int := if braB T = true then (if inB k 1 400 = true then 0 else 2) else 1
theorem ckC_bra {T : List Int} {k : Int} (h : braB T = false) : ckC T k = 1 := by simp [ckC, h]
theorem ckC_num {T : List Int} {k : Int} (h : braB T = true) (h' : inB k 1 400 = false) : ckC T k = 2 := by simp [ckC, h, h']
theorem ckC_ok {T : List Int} {k : Int} (h : braB T = true) (h' : inB k 1 400 = true) : ckC T k = 0 := by simp [ckC, h, h']
theorem ckC_zero {T : List Int} {k : Int} (h : ckC T k = 0) : BraOk T ∧ 1 ≤ k ∧ k ≤ 400 := by
  cases c : braB T
  · rw [ckC_bra c] at h; simp at h
  · cases d : inB k 1 400
    · rw [ckC_num c d] at h; simp at h
    · exact ⟨braB_iff.1 c, inB_iff.1 d⟩
theorem ckC_cases (T : List Int) (k : Int) : ckC T k = 0 ∨ ckC T k = 1 ∨ ckC T k = 2 := by
  unfold ckC
  split
  · split
    · exact .inl rfl
    · exact .inr (.inr rfl)
  · exact .inr (.inl rfl)
/-- A list behind the code. -/
def ckL (T : List Int) (k : Int) (xs : List Int) : List Int := if ckC T k = 0 then xs else []
theorem ckL_ok {T : List Int} {k : Int} {xs : List Int} (h : ckC T k = 0) : ckL T k xs = xs := by simp [ckL, h]
theorem ckL_no {T : List Int} {k : Int} {xs : List Int} (h : ckC T k ≠ 0) : ckL T k xs = [] := by simp [ckL, h]

theorem checkPoints_c (v : Value) (T : List Int) (k : Int) (w : World) (h : Rd w v T) :
    Calls Try.prog 113 #[.agg #[v], .int .i64 k] w fun e w' => e = .returned (.int .i64 (ckC T k)) ∧ Below w.heap.size w w' := by
  have hx := Boxed.start w 26 #[v]
  obtain ⟨a, c, rfl⟩ := h.len0
  have c0 := hx.cell 0
  cases hbr : braB T
  · have HC := Lib.hid (ckC_bra (k := k) hbr)
    go_enter Try.func113, Try.ntmps113
    go_wp2_with fail
    refine (implIsBranch_c _ T _ (hx.rd h)).mono ?_
    rintro e w1 ⟨rfl, hb⟩
    rw [hbr]
    go_wp2
    go_ret
    exact ⟨ret_int HC.out.symm, (hx.trans hb).below⟩
  · cases hin : inB k 1 400
    · have HC := Lib.hid (ckC_num hbr hin)
      go_enter Try.func113, Try.ntmps113
      go_wp2_with fail
      refine (implIsBranch_c _ T _ (hx.rd h)).mono ?_
      rintro e w1 ⟨rfl, hb⟩
      rw [hbr]
      go_wp2_with fail
      refine (inRange_c _ _ _ _).mono ?_
      rintro e w2 ⟨rfl, rfl⟩
      rw [hin]
      go_wp2
      go_ret
      exact ⟨ret_int HC.out.symm, (hx.trans hb).below⟩
    · have HC := Lib.hid (ckC_ok hbr hin)
      go_enter Try.func113, Try.ntmps113
      go_wp2_with fail
      refine (implIsBranch_c _ T _ (hx.rd h)).mono ?_
      rintro e w1 ⟨rfl, hb⟩
      rw [hbr]
      go_wp2_with fail
      refine (inRange_c _ _ _ _).mono ?_
      rintro e w2 ⟨rfl, rfl⟩
      rw [hin]
      go_wp2
      go_ret
      exact ⟨ret_int HC.out.symm, (hx.trans hb).below⟩

theorem rd_of_cells {w : World} {g n : Nat} {xs : List Int} (hn : xs.length = n) (hg : g < w.heap.size) (hm : n ≤ 1000000000) (hc : ∀ i, i < n → w.cell? ⟨g, i, none⟩ = some (.int .i64 (gI xs i))) : Rd w (.slice (some ⟨g, 0, none⟩) n n) xs := by
  subst hn
  exact ⟨_, _, rfl, Nat.le_refl _, by omega, fun _ => ⟨g, 0, rfl, hg, fun i hi => by rw [Nat.zero_add]; exact hc i hi⟩⟩
/-- The rows of the first k points. -/
def rwT (T : List Int) (k : Nat) : Nat → List Int := proxOf (parL k) (secM (seqL T k))

set_option maxRecDepth 100000 in
theorem proximatesOf_c (v : Value) (T : List Int) (k : Nat) (w : World) (h : Rd w v T) (hok : BraOk T) (hk1 : 1 ≤ k) (hk : k ≤ 400) :
    Calls Try.prog 118 #[.agg #[v], .int .i64 (k : Int)] w (RetR w k (rwT T k)) := by
  have hx := Boxed.start w 26 #[v]
  obtain ⟨a, c, rfl⟩ := h.len0
  have c0 := hx.cell 0
  have hE := eu_seq hok k
  go_enter Try.func118, Try.ntmps118
  go_wp2_with fail
  refine (firstOf_c _ T k _ (hx.rd h) hok hk1 (by omega)).mono ?_
  rintro e w1 ⟨g, rfl, hg1, hg2, hc, hf, hb1⟩
  have hx1 := hx.trans hb1
  have hrd := rd_of_cells (seqL_len T k) hg2 (by omega) hc
  have hcall := proximates_c _ (seqL T k) w1 hrd hE (by rw [seqL_len]; omega) (by rw [seqL_len]; omega)
  rw [seqL_len] at hcall
  clear c0 hc
  go_wp2_with fail
  refine hcall.mono ?_
  rintro e w2 ⟨g2, V, rfl, hR, hb2⟩
  have HF := Lib.hid (show RetR w k (rwT T k) (.returned (.slice (some ⟨g2, 0, none⟩) k k)) w2 from ⟨g2, V, rfl, hR.base_le (Nat.le_of_lt hx1.size), (hx1.trans hb2).below⟩)
  clear hR hcall
  go_wp2
  go_ret
  exact HF.out
/-- The first j numbers of the code. -/
def cdTo (M : List Int) (j : Nat) : List Int := (List.range j).map (cI M)
theorem cdTo_succ (M : List Int) (j : Nat) : cdTo M (j + 1) = cdTo M j ++ [cI M j] := by simp [cdTo, List.range_succ]
theorem cdTo_len (M : List Int) (j : Nat) : (cdTo M j).length = j := by simp [cdTo]
theorem row_two {M : List Int} {j : Nat} (hj : j + 1 < M.length) (h : 0 ≤ sI M (j + 1)) : proxOf (parL M.length) (secM M) (j + 1) = [sI M (j + 1), (j : Int)] ∧ cI M j = ((j + 1 : Nat) : Int) - sI M (j + 1) := by
  constructor
  · unfold proxOf secL
    rw [if_neg (by omega), gI_secM hj, if_pos h, gI_parL hj]
    simp
  · simp [cI, h]
theorem row_one {M : List Int} {j : Nat} (hj : j + 1 < M.length) (h : ¬ 0 ≤ sI M (j + 1)) : proxOf (parL M.length) (secM M) (j + 1) = [(j : Int)] ∧ cI M j = 0 := by
  constructor
  · unfold proxOf secL
    rw [if_neg (by omega), gI_secM hj, if_neg h, gI_parL hj]
    simp
  · simp [cI, h]

set_option maxRecDepth 100000 in
set_option maxHeartbeats 4000000 in
theorem codeOf_c (v : Value) (M : List Int) (w : World) (h : RdR w v ((List.range M.length).map (proxOf (parL M.length) (secM M)))) (hp : 0 < M.length) (hl : M.length ≤ 400) :
    Calls Try.prog 117 #[v] w (RetI w (codeL M)) := by
  obtain ⟨i0, hi, hz0, hz1, hz2⟩ := info_parts Try.infoI
  obtain ⟨b, off, cap, rfl, hc1, hc2, hb, hc⟩ := h.cells (by simpa using hp)
  have hrl : ((List.range M.length).map (proxOf (parL M.length) (secM M))).length = M.length := by simp
  rw [hrl] at hc1 hc ⊢
  have hE := own_empty w w.heap.size (Nat.le_refl _)
  have hal : Below w.heap.size w (w.alloc (.cells #[] 2)) := (Below.refl _ _).alloc (Nat.le_refl _) _
  clear hrl
  go_enter Try.func117, Try.ntmps117
  go_wp2_with fail
  go_loopw [3, 4, 5] (fun lv jv _ wr => ∃ j : Nat, j < M.length ∧ jv = .int .i64 ((j : Int) + 1) ∧ OwnI wr w.heap.size lv (cdTo M j) ∧ Below w.heap.size w wr) (fun _ jv _ _ => M.length - (intOf jv).toNat)
  case atStart => exact ⟨0, hp, rfl, hE, hal⟩
  case round =>
    obtain ⟨j, hj, rfl, hO, hbl⟩ := hrel
    clear hE hal
    obtain ⟨wo, rfl⟩ : ∃ wo : World, wo = wr := ⟨_, rfl⟩
    have f5 : (0 : Int) ≤ (j : Int) + 1 := by omega
    have f7 : ((j : Int) + 1).toNat = j + 1 := by omega
    by_cases hlt : j + 1 < M.length
    · have f8 : (j : Int) + 1 < (M.length : Int) := by omega
      obtain ⟨u, hu, hru⟩ := hc (j + 1) hlt
      rw [gR_map hlt] at hru
      have du : wo.cell? ⟨b, off + (j + 1), none⟩ = some u := by rw [hbl.cell (p := ⟨b, off + (j + 1), none⟩) hb]; exact hu
      have hru2 := hru.below hbl (Nat.le_refl _)
      have hs := hbl.size
      have HY := Lib.hid (cdTo_succ M j)
      have hll := cdTo_len M j
      have hl2 : (cdTo M j).length ≤ 1000000 := by omega
      have hsb := sI_bd M (j + 1)
      clear hru hu hll
      by_cases h2 : 0 ≤ sI M (j + 1)
      · obtain ⟨r1, r2⟩ := row_two hlt h2
        rw [r1] at hru2
        obtain ⟨bu, ou, cu, rfl, _, _, hbu, hcu⟩ := hru2.cells (by simp)
        have d0 : wo.cell? ⟨bu, ou, none⟩ = some (.int .i64 (sI M (j + 1))) := hcu 0 (by simp)
        have hl3 : [sI M (j + 1), (j : Int)].length = 2 := rfl
        rw [hl3] at du
        have hcd : (j : Int) + 1 - sI M (j + 1) = cI M j := by rw [r2]; omega
        have hcb := cI_bd M j
        have wcc : IntKind.i64.wrap (cI M j) = cI M j := IntWalk.i64_in _ (by omega)
        clear hru2 hcu hl3 r1 r2
        generalize sI M (j + 1) = s at *
        generalize cI M j = y at *
        go_wp2_with (at_builtin; refine wpList_push rfl (.tmp 27) (.tmp 29) 24 rfl w.heap.size 2 i0 Try.underlying24 hi hz0 hz1 hz2 u3 (cdTo M j) y rfl hO rfl (by omega) hs ?_; intro v' w2 hown' hkp)
        have hbl2 := hbl.trans (hkp.below hs (fun g hg => (hO.block g hg).1))
        rw [← HY.out] at hown'
        go_roundw
        case rel => exact ⟨j + 1, hlt, by go_num, hown', hbl2⟩
        case measure => simp [intOf]; omega
      · obtain ⟨r1, r2⟩ := row_one hlt h2
        rw [r1] at hru2
        obtain ⟨au, ku, rfl⟩ := hru2.len0
        have hl3 : [(j : Int)].length = 1 := rfl
        rw [hl3] at du
        rw [r2] at HY
        clear hru2 hl3 r1 r2
        go_wp2_with (at_builtin; refine wpList_push rfl (.tmp 27) (.tmp 29) 24 rfl w.heap.size 2 i0 Try.underlying24 hi hz0 hz1 hz2 u3 (cdTo M j) 0 rfl hO rfl (by omega) hs ?_; intro v' w2 hown' hkp)
        have hbl2 := hbl.trans (hkp.below hs (fun g hg => (hO.block g hg).1))
        rw [← HY.out] at hown'
        go_roundw
        case rel => exact ⟨j + 1, hlt, by go_num, hown', hbl2⟩
        case measure => simp [intOf]; omega
    · have hje : j = M.length - 1 := by omega
      have f8 : ¬ (j : Int) + 1 < (M.length : Int) := by omega
      have f9 : (M.length : Int) ≤ (j : Int) + 1 := by omega
      have he : cdTo M j = codeL M := by rw [hje]; rfl
      rw [he] at hO
      have HF := Lib.hid (retI_mk hO hbl)
      clear hO he hje
      go_wp2
      go_ret
      exact HF.out

set_option maxRecDepth 100000 in
theorem implCodeOf_c (v : Value) (T : List Int) (k : Int) (w : World) (h : Rd w v T) :
    Calls Try.prog 20 #[.agg #[v], .int .i64 k] w (RetIC w (ckL T k (codeL (seqL T k.toNat))) (ckC T k)) := by
  have hx := Boxed.start w 26 #[v]
  obtain ⟨a, c, rfl⟩ := h.len0
  have c0 := hx.cell 0
  by_cases h0 : ckC T k = 0
  · obtain ⟨hok, hk1, hk2⟩ := ckC_zero h0
    obtain ⟨n, rfl⟩ := Int.eq_ofNat_of_zero_le (show 0 ≤ k by omega)
    have HL := Lib.hid (ckL_ok (xs := codeL (seqL T ((n : Int)).toNat)) h0)
    go_enter Try.func20, Try.ntmps20
    go_wp2_with fail
    refine (checkPoints_c _ T _ _ (hx.rd h)).mono ?_
    rintro e w1 ⟨rfl, hb⟩
    rw [h0]
    have hx1 := hx.trans hb
    have c1 := hx1.cell 0
    clear c0
    go_wp2_with fail
    refine (proximatesOf_c _ T n _ (hx1.rd h) hok (by omega) (by omega)).mono ?_
    rintro e w2 ⟨g, V, rfl, hR, hb2⟩
    have hx2 := hx1.trans hb2
    have hrd := hR.rd (cap := n) (Nat.le_refl _) (by omega)
    have hcall := codeOf_c (.slice (some ⟨g, 0, none⟩) n n) (seqL T n) w2 (by rw [seqL_len]; exact hrd) (by rw [seqL_len]; omega) (by rw [seqL_len]; omega)
    clear c1 hrd hR
    go_wp2_with fail
    refine hcall.mono ?_
    rintro e w3 ⟨ac, kc, rfl, hO, hb3⟩
    have HF := Lib.hid (show RetIC w (ckL T n (codeL (seqL T ((n : Int)).toNat))) (ckC T n) (.returned (.tuple #[.slice ac (codeL (seqL T n)).length kc, .int .i64 0])) w3 by
      rw [HL.out, h0]
      exact ⟨ac, kc, rfl, hO.base_le (Nat.le_of_lt hx2.size), (hx2.trans hb3).below⟩)
    rw [codeL_len, seqL_len] at HF ⊢
    clear hcall hO HL h0
    go_wp2
    go_ret2
    exact HF.out
  · have HL := Lib.hid (ckL_no (xs := codeL (seqL T k.toNat)) h0)
    go_enter Try.func20, Try.ntmps20
    go_wp2_with fail
    refine (checkPoints_c _ T _ _ (hx.rd h)).mono ?_
    rintro e w1 ⟨rfl, hb⟩
    have hne : (ckC T k != 0) = true := by simp [h0]
    have HF := Lib.hid (show RetIC w (ckL T k (codeL (seqL T k.toNat))) (ckC T k) (.returned (.tuple #[.slice none 0 0, .int .i64 (ckC T k)])) w1 by rw [HL.out]; exact retIC_nil (hx.trans hb).below)
    clear HL h0
    go_wp2
    go_ret2
    exact HF.out
end Go.Proofs.Ytiinceflafigeaa
