/- Contracts: ProximatesOf. -/
import Derived.Test.YtiinceflafigeaaPtC
import Derived.Test.YtiinceflafigeaaMatL
namespace Go.Proofs.Ytiinceflafigeaa
open Go.RowKit

theorem row_zero (M : List Int) : proxOf (parL M.length) (secM M) 0 = [] := by simp [proxOf]
set_option maxRecDepth 100000 in
set_option maxHeartbeats 1000000 in
theorem l06Proximates_c (v : Value) (M : List Int) (j : Nat) (w : World) (h : Rd w v (codeL M)) (hj : j < M.length) (hl : M.length ≤ 1000) :
    Calls Try.prog 185 #[v, .int .i64 (j : Int)] w (RetI w (proxOf (parL M.length) (secM M) j)) := by
  by_cases hj0 : j = 0
  · subst hj0
    obtain ⟨a, c, rfl⟩ := h.len0
    rw [row_zero]
    have hO := own_empty w w.heap.size (Nat.le_refl _)
    have HF := Lib.hid (retI_mk hO ((Below.refl w.heap.size w).alloc (Nat.le_refl _) (.cells #[] 2)))
    clear hO
    go_enter Try.func185, Try.ntmps185
    go_wp2
    go_ret
    exact HF.out
  · obtain ⟨q, rfl⟩ : ∃ q, j = q + 1 := ⟨j - 1, by omega⟩
    obtain ⟨b, off, cap, rfl, hc1, hc2, hb, hc⟩ := h.cells (by simp; omega)
    have dc := hc q (by simp; omega)
    rw [gI_codeL hj] at dc
    rw [codeL_len]
    have f1 : (q : Int) + 1 - 1 = (q : Int) := by omega
    have f2 : IntKind.i64.wrap (q : Int) = (q : Int) := IntWalk.i64_in _ (by omega)
    have f3 : (0 : Int) ≤ (q : Int) := by omega
    have f4 : (q : Int) < ((M.length - 1 : Nat) : Int) := by omega
    have f5 : ((q : Int) + 1 == 0) = false := beq_false_of_ne (by omega)
    have f6 : (((q + 1 : Nat) : Int) == 0) = false := beq_false_of_ne (by omega)
    have f7 : ((q : Int) + 1).toNat = q + 1 := by omega
    have hsb := sI_bd M (q + 1)
    clear hc hj0 h
    by_cases h2 : 0 ≤ sI M (q + 1)
    · obtain ⟨r1, r2⟩ := row_two hj h2
      have hne : (cI M q == 0) = false := beq_false_of_ne (by omega)
      have hv : (q : Int) + 1 - cI M q = sI M (q + 1) := by omega
      have hw : IntKind.i64.wrap (sI M (q + 1)) = sI M (q + 1) := IntWalk.i64_in _ (by omega)
      have hO := own_blk2 (base := w.heap.size) (Blk.new w 2 #[.int .i64 (sI M (q + 1)), .int .i64 (q : Int)]) (Nat.le_refl _)
      rw [← r1] at hO
      have hrl : (proxOf (parL M.length) (secM M) (q + 1)).length = 2 := by rw [r1]; rfl
      have hret := retI_mk hO ((Below.refl w.heap.size w).alloc (Nat.le_refl _) (.cells #[.int .i64 (sI M (q + 1)), .int .i64 (q : Int)] 2))
      have HF := Lib.hid hret
      clear hret hO r1 r2 hrl
      generalize sI M (q + 1) = s at *
      generalize cI M q = y at *
      go_enter Try.func185, Try.ntmps185
      go_wp2
      go_ret
      exact HF.out
    · obtain ⟨r1, r2⟩ := row_one hj h2
      have hO := own_one (e := 2) w w.heap.size (Nat.le_refl _) (q : Int)
      rw [← r1] at hO
      have hret := retI_mk hO ((Below.refl w.heap.size w).alloc (Nat.le_refl _) (.cells #[.int .i64 (q : Int)] 2))
      have HF := Lib.hid hret
      rw [r2] at dc
      clear hret hO r1 r2
      go_enter Try.func185, Try.ntmps185
      go_wp2
      go_ret
      exact HF.out

/-- The rows behind the code. -/
def ckM (T : List Int) (k : Int) (R : List (List Int)) : List (List Int) := if ckC T k = 0 then R else []
theorem ckM_ok {T : List Int} {k : Int} {xs : List (List Int)} (h : ckC T k = 0) : ckM T k xs = xs := by simp [ckM, h]
theorem ckM_no {T : List Int} {k : Int} {xs : List (List Int)} (h : ckC T k ≠ 0) : ckM T k xs = [] := by simp [ckM, h]
def rwL (T : List Int) (k : Nat) : List (List Int) := (List.range k).map (rwT T k)
@[simp] theorem rwL_len (T : List Int) (k : Nat) : (rwL T k).length = k := by simp [rwL]
theorem rw_row (T : List Int) (k j : Nat) : (rwT T k j).length ≤ 2 := by
  unfold rwT proxOf
  split
  · simp
  · have := secL_len (secM (seqL T k)) j; simp; omega
theorem ckM_len (T : List Int) (k : Int) : (ckM T k (rwL T k.toNat)).length ≤ 400 := by
  by_cases h : ckC T k = 0
  · rw [ckM_ok h]
    have := ckC_zero h
    simp; omega
  · rw [ckM_no h]; simp
theorem ckM_row (T : List Int) (k : Int) : ∀ j, j < (ckM T k (rwL T k.toNat)).length → (gR (ckM T k (rwL T k.toNat)) j).length ≤ 1000 := by
  intro j hj
  by_cases h : ckC T k = 0
  · rw [ckM_ok h] at hj ⊢
    rw [rwL_len] at hj
    unfold rwL
    rw [gR_map hj]
    have := rw_row T k.toNat j
    omega
  · rw [ckM_no h] at hj; simp at hj

set_option maxRecDepth 100000 in
theorem implProximatesOf_c (v : Value) (T : List Int) (k : Int) (w : World) (h : Rd w v T) :
    Calls Try.prog 88 #[.agg #[v], .int .i64 k] w (RetMC 2 w (ckM T k (rwL T k.toNat)) (ckC T k)) := by
  have hx := Boxed.start w 26 #[v]
  obtain ⟨a, c, rfl⟩ := h.len0
  have c0 := hx.cell 0
  by_cases h0 : ckC T k = 0
  · obtain ⟨hok, hk1, hk2⟩ := ckC_zero h0
    obtain ⟨n, rfl⟩ := Int.eq_ofNat_of_zero_le (show 0 ≤ k by omega)
    have HL := Lib.hid (ckM_ok (xs := rwL T ((n : Int)).toNat) h0)
    go_enter Try.func88, Try.ntmps88
    go_wp2_with fail
    refine (checkPoints_c _ T _ _ (hx.rd h)).mono ?_
    rintro e w1 ⟨rfl, hb⟩
    rw [h0]
    have hx1 := hx.trans hb
    have c1 := hx1.cell 0
    clear c0
    go_wp2_with fail
    refine (proximatesOf_c _ T n _ (hx1.rd h) hok (by omega) (by omega)).mono ?_
    rintro e w2 ⟨g, V, rfl, hR, hb2⟩
    have hOM := (OwnM.of_rows hR (cap := n) (Nat.le_refl _) (by omega)).base_le (base' := w.heap.size) (Nat.le_of_lt hx1.size)
    have hret : RetMC 2 w (ckM T n (rwL T ((n : Int)).toNat)) (ckC T n) (.returned (.tuple #[.slice (some ⟨g, 0, none⟩) n n, .int .i64 0])) w2 := by
      rw [HL.out, h0]
      exact retMC_mk (R := rwL T n) hOM (hx1.trans hb2).below
    have HF := Lib.hid hret
    clear c1 hR hOM hret HL h0
    go_wp2
    go_ret2
    exact HF.out
  · have HL := Lib.hid (ckM_no (xs := rwL T k.toNat) h0)
    go_enter Try.func88, Try.ntmps88
    go_wp2_with fail
    refine (checkPoints_c _ T _ _ (hx.rd h)).mono ?_
    rintro e w1 ⟨rfl, hb⟩
    have hne : (ckC T k != 0) = true := by simp [h0]
    have HF := Lib.hid (show RetMC 2 w (ckM T k (rwL T k.toNat)) (ckC T k) (.returned (.tuple #[.slice none 0 0, .int .i64 (ckC T k)])) w1 by rw [HL.out]; exact retMC_nil (hx.trans hb).below)
    clear HL h0
    go_wp2
    go_ret2
    exact HF.out

set_option maxRecDepth 100000 in
set_option maxHeartbeats 4000000 in
theorem specProximatesOf_c (v : Value) (T : List Int) (k : Int) (w : World) (h : Rd w v T) :
    Calls Try.prog 89 #[.agg #[v], .int .i64 k] w (RetMC 2 w (ckM T k (rwL T k.toNat)) (ckC T k)) := by
  obtain ⟨j0, ji, jz0, jz1, jz2⟩ := info_parts Try.infoII
  have hx := Boxed.start w 26 #[v]
  obtain ⟨a, c, rfl⟩ := h.len0
  have c0 := hx.cell 0
  by_cases h0 : ckC T k = 0
  · obtain ⟨hok, hk1, hk2⟩ := ckC_zero h0
    obtain ⟨n, rfl⟩ := Int.eq_ofNat_of_zero_le (show 0 ≤ k by omega)
    have HL := Lib.hid (show ckM T n (rwL T ((n : Int)).toNat) = rwL T n by rw [ckM_ok h0]; rfl)
    have H0 := Lib.hid h0
    go_enter Try.func89, Try.ntmps89
    go_wp2_with fail
    refine (l06Range_c _ T _ _ (hx.rd h)).mono ?_
    rintro e w1 ⟨rfl, hb⟩
    rw [h0]
    have hx1 := hx.trans hb
    have c1 := hx1.cell 0
    clear c0 h0
    go_wp2_with fail
    refine (l06Code_c _ T n _ (hx1.rd h) hok (by omega) (by omega)).mono ?_
    rintro e w3 ⟨ac, kc, rfl, hO, hb3⟩
    have hx3 := hx1.trans hb3
    have hE : GrowM 2 24 (w3.alloc (.cells #[] 24)) w3.heap.size (.slice (some ⟨w3.heap.size, 0, none⟩) 0 0) [] [] := GrowM.empty _ _ w3 w3.heap.size w3.heap.size rfl (Nat.le_refl _)
    have hal : Below w3.heap.size w3 (w3.alloc (.cells #[] 24)) := (Below.refl _ _).alloc (Nat.le_refl _) _
    have hrd := hO.rd
    rw [codeL_len, seqL_len] at hrd ⊢
    have hMl := seqL_len T n
    have hsucc : ∀ j, (List.range (j + 1)).map (rwT T n) = (List.range j).map (rwT T n) ++ [rwT T n j] := fun j => by simp [List.range_succ]
    clear hO c1
    go_wp2_with fail
    go_loopw [8, 9] (fun lv jv wr => ∃ (j g c : Nat) (vs : List Value), j ≤ n ∧ jv = .int .i64 j ∧ lv = .slice (some ⟨g, 0, none⟩) j c ∧ GrowM 2 24 wr w3.heap.size (.slice (some ⟨g, 0, none⟩) j c) vs ((List.range j).map (rwT T n)) ∧ Below w3.heap.size w3 wr) (fun _ jv _ => n - (intOf jv).toNat)
    case atStart => exact ⟨0, w3.heap.size, 0, [], Nat.zero_le _, rfl, rfl, hE, hal⟩
    case round =>
      obtain ⟨j, g, c5, vs, hj, rfl, rfl, hG, hbl⟩ := hrel
      clear hE hal
      obtain ⟨wo, rfl⟩ : ∃ wo : World, wo = wr := ⟨_, rfl⟩
      have hj0 : (0 : Int) ≤ (j : Int) := Int.natCast_nonneg _
      by_cases hlt : j < n
      · have hji : (j : Int) < (n : Int) := by omega
        have hsz := hbl.size
        have HY := Lib.hid (hsucc j)
        have hrd2 : Rd wo (.slice ac (n - 1) kc) (codeL (seqL T n)) := hrd.below hbl (Nat.le_refl _)
        have hcall := l06Proximates_c (.slice ac (n - 1) kc) (seqL T n) j wo hrd2 (by rw [hMl]; exact hlt) (by rw [hMl]; omega)
        rw [hMl] at hcall
        go_wp2_with fail
        refine hcall.mono ?_
        rintro e w5 ⟨au, ku, rfl, hO5, hb5⟩
        have hO5 : OwnI w5 wo.heap.size (.slice au (rwT T n j).length ku) (rwT T n j) := hO5
        have hG5 := hG.below hb5
        have hsz5 := hb5.size
        have hblk5 := hO5.block
        have hblkG := hG.own.block
        have hua : Apart (.slice au (rwT T n j).length ku) (.slice (some ⟨g, 0, none⟩) j c5) := fun x h1 h2 => by have := hblk5 x h1; have := hblkG x (.inl h2); omega
        have hur : ∀ i, i < ((List.range j).map (rwT T n)).length → Apart (vs.getD i (.slice none 0 0)) (.slice au (rwT T n j).length ku) := fun i hi x h1 h2 => by have := hblk5 x h2; have := hblkG x (.inr ⟨i, hi, h1⟩); omega
        have hu := hO5.base_le (base' := w3.heap.size) hsz
        have hRl : ((List.range j).map (rwT T n)).length = j := by simp
        have hgg := (hG.block g rfl).1
        have hrow : proxOf (parL n) (secM (seqL T n)) j = rwT T n j := rfl
        rw [hrow]
        clear hcall hrd2 hO5 hG hblk5 hblkG hrow
        generalize rwT T n j = row at *
        generalize (List.range j).map (rwT T n) = R1 at *
        go_wp2_with (at_builtin; refine wpList_pushR rfl (.tmp 25) (.tmp 29) 64 rfl w3.heap.size 2 24 j0 Try.underlying64 ji jz0 jz1 jz2 (.slice (some ⟨g, 0, none⟩) j c5) vs R1 (.slice au row.length ku) row rfl hG5 w5.heap.size rfl rfl hu hua hur (by omega) (by omega) ?_; intro g3 c3 w6 hG6 hkp hg6; rw [hRl] at hG6 ⊢)
        have hbl6 := (hbl.trans (hb5.mono hsz)).trans (hkp.below (by omega) (fun k hk => by simp [Value.ownBlock] at hk; omega))
        rw [← HY.out] at hG6
        clear hkp
        go_roundw
        case rel => exact ⟨j + 1, g3, c3, _, by omega, by go_num, rfl, hG6, hbl6⟩
        case measure => simp [intOf]; omega
      · have hje : j = n := by omega
        subst hje
        have hret : RetMC 2 w (ckM T j (rwL T ((j : Int)).toNat)) (ckC T j) (.returned (.tuple #[.slice (some ⟨g, 0, none⟩) j c5, .int .i64 0])) wo := by
          rw [HL.out, H0.out]
          exact retMC_mk (R := rwL T j) (hG.own.base_le (Nat.le_of_lt hx3.size)) (hx3.trans (hbl.mono (Nat.le_refl _))).below
        have HF := Lib.hid hret
        clear hG hret HL hsucc
        go_wp2
        go_ret2
        exact HF.out
  · have HL := Lib.hid (ckM_no (xs := rwL T k.toNat) h0)
    go_enter Try.func89, Try.ntmps89
    go_wp2_with fail
    refine (l06Range_c _ T _ _ (hx.rd h)).mono ?_
    rintro e w1 ⟨rfl, hb⟩
    have hne : (ckC T k != 0) = true := by simp [h0]
    have HF := Lib.hid (show RetMC 2 w (ckM T k (rwL T k.toNat)) (ckC T k) (.returned (.tuple #[.slice none 0 0, .int .i64 (ckC T k)])) w1 by rw [HL.out]; exact retMC_nil (hx.trans hb).below)
    clear HL h0
    go_wp2
    go_ret2
    exact HF.out
end Go.Proofs.Ytiinceflafigeaa
