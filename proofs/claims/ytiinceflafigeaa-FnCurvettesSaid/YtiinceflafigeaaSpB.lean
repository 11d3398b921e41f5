/- Contract: spec.l04Branch on the multiplicities of a curvette with more ones. -/
import Derived.Test.YtiinceflafigeaaBos
import Derived.Test.YtiinceflafigeaaBlkS
namespace Go.Proofs.Ytiinceflafigeaa
open Go.RowKit

/-- Where spec's reader stands after t runs: the blocks from p on. -/
def SeeT (T : List Int) (Z t : Nat) (R : List (Int × Int)) (p : Nat) : Prop := ∃ (c : Nat) (Y : List Int), R.drop p = (eI T t, (c : Int)) :: blk Y ∧ leftT T Z t = List.replicate c (eI T t) ++ Y ∧ Y.head? ≠ some (eI T t)
/-- .. and within a run. -/
def MidT (T : List Int) (Z t : Nat) (R : List (Int × Int)) (p : Nat) (a b : Int) : Prop := R.drop p = blk (flat (stB a b) ++ leftT T Z (t + 1)) ∧ gcdI a b = eI T (t + 1)
theorem drop_cons {R : List (Int × Int)} {p : Nat} {s : Int × Int} {X : List (Int × Int)} (h : R.drop p = s :: X) : p < R.length ∧ R.getD p (0, 0) = s ∧ R.drop (p + 1) = X := by
  have hp : p < R.length := by
    apply Nat.lt_of_not_le
    intro hle
    rw [List.drop_eq_nil_of_le hle] at h; cases h
  rw [List.drop_eq_getElem_cons hp] at h
  injection h with h1 h2
  exact ⟨hp, by simp [List.getD, hp, h1], h2⟩
theorem set_drop {R : List (Int × Int)} {p : Nat} {s s' : Int × Int} {X : List (Int × Int)} (h : R.drop p = s :: X) : (R.set p s').drop p = s' :: X := by
  obtain ⟨hp, _, hX⟩ := drop_cons h
  rw [List.drop_eq_getElem_cons (by simpa using hp)]
  simp only [List.getElem_set_self, List.cons.injEq, true_and]
  rw [List.drop_set_of_lt (by omega)]
  exact hX
theorem see_zero {M T : List Int} {z Z : Nat} (h : CurT M T z) (hp : 0 < M.length) (hZ : z ≤ Z) : SeeT T Z 0 (blk (leftT T Z 0)) 0 := by
  obtain ⟨c, Y, h1, h2, _⟩ := lead (eI T 0) (leftT T Z 0)
  have h0 : (leftT T Z 0).head? = some (eI T 0) := by
    have hM : M ++ List.replicate (Z - z) 1 = leftT T Z 0 := by
      rw [leftT_zero]
      conv => lhs; rw [h.eq]
      rw [List.append_assoc, List.replicate_append_replicate, show z + (Z - z) = Z by omega]
    rw [← hM]
    show _ = some (gI T 0)
    rw [h.first]
    cases M with
    | nil => simp at hp
    | cons x M => rfl
  cases c with
  | zero =>
    rw [List.replicate_zero, List.nil_append] at h1
    rw [h1] at h0; exact absurd h0 h2
  | succ c =>
    refine ⟨c + 1, Y, ?_, h1, h2⟩
    rw [h1, blk_rep _ _ _ h2]
    simp
/-- The run's first step. -/
theorem see_run {T : List Int} {Z t p : Nat} {R : List (Int × Int)} (hr : RunT (eI T t) (kI T t)) (ht : t + 1 < T.length) (h : SeeT T Z t R p) :
    p + 1 < R.length ∧ R.getD p (0, 0) = (eI T t, kI T t / eI T t) ∧ (∃ c, R.getD (p + 1) (0, 0) = (kI T t % eI T t, c)) ∧ MidT T Z t R (p + 1) (eI T t) (kI T t % eI T t) := by
  obtain ⟨c, Y, h1, h2, h3⟩ := h
  have hr0 := hr.r0
  have hr1 := hr.r1
  have he := hr.e0
  have hm0 : 0 ≤ kI T t / eI T t := Int.ediv_nonneg (by have := hr.k1; omega) (by omega)
  obtain ⟨Y2, hY2⟩ := flat_head (a := eI T t) (b := kI T t % eI T t) hr0 (by omega)
  rw [leftT_succ ht, run_flat hr, List.append_assoc] at h2
  obtain ⟨h4, h5⟩ := rep_uniq h2 (by rw [hY2]; intro h; injection h with h; omega) h3
  obtain ⟨g1, g2, g3⟩ := drop_cons h1
  rw [← h5] at g3
  have hh : (flat (stB (eI T t) (kI T t % eI T t)) ++ leftT T Z (t + 1)).head? = some (kI T t % eI T t) := by rw [hY2]; rfl
  obtain ⟨c2, R2, h6⟩ := blk_some hh
  have h7 := g3
  rw [h6] at h7
  obtain ⟨g4, g5, _⟩ := drop_cons h7
  refine ⟨g4, by rw [g2, ← h4]; congr 1; omega, ⟨c2, g5⟩, g3, ?_⟩
  rw [← kI_gcd, gcdI_step _ (kI T t) (eI T t) (by have := hr.k1; omega) (by omega) rfl]
theorem mid_step {T : List Int} {Z t p : Nat} {R : List (Int × Int)} {a b : Int} (hb : 0 < b) (hab : b ≤ a) (hm : a % b ≠ 0) (h : MidT T Z t R p a b) :
    p + 1 < R.length ∧ R.getD p (0, 0) = (b, a / b) ∧ (∃ c, R.getD (p + 1) (0, 0) = (a % b, c)) ∧ MidT T Z t R (p + 1) b (a % b) := by
  obtain ⟨h1, h2⟩ := h
  obtain ⟨c, R2, h3, h4⟩ := mid_blk (Y := leftT T Z (t + 1)) hb hab hm
  rw [h3] at h1
  obtain ⟨g1, g2, g3⟩ := drop_cons h1
  have h7 := g3
  rw [h4] at h7
  obtain ⟨g4, g5, _⟩ := drop_cons h7
  exact ⟨g4, g2, ⟨c, g5⟩, g3, by rw [gcdI_step _ a b (by omega) hb rfl]; exact h2⟩
theorem mid_end {T : List Int} {Z t p : Nat} {R : List (Int × Int)} {a b : Int} (hb : 0 < b) (hab : b ≤ a) (hm : a % b = 0) (h : MidT T Z t R p a b) :
    p < R.length ∧ b = eI T (t + 1) ∧ ∃ x : Nat, R.getD p (0, 0) = (b, a / b + x) ∧ SeeT T Z (t + 1) (R.set p (b, x)) p ∧ x ≤ (leftT T Z (t + 1)).length := by
  obtain ⟨h1, h2⟩ := h
  obtain ⟨x, Y', h3, h4, h5⟩ := end_blk (Y := leftT T Z (t + 1)) hb hab hm
  rw [h5] at h1
  obtain ⟨g1, g2, g3⟩ := drop_cons h1
  have hbe : b = eI T (t + 1) := by rw [← h2, gcdI_dvd_self hb hm]
  refine ⟨g1, hbe, x, g2, ⟨x, Y', ?_, ?_, ?_⟩, ?_⟩
  · rw [← hbe]; exact set_drop h1
  · rw [← hbe]; exact h3
  · rw [← hbe]; exact h4
  · have := congrArg List.length h3; simp at this; omega
theorem list_desc {M : List Int} (hg : GoodM M) (hM : ∀ i, i < M.length → 1 ≤ gI M i) (n : Nat) {i : Nat} (hi : i + 1 < (M ++ List.replicate n 1).length) : gI (M ++ List.replicate n 1) (i + 1) ≤ gI (M ++ List.replicate n 1) i := by
  by_cases c : i + 1 < M.length
  · rw [gI_app_lt c, gI_app_lt (by omega)]
    have h1 := (hg _ _ _ (split_at (X := M) (i := i) (by omega))).2
    exact (h1 (gI M (i + 1)) (by rw [List.head?_drop]; exact gI_some c)).2.1
  · have hl : i + 1 - M.length < n := by rw [List.length_append, List.length_replicate] at hi; omega
    rw [gI_app_ge (by omega), gI_rep hl]
    by_cases d : i < M.length
    · rw [gI_app_lt d]; exact hM i d
    · rw [gI_app_ge (by omega), gI_rep (by omega)]; exact Int.le_refl _

set_option maxRecDepth 100000 in
set_option maxHeartbeats 16000000 in
theorem l04Branch_c (v : Value) (M T L : List Int) (z : Nat) (fb : Bool) (w : World) (h : Rd w v L) (hT : CurT M T z) (hL : L = M ++ List.replicate 64 1) (hg : GoodM M) (hM : ∀ i, i < M.length → 1 ≤ gI M i) (h64 : gI M 0 ≤ 64) (hl : M.length ≤ 400) (hp : 0 < M.length) (hfb : braB T = fb) :
    Calls Try.prog 123 #[v] w (RetBB w (okL fb T) fb) := by
  obtain ⟨i0, hi, hz0, hz1, hz2⟩ := info_parts Try.infoI
  have hLl : L.length ≤ 464 ∧ 0 < L.length := by rw [hL]; simp; omega
  have hLz : L = leftT T (z + 64) 0 := by
    rw [hL, leftT_zero]
    conv => lhs; rw [hT.eq]
    rw [List.append_assoc, List.replicate_append_replicate]
  have HDESC := Lib.hid (show ∀ i, i + 1 < L.length → gI L (i + 1) ≤ gI L i from fun i hi => by subst hL; exact list_desc hg hM 64 hi)
  have hsz := see_zero (Z := z + 64) hT hp (by omega)
  rw [← hLz] at hsz
  have HSZ := Lib.hid hsz
  have hL0 : gI L 0 = gI T 0 := by rw [hL, gI_app_lt hp, hT.first]
  have HLT := Lib.hid (show ∀ t, t ≤ T.length - 1 → (leftT T (z + 64) t).length ≤ 464 from fun t ht => by
    have h1 := leftT_all T (z + 64) (t := t) (by have := hT.len; omega)
    have h2 := congrArg List.length h1
    rw [← hLz] at h2
    simp at h2; omega)
  obtain ⟨b, off, cap, rfl, hc1, hc2, hb, hc⟩ := h.cells hLl.2
  obtain ⟨N, hN⟩ : ∃ N, L.length = N := ⟨_, rfl⟩
  have HN := Lib.hid hN
  have hrd := h
  rw [hN] at hrd
  have HRD := Lib.hid hrd
  have HC := Lib.hid hc
  have h0 : w.cell? ⟨b, off, none⟩ = some (.int .i64 (gI L 0)) := hc 0 hLl.2
  rw [hN] at hLl hc1 ⊢
  rw [hL0] at h0
  have D := Blk.new w 26 #[.slice none 0 0]
  have fr1 : Below w.heap.size w (w.alloc (.cells #[.slice none 0 0] 26)) := (Below.refl _ _).alloc (Nat.le_refl _) _
  have HT := Lib.hid hT
  have HFB := Lib.hid hfb
  have h64' := h64
  rw [← hT.first] at h64'
  have hb0 := hT.bd 0 hT.len
  have hTl := hT.len
  clear h hL hsz hL0 hrd hN hc hT hfb hg hM hLz
  go_enter Try.func123, Try.ntmps123
  generalize hw1 : w.alloc (.cells #[.slice none 0 0] 26) = w1 at *
  have HW1 := Lib.hid hw1
  clear hw1
  go_wp2_with fail
  rw [HW1.out]
  go_loopw [4] (fun iv wr => ∃ k : Nat, 1 ≤ k ∧ k ≤ N ∧ iv = .int .i64 (k : Int) ∧ Drew w1 wr) (fun iv _ => N - (intOf iv).toNat)
  case atStart => exact ⟨1, Nat.le_refl _, by omega, rfl, Drew.refl _⟩
  case round =>
    obtain ⟨k, hk1, hk, rfl, hd⟩ := hrel
    obtain ⟨wo, rfl⟩ : ∃ wo : World, wo = wr := ⟨_, rfl⟩
    have hdb := hd.below w1.heap.size
    have fr2 := below_step fr1 hdb
    by_cases hlt : k < N
    · obtain ⟨q, rfl⟩ : ∃ q, k = q + 1 := ⟨k - 1, by omega⟩
      have d0 : wo.cell? ⟨b, off + (q + 1), none⟩ = some (.int .i64 (gI L (q + 1))) := by rw [fr2.cell (p := ⟨b, off + (q + 1), none⟩) hb]; exact HC.out (q + 1) (by rw [HN.out]; omega)
      have d1 : wo.cell? ⟨b, off + q, none⟩ = some (.int .i64 (gI L q)) := by rw [fr2.cell (p := ⟨b, off + q, none⟩) hb]; exact HC.out q (by rw [HN.out]; omega)
      have hdd := HDESC.out q (by rw [HN.out]; omega)
      have f1 : (q : Int) + 1 - 1 = (q : Int) := by omega
      have f2 : IntKind.i64.wrap (q : Int) = (q : Int) := IntWalk.i64_in _ (by omega)
      have f3 : (0 : Int) ≤ (q : Int) := by omega
      have f4 : (q : Int) < (N : Int) := by omega
      have f5 : (q : Int) + 1 < (N : Int) := by omega
      have f6 : (0 : Int) ≤ (q : Int) + 1 := by omega
      have f7 : ((q : Int) + 1).toNat = q + 1 := by omega
      generalize gI L (q + 1) = x at *
      generalize gI L q = y at *
      have f8 : ¬ x > y := by omega
      have f9 : decide (y < x) = false := by simp; omega
      have fa : ¬ y < x := by omega
      go_wp2_with fail
      go_quiet (fail)
      go_wp2
      go_roundw
      case rel => exact ⟨q + 1 + 1, by omega, by omega, by go_num, hd.trans (Drew.one _ _)⟩
      case measure => simp [intOf]; omega
    · have hke : k = N := by omega
      subst hke
      have D2 := D.stays hdb
      clear D fr1 hd hdb
      go_wp2_with fail
      refine (l04Blocks_c _ L _ (HRD.out.below fr2 (Nat.le_refl _)) (by rw [HN.out]; omega)).mono ?_
      rintro e w2 ⟨am, km, V, rfl, hOM, hb2⟩
      have D3 := D2.stays hb2
      have fr3 := below_step fr2 hb2
      have d00 : w2.cell? ⟨b, off, none⟩ = some (.int .i64 (gI T 0)) := by rw [fr3.cell (p := ⟨b, off, none⟩) hb]; exact h0
      have hk0 : (0 : Int) < (k : Int) := by omega
      have hs2 := hb2.size
      have hs1 : w.heap.size + 1 ≤ w2.heap.size := by have := D3.lt; omega
      have hb' : b < w2.heap.size := by omega
      have hs0 : w.heap.size + 1 ≤ wo.heap.size := by have := D2.lt; omega
      clear D2 fr2 h0 hb2
      have hnb : 0 < (blk L).length := by obtain ⟨cc, YY, h1, _⟩ := HSZ.out; exact (drop_cons h1).1
      have hnb4 : (blk L).length ≤ 464 := by have h1 := (blk_inv (L := L) L.length (Nat.le_refl _)).1; rw [List.take_length, HN.out] at h1; omega
      obtain ⟨nB, hnB⟩ : ∃ nB, (blk L).length = nB := ⟨_, rfl⟩
      rw [rowsOf_len, hnB] at hOM ⊢
      obtain ⟨gm, hgm⟩ : ∃ gm, am = some ⟨gm, 0, none⟩ := by
        rcases hOM.shape with ⟨_, h2⟩ | ⟨g, cap', h1, _⟩
        · have := congrArg List.length h2; rw [rowsOf_len, List.length_nil] at this; omega
        · injection h1 with h1 _ _; exact ⟨g, h1⟩
      subst hgm
      have HMI : Hid (∀ R : List (Int × Int), R.length = nB → ∀ x, OwnM.mine (.slice (some ⟨gm, 0, none⟩) nB km) V (rowsOf R) x → w.heap.size + 1 ≤ x ∧ x < w2.heap.size) := Lib.hid (fun R hR x hx => by
        have h1 := hOM.block x (by
          rcases hx with hx | ⟨i, hi, hx⟩
          · exact .inl hx
          · exact .inr ⟨i, by rw [rowsOf_len] at hi ⊢; omega, hx⟩)
        omega)
      have HNB := Lib.hid hnB
      rw [hnB] at hnb hnb4
      clear hnB
      have hal : Below w2.heap.size w2 ((w2.alloc (.cells #[.int .i64 (gI T 0)] 2)).alloc (.cells #[.slice (some ⟨w2.heap.size, 0, none⟩) 1 1] 26)) := ((Below.refl _ _).alloc (Nat.le_refl _) _).alloc (by simp) _
      have fr4 := below_step fr3 hal
      have D4 := D3.stays hal
      have OM4 := (hOM.below hal).base_le (base' := w.heap.size + 1) (by omega)
      have B4 : Blk ((w2.alloc (.cells #[.int .i64 (gI T 0)] 2)).alloc (.cells #[.slice (some ⟨w2.heap.size, 0, none⟩) 1 1] 26)) (w2.heap.size + 1) 26 #[.slice (some ⟨w2.heap.size, 0, none⟩) 1 1] := Blk.new' (by simp)
      have ht1 : T.take 1 = [gI T 0] := by
        have := List.take_succ_eq_append_getElem hTl
        rw [gI_lt hTl]; simpa using this
      have O4 : OwnI ((w2.alloc (.cells #[.int .i64 (gI T 0)] 2)).alloc (.cells #[.slice (some ⟨w2.heap.size, 0, none⟩) 1 1] 26)) (w.heap.size + 1) (.slice (some ⟨w2.heap.size, 0, none⟩) 1 1) (T.take 1) := by
        rw [ht1]
        exact ((own_one (e := 2) w2 (w.heap.size + 1) (by omega) (gI T 0))).below ((Below.refl _ _).alloc (Nat.le_refl _) _) (Nat.le_refl _)
      have HX : Hid (eI T 0 = gI T 0) := Lib.hid rfl
      clear D3 fr3 hOM ht1
      go_wp2_with fail
      obtain ⟨W, hW⟩ : ∃ W : World, ((w2.alloc (.cells #[.int .i64 (gI T 0)] 2)).alloc (.cells #[.slice (some ⟨w2.heap.size, 0, none⟩) 1 1] 26)) = W := ⟨_, rfl⟩
      rw [hW] at fr4 D4 OM4 B4 O4 ⊢
      clear hW hal d00
      go_loopw [7, 8, 9, 10, 11] (fun lv pv ev _ _ wr => ∃ (t p g c : Nat) (R : List (Int × Int)), t < T.length ∧ ev = .int .i64 (eI T t) ∧ lv = .int .i64 (lastK T t) ∧ pv = .int .i64 (p : Int) ∧ SeeT T (z + 64) t R p ∧ R.length = nB ∧ OwnM 2 wr (w.heap.size + 1) (.slice (some ⟨gm, 0, none⟩) nB km) V (rowsOf R) ∧ Blk wr (w2.heap.size + 1) 26 #[.slice (some ⟨g, 0, none⟩) (t + 1) c] ∧ OwnI wr (w.heap.size + 1) (.slice (some ⟨g, 0, none⟩) (t + 1) c) (T.take (t + 1)) ∧ g ≠ w2.heap.size + 1 ∧ w2.heap.size ≤ g ∧ Blk wr w.heap.size 26 #[.slice none 0 0] ∧ Below w.heap.size w wr ∧ w2.heap.size ≤ wr.heap.size) (fun _ _ ev _ _ _ => (intOf ev).toNat)
      case atStart => exact ⟨0, 0, w2.heap.size, 1, blk L, hTl, by rw [HX.out], rfl, rfl, HSZ.out, HNB.out, OM4, B4, O4, by omega, Nat.le_refl _, D4, fr4, by have := B4.lt; omega⟩
      case round =>
        obtain ⟨t, p, g, c, R, htl, rfl, rfl, rfl, hsee, hRl, OM5, B5, O5, hg1, hg2, D5, fr5, hs5⟩ := hrel
        clear OM4 B4 O4 D4 fr4
        obtain ⟨wq, rfl⟩ : ∃ wq : World, wq = wr := ⟨_, rfl⟩
        by_cases ht : t + 1 < T.length
        · have h64a : gI M 0 ≤ 64 := h64
          have hr := HT.out.run h64a ht
          have hk := HT.out.kbd h64a hl ht
          obtain ⟨hq1, hq2, ⟨c1, hq3⟩, hmid⟩ := see_run hr ht hsee
          have HMID := Lib.hid hmid
          have hLS := Lib.hid (lastK_succ T t)
          have hLP := Lib.hid (lastK_pos T t)
          have HTS := Lib.hid (take_snoc_gI ht)
          have hbt := HT.out.bd t (by omega)
          have hbt1 := HT.out.bd (t + 1) ht
          have hlen7 := HT.out.len7
          have hlast : 0 ≤ lastK T t ∧ lastK T t ≤ 1000000 := by unfold lastK; split <;> omega
          have HEX := Lib.hid (show kI T t / eI T t * eI T t + kI T t % eI T t = kI T t from hk.2.2.2)
          have hr0 := hr.r0
          have hr1 := hr.r1
          have he2 := hr.e0
          have he64 := hr.e64
          have hk1 := hr.k1
          have hq0 := hk.1
          have hq4 := hk.2.1
          have hk2 := hk.2.2.1
          have hrow0 := OM5.row p (by rw [rowsOf_len]; omega)
          have hrow1 := OM5.row (p + 1) (by rw [rowsOf_len]; omega)
          rw [gR_rowsOf2 (by omega), hq2] at hrow0
          rw [gR_rowsOf2 (by omega), hq3] at hrow1
          obtain ⟨bu0, cu0, hV0, hbu0, hbl0, _, _⟩ := Own.pos hrow0 (by simp)
          obtain ⟨bu1, cu1, hV1, hbu1, hbl1, _, _⟩ := Own.pos hrow1 (by simp)
          rw [hV0] at hrow0
          rw [hV1] at hrow1
          have du00 : wq.cell? ⟨bu0, 0, none⟩ = some (.int .i64 (eI T t)) := Own.cell hrow0 0 (by simp)
          have du01 : wq.cell? ⟨bu0, 1, none⟩ = some (.int .i64 (kI T t / eI T t)) := Own.cell hrow0 1 (by simp)
          have du10 : wq.cell? ⟨bu1, 0, none⟩ = some (.int .i64 (kI T t % eI T t)) := Own.cell hrow1 0 (by simp)
          have hcells : ∀ i, i < nB → wq.cell? ⟨gm, i, none⟩ = some (V i) := by
            rcases OM5.shape with ⟨h1, _⟩ | ⟨g', cap', h1, _, _, _, _, h6⟩
            · cases h1
            · injection h1 with h1 _ _
              injection h1 with h1
              injection h1 with h1 _ _
              subst h1
              intro i hi
              exact h6 i (by rw [rowsOf_len]; omega)
          have dg0 : wq.cell? ⟨gm, p, none⟩ = some (.slice (some ⟨bu0, 0, none⟩) 2 cu0) := by rw [hcells p (by omega)]; exact congrArg some hV0
          have dg1 : wq.cell? ⟨gm, p + 1, none⟩ = some (.slice (some ⟨bu1, 0, none⟩) 2 cu1) := by rw [hcells (p + 1) (by omega)]; exact congrArg some hV1
          have hHR := Lib.hid hRl
          have hp1 : (p : Int) + 1 < (nB : Int) := by omega
          have hp2 : ¬ (p : Int) + 1 ≥ (nB : Int) := by omega
          have hp3 : (p : Int) < (nB : Int) := by omega
          have hp4 : (0 : Int) ≤ (p : Int) := by omega
          have hp5 : (0 : Int) ≤ (p : Int) + 1 := by omega
          have hp6 : ((p : Int) + 1).toNat = p + 1 := by omega
          have hp7 : decide ((nB : Int) ≤ (p : Int) + 1) = false := by simp; omega
          have hpb : p ≤ 464 := by omega
          have hqe0 : 0 ≤ kI T t / eI T t * eI T t := Int.mul_nonneg hq0 (by omega)
          have HEI := Lib.hid (show eI T t = eI T t from rfl)
          have HFALL := HT.out.fall t ht
          have HPOS : 0 < eI T (t + 1) := eI_pos (by have := HT.out.bd 0 hTl; omega) _
          clear hr hk hsee hmid hbt hcells hq2 hq3 hrow0 hrow1 hV0 hV1 hRl
          have HEX' := HEX.out
          generalize hgl : lastK T t = la at *
          generalize hgk : kI T t = kk at *
          generalize hge : eI T t = e at *
          generalize hgr : kk % e = r at *
          generalize hgq : kk / e = q at *
          have hqe1 : q * e ≤ 30000 := by omega
          have w1' : IntKind.i64.wrap (q * e) = q * e := IntWalk.i64_in _ (by omega)
          have w2' : IntKind.i64.wrap (la + q * e) = la + q * e := IntWalk.i64_in _ (by omega)
          have w3' : IntKind.i64.wrap (la + q * e + r) = la + q * e + r := IntWalk.i64_in _ (by omega)
          have HS := Lib.hid (show la + q * e + r = gI T (t + 1) by have := hLS.out; omega)
          have dB := B5.cell 0
          have fB := B5.free 0
          have hlB := B5.lt
          have hgs := (O5.block g rfl).1
          have htk : (T.take (t + 1)).length = t + 1 := by rw [List.length_take]; omega
          have HTK := Lib.hid htk
          clear HEX' hgq hgr hgk htk
          generalize hTX : T.take (t + 1) = X at *
          have g9 : ¬ (t : Int) + 1 + 1 > 8 := by omega
          have g10 : ¬ (8 : Int) < (t : Int) + 1 + 1 := by omega
          have hs6 : w.heap.size + 1 ≤ wq.heap.size := by omega
          go_wp2_with (at_builtin; refine wpList_pushL rfl (.tmp 77) (.tmp 79) 24 rfl (w.heap.size + 1) 2 i0 Try.underlying24 hi hz0 hz1 hz2 (.slice (some ⟨g, 0, none⟩) (t + 1) c) X (la + q * e + r) rfl O5 rfl (by have := HTK.out; omega) hs6 ?_; intro g2 c2 w6 hown' hkp hlies; rw [HTK.out] at hown' ⊢; have d3 : w6.cell? ⟨w2.heap.size + 1, 0, none⟩ = some (.slice (some ⟨g, 0, none⟩) (t + 1) c) := (hkp.cell (p := ⟨w2.heap.size + 1, 0, none⟩) hlB (by simp [Value.ownBlock]; omega)).trans dB; have f3 : w6.frozen? ⟨w2.heap.size + 1, 0, none⟩ = false := (hkp.frozen (p := ⟨w2.heap.size + 1, 0, none⟩) hlB (by simp [Value.ownBlock]; omega)).trans fB)
          have hlies' : g = g2 ∨ wq.heap.size ≤ g2 := hlies.imp (fun h => by simpa [Value.ownBlock] using h) id
          have hkg : Keeps (fun q => q = g) wq w6 := hkp.mono (fun q hq => by simp [Value.ownBlock] at hq; exact hq.symm)
          have B6 := (B5.keeps hkg (fun h => hg1 h.symm)).set 0 (.slice (some ⟨g2, 0, none⟩) (t + 1 + 1) c2)
          have hgD : ¬ w.heap.size = g := by omega
          have D6 := (D5.keeps hkg hgD).other (g' := w2.heap.size + 1) (by omega) 0 (.slice (some ⟨g2, 0, none⟩) (t + 1 + 1) c2)
          have O7 := hown'.other (g := w2.heap.size + 1) (fun q hq => by simp [Value.ownBlock] at hq; omega) 0 (.slice (some ⟨g2, 0, none⟩) (t + 1 + 1) c2)
          have hmi5 := HMI.out R hHR.out
          have OM6 := OM5.keeps hkg (fun x hx e => by have := hmi5 x hx; omega)
          have OM7 := OM6.keeps ((Keeps.refl (fun k => k = w2.heap.size + 1) w6).setCell (p := ⟨w2.heap.size + 1, 0, none⟩) rfl (.slice (some ⟨g2, 0, none⟩) (t + 1 + 1) c2)) (fun x hx e => by have := hmi5 x hx; omega)
          have fr6 := (fr5.trans (hkg.below (by omega) (fun q hq => by omega))).setCell (p := ⟨w2.heap.size + 1, 0, none⟩) (by show w.heap.size ≤ w2.heap.size + 1; omega) (.slice (some ⟨g2, 0, none⟩) (t + 1 + 1) c2)
          rw [HS.out]
          have O8 : OwnI (w6.setCell ⟨w2.heap.size + 1, 0, none⟩ (.slice (some ⟨g2, 0, none⟩) (t + 1 + 1) c2)) (w.heap.size + 1) (.slice (some ⟨g2, 0, none⟩) (t + 1 + 1) c2) (T.take (t + 2)) := by rw [HTS.out, ← HS.out]; exact O7
          have hs7 : w2.heap.size ≤ (w6.setCell ⟨w2.heap.size + 1, 0, none⟩ (.slice (some ⟨g2, 0, none⟩) (t + 1 + 1) c2)).heap.size := by have := hkg.size; simp; omega
          have hg3 : w2.heap.size ≤ g2 ∧ g2 ≠ w2.heap.size + 1 := by omega
          clear hkp hlies hkg B5 D5 O5 hown' fr5 O7 d3 f3 OM5 OM6 hlies' hmi5 du00 du01 du10 dg0 dg1 dB fB hlB hgs
          generalize w6.setCell ⟨w2.heap.size + 1, 0, none⟩ (.slice (some ⟨g2, 0, none⟩) (t + 1 + 1) c2) = w7 at *
          clear hTX hgl w1' w2' w3' hqe0 hqe1 hp1 hp2 hp3 hp4 hp5 hp6 hp7 g9 g10 hs6 hlast
          generalize hTN : gI T (t + 1) = tn at *
          generalize hEN : eI T (t + 1) = en at *
          go_loopw [8, 9, 10] (fun pv av bv wr => ∃ (p' : Nat) (a b' : Int), pv = .int .i64 (p' : Int) ∧ av = .int .i64 a ∧ bv = .int .i64 b' ∧ 0 < b' ∧ b' < a ∧ a ≤ 64 ∧ MidT T (z + 64) t R p' a b' ∧ Drew w7 wr) (fun _ _ bv _ => (intOf bv).toNat)
          case atStart => exact ⟨p + 1, e, r, by simp, rfl, rfl, hr0, hr1, he64, HMID.out, Drew.refl _⟩
          case round =>
            obtain ⟨p', a, b', rfl, rfl, rfl, hb1, hb2, hb3, hmid, hd7⟩ := hrel
            obtain ⟨wi, rfl⟩ : ∃ wi : World, wi = wr := ⟨_, rfl⟩
            have hdb := hd7.below w7.heap.size
            have OM8 := OM7.below hdb
            have hcells : ∀ i, i < nB → wi.cell? ⟨gm, i, none⟩ = some (V i) := by
              rcases OM8.shape with ⟨h1, _⟩ | ⟨g', cap', h1, _, _, _, _, h6⟩
              · cases h1
              · injection h1 with h1 _ _
                injection h1 with h1
                injection h1 with h1 _ _
                subst h1
                intro i hi
                exact h6 i (by rw [rowsOf_len]; have := hHR.out; omega)
            have hm0 := Int.emod_nonneg a (show b' ≠ 0 by omega)
            have hm1 := Int.emod_lt_of_pos a hb1
            have hdq0 : 0 ≤ a / b' := Int.ediv_nonneg (by omega) (by omega)
            have hdq1 : a / b' ≤ a := Int.ediv_le_self _ (by omega)
            by_cases hmz : a % b' = 0
            · obtain ⟨m1, hbe, x, m2, m3, m4⟩ := mid_end hb1 (by omega) hmz hmid
              have HM3 := Lib.hid m3
              have hxl := HLT.out (t + 1) (by omega)
              have hRn := hHR.out
              have hrow0 := OM8.row p' (by rw [rowsOf_len]; omega)
              rw [gR_rowsOf2 (by omega), m2] at hrow0
              obtain ⟨bu0, cu0, hV0, hbu0, hbl0, _, _⟩ := Own.pos hrow0 (by simp)
              have hst := OM8.store (i := p') (g := bu0) (cap := cu0) (by rw [rowsOf_len]; omega) (by rw [gR_rowsOf2 (by omega), m2]; exact hV0) 1 (x : Int)
              rw [rowsOf_set (by omega), m2] at hst
              have hmine := HMI.out R hHR.out bu0 (.inr ⟨p', by rw [rowsOf_len]; omega, by rw [hV0]; rfl⟩)
              rw [hV0] at hrow0
              have du01 : wi.cell? ⟨bu0, 1, none⟩ = some (.int .i64 (a / b' + (x : Int))) := Own.cell hrow0 1 (by simp)
              have fu01 := Own.free hrow0 1
              have dg0 : wi.cell? ⟨gm, p', none⟩ = some (.slice (some ⟨bu0, 0, none⟩) 2 cu0) := by rw [hcells p' (by omega)]; exact congrArg some hV0
              have hq := Int.tdiv_eq_ediv_of_nonneg (a := a) (b := b') (by omega)
              have hm := Int.tmod_eq_emod_of_nonneg (a := a) (b := b') (by omega)
              have hp3 : (p' : Int) < (nB : Int) := by omega
              have hp4 : (0 : Int) ≤ (p' : Int) := by omega
              have hm2 : (a % b' == 0) = true := by simpa using hmz
              have hm3 : (a % b' != 0) = false := by simpa using hmz
              have hbn : ¬ b' = 0 := by omega
              have wq1 : IntKind.i64.wrap (a / b') = a / b' := IntWalk.i64_in _ (by omega)
              have wq2 : IntKind.i64.wrap (x : Int) = (x : Int) := IntWalk.i64_in _ (by omega)
              have wq3 : a / b' + (x : Int) - a / b' = (x : Int) := by omega
              have fr7 := below_step fr6 hdb
              have hbk : Below w.heap.size w (wi.setCell ⟨bu0, 1, none⟩ (.int .i64 (x : Int))) := fr7.setCell (p := ⟨bu0, 1, none⟩) (by show w.heap.size ≤ bu0; omega) _
              have hK : Keeps (fun k => k = bu0) wi (wi.setCell ⟨bu0, 1, none⟩ (.int .i64 (x : Int))) := (Keeps.refl (fun k => k = bu0) wi).setCell (p := ⟨bu0, 1, none⟩) rfl (.int .i64 (x : Int))
              have B9 := (B6.stays hdb).keeps hK (by omega)
              have D9 := (D6.stays hdb).keeps hK (by omega)
              have O9 := (O8.below hdb (Nat.le_refl _)).keeps hK (fun q hq e => by simp [Value.ownBlock] at hq; omega)
              have hs9 : w2.heap.size ≤ (wi.setCell ⟨bu0, 1, none⟩ (.int .i64 (x : Int))).heap.size := by have := hdb.size; simp; omega
              have HST := Lib.hid (show OwnM 2 (wi.setCell ⟨bu0, 1, none⟩ (.int .i64 (x : Int))) (w.heap.size + 1) (.slice (some ⟨gm, 0, none⟩) nB km) V (rowsOf (R.set p' (b', (x : Int)))) from hst)
              have HB9 := Lib.hid B9
              have HD9 := Lib.hid D9
              have HO9 := Lib.hid O9
              have HF9 := Lib.hid hbk
              have HBE := Lib.hid hbe
              have hxn : ¬ (x : Int) < 0 := by omega
              have hxn2 : decide ((x : Int) < 0) = false := by simp
              have hben : b' < e := by rw [hbe, hEN]; exact HFALL
              clear hrow0 hV0 hcells hRn m2 m3 m4 OM8 hmid hd7 hdb hst hK B9 D9 O9 hbk hbe hmine fr7
              have HAL : Hid (∀ W', Drew (wi.setCell ⟨bu0, 1, none⟩ (.int .i64 (x : Int))) W' → OwnM 2 W' (w.heap.size + 1) (.slice (some ⟨gm, 0, none⟩) nB km) V (rowsOf (R.set p' (b', (x : Int)))) ∧ Blk W' (w2.heap.size + 1) 26 #[.slice (some ⟨g2, 0, none⟩) (t + 1 + 1) c2] ∧ OwnI W' (w.heap.size + 1) (.slice (some ⟨g2, 0, none⟩) (t + 1 + 1) c2) (T.take (t + 2)) ∧ Blk W' w.heap.size 26 #[.slice none 0 0] ∧ Below w.heap.size w W' ∧ w2.heap.size ≤ W'.heap.size) := Lib.hid (fun W' hW' => by
                have hb := hW'.below (wi.setCell ⟨bu0, 1, none⟩ (.int .i64 (x : Int))).heap.size
                exact ⟨HST.out.below hb, HB9.out.stays hb, HO9.out.below hb (Nat.le_refl _), HD9.out.stays hb, below_step HF9.out hb, Nat.le_trans hs9 hb.size⟩)
              clear hs9
              have HRL := Lib.hid (show (R.set p' (b', (x : Int))).length = nB by rw [List.length_set]; exact hHR.out)
              go_wp2_with fail
              go_region
              go_wp2_with fail
              go_roundw
              case rel =>
                have hD := HAL.out _ (by first | exact ⟨1, rfl⟩ | exact ⟨2, rfl⟩)
                obtain ⟨y1, y2, y3, y4, y5, y6⟩ := hD
                exact ⟨t + 1, p', g2, c2, R.set p' (b', (x : Int)), ht, by rw [HBE.out], by rw [hLP.out], rfl, HM3.out, HRL.out, y1, y2, y3, hg3.2, hg3.1, y4, y5, y6⟩
              case measure => simp [intOf]; omega
            · obtain ⟨m1, m2, ⟨c3, m3⟩, m4⟩ := mid_step hb1 (by omega) hmz hmid
              have HM4 := Lib.hid m4
              have hRn := hHR.out
              have hrow0 := OM8.row p' (by rw [rowsOf_len]; omega)
              have hrow1 := OM8.row (p' + 1) (by rw [rowsOf_len]; omega)
              rw [gR_rowsOf2 (by omega), m2] at hrow0
              rw [gR_rowsOf2 (by omega), m3] at hrow1
              obtain ⟨bu0, cu0, hV0, hbu0, hbl0, _, _⟩ := Own.pos hrow0 (by simp)
              obtain ⟨bu1, cu1, hV1, hbu1, hbl1, _, _⟩ := Own.pos hrow1 (by simp)
              rw [hV0] at hrow0
              rw [hV1] at hrow1
              have du01 : wi.cell? ⟨bu0, 1, none⟩ = some (.int .i64 (a / b')) := Own.cell hrow0 1 (by simp)
              have du10 : wi.cell? ⟨bu1, 0, none⟩ = some (.int .i64 (a % b')) := Own.cell hrow1 0 (by simp)
              have dg0 : wi.cell? ⟨gm, p', none⟩ = some (.slice (some ⟨bu0, 0, none⟩) 2 cu0) := by rw [hcells p' (by omega)]; exact congrArg some hV0
              have dg1 : wi.cell? ⟨gm, p' + 1, none⟩ = some (.slice (some ⟨bu1, 0, none⟩) 2 cu1) := by rw [hcells (p' + 1) (by omega)]; exact congrArg some hV1
              have hq := Int.tdiv_eq_ediv_of_nonneg (a := a) (b := b') (by omega)
              have hm := Int.tmod_eq_emod_of_nonneg (a := a) (b := b') (by omega)
              have hp1 : (p' : Int) + 1 < (nB : Int) := by omega
              have hp2 : ¬ (p' : Int) + 1 ≥ (nB : Int) := by omega
              have hp3 : (p' : Int) < (nB : Int) := by omega
              have hp4 : (0 : Int) ≤ (p' : Int) := by omega
              have hp5 : (0 : Int) ≤ (p' : Int) + 1 := by omega
              have hp6 : ((p' : Int) + 1).toNat = p' + 1 := by omega
              have hp7 : decide ((nB : Int) ≤ (p' : Int) + 1) = false := by simp; omega
              have hp8 : IntKind.i64.wrap ((p' : Int) + 1) = (p' : Int) + 1 := IntWalk.i64_in _ (by omega)
              have hm2 : (a % b' == 0) = false := by simpa using hmz
              have hm3 : (a % b' != 0) = true := by simpa using hmz
              have hbn : ¬ b' = 0 := by omega
              have wq1 : IntKind.i64.wrap (a / b') = a / b' := IntWalk.i64_in _ (by omega)
              have wq2 : IntKind.i64.wrap (a % b') = a % b' := IntWalk.i64_in _ (by omega)
              have HD7 := Lib.hid (hd7)
              clear hrow0 hrow1 hV0 hV1 hcells hRn m2 m3 m4 OM8 hmid hd7 hdb
              go_wp2_with fail
              go_quiet (fail)
              go_wp2
              go_roundw
              case rel => exact ⟨p' + 1, b', a % b', by simp, rfl, rfl, by omega, by omega, by omega, HM4.out, HD7.out.trans (Drew.one _ _)⟩
              case measure => simp [intOf]; omega
        · have hte : T.length = t + 1 := by omega
          have he : eI T t = 1 := by have h1 := HT.out.last; rw [hte, Nat.add_sub_cancel] at h1; exact h1
          rw [he]
          have hX : T.take (t + 1) = T := by rw [← hte, List.take_length]
          rw [hX] at O5
          have O5' : OwnI wq (w.heap.size + 1) (.slice (some ⟨g, 0, none⟩) T.length c) T := by rw [hte]; exact O5
          have B5' : Blk wq (w2.heap.size + 1) 26 #[.slice (some ⟨g, 0, none⟩) T.length c] := by rw [hte]; exact B5
          have dB := B5'.cell 0
          have HRT := Lib.hid O5'
          clear hX he hte O5 B5
          generalize lastK T t = la at *
          go_wp2_with fail
          refine (l03Is_c _ T _ HRT.out.rd).mono ?_
          rintro ee w5 ⟨rfl, hb5⟩
          rw [HFB.out]
          have B6 := B5'.stays hb5
          have D6 := D5.stays hb5
          have O6 := HRT.out.below hb5 (Nat.le_refl _)
          have fr6 := below_step fr5 hb5
          have f0 := D6.free 0
          have e0 := D6.cell 0
          have dB := B6.cell 0
          clear O5' B5' OM5
          cases fb
          · have q0 := (D6.set 0 (.slice none 0 0)).cell 0
            have hfin : RetBB w (okL false T) false (.returned (.tuple #[.agg #[.slice none 0 0], .bool false])) (w5.setCell ⟨w.heap.size, 0, none⟩ (.slice none 0 0)) := ⟨none, 0, rfl, own_nil _ _ _, fr6.setCell (p := ⟨w.heap.size, 0, none⟩) (Nat.le_refl _) _⟩
            go_wp2
            exact bodyPost_ret (v := .tuple #[.agg #[.slice none 0 0], .bool false]) (by simp [results, Try.results123, go_sem, q0]) rfl hfin
          · have q0 := (D6.set 0 (.slice (some ⟨g, 0, none⟩) T.length c)).cell 0
            have hnD : ∀ q, (Value.slice (some ⟨g, 0, none⟩) T.length c).ownBlock = some q → q ≠ w.heap.size := fun q hq => by have := (HRT.out.block q hq).1; omega
            have hfin : RetBB w (okL true T) true (.returned (.tuple #[.agg #[.slice (some ⟨g, 0, none⟩) T.length c], .bool true])) (w5.setCell ⟨w.heap.size, 0, none⟩ (.slice (some ⟨g, 0, none⟩) T.length c)) := ⟨_, _, rfl, (O6.other (g := w.heap.size) hnD 0 (.slice (some ⟨g, 0, none⟩) T.length c)).base_le (by omega), fr6.setCell (p := ⟨w.heap.size, 0, none⟩) (Nat.le_refl _) (.slice (some ⟨g, 0, none⟩) T.length c)⟩
            go_wp2
            exact bodyPost_ret (v := .tuple #[.agg #[.slice (some ⟨g, 0, none⟩) T.length c], .bool true]) (by simp [results, Try.results123, go_sem, q0]) rfl hfin
end Go.Proofs.Ytiinceflafigeaa
