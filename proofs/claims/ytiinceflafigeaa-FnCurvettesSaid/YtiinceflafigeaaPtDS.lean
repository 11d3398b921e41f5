/- Contracts: DiscrepanciesOf. -/
import Derived.Test.YtiinceflafigeaaPtO2
import Derived.Test.YtiinceflafigeaaPtC
import Derived.Test.YtiinceflafigeaaPushS
import Derived.Test.YtiinceflafigeaaOrdPure
import Derived.Test.YtiinceflafigeaaRowL
namespace Go.Proofs.Ytiinceflafigeaa
open Go.RowKit

/-- The discrepancies of the first n points. -/
def dsL (T : List Int) (n : Nat) : List Int := ordTo (fun _ => 1) (parL n) (secM (seqL T n)) n
theorem dsL_len (T : List Int) (n : Nat) : (dsL T n).length = n := ordTo_len _ _ _ _
theorem ds_len (T : List Int) (k : Int) : (ckL T k (dsL T k.toNat)).length ≤ 400 := by
  by_cases h : ckC T k = 0
  · rw [ckL_ok h, dsL_len]
    have := ckC_zero h
    omega
  · rw [ckL_no h]; simp
theorem rows_eq (T : List Int) (n : Nat) : (List.range n).map (rwT T n) = proxL (parL n) (secM (seqL T n)) := by
  unfold proxL rwT
  simp

set_option maxRecDepth 100000 in
set_option maxHeartbeats 4000000 in
theorem implDiscrepanciesOf_c (v : Value) (T : List Int) (k : Int) (w : World) (h : Rd w v T) :
    Calls Try.prog 49 #[.agg #[v], .int .i64 k] w (RetIC w (ckL T k (dsL T k.toNat)) (ckC T k)) := by
  obtain ⟨i0, hi, hz0, hz1, hz2⟩ := info_parts Try.infoI
  have hx := Boxed.start w 26 #[v]
  obtain ⟨a, c, rfl⟩ := h.len0
  have c0 := hx.cell 0
  by_cases h0 : ckC T k = 0
  · obtain ⟨hok, hk1, hk2⟩ := ckC_zero h0
    obtain ⟨n, rfl⟩ := Int.eq_ofNat_of_zero_le (show 0 ≤ k by omega)
    have hEu := eu_seq hok n
    have hMl := seqL_len T n
    have hAE := addOk_eu hEu (by rw [hMl]; omega) (own := fun _ => 1) (fun i hi => by omega)
    have hbd := addS_bd hEu (by rw [hMl]; omega) (own := fun _ => 1) (fun i hi => by omega)
    have hPl : (proxL (parL n) (secM (seqL T n))).length = n := by simp [proxL]
    have HL := Lib.hid (ckL_ok (xs := dsL T ((n : Int)).toNat) h0)
    rw [hMl] at hAE hbd
    go_enter Try.func49, Try.ntmps49
    go_wp2_with fail
    refine (checkPoints_c _ T _ _ (hx.rd h)).mono ?_
    rintro e w1 ⟨rfl, hb⟩
    rw [h0]
    have hx1 := hx.trans hb
    have hal : Below w1.heap.size w1 (w1.alloc (.cells #[] 2)) := (Below.refl _ _).alloc (Nat.le_refl _) _
    have hxe := hx1.trans hal
    have hOe := own_empty w1 w1.heap.size (Nat.le_refl _)
    have c1 := hx1.cell 0
    have c2 := hxe.cell 0
    clear c0
    go_wp2_with fail
    refine (proximatesOf_c _ T n _ (hxe.rd h) hok (by omega) (by omega)).mono ?_
    rintro e w2 ⟨g, V, rfl, hR, hb2⟩
    have hMe := OwnM.of_rows hR (cap := n) (Nat.le_refl _) (by omega)
    rw [rows_eq] at hMe
    have hOe2 := hOe.below hb2 (Nat.le_refl _)
    have hbe := hal.trans (hb2.mono (show w1.heap.size ≤ (w1.alloc (.cells #[] 2)).heap.size by simp))
    have hde : ∀ x, (Value.slice (some ⟨w1.heap.size, 0, none⟩) 0 0).ownBlock = some x → ¬ OwnM.mine (.slice (some ⟨g, 0, none⟩) n n) V (proxL (parL n) (secM (seqL T n))) x := fun x h1 h2 => by
      have h3 := hMe.block x h2
      simp [Value.ownBlock] at h1 h3
      omega
    have hok2 := hAE.1
    have HEQ := Lib.hid hAE.2
    have HF1 := Lib.hid hx1
    clear c1 c2 hR hb2 hal hOe hxe hAE hx hx1 hEu
    generalize hRR : proxL (parL n) (secM (seqL T n)) = R at *
    clear hRR
    go_wp2_with fail
    go_loopw [7, 9, 10, 12, 24, 30] (fun lv _ _ _ iv _ wr => ∃ j : Nat, j ≤ n ∧ iv = .int .i64 j ∧ OwnI wr w1.heap.size lv (addTo (fun _ => 1) R j) ∧ OwnM 2 wr (w1.alloc (.cells #[] 2)).heap.size (.slice (some ⟨g, 0, none⟩) n n) V R ∧ (∀ x, lv.ownBlock = some x → ¬ OwnM.mine (.slice (some ⟨g, 0, none⟩) n n) V R x) ∧ Below w1.heap.size w1 wr) (fun _ _ _ _ iv _ _ => n - (intOf iv).toNat)
    case atStart => exact ⟨0, Nat.zero_le _, rfl, hOe2, hMe, hde, hbe⟩
    case round =>
      obtain ⟨j, hj, rfl, hO, hM, hd, hbl⟩ := hrel
      clear hOe2 hMe hde hbe
      obtain ⟨wo, rfl⟩ : ∃ wo : World, wo = wr := ⟨_, rfl⟩
      have hj0 : (0 : Int) ≤ (j : Int) := Int.natCast_nonneg _
      by_cases hlt : j < n
      · have hji : (j : Int) < (n : Int) := by omega
        have hsz := hbl.size
        obtain ⟨b, off, cap, he, hcp1, hcp2, hb8, hcs⟩ := hM.rd.cells (by rw [hPl]; omega)
        injection he with he1 he7 he8
        clear he7 he8
        injection he1 with he2
        injection he2 with hbg hoff he9
        subst hbg
        subst hoff
        obtain ⟨u, hu, hru⟩ := hcs j (by rw [hPl]; omega)
        rw [Nat.zero_add] at hu
        have hrow := hok2.row j (by rw [hPl]; omega)
        have hrl := hok2.rowlen j (by rw [hPl]; omega)
        have hal := addTo_len (fun _ => 1) R j
        have hbj := hbd j hj
        clear hcs hcp1 hcp2
        obtain ⟨ar, kr, rfl, hr1, hr2, hrr⟩ := hru
        go_wp2_with fail
        go_loop [10, 12, 30] (fun sv _ iv => ∃ m : Nat, m ≤ (gR R j).length ∧ iv = .int .i64 m ∧ sv = .int .i64 (1 + sumTo (fun x => gI (addTo (fun _ => 1) R j) (gI (gR R j) x).toNat) m)) (fun _ _ iv => (gR R j).length - (intOf iv).toNat)
        case atStart => exact ⟨0, Nat.zero_le _, rfl, by simp [sumTo]⟩
        case round =>
          obtain ⟨m, hm, rfl, rfl⟩ := hrel
          have hsum := sumTo_bound (f := fun x => gI (addTo (fun _ => 1) R j) (gI (gR R j) x).toNat) (n := m) 0 1638400 (fun x hx => hbj _ (by have := hrow x (by omega); omega))
          have hnn : 0 ≤ sumTo (fun x => gI (addTo (fun _ => 1) R j) (gI (gR R j) x).toNat) m := by omega
          have hnx : sumTo (fun x => gI (addTo (fun _ => 1) R j) (gI (gR R j) x).toNat) m ≤ 1000000000 := by omega
          by_cases hmt : m < (gR R j).length
          · obtain ⟨b2, off2, rfl, hb2, hcs2⟩ := hrr (ne_of_lt_len hmt)
            have hc2 := hcs2 m hmt
            have hxr := hrow m hmt
            obtain ⟨g8, gc, rfl, hg0, hg1, hg2, hg3⟩ := Own.pos hO (by rw [hal]; omega)
            have hcell := hO.cell (gI (gR R j) m).toNat (by rw [hal]; omega)
            have hb1 := hbj (gI (gR R j) m).toNat (by omega)
            have HS := Lib.hid (sumTo_succ (fun x => gI (addTo (fun _ => 1) R j) (gI (gR R j) x).toNat) m)
            have HO := Lib.hid hO
            have HA := Lib.hid hal
            have HD := Lib.hid hd
            have hal1 : (addTo (fun _ => 1) R j).length ≤ j := by omega
            have hal2 : j ≤ (addTo (fun _ => 1) R j).length := by omega
            clear hcs2 hrr hO hal hbj hbd hrow hsum hd
            generalize sumTo (fun x => gI (addTo (fun _ => 1) R j) (gI (gR R j) x).toNat) m = sm at *
            generalize gI (addTo (fun _ => 1) R j) (gI (gR R j) m).toNat = y at *
            generalize gI (gR R j) m = x at *
            obtain ⟨hx0, hx1⟩ := hxr
            have hx2 : x < ((addTo (fun _ => 1) R j).length : Int) := by omega
            obtain ⟨hy0, hy1⟩ := hb1
            have hw1 : IntKind.i64.wrap (1 + sm + y) = 1 + sm + y := IntWalk.i64_in _ (by omega)
            go_wp2
            go_round
            case rel => exact ⟨m + 1, by omega, by go_num, by rw [HS.out]; go_num⟩
            case measure => simp [intOf]; omega
          · have hm' : m = (gR R j).length := by omega
            subst hm'
            have HY := Lib.hid (addTo_succ (fun _ => 1) R j)
            have hll2 : (addTo (fun _ => 1) R j).length ≤ 1000000 := by rw [hal]; omega
            have HAL := Lib.hid hal
            clear hbj hbd hrow hsum hal hrr
            generalize hsmd : 1 + sumTo (fun x => gI (addTo (fun _ => 1) R j) (gI (gR R j) x).toNat) (gR R j).length = sm at HY
            have hng : ¬ sm > 1000000000000 := by omega
            have hng2 : ¬ 1000000000000 < sm := by omega
            clear hsmd
            go_wp2_with (at_builtin; refine wpList_pushL rfl (.tmp 43) (.tmp 45) 24 rfl w1.heap.size 2 i0 Try.underlying24 hi hz0 hz1 hz2 u7 (addTo (fun _ => 1) R j) sm rfl hO rfl (by omega) hsz ?_; intro g3 c3 w7 hown' hkp hlies)
            have hbl7 := hbl.trans (hkp.below hsz (fun q hq => (hO.block q hq).1))
            have hM7 := hM.keeps hkp (fun q hq h1 => hd q h1 hq)
            have hd7 : ∀ x, (Value.slice (some ⟨g3, 0, none⟩) ((addTo (fun _ => 1) R j).length + 1) c3).ownBlock = some x → ¬ OwnM.mine (.slice (some ⟨g, 0, none⟩) n n) V R x := fun x h1 h2 => by
              simp [Value.ownBlock] at h1
              subst h1
              rcases hlies with h3 | h3
              · exact hd _ h3 h2
              · have := (hM.block _ h2).2; omega
            rw [← HY.out] at hown'
            go_roundw
            case rel => exact ⟨j + 1, by omega, by go_num, hown', hM7, hd7, hbl7⟩
            case measure => simp [intOf]; omega
      · have hje : j = n := by omega
        subst hje
        have hfin : OwnI wo w1.heap.size u7 (dsL T j) := by have := hO; rw [HEQ.out] at this; exact this
        have hret : RetIC w (ckL T j (dsL T ((j : Int)).toNat)) (ckC T j) (.returned (.tuple #[u7, .int .i64 0])) wo := by
          rw [HL.out, h0]
          exact retIC_mk (hfin.base_le (Nat.le_of_lt HF1.out.size)) (HF1.out.trans hbl).below
        have HF := Lib.hid hret
        clear hO hM hd hret hfin hok2 hbd HL h0
        go_wp2
        go_ret2
        exact HF.out
  · have HL := Lib.hid (ckL_no (xs := dsL T k.toNat) h0)
    go_enter Try.func49, Try.ntmps49
    go_wp2_with fail
    refine (checkPoints_c _ T _ _ (hx.rd h)).mono ?_
    rintro e w1 ⟨rfl, hb⟩
    have hne : (ckC T k != 0) = true := by simp [h0]
    have HF := Lib.hid (show RetIC w (ckL T k (dsL T k.toNat)) (ckC T k) (.returned (.tuple #[.slice none 0 0, .int .i64 (ckC T k)])) w1 by rw [HL.out]; exact retIC_nil (hx.trans hb).below)
    clear HL h0
    go_wp2
    go_ret2
    exact HF.out
end Go.Proofs.Ytiinceflafigeaa

/- Contract: spec.l06Ones. -/
namespace Go.Proofs.Ytiinceflafigeaa
open Go.RowKit

/-- k ones. -/
def onesTo (k : Nat) : List Int := List.replicate k 1
@[simp] theorem onesTo_len (k : Nat) : (onesTo k).length = k := by simp [onesTo]
theorem onesTo_succ (k : Nat) : onesTo (k + 1) = onesTo k ++ [1] := by simp [onesTo, List.replicate_succ']
theorem gI_ones {k i : Nat} (h : i < k) : gI (onesTo k) i = 1 := gI_rep h

set_option maxHeartbeats 1000000 in
theorem l06Ones_c (n : Nat) (w : World) (hn : n ≤ 100000) :
    Calls Try.prog 124 #[.int .i64 (n : Int)] w (RetI w (onesTo n)) := by
  obtain ⟨i0, hi, hz0, hz1, hz2⟩ := info_parts Try.infoI
  go_enter Try.func124, Try.ntmps124
  go_wp2
  go_loopw [0, 3] (fun k v wr => ∃ j : Nat, j ≤ n ∧ k = .int .i64 ((n : Int) - j) ∧ OwnI wr w.heap.size v (onesTo j) ∧ Below w.heap.size w wr) (fun k _ _ => (intOf k).toNat)
  case atStart => exact ⟨0, Nat.zero_le _, by simp, own_empty w _ (Nat.le_refl _), (Below.refl _ _).alloc (Nat.le_refl _) _⟩
  case round =>
    obtain ⟨j, hj, rfl, hown, hbl⟩ := hrel
    obtain ⟨wo, rfl⟩ : ∃ wo : World, wo = wr := ⟨_, rfl⟩
    have hsz := hbl.size
    by_cases hlt : j < n
    · have h1 : (0 : Int) < (n : Int) - j := by omega
      have hl : (onesTo j).length ≤ 1000000 := by simp; omega
      have HY := Lib.hid (onesTo_succ j)
      have hw : IntKind.i64.wrap ((n : Int) - j - 1) = (n : Int) - j - 1 := IntWalk.i64_in _ (by omega)
      go_wp2_with (at_builtin; refine wpList_push rfl (.tmp 9) (.tmp 10) 24 rfl w.heap.size 2 i0 Try.underlying24 hi hz0 hz1 hz2 u3 (onesTo j) 1 rfl hown rfl (by omega) hsz ?_; intro v' w2 hown' hkp)
      have hbl' := hbl.trans (hkp.below hsz (fun g hg => (hown.block g hg).1))
      rw [← HY.out] at hown'
      go_roundw
      case rel => exact ⟨j + 1, by omega, by go_num, hown', hbl'⟩
      case measure => simp [intOf]; omega
    · have h1 : ¬ (0 : Int) < (n : Int) - j := by omega
      go_wp2
      have hj' : j = n := by omega
      subst hj'
      go_ret
      exact retI_mk hown hbl
end Go.Proofs.Ytiinceflafigeaa

/- Contracts: the reference's DiscrepanciesOf. -/
namespace Go.Proofs.Ytiinceflafigeaa
open Go.RowKit

theorem ord_own_same_to {own own' : Nat → Int} {P S : List Int} {n : Nat} (h : ∀ j, j < n → own j = own' j) (k : Nat) (hk : k ≤ n) : ordTo own P S k = ordTo own' P S k := by
  induction k with
  | zero => rfl
  | succ k ih => rw [ordTo_succ, ordTo_succ, ih (by omega), h k (by omega)]
theorem ord_own_same {own own' : Nat → Int} {P S : List Int} {n : Nat} (h : ∀ j, j < n → own j = own' j) : ordTo own P S n = ordTo own' P S n := ord_own_same_to h n (Nat.le_refl _)
set_option maxHeartbeats 1000000 in
theorem l01Index_c (v : Value) (xs : List Int) (y : Int) (w : World) (h : Rd w v xs) (hn : ∀ i, i < xs.length → gI xs i ≠ y) :
    Calls Try.prog 209 #[v, .int .i64 y] w fun e w' => e = .returned (.int .i64 (-1)) ∧ w = w' := by
  obtain ⟨a, cap, rfl, hcap1, hcap2, hrd⟩ := h
  go_enter Try.func209, Try.ntmps209
  go_wp2_with fail
  go_loopw [5] (fun iv wr => ∃ i : Nat, i ≤ xs.length ∧ iv = .int .i64 i ∧ w = wr) (fun iv _ => xs.length - (intOf iv).toNat)
  case atStart => exact ⟨0, Nat.zero_le _, rfl, rfl⟩
  case round =>
    obtain ⟨i, hi, rfl, rfl⟩ := hrel
    have hi0 : (0 : Int) ≤ (i : Int) := Int.natCast_nonneg _
    by_cases hlt : i < xs.length
    · have hii : (i : Int) < (xs.length : Int) := by omega
      obtain ⟨b, off, rfl, hb, hc⟩ := hrd (ne_of_lt_len hlt)
      have dx := hc i hlt
      have hne : (gI xs i == y) = false := beq_false_of_ne (hn i hlt)
      clear hc hrd hn
      generalize gI xs i = x at *
      go_wp2
      go_roundw
      case rel => exact ⟨i + 1, by omega, by go_num, by first | rfl | trivial⟩
      case measure => simp [intOf]; omega
    · have hie : i = xs.length := by omega
      subst hie
      go_wp2
      go_ret
      exact ⟨rfl, rfl⟩

set_option maxHeartbeats 1000000 in
theorem l01Has_c (v : Value) (xs : List Int) (y : Int) (w : World) (h : Rd w v xs) (hn : ∀ i, i < xs.length → gI xs i ≠ y) :
    Calls Try.prog 150 #[v, .int .i64 y] w fun e w' => e = .returned (.bool false) ∧ w = w' := by
  obtain ⟨a, c, rfl⟩ := h.len0
  go_enter Try.func150, Try.ntmps150
  go_wp2_with fail
  refine (l01Index_c _ xs y w h hn).mono ?_
  rintro e w1 ⟨rfl, rfl⟩
  go_wp2
  go_ret
  exact ⟨rfl, rfl⟩

set_option maxRecDepth 100000 in
set_option maxHeartbeats 1000000 in
theorem specDiscrepanciesOf_c (v : Value) (T : List Int) (k : Int) (w : World) (h : Rd w v T) :
    Calls Try.prog 50 #[.agg #[v], .int .i64 k] w (RetIC w (ckL T k (dsL T k.toNat)) (ckC T k)) := by
  have hx := Boxed.start w 26 #[v]
  obtain ⟨a, c, rfl⟩ := h.len0
  have c0 := hx.cell 0
  by_cases h0 : ckC T k = 0
  · obtain ⟨hok, hk1, hk2⟩ := ckC_zero h0
    obtain ⟨n, rfl⟩ := Int.eq_ofNat_of_zero_le (show 0 ≤ k by omega)
    have hEu := eu_seq hok n
    have hMl := seqL_len T n
    have hOWN : (fun i => gI (onesTo n) i) = (fun i => if i < n then 1 else 0) := by
      funext i
      by_cases hi : i < n
      · rw [if_pos hi]; exact gI_ones hi
      · rw [if_neg hi]; unfold gI; simp [onesTo, hi]
    have hAE := addOk_eu hEu (by rw [hMl]; omega) (own := fun i => gI (onesTo n) i) (fun i hi => by rw [hMl] at hi; show 0 ≤ gI (onesTo n) i ∧ _; rw [gI_ones hi]; omega)
    have hEQ : addTo (fun i => gI (onesTo n) i) (proxL (parL n) (secM (seqL T n))) n = dsL T n := by
      have := hAE.2
      rw [hMl] at this
      rw [this]
      exact ord_own_same (fun i hi => gI_ones hi)
    have hbd := addS_bd hEu (by rw [hMl]; omega) (own := fun i => gI (onesTo n) i) (fun i hi => by rw [hMl] at hi; show 0 ≤ gI (onesTo n) i ∧ _; rw [gI_ones hi]; omega)
    rw [hMl] at hbd
    have hno : ∀ i, i < (dsL T n).length → gI (dsL T n) i ≠ -1 := fun i hi => by
      rw [dsL_len] at hi
      have := hbd n (Nat.le_refl _) i hi
      rw [hEQ] at this
      omega
    have HL := Lib.hid (ckL_ok (xs := dsL T ((n : Int)).toNat) h0)
    clear hAE hOWN hbd
    go_enter Try.func50, Try.ntmps50
    go_wp2_with fail
    refine (l06Range_c _ T _ _ (hx.rd h)).mono ?_
    rintro e w1 ⟨rfl, hb⟩
    rw [h0]
    have hx1 := hx.trans hb
    have c1 := hx1.cell 0
    clear c0 hx hb
    go_wp2_with fail
    refine (l06Code_c _ T n _ (hx1.rd h) hok (by omega) (by omega)).mono ?_
    rintro e wa ⟨g1, c1, rfl, oa, hba⟩
    have xa := hx1.trans hba
    have ra : Rd wa (.slice g1 (n - 1) c1) (codeL (seqL T n)) := by have := oa.rd; rw [codeL_len, seqL_len] at this; exact this
    rw [codeL_len, seqL_len]
    have hon : (onesTo n).length = (seqL T n).length := by rw [hMl]; simp
    have hpo : ∀ i, i < (seqL T n).length → 0 ≤ gI (onesTo n) i ∧ gI (onesTo n) i ≤ 64 := fun i hi => by rw [hMl] at hi; rw [gI_ones hi]; omega
    go_wp2_with fail
    refine (l06Ones_c n _ (by omega)).mono ?_
    rintro e wb ⟨g2, c2, rfl, ob, hbb⟩
    have xb := xa.trans hbb
    have rb : Rd wb (.slice g2 n c2) (onesTo n) := by have := ob.rd; rw [onesTo_len] at this; exact this
    have ra2 := ra.below hbb (Nat.le_refl _)
    rw [onesTo_len]
    go_wp2_with fail
    refine (l06Sums_c _ _ (seqL T n) (onesTo n) _ ra2 rb hEu (by rw [hMl]; omega) (by rw [hMl]; omega) hon hpo).mono ?_
    rintro e wc ⟨g3, c3, rfl, oc, hbc⟩
    rw [hMl, hEQ] at oc ⊢
    have hrd := oc.rd
    have HF := Lib.hid (show RetIC w (ckL T n (dsL T ((n : Int)).toNat)) (ckC T n) (.returned (.tuple #[.slice g3 (dsL T n).length c3, .int .i64 0])) wc by
      rw [HL.out, h0]
      exact ⟨g3, c3, rfl, oc.base_le (Nat.le_of_lt xb.size), (xb.trans hbc).below⟩)
    clear HL h0 oa ob oc hpo hEQ
    go_wp2_with fail
    refine (l01Has_c _ (dsL T n) (-1) wc hrd hno).mono ?_
    rintro e w5 ⟨rfl, rfl⟩
    go_wp2
    go_ret2
    exact HF.out
  · have HL := Lib.hid (ckL_no (xs := dsL T k.toNat) h0)
    go_enter Try.func50, Try.ntmps50
    go_wp2_with fail
    refine (l06Range_c _ T _ _ (hx.rd h)).mono ?_
    rintro e w1 ⟨rfl, hb⟩
    have hne : (ckC T k != 0) = true := by simp [h0]
    have HF := Lib.hid (show RetIC w (ckL T k (dsL T k.toNat)) (ckC T k) (.returned (.tuple #[.slice none 0 0, .int .i64 (ckC T k)])) w1 by rw [HL.out]; exact retIC_nil (hx.trans hb).below)
    clear HL h0
    go_wp2
    go_ret2
    exact HF.out
end Go.Proofs.Ytiinceflafigeaa
