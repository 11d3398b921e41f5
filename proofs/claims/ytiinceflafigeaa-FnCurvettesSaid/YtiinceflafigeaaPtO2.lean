/- The contract of impl.added with the function value loop.example/g01140/impl.OrdersOf$1. -/
import Derived.Test.YtiinceflafigeaaOrdPure
import Derived.Test.YtiinceflafigeaaPtP
import Derived.Test.YtiinceflafigeaaPtC
import Derived.Test.YtiinceflafigeaaSeqL
namespace Go.Proofs.Ytiinceflafigeaa
open Go.RowKit

set_option maxRecDepth 100000 in
set_option maxHeartbeats 4000000 in
theorem added_fn_c (v : Value) (R : List (List Int)) (own : Nat → Int) (cb : Nat) (w : World) (h : RdR w v R) (hok : AddOk own R)
    (hcl : ∀ (j : Nat) (w1 : World), j < R.length → Below w.heap.size w w1 → Calls Try.prog 116 #[.int .i64 (j : Int), .pointer (some ⟨cb, 0, none⟩)] w1 fun e w' => e = .returned (.int .i64 (own j)) ∧ w1 = w') :
    Calls Try.prog 114 #[v, .func (.func 116) #[] #[.pointer (some ⟨cb, 0, none⟩)]] w (RetI w (addTo own R R.length)) := by
  obtain ⟨i0, hi, hz0, hz1, hz2⟩ := info_parts Try.infoI
  obtain ⟨a, cap, rfl, hcap1, hcap2, hrd⟩ := h
  have hR := hok.len
  go_enter Try.func114, Try.ntmps114
  go_wp2
  go_loopw [5, 6, 7, 8, 10, 14, 24] (fun v _ _ _ _ i _ wr => ∃ k : Nat, k ≤ R.length ∧ i = .int .i64 k ∧ OwnI wr w.heap.size v (addTo own R k) ∧ Below w.heap.size w wr) (fun _ _ _ _ _ i _ _ => R.length - (intOf i).toNat)
  case atStart => exact ⟨0, Nat.zero_le _, rfl, own_empty w _ (Nat.le_refl _), (Below.refl _ _).alloc (Nat.le_refl _) _⟩
  case round =>
    obtain ⟨k, hk, rfl, hown, hbl⟩ := hrel
    obtain ⟨wo, rfl⟩ : ∃ wo : World, wo = wr := ⟨_, rfl⟩
    by_cases hlt : k < R.length
    · obtain ⟨b, off, rfl, hb, hcs⟩ := hrd (by intro e; simp [e] at hlt)
      obtain ⟨u, hu, hru⟩ := hcs k hlt
      have hu' : wo.cell? ⟨b, off + k, none⟩ = some u := by rw [hbl.cell (p := ⟨b, off + k, none⟩) hb]; exact hu
      have hru' := hru.below hbl (Nat.le_refl _)
      have hrow := hok.row k hlt
      have hrl := hok.rowlen k hlt
      have hsz := hbl.size
      have hal := addTo_len own R k
      have hob := hok.ownb k hlt
      have hbd := hok.out k hlt
      clear hcs hru hu
      obtain ⟨ar, kr, rfl, hr1, hr2, hrr⟩ := hru'
      go_wp2_with fail
      refine (hcl k wo hlt hbl).mono ?_
      rintro e w1 ⟨rfl, rfl⟩
      obtain ⟨ho1, ho2⟩ := hob
      go_wp2_with fail
      go_loop [8, 10, 24] (fun n _ i => ∃ m : Nat, m ≤ (gR R k).length ∧ i = .int .i64 m ∧ n = .int .i64 (own k + sumTo (fun x => gI (addTo own R k) (gI (gR R k) x).toNat) m)) (fun _ _ i => (gR R k).length - (intOf i).toNat)
      case atStart => exact ⟨0, Nat.zero_le _, rfl, by simp [sumTo]⟩
      case round =>
        obtain ⟨m, hm, rfl, rfl⟩ := hrel
        by_cases hmt : m < (gR R k).length
        · obtain ⟨b2, off2, rfl, hb2, hcs2⟩ := hrr (ne_of_lt_len hmt)
          have hc2 := hcs2 m hmt
          have hxr := hrow m hmt
          obtain ⟨g, gc, rfl, hg0, hg1, hg2, hg3⟩ := Own.pos hown (by rw [hal]; omega)
          have hcell := hown.cell (gI (gR R k) m).toNat (by rw [hal]; omega)
          have hb1 := hbd (gI (gR R k) m).toNat (by omega)
          have hsum := sumTo_bound (f := fun x => gI (addTo own R k) (gI (gR R k) x).toNat) (n := m) (-1000000000000000) 1000000000000000 (fun x hx => hbd _ (by have := hrow x (by omega); omega))
          have HS := Lib.hid (sumTo_succ (fun x => gI (addTo own R k) (gI (gR R k) x).toNat) m)
          have HO := Lib.hid hown
          have HA := Lib.hid hal
          have hal1 : (addTo own R k).length ≤ k := by omega
          have hal2 : k ≤ (addTo own R k).length := by omega
          clear hcs2 hrr hown hal
          generalize sumTo (fun x => gI (addTo own R k) (gI (gR R k) x).toNat) m = sm at hsum HS
          generalize gI (addTo own R k) (gI (gR R k) m).toNat = y at hcell hb1 HS
          generalize gI (gR R k) m = x at hc2 hxr hcell
          obtain ⟨hx0, hx1⟩ := hxr
          have hx2 : x < ((addTo own R k).length : Int) := by omega
          obtain ⟨hy0, hy1⟩ := hb1
          obtain ⟨hs0, hs1⟩ := hsum
          have hs2 : -400000000000000000 ≤ sm := by omega
          have hs3 : sm ≤ 400000000000000000 := by omega
          clear hs0 hs1
          go_wp2
          go_round
          case rel => exact ⟨m + 1, by omega, by go_num, by rw [HS.out]; go_num⟩
          case measure => simp [intOf]; omega
        · have hm' : m = (gR R k).length := by omega
          subst hm'
          have HY := Lib.hid (addTo_succ own R k)
          have hsum := sumTo_bound (f := fun x => gI (addTo own R k) (gI (gR R k) x).toNat) (n := (gR R k).length) (-1000000000000000) 1000000000000000 (fun x hx => hbd _ (by have := hrow x (by omega); omega))
          generalize hsmd : own k + sumTo (fun x => gI (addTo own R k) (gI (gR R k) x).toNat) (gR R k).length = sm at HY
          clear hsmd
          go_wp2_with (at_builtin; refine wpList_push rfl (.tmp 35) (.tmp 37) 24 rfl w.heap.size 2 i0 Try.underlying24 hi hz0 hz1 hz2 u5 (addTo own R k) sm rfl hown rfl (by omega) hsz ?_; intro v' w2 hown' hkp)
          have hbl' := hbl.trans (hkp.below hsz (fun g hg => (hown.block g hg).1))
          rw [← HY.out] at hown'
          go_roundw
          case rel => exact ⟨k + 1, by omega, by go_num, hown', hbl'⟩
          case measure => simp [intOf]; omega
    · go_wp2
      have hk' : k = R.length := by omega
      subst hk'
      go_ret
      exact retI_mk hown hbl

end Go.Proofs.Ytiinceflafigeaa

/- Contracts: OrdersOf. -/
namespace Go.Proofs.Ytiinceflafigeaa
open Go.RowKit

/-- The points of a sequence are well placed for sums. -/
theorem addOk_eu {M : List Int} (h : Eu M) (hl : M.length ≤ 400) {own : Nat → Int} (ho : ∀ i, i < M.length → 0 ≤ own i ∧ own i ≤ 64) : AddOk own (proxL (parL M.length) (secM M)) ∧ addTo own (proxL (parL M.length) (secM M)) M.length = ordTo own (parL M.length) (secM M) M.length := by
  have hlen : (proxL (parL M.length) (secM M)).length = M.length := by simp [proxL]
  have hrow : ∀ k, k < M.length → gR (proxL (parL M.length) (secM M)) k = proxOf (parL M.length) (secM M) k := fun k hk => gR_map (by simpa using hk)
  have hadd : ∀ k, k ≤ M.length → addTo own (proxL (parL M.length) (secM M)) k = ordTo own (parL M.length) (secM M) k := by
    intro k
    induction k with
    | zero => intro _; rfl
    | succ k ih =>
      intro hk
      have ih' := ih (by omega)
      rw [addTo_succ, ordTo_succ, ih', hrow k (by omega), gI_parL (by omega), gI_secM (by omega)]
      by_cases e : k = 0
      · subst e
        have hs : ¬ 0 ≤ sI M 0 := by unfold sI; simp [secTo]
        simp [proxOf, sumTo, hs]
      · rw [if_neg e]
        obtain ⟨q, rfl⟩ : ∃ q, k = q + 1 := ⟨k - 1, by omega⟩
        by_cases hs : 0 ≤ sI M (q + 1)
        · rw [(row_two (by omega) hs).1, if_pos hs]
          simp [sumTo, gI]
          omega
        · rw [(row_one (by omega) hs).1, if_neg hs]
          simp [sumTo, gI]
  refine ⟨⟨by omega, ?_, ?_, fun k hk => by have := ho k (by omega); omega, ?_⟩, hadd M.length (Nat.le_refl _)⟩
  · intro k hk
    rw [hrow k (by omega)]
    unfold proxOf
    split
    · simp
    · have := secL_len (secM M) k; simp; omega
  · intro k hk m hm
    rw [hrow k (by omega)] at hm ⊢
    cases k with
    | zero => simp [proxOf] at hm
    | succ q =>
      have hsb := sI_bd M (q + 1)
      by_cases hs : 0 ≤ sI M (q + 1)
      · rw [(row_two (by omega) hs).1] at hm ⊢
        match m, hm with
        | 0, _ => simp [gI]; omega
        | 1, _ => simp [gI]; omega
        | m + 2, hm => simp at hm; omega
      · rw [(row_one (by omega) hs).1] at hm ⊢
        match m, hm with
        | 0, _ => simp [gI]; omega
        | m + 1, hm => simp at hm
  · intro k hk i hi
    rw [hadd k (by omega), gI_ord hi]
    have := oI_small h hl ho (by omega : i < M.length)
    omega
theorem addS_bd {M : List Int} (h : Eu M) (hl : M.length ≤ 400) {own : Nat → Int} (ho : ∀ i, i < M.length → 0 ≤ own i ∧ own i ≤ 64) : ∀ k, k ≤ M.length → ∀ i, i < k → 0 ≤ gI (addTo own (proxL (parL M.length) (secM M)) k) i ∧ gI (addTo own (proxL (parL M.length) (secM M)) k) i ≤ 1638400 := by
  intro k hk i hi
  have hall := (addOk_eu h hl ho).2
  rw [addTo_old own _ hi, ← addTo_old own _ (show i < M.length by omega), hall, gI_ord (by omega)]
  exact oI_small h hl ho (by omega)

set_option maxRecDepth 100000 in
set_option maxHeartbeats 4000000 in
theorem l06Sums_c (u v : Value) (M L : List Int) (w : World) (hu : Rd w u (codeL M)) (hv : Rd w v L) (hE : Eu M) (hp : 0 < M.length) (hl : M.length ≤ 400) (hL : L.length = M.length) (ho : ∀ i, i < M.length → 0 ≤ gI L i ∧ gI L i ≤ 64) :
    Calls Try.prog 149 #[u, v] w (RetI w (addTo (fun i => gI L i) (proxL (parL M.length) (secM M)) M.length)) := by
  obtain ⟨i0, hi, hz0, hz1, hz2⟩ := info_parts Try.infoI
  obtain ⟨bv, ov, cv, rfl, hc1, hc2, hbv, hcv⟩ := hv.cells (by omega)
  obtain ⟨au, cu, rfl⟩ := hu.len0
  rw [hL] at hc1 hcv ⊢
  rw [codeL_len] at hu ⊢
  have hok := (addOk_eu hE hl (own := fun i => gI L i) ho).1
  have hbd := addS_bd hE hl (own := fun i => gI L i) ho
  have hrow : ∀ k, k < M.length → gR (proxL (parL M.length) (secM M)) k = proxOf (parL M.length) (secM M) k := fun k hk => gR_map (by simpa using hk)
  have hRl : (proxL (parL M.length) (secM M)).length = M.length := by simp [proxL]
  have hEm := own_empty w w.heap.size (Nat.le_refl _)
  have hal : Below w.heap.size w (w.alloc (.cells #[] 2)) := (Below.refl _ _).alloc (Nat.le_refl _) _
  have HU := Lib.hid hu
  clear hu hv hL
  generalize hown : (fun i => gI L i) = own at *
  have HOW := Lib.hid (fun i => congrFun hown i)
  clear hown
  go_enter Try.func149, Try.ntmps149
  go_wp2_with fail
  go_loopw [5, 6, 7, 8, 9] (fun lv jv _ _ _ wr => ∃ j : Nat, j ≤ M.length ∧ jv = .int .i64 j ∧ OwnI wr w.heap.size lv (addTo own (proxL (parL M.length) (secM M)) j) ∧ Below w.heap.size w wr) (fun _ jv _ _ _ _ => M.length - (intOf jv).toNat)
  case atStart => exact ⟨0, Nat.zero_le _, rfl, hEm, hal⟩
  case round =>
    obtain ⟨j, hj, rfl, hO, hbl⟩ := hrel
    clear hEm hal
    obtain ⟨wo, rfl⟩ : ∃ wo : World, wo = wr := ⟨_, rfl⟩
    have hj0 : (0 : Int) ≤ (j : Int) := Int.natCast_nonneg _
    by_cases hlt : j < M.length
    · have hji : (j : Int) < (M.length : Int) := by omega
      have dv : wo.cell? ⟨bv, ov + j, none⟩ = some (.int .i64 (own j)) := by rw [hbl.cell (p := ⟨bv, ov + j, none⟩) hbv, ← HOW.out j]; exact hcv j hlt
      have hsz := hbl.size
      have hrd := (HU.out.below hbl (Nat.le_refl _)).below (Below.refl wo.heap.size wo).drew (Nat.le_refl _)
      have hcall := l06Proximates_c (.slice au (M.length - 1) cu) M j wo.drew hrd hlt (by omega)
      have HY := Lib.hid (addTo_succ own (proxL (parL M.length) (secM M)) j)
      have hbj := hbd j hj
      have hbn := hbd (j + 1) (by omega) j (by omega)
      have hro := hok.row j (by omega)
      have hrl := hok.rowlen j (by omega)
      have hoj := ho j hlt
      have hoj2 : 0 ≤ own j ∧ own j ≤ 64 := by rw [← HOW.out j]; exact hoj
      have hbv2 : bv < wo.heap.size := by omega
      have hal2 := addTo_len own (proxL (parL M.length) (secM M)) j
      have k0 : wo.drew.cell? ⟨bv, ov + j, none⟩ = some (.int .i64 (own j)) := dv
      rw [← hrow j hlt] at hcall
      generalize hrr : gR (proxL (parL M.length) (secM M)) j = row at *
      go_wp2_with fail
      clear dv
      go_region_held3 (fun w' => w'.cell? ⟨bv, ov + j, none⟩ = some (.int .i64 (own j)))
        (first | assumption | exact k0 | exact HD)
        (first | (go_at_call 185; (with_reducible refine hcall.mono ?_); rintro e w5 ⟨an, kn, rfl, hO5, hb5⟩; have HD : w5.cell? ⟨bv, ov + j, none⟩ = some (.int .i64 (own j)) := (hb5.cell (p := ⟨bv, ov + j, none⟩) hbv2).trans k0))
      have hO6 := (hO.below (Below.refl wo.heap.size wo).drew (Nat.le_refl _)).below hb5 (Nat.le_refl _)
      have hbl6 := (hbl.trans ((Below.refl wo.heap.size wo).drew.mono hsz)).trans (hb5.mono (show w.heap.size ≤ wo.drew.heap.size from hsz))
      have hsz6 := hbl6.size
      clear hcall k0 HD hrd hO hrr
      go_wp2_with fail
      go_loopw [8, 9] (fun sv iv wr => ∃ m : Nat, m ≤ row.length ∧ iv = .int .i64 m ∧ sv = .int .i64 (own j + sumTo (fun x => gI (addTo own (proxL (parL M.length) (secM M)) j) (gI row x).toNat) m) ∧ w5 = wr) (fun _ iv _ => row.length - (intOf iv).toNat)
      case atStart => exact ⟨0, Nat.zero_le _, rfl, by simp [sumTo], rfl⟩
      case round =>
        obtain ⟨m, hm, rfl, rfl, rfl⟩ := hrel
        have hm0 : (0 : Int) ≤ (m : Int) := Int.natCast_nonneg _
        have hsum := sumTo_bound (f := fun x => gI (addTo own (proxL (parL M.length) (secM M)) j) (gI row x).toNat) (n := m) 0 1638400 (fun x hx => hbj _ (by have := hro x (by omega); omega))
        have hnn : 0 ≤ own j + sumTo (fun x => gI (addTo own (proxL (parL M.length) (secM M)) j) (gI row x).toNat) m := by omega
        have hnx : own j + sumTo (fun x => gI (addTo own (proxL (parL M.length) (secM M)) j) (gI row x).toNat) m ≤ 1000000000 := by omega
        by_cases hmt : m < row.length
        · have hmi : (m : Int) < (row.length : Int) := by omega
          obtain ⟨gn, cn, hne, _⟩ := Own.pos hO5 (by omega)
          injection hne with he1 _ he3
          subst he1
          have dr := hO5.cell m hmt
          have hx := hro m hmt
          obtain ⟨go, co, hoe, _⟩ := Own.pos hO6 (by rw [hal2]; omega)
          subst hoe
          have dO := hO6.cell (gI row m).toNat (by rw [hal2]; omega)
          have hb1 := hbj (gI row m).toNat (by omega)
          have HS := Lib.hid (sumTo_succ (fun x => gI (addTo own (proxL (parL M.length) (secM M)) j) (gI row x).toNat) m)
          have hll1 : gI row m < ((addTo own (proxL (parL M.length) (secM M)) j).length : Int) := by rw [hal2]; exact hx.2
          clear hal2 hbj hro hbd
          generalize sumTo (fun x => gI (addTo own (proxL (parL M.length) (secM M)) j) (gI row x).toNat) m = sm at *
          generalize gI (addTo own (proxL (parL M.length) (secM M)) j) (gI row m).toNat = y at *
          generalize gI row m = x at *
          generalize (addTo own (proxL (parL M.length) (secM M)) j).length = nn at *
          obtain ⟨hx0, hx1⟩ := hx
          have hyn : ¬ y < 0 := by omega
          have wy : IntKind.i64.wrap (own j + sm + y) = own j + sm + y := IntWalk.i64_in _ (by omega)
          go_wp2
          go_roundw
          case rel => exact ⟨m + 1, by omega, by go_num, by rw [HS.out]; go_num, by first | rfl | trivial⟩
          case measure => simp [intOf]; omega
        · have hme : m = row.length := by omega
          subst hme
          have hv2 : own j + sumTo (fun x => gI (addTo own (proxL (parL M.length) (secM M)) j) (gI row x).toNat) row.length ≤ 1000000000 := hnx
          have hll2 : (addTo own (proxL (parL M.length) (secM M)) j).length ≤ 1000000 := by rw [hal2]; omega
          clear hbj hro hbd hsum hal2
          generalize own j + sumTo (fun x => gI (addTo own (proxL (parL M.length) (secM M)) j) (gI row x).toNat) row.length = sm at *
          have hng : ¬ sm > 1000000000000 := by omega
          have hng2 : ¬ 1000000000000 < sm := by omega
          go_wp2_with (at_builtin; refine wpList_push rfl (.tmp 53) (.tmp 55) 24 rfl w.heap.size 2 i0 Try.underlying24 hi hz0 hz1 hz2 u5 (addTo own (proxL (parL M.length) (secM M)) j) sm rfl hO6 rfl (by omega) hsz6 ?_; intro v' w7 hown' hkp)
          have hbl7 := hbl6.trans (hkp.below hsz6 (fun g hg => (hO6.block g hg).1))
          rw [← HY.out] at hown'
          go_roundw
          case rel => exact ⟨j + 1, by omega, by go_num, hown', hbl7⟩
          case measure => simp [intOf]; omega
    · have hje : j = M.length := by omega
      subst hje
      have HF := Lib.hid (retI_mk hO hbl)
      clear hO hbd
      go_wp2
      go_ret
      exact HF.out
end Go.Proofs.Ytiinceflafigeaa

/- Contracts: OrdersOf. -/
namespace Go.Proofs.Ytiinceflafigeaa
open Go.RowKit

/-- The orders of the first n points. -/
def orL (T : List Int) (n : Nat) : List Int := ordTo (fun i => gI (seqL T n) i) (parL n) (secM (seqL T n)) n
theorem orL_len (T : List Int) (n : Nat) : (orL T n).length = n := ordTo_len _ _ _ _
theorem or_len (T : List Int) (k : Int) : (ckL T k (orL T k.toNat)).length ≤ 400 := by
  by_cases h : ckC T k = 0
  · rw [ckL_ok h, orL_len]
    have := ckC_zero h
    omega
  · rw [ckL_no h]; simp

/-- The function value of OrdersOf: the multiplicity of a point. -/
theorem ordersOfOwn_c (cb : Nat) (q : Value) (W : List Int) (j : Nat) (w : World) (hb : w.cell? ⟨cb, 0, none⟩ = some q) (hq : Rd w q W) (hj : j < W.length) :
    Calls Try.prog 116 #[.int .i64 (j : Int), .pointer (some ⟨cb, 0, none⟩)] w fun e w' => e = .returned (.int .i64 (gI W j)) ∧ w = w' := by
  obtain ⟨b, off, cap, rfl, h1, h2, h3, hc⟩ := hq.cells (by omega)
  have hcj := hc j hj
  clear hc
  go_enter Try.func116, Try.ntmps116
  go_wp2
  go_ret
  exact ⟨rfl, rfl⟩

set_option maxRecDepth 100000 in
set_option maxHeartbeats 1000000 in
theorem implOrdersOf_c (v : Value) (T : List Int) (k : Int) (w : World) (h : Rd w v T) :
    Calls Try.prog 19 #[.agg #[v], .int .i64 k] w (RetIC w (ckL T k (orL T k.toNat)) (ckC T k)) := by
  have hx := Boxed.start w 26 #[v]
  obtain ⟨a, c, rfl⟩ := h.len0
  have c0 := hx.cell 0
  by_cases h0 : ckC T k = 0
  · obtain ⟨hok, hk1, hk2⟩ := ckC_zero h0
    obtain ⟨n, rfl⟩ := Int.eq_ofNat_of_zero_le (show 0 ≤ k by omega)
    have hEu := eu_seq hok n
    have hMl := seqL_len T n
    have hAE := addOk_eu hEu (by rw [hMl]; omega) (own := fun i => gI (seqL T n) i) (fun i hi => by have := hEu.pos i hi; omega)
    have hPl : (proxL (parL n) (secM (seqL T n))).length = n := by simp [proxL]
    have HL := Lib.hid (ckL_ok (xs := orL T ((n : Int)).toNat) h0)
    have hmf : ∀ (fn : Fn) (first cap : Array Value) (w : World), (Instr.makeFunc fn first cap).run Try.prog w = .ok (.func fn first cap) w := fun _ _ _ _ => rfl
    go_enter Try.func19, Try.ntmps19
    go_wp2_with fail
    refine (checkPoints_c _ T _ _ (hx.rd h)).mono ?_
    rintro e w1 ⟨rfl, hb⟩
    rw [h0]
    have hx1 := hx.trans hb
    have c1 := hx1.cell 0
    clear c0
    go_wp2_with fail
    refine (firstOf_c _ T n _ (hx1.rd h) hok (by omega) (by omega)).mono ?_
    rintro e w2 ⟨g, rfl, hg1, hg2, hc, hf, hb2⟩
    have hx2 := hx1.trans hb2
    have hrd := rd_of_cells (seqL_len T n) hg2 (by omega) hc
    clear c1 hc
    go_wp2_with fail
    have hal := (Below.refl w2.heap.size w2).alloc (Nat.le_refl _) (.cells #[.slice (some ⟨g, 0, none⟩) n n] 24)
    have hx3 := hx2.trans hal
    have hrd3 := hrd.below hal (Nat.le_refl _)
    have hbox := Boxed.start w2 24 #[.slice (some ⟨g, 0, none⟩) n n]
    have hcall := proximates_c _ (seqL T n) _ hrd3 hEu (by rw [hMl]; omega) (by rw [hMl]; omega)
    rw [hMl] at hcall hAE
    refine hcall.mono ?_
    rintro e w4 ⟨g4, V, rfl, hR, hb4⟩
    have hx4 := hx3.trans hb4
    have hbox4 := hbox.trans hb4
    have hrd4 := hrd3.below hb4 (Nat.le_refl _)
    have hRd := hR.rd (cap := n) (Nat.le_refl _) (by omega)
    have hadd := added_fn_c (.slice (some ⟨g4, 0, none⟩) n n) (proxL (parL n) (secM (seqL T n))) (fun i => gI (seqL T n) i) w2.heap.size w4 (by unfold proxL; simpa using hRd) hAE.1 (fun j w5 hj hbl => ordersOfOwn_c w2.heap.size (.slice (some ⟨g, 0, none⟩) n n) (seqL T n) j w5 ((hbox4.trans hbl).cell 0) (hrd4.below hbl (Nat.le_refl _)) (by rw [hMl]; omega))
    rw [hPl, hAE.2] at hadd
    clear hcall hRd hR hal hrd hrd3 hrd4 hAE
    go_wp2_with fail
    refine hadd.mono ?_
    rintro e w6 ⟨a6, k6, rfl, hO6, hb6⟩
    have HF := Lib.hid (show RetIC w (ckL T n (orL T ((n : Int)).toNat)) (ckC T n) (.returned (.tuple #[.slice a6 (orL T n).length k6, .int .i64 0])) w6 by
      rw [HL.out, h0]
      exact ⟨a6, k6, rfl, hO6.base_le (Nat.le_of_lt hx4.size), (hx4.trans hb6).below⟩)
    have e1 : (ordTo (fun i => gI (seqL T n) i) (parL n) (secM (seqL T n)) n).length = (orL T n).length := rfl
    rw [e1]
    clear hadd hO6 HL h0 hmf
    go_wp2
    go_ret2
    exact HF.out
  · have HL := Lib.hid (ckL_no (xs := orL T k.toNat) h0)
    go_enter Try.func19, Try.ntmps19
    go_wp2_with fail
    refine (checkPoints_c _ T _ _ (hx.rd h)).mono ?_
    rintro e w1 ⟨rfl, hb⟩
    have hne : (ckC T k != 0) = true := by simp [h0]
    have HF := Lib.hid (show RetIC w (ckL T k (orL T k.toNat)) (ckC T k) (.returned (.tuple #[.slice none 0 0, .int .i64 (ckC T k)])) w1 by rw [HL.out]; exact retIC_nil (hx.trans hb).below)
    clear HL h0
    go_wp2
    go_ret2
    exact HF.out

set_option maxRecDepth 100000 in
set_option maxHeartbeats 1000000 in
theorem specOrdersOf_c (v : Value) (T : List Int) (k : Int) (w : World) (h : Rd w v T) :
    Calls Try.prog 87 #[.agg #[v], .int .i64 k] w (RetIC w (ckL T k (orL T k.toNat)) (ckC T k)) := by
  have hx := Boxed.start w 26 #[v]
  obtain ⟨a, c, rfl⟩ := h.len0
  have c0 := hx.cell 0
  by_cases h0 : ckC T k = 0
  · obtain ⟨hok, hk1, hk2⟩ := ckC_zero h0
    obtain ⟨n, rfl⟩ := Int.eq_ofNat_of_zero_le (show 0 ≤ k by omega)
    have hEu := eu_seq hok n
    have hMl := seqL_len T n
    have hAE := addOk_eu hEu (by rw [hMl]; omega) (own := fun i => gI (seqL T n) i) (fun i hi => by have := hEu.pos i hi; omega)
    have HL := Lib.hid (ckL_ok (xs := orL T ((n : Int)).toNat) h0)
    go_enter Try.func87, Try.ntmps87
    go_wp2_with fail
    refine (l06Range_c _ T _ _ (hx.rd h)).mono ?_
    rintro e w1 ⟨rfl, hb⟩
    rw [h0]
    have hx1 := hx.trans hb
    clear c0 hx hb
    go_wp2_with fail
    have x0 := hx1.trans (Below.refl w1.heap.size w1).drew
    have SS : ∀ W : World, Boxed w W 26 #[.slice a T.length c] → W.cell? ⟨w.heap.size, 0, none⟩ = some (.slice a T.length c) := fun W hW => hW.cell 0
    have k0 := SS _ x0
    have hwp : 0 < (seqL T n).length := by rw [hMl]; omega
    have hwl : (seqL T n).length ≤ 400 := by rw [hMl]; omega
    have hpo : ∀ i, i < (seqL T n).length → 0 ≤ gI (seqL T n) i ∧ gI (seqL T n) i ≤ 64 := fun i hi => by have := hEu.pos i hi; omega
    go_region_held3 (fun w' => w'.cell? ⟨w.heap.size, 0, none⟩ = some (.slice a T.length c))
      (first | assumption | exact k0 | exact HC | exact HD)
      (first
        | (go_at_call 106; (with_reducible refine (l06Code_c _ T n _ (x0.rd h) hok (by omega) (by omega)).mono ?_); rintro e wa ⟨g1, c1, rfl, oa, hba⟩; have xa := x0.trans hba; have HC := SS _ xa; rw [codeL_len, seqL_len])
        | (go_at_call 111; (with_reducible refine (l06Sequence_c _ T n _ (xa.rd h) hok (by omega)).mono ?_); rintro e wb ⟨g2, c2, rfl, ob, hbb⟩; have xb := xa.trans hbb; have HD := SS _ xb; have ra := (by have := oa.rd; rw [codeL_len, seqL_len] at this; exact this.below hbb (Nat.le_refl _) : Rd wb (.slice g1 (n - 1) c1) (codeL (seqL T n))); have rb := (by have := ob.rd; rw [seqL_len] at this; exact this : Rd wb (.slice g2 n c2) (seqL T n)); rw [seqL_len])
        | (go_at_call 149; (with_reducible refine (l06Sums_c _ _ (seqL T n) (seqL T n) _ ra rb hEu hwp hwl rfl hpo).mono ?_); rintro e wc ⟨g3, c3, rfl, oc, hbc⟩; have xc := xb.trans hbc; have HE := SS _ xc))
    rw [hMl] at hAE oc
    rw [hAE.2] at oc ⊢
    have hwb : w.heap.size ≤ wb.heap.size := Nat.le_of_lt xb.size
    have e1 : (ordTo (fun i => gI (seqL T n) i) (parL n) (secM (seqL T n)) n).length = (orL T n).length := rfl
    have HF := Lib.hid (show RetIC w (ckL T n (orL T ((n : Int)).toNat)) (ckC T n) (.returned (.tuple #[.slice g3 (orL T n).length c3, .int .i64 0])) wc by
      rw [HL.out, h0]
      exact ⟨g3, c3, rfl, oc.base_le hwb, xc.below⟩)
    rw [e1]
    clear oc HL h0 oa ob ra rb HC HD HE SS k0 hpo hAE
    go_wp2
    go_ret2
    exact HF.out
  · have HL := Lib.hid (ckL_no (xs := orL T k.toNat) h0)
    go_enter Try.func87, Try.ntmps87
    go_wp2_with fail
    refine (l06Range_c _ T _ _ (hx.rd h)).mono ?_
    rintro e w1 ⟨rfl, hb⟩
    have hne : (ckC T k != 0) = true := by simp [h0]
    have HF := Lib.hid (show RetIC w (ckL T k (orL T k.toNat)) (ckC T k) (.returned (.tuple #[.slice none 0 0, .int .i64 (ckC T k)])) w1 by rw [HL.out]; exact retIC_nil (hx.trans hb).below)
    clear HL h0
    go_wp2
    go_ret2
    exact HF.out
end Go.Proofs.Ytiinceflafigeaa
