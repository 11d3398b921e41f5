/- Contracts: OrdersOf. -/
import Derived.Test.YthpnmkghjnipoaaPtP
import Derived.Test.YthpnmkghjnipoaaAddedF
namespace Go.Proofs.Ythpnmkghjnipoaa
open Go.RowKit

/-- The points of a sequence are well placed for sums. -/
theorem addOk_eu {M : List Int} (h : Eu M) (hl : M.length ≤ 400) {own : Nat → Int} (ho : ∀ i, i < M.length → 0 ≤ own i ∧ own i ≤ 64) : AddOk own (proxL (parL M.length) (secM M)) ∧ addTo own (proxL (parL M.length) (secM M)) M.length = ordTo own (parL M.length) (secM M) M.length := by
  have hlen : (proxL (parL M.length) (secM M)).length = M.length := by simp [proxL]
  have hrow : ∀ k, k < M.length → gR (proxL (parL M.length) (secM M)) k = proxOf (parL M.length) (secM M) k := fun k hk => gR_map (by simpa using hk)
  have hadd : ∀ k, k ≤ M.length → addTo own (proxL (parL M.length) (secM M)) k = ordTo own (parL M.length) (secM M) k := by
    intro k
    induction k with
    | zero => intro _; rfl
    | succ k ih =>
      intro hk
      have ih' := ih (by omega)
      rw [addTo_succ, ordTo_succ, ih', hrow k (by omega), gI_parL (by omega), gI_secM (by omega)]
      by_cases e : k = 0
      · subst e
        have hs : ¬ 0 ≤ sI M 0 := by unfold sI; simp [secTo]
        simp [proxOf, sumTo, hs]
      · rw [if_neg e]
        obtain ⟨q, rfl⟩ : ∃ q, k = q + 1 := ⟨k - 1, by omega⟩
        by_cases hs : 0 ≤ sI M (q + 1)
        · rw [(row_two (by omega) hs).1, if_pos hs]
          simp [sumTo, gI]
          omega
        · rw [(row_one (by omega) hs).1, if_neg hs]
          simp [sumTo, gI]
  refine ⟨⟨by omega, ?_, ?_, fun k hk => by have := ho k (by omega); omega, ?_⟩, hadd M.length (Nat.le_refl _)⟩
  · intro k hk
    rw [hrow k (by omega)]
    unfold proxOf
    split
    · simp
    · have := secL_len (secM M) k; simp; omega
  · intro k hk m hm
    rw [hrow k (by omega)] at hm ⊢
    cases k with
    | zero => simp [proxOf] at hm
    | succ q =>
      have hsb := sI_bd M (q + 1)
      by_cases hs : 0 ≤ sI M (q + 1)
      · rw [(row_two (by omega) hs).1] at hm ⊢
        match m, hm with
        | 0, _ => simp [gI]; omega
        | 1, _ => simp [gI]; omega
        | m + 2, hm => simp at hm; omega
      · rw [(row_one (by omega) hs).1] at hm ⊢
        match m, hm with
        | 0, _ => simp [gI]; omega
        | m + 1, hm => simp at hm
  · intro k hk i hi
    rw [hadd k (by omega), gI_ord hi]
    have := oI_small h hl ho (by omega : i < M.length)
    omega
theorem addS_bd {M : List Int} (h : Eu M) (hl : M.length ≤ 400) {own : Nat → Int} (ho : ∀ i, i < M.length → 0 ≤ own i ∧ own i ≤ 64) : ∀ k, k ≤ M.length → ∀ i, i < k → 0 ≤ gI (addTo own (proxL (parL M.length) (secM M)) k) i ∧ gI (addTo own (proxL (parL M.length) (secM M)) k) i ≤ 1638400 := by
  intro k hk i hi
  have hall := (addOk_eu h hl ho).2
  rw [addTo_old own _ hi, ← addTo_old own _ (show i < M.length by omega), hall, gI_ord (by omega)]
  exact oI_small h hl ho (by omega)

set_option maxRecDepth 100000 in
set_option maxHeartbeats 4000000 in
theorem l06Sums_c (u v : Value) (M L : List Int) (w : World) (hu : Rd w u (codeL M)) (hv : Rd w v L) (hE : Eu M) (hp : 0 < M.length) (hl : M.length ≤ 400) (hL : L.length = M.length) (ho : ∀ i, i < M.length → 0 ≤ gI L i ∧ gI L i ≤ 64) :
    Calls Try.prog 94 #[u, v] w (RetI w (addTo (fun i => gI L i) (proxL (parL M.length) (secM M)) M.length)) := by
  obtain ⟨i0, hi, hz0, hz1, hz2⟩ := info_parts Try.infoI
  obtain ⟨bv, ov, cv, rfl, hc1, hc2, hbv, hcv⟩ := hv.cells (by omega)
  obtain ⟨au, cu, rfl⟩ := hu.len0
  rw [hL] at hc1 hcv ⊢
  rw [codeL_len] at hu ⊢
  have hok := (addOk_eu hE hl (own := fun i => gI L i) ho).1
  have hbd := addS_bd hE hl (own := fun i => gI L i) ho
  have hrow : ∀ k, k < M.length → gR (proxL (parL M.length) (secM M)) k = proxOf (parL M.length) (secM M) k := fun k hk => gR_map (by simpa using hk)
  have hRl : (proxL (parL M.length) (secM M)).length = M.length := by simp [proxL]
  have hEm := own_empty w w.heap.size (Nat.le_refl _)
  have hal : Below w.heap.size w (w.alloc (.cells #[] 2)) := (Below.refl _ _).alloc (Nat.le_refl _) _
  have HU := Lib.hid hu
  clear hu hv hL
  generalize hown : (fun i => gI L i) = own at *
  have HOW := Lib.hid (fun i => congrFun hown i)
  clear hown
  go_enter Try.func94, Try.ntmps94
  go_wp2_with fail
  go_loopw [5, 6, 7, 8, 9] (fun lv jv _ _ _ wr => ∃ j : Nat, j ≤ M.length ∧ jv = .int .i64 j ∧ OwnI wr w.heap.size lv (addTo own (proxL (parL M.length) (secM M)) j) ∧ Below w.heap.size w wr) (fun _ jv _ _ _ _ => M.length - (intOf jv).toNat)
  case atStart => exact ⟨0, Nat.zero_le _, rfl, hEm, hal⟩
  case round =>
    obtain ⟨j, hj, rfl, hO, hbl⟩ := hrel
    clear hEm hal
    obtain ⟨wo, rfl⟩ : ∃ wo : World, wo = wr := ⟨_, rfl⟩
    have hj0 : (0 : Int) ≤ (j : Int) := Int.natCast_nonneg _
    by_cases hlt : j < M.length
    · have hji : (j : Int) < (M.length : Int) := by omega
      have dv : wo.cell? ⟨bv, ov + j, none⟩ = some (.int .i64 (own j)) := by rw [hbl.cell (p := ⟨bv, ov + j, none⟩) hbv, ← HOW.out j]; exact hcv j hlt
      have hsz := hbl.size
      have hrd := (HU.out.below hbl (Nat.le_refl _)).below (Below.refl wo.heap.size wo).drew (Nat.le_refl _)
      have hcall := l06Proximates_c (.slice au (M.length - 1) cu) M j wo.drew hrd hlt (by omega)
      have HY := Lib.hid (addTo_succ own (proxL (parL M.length) (secM M)) j)
      have hbj := hbd j hj
      have hbn := hbd (j + 1) (by omega) j (by omega)
      have hro := hok.row j (by omega)
      have hrl := hok.rowlen j (by omega)
      have hoj := ho j hlt
      have hoj2 : 0 ≤ own j ∧ own j ≤ 64 := by rw [← HOW.out j]; exact hoj
      have hbv2 : bv < wo.heap.size := by omega
      have hal2 := addTo_len own (proxL (parL M.length) (secM M)) j
      have k0 : wo.drew.cell? ⟨bv, ov + j, none⟩ = some (.int .i64 (own j)) := dv
      rw [← hrow j hlt] at hcall
      generalize hrr : gR (proxL (parL M.length) (secM M)) j = row at *
      go_wp2_with fail
      clear dv
      go_region_held3 (fun w' => w'.cell? ⟨bv, ov + j, none⟩ = some (.int .i64 (own j)))
        (first | assumption | exact k0 | exact HD)
        (first | (go_at_call 98; (with_reducible refine hcall.mono ?_); rintro e w5 ⟨an, kn, rfl, hO5, hb5⟩; have HD : w5.cell? ⟨bv, ov + j, none⟩ = some (.int .i64 (own j)) := (hb5.cell (p := ⟨bv, ov + j, none⟩) hbv2).trans k0))
      have hO6 := (hO.below (Below.refl wo.heap.size wo).drew (Nat.le_refl _)).below hb5 (Nat.le_refl _)
      have hbl6 := (hbl.trans ((Below.refl wo.heap.size wo).drew.mono hsz)).trans (hb5.mono (show w.heap.size ≤ wo.drew.heap.size from hsz))
      have hsz6 := hbl6.size
      clear hcall k0 HD hrd hO hrr
      go_wp2_with fail
      go_loopw [8, 9] (fun sv iv wr => ∃ m : Nat, m ≤ row.length ∧ iv = .int .i64 m ∧ sv = .int .i64 (own j + sumTo (fun x => gI (addTo own (proxL (parL M.length) (secM M)) j) (gI row x).toNat) m) ∧ w5 = wr) (fun _ iv _ => row.length - (intOf iv).toNat)
      case atStart => exact ⟨0, Nat.zero_le _, rfl, by simp [sumTo], rfl⟩
      case round =>
        obtain ⟨m, hm, rfl, rfl, rfl⟩ := hrel
        have hm0 : (0 : Int) ≤ (m : Int) := Int.natCast_nonneg _
        have hsum := sumTo_bound (f := fun x => gI (addTo own (proxL (parL M.length) (secM M)) j) (gI row x).toNat) (n := m) 0 1638400 (fun x hx => hbj _ (by have := hro x (by omega); omega))
        have hnn : 0 ≤ own j + sumTo (fun x => gI (addTo own (proxL (parL M.length) (secM M)) j) (gI row x).toNat) m := by omega
        have hnx : own j + sumTo (fun x => gI (addTo own (proxL (parL M.length) (secM M)) j) (gI row x).toNat) m ≤ 1000000000 := by omega
        by_cases hmt : m < row.length
        · have hmi : (m : Int) < (row.length : Int) := by omega
          obtain ⟨gn, cn, hne, _⟩ := Own.pos hO5 (by omega)
          injection hne with he1 _ he3
          subst he1
          have dr := hO5.cell m hmt
          have hx := hro m hmt
          obtain ⟨go, co, hoe, _⟩ := Own.pos hO6 (by rw [hal2]; omega)
          subst hoe
          have dO := hO6.cell (gI row m).toNat (by rw [hal2]; omega)
          have hb1 := hbj (gI row m).toNat (by omega)
          have HS := Lib.hid (sumTo_succ (fun x => gI (addTo own (proxL (parL M.length) (secM M)) j) (gI row x).toNat) m)
          have hll1 : gI row m < ((addTo own (proxL (parL M.length) (secM M)) j).length : Int) := by rw [hal2]; exact hx.2
          clear hal2 hbj hro hbd
          generalize sumTo (fun x => gI (addTo own (proxL (parL M.length) (secM M)) j) (gI row x).toNat) m = sm at *
          generalize gI (addTo own (proxL (parL M.length) (secM M)) j) (gI row m).toNat = y at *
          generalize gI row m = x at *
          generalize (addTo own (proxL (parL M.length) (secM M)) j).length = nn at *
          obtain ⟨hx0, hx1⟩ := hx
          have hyn : ¬ y < 0 := by omega
          have wy : IntKind.i64.wrap (own j + sm + y) = own j + sm + y := IntWalk.i64_in _ (by omega)
          go_wp2
          go_roundw
          case rel => exact ⟨m + 1, by omega, by go_num, by rw [HS.out]; go_num, by first | rfl | trivial⟩
          case measure => simp [intOf]; omega
        · have hme : m = row.length := by omega
          subst hme
          have hv2 : own j + sumTo (fun x => gI (addTo own (proxL (parL M.length) (secM M)) j) (gI row x).toNat) row.length ≤ 1000000000 := hnx
          have hll2 : (addTo own (proxL (parL M.length) (secM M)) j).length ≤ 1000000 := by rw [hal2]; omega
          clear hbj hro hbd hsum hal2
          generalize own j + sumTo (fun x => gI (addTo own (proxL (parL M.length) (secM M)) j) (gI row x).toNat) row.length = sm at *
          have hng : ¬ sm > 1000000000000 := by omega
          have hng2 : ¬ 1000000000000 < sm := by omega
          go_wp2_with (at_builtin; refine wpList_push rfl (.tmp 53) (.tmp 55) 22 rfl w.heap.size 2 i0 Try.underlying22 hi hz0 hz1 hz2 u5 (addTo own (proxL (parL M.length) (secM M)) j) sm rfl hO6 rfl (by omega) hsz6 ?_; intro v' w7 hown' hkp)
          have hbl7 := hbl6.trans (hkp.below hsz6 (fun g hg => (hO6.block g hg).1))
          rw [← HY.out] at hown'
          go_roundw
          case rel => exact ⟨j + 1, by omega, by go_num, hown', hbl7⟩
          case measure => simp [intOf]; omega
    · have hje : j = M.length := by omega
      subst hje
      have HF := Lib.hid (retI_mk hO hbl)
      clear hO hbd
      go_wp2
      go_ret
      exact HF.out
end Go.Proofs.Ythpnmkghjnipoaa
