/- The laws of the representations in plain words; contracts of product5 and DivisorsOf. -/
import Derived.Test.YtiinceflafigeaaSemUp
import Derived.Test.YtiinceflafigeaaLaw
import Derived.Test.YtiinceflafigeaaGen
namespace Go.Proofs.Ytiinceflafigeaa
open Go.RowKit

theorem selTo_bd (p : Nat → Bool) : ∀ k, ∀ i, i < (selTo p k).length → 0 ≤ gI (selTo p k) i ∧ gI (selTo p k) i < (k : Int) := by
  intro k
  induction k with
  | zero => intro i hi; simp [selTo] at hi
  | succ k ih =>
    intro i hi
    cases h : p k
    · rw [selTo_no h] at hi ⊢
      have := ih i hi; omega
    · rw [selTo_yes h] at hi ⊢
      rw [List.length_append] at hi
      simp at hi
      by_cases e : i < (selTo p k).length
      · rw [gI_app_lt e]; have := ih i e; omega
      · rw [gI_app_at (by omega)]; omega
theorem selTo_asc (p : Nat → Bool) : ∀ k, ∀ i, i + 1 < (selTo p k).length → gI (selTo p k) i < gI (selTo p k) (i + 1) := by
  intro k
  induction k with
  | zero => intro i hi; simp [selTo] at hi
  | succ k ih =>
    intro i hi
    cases h : p k
    · rw [selTo_no h] at hi ⊢
      exact ih i hi
    · rw [selTo_yes h] at hi ⊢
      rw [List.length_append] at hi
      simp at hi
      by_cases e : i + 1 < (selTo p k).length
      · rw [gI_app_lt (by omega), gI_app_lt e]; exact ih i e
      · rw [gI_app_lt (by omega), gI_app_at (by omega)]
        exact (selTo_bd p k i (by omega)).2
theorem selTo_has (p : Nat → Bool) : ∀ k, ∀ n : Nat, n < k → hasB (selTo p k) (n : Int) = p n := by
  intro k
  induction k with
  | zero => intro n hn; omega
  | succ k ih =>
    intro n hn
    cases h : p k
    · rw [selTo_no h]
      by_cases e : n = k
      · subst e
        rw [h]
        exact hasB_no.2 (fun i hi e => by have := (selTo_bd p n i hi).2; omega)
      · exact ih n (by omega)
    · rw [selTo_yes h]
      by_cases e : n = k
      · subst e
        rw [h]
        exact hasB_iff.2 ⟨(selTo p n).length, by simp, gI_app_at rfl⟩
      · rw [← ih n (by omega)]
        cases c : hasB (selTo p k) (n : Int)
        · refine hasB_no.2 (fun i hi => ?_)
          rw [List.length_append] at hi
          simp at hi
          by_cases e2 : i < (selTo p k).length
          · rw [gI_app_lt e2]; exact hasB_no.1 c i e2
          · rw [gI_app_at (by omega)]; omega
        · obtain ⟨i, hi, e2⟩ := hasB_iff.1 c
          exact hasB_iff.2 ⟨i, by rw [List.length_append]; omega, by rw [gI_app_lt hi]; exact e2⟩
theorem svC_zero {T : List Int} {z : Int} (h : svC T z = 0) : braB T = true ∧ 0 ≤ z ∧ z ≤ 20000 := by
  cases c : braB T
  · rw [svC_bra c] at h; simp at h
  · cases d : inB z 0 20000
    · rw [svC_num c d] at h; simp at h
    · exact ⟨rfl, inB_iff.1 d⟩
theorem svB_zero {T : List Int} {z : Int} (h : svC T z = 0) : svB T z = valB T z := by
  obtain ⟨h1, h2⟩ := svC_zero h
  exact svB_ok h1 (inB_iff.2 h2)
theorem vu_has {T : List Int} {z : Int} (h : svC T z = 0) : hasB (vuL T z) z = svB T z := by
  obtain ⟨h1, h2, h3⟩ := svC_zero h
  rw [vuL_ok h, svB_zero h]
  obtain ⟨n, rfl⟩ := Int.eq_ofNat_of_zero_le h2
  exact selTo_has _ _ n (by omega)
theorem vu_asc {T : List Int} {z : Int} (h : svC T z = 0) : ∀ i, i + 1 < (vuL T z).length → gI (vuL T z) i < gI (vuL T z) (i + 1) := by
  rw [vuL_ok h]; exact selTo_asc _ _
/-- A representation's code is none exactly if the number is a value. -/
theorem rp_sv {T : List Int} {z : Int} (h : svC T z = 0) : (rpC T z == 0) = svB T z := by
  obtain ⟨h1, h2⟩ := svC_zero h
  rw [svB_zero h]
  cases c : valB T z
  · rw [rpC_not h1 (inB_iff.2 h2) c]; rfl
  · rw [rpC_ok h1 (inB_iff.2 h2) c]; rfl
theorem rp_zero {T : List Int} {z : Int} (h : rpC T z = 0) : svC T z = 0 ∧ valB T z = true := by
  unfold rpC at h
  split at h
  · rename_i h1
    split at h
    · rename_i h2; exact ⟨h1, h2⟩
    · simp at h
  · exact absurd h (by assumption)
theorem rpL_n {T : List Int} {z : Int} (h : rpC T z = 0) : (rpL T z).length = T.length := by
  have hok := braB_iff.1 (rpC_zero h)
  have := hok.len
  rw [rpL_ok h]; simp; omega
/-- The terms of the sum. -/
def rpF (T : List Int) (z : Int) (i : Nat) : Int := gI (rpL T z) i * gI (vTo T T.length) i
theorem rp_nn {T : List Int} {z : Int} (h : rpC T z = 0) : (∀ i, i < T.length → 0 ≤ gI (rpL T z) i) ∧ ∀ i, i + 1 < T.length → gI (rpL T z) (i + 1) < eI T i / eI T (i + 1) := by
  have hok := braB_iff.1 (rpC_zero h)
  obtain ⟨h1, h2⟩ := rp_zero h
  have hl := (valB_iff hok z).1 h2
  have hl2 := (val_iff hok z).1 hl
  have hD := digA_ok hok z
  have hn0 := hok.num 0 hok.len
  rw [rpL_ok h]
  refine ⟨fun i hi => ?_, fun i hi => ?_⟩
  · cases i with
    | zero => exact Int.ediv_nonneg hl2 (by omega)
    | succ i => exact (hD.2 i (by omega)).1
  · exact (hD.2 i (by omega)).2
theorem rp_sum {T : List Int} {z : Int} (h : rpC T z = 0) : sumTo (rpF T z) T.length = z := by
  have hok := braB_iff.1 (rpC_zero h)
  have hp := hok.len
  have hn0 := hok.num 0 hp
  have e : T.length = (T.length - 1) + 1 := by omega
  have key : ∀ k, k + 1 ≤ T.length → sumTo (rpF T z) (k + 1) = low T z + sumV T (digA T z) k := by
    intro k
    induction k with
    | zero =>
      intro _
      have hd := low_dvd hok z
      have e0 : rpF T z 0 = low T z := by
        unfold rpF
        rw [rpL_ok h, gI_vTo hp]
        show low T z / gI T 0 * vI T 0 = _
        rw [vI_zero]
        exact Int.ediv_mul_cancel hd
      show sumTo (rpF T z) 0 + rpF T z 0 = low T z + 0
      rw [e0]; simp [sumTo]
    | succ k ih =>
      intro hk
      rw [sumTo_succ, ih (by omega), sumV_succ]
      have e1 : rpF T z (k + 1) = gI (digA T z) k * vI T (k + 1) := by
        unfold rpF
        rw [rpL_ok h, gI_vTo (by omega)]; rfl
      rw [e1]; omega
  rw [e, key (T.length - 1) (by omega), lst_low]
  unfold lst; omega
theorem rpF_nn {T : List Int} {z : Int} (h : rpC T z = 0) {i : Nat} (hi : i < T.length) : 0 ≤ rpF T z i := by
  have hok := braB_iff.1 (rpC_zero h)
  have h1 := (rp_nn h).1 i hi
  have h2 := vI_bd hok hi
  unfold rpF
  rw [gI_vTo hi]
  exact Int.mul_nonneg h1 (by omega)
theorem rpF_bd {T : List Int} {z : Int} (h : rpC T z = 0) : ∀ k, k ≤ T.length → 0 ≤ sumTo (rpF T z) k ∧ sumTo (rpF T z) k ≤ 20000 := by
  intro k hk
  have h1 := sumTo_mono (f := rpF T z) hk (fun i hi => rpF_nn h hi)
  rw [rp_sum h] at h1
  have h2 := (svC_zero (rp_zero h).1).2
  exact ⟨sum_nn k (fun i hi => rpF_nn h (by omega)), by omega⟩
/-- The Apery list: the value r + some n is no value less n. -/
theorem ap_law {T : List Int} (h : BraOk T) {r : Nat} (hr : r < nT T) : lst T (r : Int) % (nT T : Int) = (r : Int) ∧ valB T (lst T (r : Int)) = true ∧ valB T (lst T (r : Int) - (nT T : Int)) = false := by
  have hn0 := h.num 0 h.len
  have e : (nT T : Int) = gI T 0 := by unfold nT; omega
  rw [e]
  have h1 := lst_mod h (r := (r : Int)) (by omega) (by omega)
  refine ⟨h1, ?_, ?_⟩
  · unfold valB; rw [h1]; simp
  · unfold valB
    have h2 : (lst T (r : Int) - gI T 0) % gI T 0 = (r : Int) := by rw [Int.sub_emod_right]; exact h1
    rw [h2]
    exact decide_eq_false (by omega)

theorem implDivisors_ok (v : Value) (T : List Int) (w : World) (h : Rd w v T) (hok : BraOk T) :
    Calls Try.prog 40 #[.agg #[v]] w (RvC w T.length (eTo T T.length) 0) := by
  have hx := Boxed.start w 26 #[v]
  obtain ⟨a1, k1, rfl⟩ := h.len0
  have hc := braB_iff.2 hok
  have hl := bra_len hok
  go_enter Try.func40, Try.ntmps40
  go_wp2_with fail
  refine (implIsBranch_c _ T _ (hx.rd h)).mono ?_
  rintro e w1 ⟨rfl, hb⟩
  rw [hc]
  have hx1 := hx.trans hb
  have c0 := hx1.cell 0
  go_wp2_with fail
  refine (divisors_c _ T _ (hx1.rd h) (by omega) (fun i hi => by have := hok.num i hi; omega)).mono ?_
  rintro e w2 ⟨ga, ka, rfl, ho, hb2⟩
  have hr := ho.rd
  rw [eTo_len] at hr ⊢
  have HF : Hid (RvC w T.length (eTo T T.length) 0 (.returned (.tuple #[.slice ga T.length ka, .int .i64 0])) w2) := Lib.hid ⟨_, _, rfl, hr, (hx1.trans hb2).below⟩
  clear hr ho
  go_wp2
  go_ret2
  exact HF.out
theorem implGenerators_ok (v : Value) (T : List Int) (w : World) (h : Rd w v T) (hok : BraOk T) :
    Calls Try.prog 39 #[.agg #[v]] w (RvC w T.length (vTo T T.length) 0) :=
  (implGeneratorsOf_c v T w h).mono fun _ _ hh => rvC_ic hh (okL_true (braB_iff.2 hok)) (by simp) (okC_true (braB_iff.2 hok))

theorem implApery_ok (v : Value) (T : List Int) (w : World) (h : Rd w v T) (hb : braB T = true) :
    Calls Try.prog 43 #[.agg #[v]] w (RvC w (nT T) (lstL T) 0) :=
  (implAperyOf_c v T w h).mono fun _ _ hh => rvC_ic hh (okL_true hb) (lstL_len T) (okC_true hb)
theorem implApery_no (v : Value) (T : List Int) (w : World) (h : Rd w v T) (hb : braB T = false) :
    Calls Try.prog 43 #[.agg #[v]] w (RvC w 0 [] 1) :=
  (implAperyOf_c v T w h).mono fun _ _ hh => rvC_ic hh (okL_false hb) rfl (okC_false hb)
theorem specApery_ok (v : Value) (T : List Int) (w : World) (h : Rd w v T) (hb : braB T = true) :
    Calls Try.prog 44 #[.agg #[v]] w (RvC w (nT T) (lstL T) 0) :=
  (specAperyOf_c v T w h).mono fun _ _ hh => rvC_ic hh (okL_true hb) (lstL_len T) (okC_true hb)
theorem specApery_no (v : Value) (T : List Int) (w : World) (h : Rd w v T) (hb : braB T = false) :
    Calls Try.prog 44 #[.agg #[v]] w (RvC w 0 [] 1) :=
  (specAperyOf_c v T w h).mono fun _ _ hh => rvC_ic hh (okL_false hb) rfl (okC_false hb)
/-- The products at i. -/
def prF (xs ys : List Int) (i : Nat) : Int := gI xs i * gI ys i
set_option maxHeartbeats 1000000 in
theorem product5_c (v u : Value) (xs ys : List Int) (n : Nat) (w : World) (h : Rd w v xs) (h' : Rd w u ys) (hx : xs.length = n) (hy : ys.length = n) (hb : ∀ k, k ≤ n → -1000000000000000000 ≤ sumTo (prF xs ys) k ∧ sumTo (prF xs ys) k ≤ 1000000000000000000) (hp : ∀ i, i < n → -1000000000000000000 ≤ prF xs ys i ∧ prF xs ys i ≤ 1000000000000000000) :
    Calls Try.prog 41 #[v, u] w fun e w' => e = .returned (.int .i64 (sumTo (prF xs ys) n)) ∧ Drew w w' := by
  subst hx
  obtain ⟨a, cap, rfl, hcap1, hcap2, hrd⟩ := h
  obtain ⟨a', cap', rfl, hcap1', hcap2', hrd'⟩ := h'
  have HB := Lib.hid hb
  have HP := Lib.hid hp
  have HL := Lib.hid hy
  clear hb hp
  rw [hy]
  clear hy
  go_enter Try.func41, Try.ntmps41
  go_wp2
  go_loopw [5, 6] (fun t i wr => ∃ k : Nat, k ≤ xs.length ∧ i = .int .i64 k ∧ t = .int .i64 (sumTo (prF xs ys) k) ∧ Drew w wr) (fun _ i _ => xs.length - (intOf i).toNat)
  case atStart => exact ⟨0, Nat.zero_le _, rfl, rfl, Drew.refl _⟩
  case round =>
    obtain ⟨k, hk, rfl, rfl, n, rfl⟩ := hrel
    by_cases hlt : k < xs.length
    · have hlt' : k < ys.length := by have := HL.out; omega
      obtain ⟨b, off, rfl, hbl, hcs⟩ := hrd (ne_of_lt_len hlt)
      obtain ⟨b', off', rfl, hbl', hcs'⟩ := hrd' (ne_of_lt_len hlt')
      have hc := hcs k hlt
      have hc' := hcs' k hlt'
      have h1 := HB.out k (by omega)
      have h2 := HB.out (k + 1) (by omega)
      have h3 := HP.out k hlt
      have hss := sumTo_succ (prF xs ys) k
      have e1 : gI xs k * gI ys k = prF xs ys k := rfl
      have w1 : IntKind.i64.wrap (gI xs k * gI ys k) = prF xs ys k := by rw [e1]; exact IntWalk.i64_in _ (by omega)
      have w2 : IntKind.i64.wrap (sumTo (prF xs ys) k + prF xs ys k) = sumTo (prF xs ys) k + prF xs ys k := IntWalk.i64_in _ (by omega)
      have HS := Lib.hid hss
      clear hcs hcs' hrd hrd' e1 hss h1 h2 h3
      generalize prF xs ys k = z at *
      generalize gI xs k = x at *
      generalize gI ys k = y at *
      generalize sumTo (prF xs ys) k = s at *
      go_wp2
      go_quiet (fail)
      go_wp2
      go_roundw
      case rel => exact ⟨k + 1, by omega, by go_num, by rw [HS.out], by first | exact Drew.one _ _ | exact Drew.two _ _ _ | exact Drew.refl _⟩
      case measure => simp [intOf]; omega
    · have hkn : k = xs.length := by omega
      subst hkn
      go_wp2
      go_ret
      exact ⟨rfl, Drew.one _ _⟩
end Go.Proofs.Ytiinceflafigeaa
