/- Contracts: DeltaOfCluster. -/
import Derived.Test.YtglghdkjppcedaaDoorPart3
import Derived.Test.YtglghdkjppcedaaDoorPart1
import Derived.Test.YtglghdkjppcedaaDoorPart19
import Derived.Test.YtglghdkjppcedaaDoorPart12
import Derived.Test.YtglghdkjppcedaaDoorPart0
namespace Go.Proofs.YtglghdkjppcedaaDoor
open Go.RowKit

/-- x (x - 1) / 2 -/
def tri (x : Int) : Int := x * (x - 1) / 2
theorem tri_nn (x : Int) : 0 ≤ x * (x - 1) := by
  rcases Int.lt_or_le 0 x with h | h
  · exact Int.mul_nonneg (by omega) (by omega)
  · exact Int.mul_nonneg_of_nonpos_of_nonpos (by omega) (by omega)
theorem tri_prod (x : Int) (h : -100000 ≤ x ∧ x ≤ 100000) : 0 ≤ x * (x - 1) ∧ x * (x - 1) ≤ 10000100000 := by
  have h1 := tri_nn x
  have h2 := mul_abs_le (x := x) (y := x - 1) (B := 100000) (C := 100001) (by omega) (by omega)
  omega
theorem tri_bd (x : Int) (h : -100000 ≤ x ∧ x ≤ 100000) : 0 ≤ tri x ∧ tri x ≤ 10000100000 := by
  have h1 := tri_prod x h
  unfold tri
  omega
/-- The sum of all x (x - 1) / 2. -/
def deltaL (xs : List Int) : Int := sumTo (fun i => tri (gI xs i)) xs.length

set_option maxHeartbeats 1000000 in
theorem deltaOf_c (v : Value) (xs : List Int) (w : World) (h : Rd w v xs) (hb : ∀ i, i < xs.length → -100000 ≤ gI xs i ∧ gI xs i ≤ 100000) (hn : xs.length ≤ 10000) :
    Calls Tryd.prog 54 #[v] w fun e w' => e = .returned (.int .i64 (deltaL xs)) ∧ w = w' := by
  obtain ⟨a, cap, rfl, hcap1, hcap2, hrd⟩ := h
  go_enter Tryd.func54, Tryd.ntmps54
  go_wp2
  go_loop [3, 5, 8] (fun n _ i => ∃ k : Nat, k ≤ xs.length ∧ i = .int .i64 k ∧ n = .int .i64 (sumTo (fun i => tri (gI xs i)) k)) (fun _ _ i => xs.length - (intOf i).toNat)
  case atStart => exact ⟨0, Nat.zero_le _, rfl, rfl⟩
  case round =>
    obtain ⟨k, hk, rfl, rfl⟩ := hrel
    by_cases hlt : k < xs.length
    · obtain ⟨b, off, rfl, hbl, hcs⟩ := hrd (ne_of_lt_len hlt)
      have hc := hcs k hlt
      have hx := tri_prod _ (hb k hlt)
      have hs := sumTo_bound (f := fun i => tri (gI xs i)) (n := k) 0 10000100000 (fun i hi => tri_bd _ (hb i (by omega)))
      have HS := Lib.hid (sumTo_succ (fun i => tri (gI xs i)) k)
      have hbk := hb k hlt
      clear hcs hrd hb
      generalize sumTo (fun i => tri (gI xs i)) k = s at hs HS
      generalize gI xs k = x at hc hx HS hbk
      have hs1 : 0 ≤ s := by omega
      have hs2 : s ≤ 100001000000000 := by omega
      clear hs
      obtain ⟨hx1, hx2⟩ := hx
      obtain ⟨hb1, hb2⟩ := hbk
      go_wp2
      go_round
      case rel => exact ⟨k + 1, by omega, by go_num, by rw [HS.out]; rfl⟩
      case measure => simp [intOf]; omega
    · go_wp2
      have hk' : k = xs.length := by omega
      subst hk'
      go_ret
      exact ⟨rfl, rfl⟩

end Go.Proofs.YtglghdkjppcedaaDoor

/- The laws of the semigroups in plain words: the conductor is the sum of all m (m - 1), gaps are as many as half of it, generators and terms lead to each other. -/
namespace Go.Proofs.YtglghdkjppcedaaDoor
open Go.RowKit

/-- The sum of all m (m - 1). -/
def sqL (M : List Int) : Int := (M.map fun m => m * (m - 1)).sum
theorem sqL_app (A B : List Int) : sqL (A ++ B) = sqL A + sqL B := by simp [sqL]
theorem sum_rep (q : Nat) (b : Int) : (List.replicate q b).sum = q * b := by
  induction q with
  | zero => simp
  | succ q ih => rw [List.replicate_succ, List.sum_cons, ih, Int.natCast_add, Int.add_mul]; simp; omega
theorem sqL_rep (q : Nat) (b : Int) : sqL (List.replicate q b) = q * (b * (b - 1)) := by
  unfold sqL; rw [List.map_replicate, sum_rep]
theorem flat_sum : ∀ n : Nat, ∀ a b : Int, b.toNat ≤ n → 0 ≤ b → 0 ≤ a → (flat (stB a b)).sum = a + b - gcdI a b ∧ sqL (flat (stB a b)) = a * b - (a + b - gcdI a b) := by
  intro n
  induction n with
  | zero =>
    intro a b hn hb ha
    have : b = 0 := by omega
    subst this
    rw [stB_zero (by omega)]
    have e : gcdI a 0 = a := by unfold gcdI; simp; omega
    rw [e]
    exact ⟨by simp [flat], by simp [flat, sqL]⟩
  | succ n ih =>
    intro a b hn hb ha
    by_cases h0 : 0 < b
    · have h1 : 0 ≤ a % b := Int.emod_nonneg _ (by omega)
      have h2 : a % b < b := Int.emod_lt_of_pos _ h0
      obtain ⟨i1, i2⟩ := ih b (a % b) (by omega) h1 hb
      have hg : gcdI b (a % b) = gcdI a b := gcdI_step _ _ _ ha h0 rfl
      have hq : 0 ≤ a / b := Int.ediv_nonneg ha hb
      have hd := Int.emod_add_mul_ediv a b
      rw [hg] at i1 i2
      rw [stB_pos h0, flat_cons, List.sum_append, sqL_app, i1, i2]
      unfold rep
      rw [sum_rep, sqL_rep]
      have hqc : (((a / b).toNat : Nat) : Int) = a / b := by omega
      simp only [hqc]
      generalize a / b = q at *
      generalize a % b = r at *
      subst hd
      refine ⟨by grind, by grind⟩
    · have : b = 0 := by omega
      subst this
      rw [stB_zero (by omega)]
      have e : gcdI a 0 = a := by unfold gcdI; simp; omega
      rw [e]
      exact ⟨by simp [flat], by simp [flat, sqL]⟩
/-- The sum of all k e over the first n runs. -/
def keS (T : List Int) : Nat → Int
  | 0 => 0
  | n + 1 => keS T n + kI T n * eI T n
theorem pre_sum {T : List Int} (h : BraOk T) : ∀ n, n < T.length → (flat (pre T n)).sum = lastV T n + gI T 0 - eI T n ∧ sqL (flat (pre T n)) = keS T n - (lastV T n + gI T 0 - eI T n) := by
  intro n
  induction n with
  | zero =>
    intro _
    have e : flat (pre T 0) = [] := rfl
    have e2 : eI T 0 = gI T 0 := rfl
    have e3 : lastV T 0 = 0 := rfl
    have e4 : keS T 0 = 0 := rfl
    rw [e, e2, e3, e4]
    exact ⟨by simp, by simp [sqL]⟩
  | succ n ih =>
    intro hn
    obtain ⟨i1, i2⟩ := ih (by omega)
    have hk := kI_bd h hn
    have he := eI_bd h n
    obtain ⟨f1, f2⟩ := flat_sum _ (kI T n) (eI T n) (Nat.le_refl _) (by omega) (by omega)
    rw [kI_gcd] at f1 f2
    have hl := lastI T n
    have hl2 := lastV_succ T n
    have hk2 : keS T (n + 1) = keS T n + kI T n * eI T n := rfl
    rw [pre_succ, flat_app, List.sum_append, sqL_app, i1, i2, f1, f2, hk2, hl2, hl]
    generalize lastV T n = l at *
    generalize gI T (n + 1) = g at *
    generalize eI T n = e at *
    exact ⟨by omega, by grind⟩
theorem keS_eq {T : List Int} : ∀ i, i + 1 < T.length → keS T (i + 1) = eI T i * vI T (i + 1) := by
  intro i
  induction i with
  | zero =>
    intro _
    show 0 + kI T 0 * eI T 0 = eI T 0 * gI T 1
    have e : kI T 0 = gI T 1 := by rw [lastI]; simp [lastV]
    rw [e, Int.mul_comm]; omega
  | succ i ih =>
    intro hi
    have ih := ih (by omega)
    have hk2 : keS T (i + 2) = keS T (i + 1) + kI T (i + 1) * eI T (i + 1) := rfl
    have hv := vI_two T i
    have hr := rI_mul T i
    have hkl := lastI T (i + 1)
    rw [lastV_succ] at hkl
    rw [hk2, ih, hv, hkl, ← hr]
    generalize rI T (i + 1) = r
    generalize eI T (i + 1) = e
    generalize vI T (i + 1) = v
    grind
theorem con_eq {T : List Int} : ∀ k, k + 1 < T.length → conTo T (k + 1) = 1 - gI T 0 + rI T (k + 1) * vI T (k + 1) - gI T (k + 1) := by
  intro k
  induction k with
  | zero =>
    intro _
    show 1 - gI T 0 + (rI T 1 - 1) * vI T 1 = _
    rw [vI_one]
    grind
  | succ k ih =>
    intro hk
    have hv := vI_two T k
    rw [conTo_succ, ih (by omega)]
    show _ = 1 - gI T 0 + rI T (k + 2) * vI T (k + 2) - gI T (k + 2)
    show 1 - gI T 0 + rI T (k + 1) * vI T (k + 1) - gI T (k + 1) + (rI T (k + 2) - 1) * vI T (k + 2) = _
    generalize vI T (k + 2) = v2 at *
    grind
theorem bra_single {T : List Int} (h : BraOk T) (h1 : T.length = 1) : T = [1] := by
  have := h.last
  rw [h1] at this
  have e : eI T (1 - 1) = gI T 0 := rfl
  rw [e] at this
  match T, h1 with
  | [x], _ => have : x = 1 := this; rw [this]
/-- The conductor is the sum of all m (m - 1) over the sequence. -/
theorem mu_con {T : List Int} (h : BraOk T) : sqL (seqP T) = conI T := by
  by_cases h1 : T.length = 1
  · rw [bra_single h h1]; rfl
  · have hp := h.len
    obtain ⟨g, hg⟩ : ∃ g, T.length = g + 2 := ⟨T.length - 2, by omega⟩
    have e : seqP T = flat (pre T (T.length - 1)) := by unfold seqP; rw [if_neg h1]
    have hl := h.last
    have hr := rI_mul T g
    rw [show T.length - 1 = g + 1 by omega] at hl
    rw [hl, Int.mul_one] at hr
    rw [e]
    unfold conI
    rw [show T.length - 1 = g + 1 by omega, (pre_sum h (g + 1) (by omega)).2, keS_eq g (by omega), con_eq g (by omega), hl, lastV_succ, hr]
    omega
/-- All numbers of the sequence lie from 1 to 64, and they are few. -/
theorem seqP_num {T : List Int} (h : BraOk T) : (∀ i, i < (seqP T).length → 1 ≤ gI (seqP T) i ∧ gI (seqP T) i ≤ 64) ∧ (seqP T).length ≤ 2100 := by
  by_cases h1 : T.length = 1
  · have e : seqP T = [1] := by unfold seqP; rw [if_pos h1]
    rw [e]
    refine ⟨fun i hi => ?_, by simp⟩
    simp at hi
    subst hi
    show 1 ≤ (1 : Int) ∧ (1 : Int) ≤ 64
    omega
  · have hp := h.len
    have e : seqP T = flat (pre T (T.length - 1)) := by unfold seqP; rw [if_neg h1]
    have ht := full_tl h 0
    have e2 : fullL T 0 = seqP T := by rw [e]; unfold fullL; simp
    rw [e2] at ht
    have hm := good_le _ ht.1 _ ht.2
    have hf := h.first
    have e3 : eI T 0 = gI T 0 := rfl
    rw [e3] at hm
    have hmem : ∀ i, i < (seqP T).length → 1 ≤ gI (seqP T) i ∧ gI (seqP T) i ≤ 64 := fun i hi => by
      have := hm _ (gI_mem hi); omega
    refine ⟨hmem, ?_⟩
    have hs := (pre_sum h (T.length - 1) (by omega)).1
    rw [← e] at hs
    have hsum : ∀ L : List Int, (∀ x, x ∈ L → 1 ≤ x) → (L.length : Int) ≤ L.sum := by
      intro L
      induction L with
      | nil => intro _; simp
      | cons x L ih =>
        intro hx
        have h2 := ih (fun y hy => hx y (by simp [hy]))
        have h3 := hx x (by simp)
        rw [List.length_cons, List.sum_cons]; omega
    have h4 := hsum _ (fun x hx => by have := hm x hx; omega)
    have h5 : lastV T (T.length - 1) = gI T (T.length - 1) := by unfold lastV; rw [if_neg (by omega)]
    have h6 := h.num (T.length - 1) (by omega)
    have h7 := h.last
    omega
theorem sumTo_cons (f : Int → Int) (x : Int) (xs : List Int) : ∀ n, sumTo (fun i => f (gI (x :: xs) i)) (n + 1) = f x + sumTo (fun i => f (gI xs i)) n := by
  intro n
  induction n with
  | zero => show 0 + f x = f x + 0; omega
  | succ n ih =>
    rw [sumTo_succ, ih, sumTo_succ]
    have e : gI (x :: xs) (n + 1) = gI xs n := rfl
    rw [e]; omega
theorem sumTo_map (f : Int → Int) : ∀ xs : List Int, sumTo (fun i => f (gI xs i)) xs.length = (xs.map f).sum := by
  intro xs
  induction xs with
  | nil => rfl
  | cons x xs ih => rw [List.length_cons, sumTo_cons, ih]; simp
theorem tri_two (x : Int) : 2 * tri x = x * (x - 1) := by
  unfold tri
  have h : (2 : Int) ∣ x * (x - 1) := by
    rcases (show x % 2 = 0 ∨ x % 2 = 1 by omega) with h | h
    · exact Int.dvd_trans (Int.dvd_of_emod_eq_zero h) (Int.dvd_mul_right _ _)
    · exact Int.dvd_trans (Int.dvd_of_emod_eq_zero (show (x - 1) % 2 = 0 by omega)) (Int.dvd_mul_left _ _)
  exact Int.mul_ediv_cancel' h
theorem delta_two (xs : List Int) : 2 * deltaL xs = sqL xs := by
  unfold deltaL sqL
  rw [← sumTo_map (fun m => m * (m - 1)) xs]
  generalize xs.length = n
  induction n with
  | zero => rfl
  | succ n ih => rw [sumTo_succ, sumTo_succ, Int.mul_add, ih, tri_two]

/-- How many numbers below k have p. -/
def cntP (p : Nat → Bool) : Nat → Nat
  | 0 => 0
  | k + 1 => cntP p k + if p k = true then 1 else 0
end Go.Proofs.YtglghdkjppcedaaDoor

/- The Milnor number of a branch by its terms. No program in sight. -/
namespace Go.Proofs.YtglghdkjppcedaaDoor
open Go.RowKit

theorem ev_eq (T : List Int) : ∀ k, eI T k * vI T (k + 1) = mS T k + (gI T 0 - eI T k) + eI T k * gI T (k + 1) := by
  intro k
  induction k with
  | zero =>
    show gI T 0 * gI T 1 = 0 + (gI T 0 - gI T 0) + gI T 0 * gI T 1
    omega
  | succ k ih =>
    have h1 := rI_mul T k
    rw [vI_two, mS_succ]
    rw [show k + 1 + 1 = k + 2 from rfl]
    generalize rI T (k + 1) = r at *
    generalize eI T (k + 1) = e at *
    generalize eI T k = d at *
    generalize vI T (k + 1) = v at *
    generalize gI T (k + 2) = z at *
    generalize gI T (k + 1) = y at *
    generalize mS T k = m at *
    subst h1
    grind
theorem con_mS {T : List Int} (h : BraOk T) : conI T = mS T (T.length - 1) := by
  have hl := h.len
  have hla := h.last
  unfold conI
  by_cases h1 : T.length = 1
  · rw [h1] at hla ⊢
    have : gI T 0 = 1 := hla
    show 1 - gI T 0 = 0
    omega
  · obtain ⟨k, hk⟩ : ∃ k, T.length = k + 2 := ⟨T.length - 2, by omega⟩
    rw [hk, show k + 2 - 1 = k + 1 from rfl] at hla ⊢
    rw [con_eq k (by omega), mS_succ, hla]
    have h2 := ev_eq T k
    have h3 := rI_mul T k
    rw [hla] at h3
    generalize rI T (k + 1) = r at *
    generalize eI T k = d at *
    generalize vI T (k + 1) = v at *
    generalize gI T (k + 1) = y at *
    generalize mS T k = m at *
    rw [Int.mul_one] at h3
    subst h3
    grind
end Go.Proofs.YtglghdkjppcedaaDoor

/- Contracts: spec.l01Same and slices.Equal on slices of integers. -/
namespace Go.Proofs.YtglghdkjppcedaaDoor
open Go.RowKit

set_option maxHeartbeats 400000 in
theorem l01Same_c (v u : Value) (xs ys : List Int) (w : World) (h : Rd w v xs) (h' : Rd w u ys) :
    Calls Tryd.prog 76 #[v, u] w fun e w' => e = .returned (.bool (eqB xs ys)) ∧ Drew w w' := by
  obtain ⟨a, cap, rfl, hcap1, hcap2, hrd⟩ := h
  obtain ⟨a', cap', rfl, hcap1', hcap2', hrd'⟩ := h'
  by_cases hl : xs.length = ys.length
  · have HL := Lib.hid hl
    have hd : ((xs.length : Int) != (ys.length : Int)) = false := by simp [hl]
    clear hl
    go_enter Tryd.func76, Tryd.ntmps76
    go_wp2
    go_loopw [5] (fun i wr => ∃ k : Nat, k ≤ xs.length ∧ i = .int .i64 k ∧ xs.take k = ys.take k ∧ Drew w wr) (fun i _ => xs.length - (intOf i).toNat)
    case atStart => exact ⟨0, Nat.zero_le _, rfl, rfl, Drew.refl _⟩
    case round =>
      obtain ⟨k, hk, rfl, ht, n, rfl⟩ := hrel
      by_cases hlt : k < xs.length
      · have hlt' : k < ys.length := by have := HL.out; omega
        obtain ⟨b, off, rfl, hbl, hcs⟩ := hrd (ne_of_lt_len hlt)
        obtain ⟨b', off', rfl, hbl', hcs'⟩ := hrd' (ne_of_lt_len hlt')
        have hc := hcs k hlt
        have hc' := hcs' k hlt'
        have HT := Lib.hid (take_eq_step ht hlt hlt')
        have HN : Hid (gI xs k ≠ gI ys k → eqB xs ys = false) := Lib.hid (by
          intro hne; simp only [eqB, decide_eq_false_iff_not]; intro e; exact hne (by rw [e]))
        clear ht hcs hcs' hrd hrd'
        generalize gI xs k = x at hc HT HN
        generalize gI ys k = y at hc' HT HN
        by_cases hxy : x = y
        · subst hxy
          have HT' := Lib.hid (HT.out rfl)
          clear HT HN
          go_wp2
          go_quiet (fail)
          go_wp2
          go_roundw
          case rel => exact ⟨k + 1, by omega, by go_num, HT'.out, by first | exact Drew.one _ _ | exact Drew.two _ _ _ | exact Drew.refl _⟩
          case measure => simp [intOf]; omega
        · have hf := Lib.hid (HN.out hxy)
          have hxb : (x != y) = true := by simp [hxy]
          clear HT HN hxy
          go_wp2
          go_quiet (fail)
          go_wp2
          go_ret
          exact ⟨ret_bool hf.out.symm, by first | exact Drew.one _ _ | exact Drew.two _ _ _ | exact Drew.refl _⟩
      · go_wp2
        go_ret
        refine ⟨ret_bool ?_, Drew.one _ _⟩
        have hl := HL.out
        rw [List.take_of_length_le (by omega), List.take_of_length_le (by omega)] at ht
        simp [eqB, ht]
  · have HE : Hid (eqB xs ys = false) := Lib.hid (by simp only [eqB, decide_eq_false_iff_not]; intro e; exact hl (by rw [e]))
    have hd : ((xs.length : Int) != (ys.length : Int)) = true := by simp; omega
    clear hl
    go_enter Tryd.func76, Tryd.ntmps76
    go_wp2
    go_ret
    exact ⟨ret_bool HE.out.symm, Drew.refl _⟩

end Go.Proofs.YtglghdkjppcedaaDoor

/- Contract: impl.begins, where a list begins with another one. -/
namespace Go.Proofs.YtglghdkjppcedaaDoor
open Go.RowKit

end Go.Proofs.YtglghdkjppcedaaDoor
