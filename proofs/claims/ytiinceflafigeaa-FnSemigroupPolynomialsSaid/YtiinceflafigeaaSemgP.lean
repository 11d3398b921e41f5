/- The laws of the semigroups in plain words: the conductor is the sum of all m (m - 1), gaps are as many as half of it, generators and terms lead to each other. -/
import Derived.Test.YtiinceflafigeaaRepP
import Derived.Test.YtiinceflafigeaaSeqI
import Derived.Test.YtiinceflafigeaaDelta
namespace Go.Proofs.Ytiinceflafigeaa
open Go.RowKit

/-- The sum of all m (m - 1). -/
def sqL (M : List Int) : Int := (M.map fun m => m * (m - 1)).sum
theorem sqL_app (A B : List Int) : sqL (A ++ B) = sqL A + sqL B := by simp [sqL]
theorem sum_rep (q : Nat) (b : Int) : (List.replicate q b).sum = q * b := by
  induction q with
  | zero => simp
  | succ q ih => rw [List.replicate_succ, List.sum_cons, ih, Int.natCast_add, Int.add_mul]; simp; omega
theorem sqL_rep (q : Nat) (b : Int) : sqL (List.replicate q b) = q * (b * (b - 1)) := by
  unfold sqL; rw [List.map_replicate, sum_rep]
theorem flat_sum : ∀ n : Nat, ∀ a b : Int, b.toNat ≤ n → 0 ≤ b → 0 ≤ a → (flat (stB a b)).sum = a + b - gcdI a b ∧ sqL (flat (stB a b)) = a * b - (a + b - gcdI a b) := by
  intro n
  induction n with
  | zero =>
    intro a b hn hb ha
    have : b = 0 := by omega
    subst this
    rw [stB_zero (by omega)]
    have e : gcdI a 0 = a := by unfold gcdI; simp; omega
    rw [e]
    exact ⟨by simp [flat], by simp [flat, sqL]⟩
  | succ n ih =>
    intro a b hn hb ha
    by_cases h0 : 0 < b
    · have h1 : 0 ≤ a % b := Int.emod_nonneg _ (by omega)
      have h2 : a % b < b := Int.emod_lt_of_pos _ h0
      obtain ⟨i1, i2⟩ := ih b (a % b) (by omega) h1 hb
      have hg : gcdI b (a % b) = gcdI a b := gcdI_step _ _ _ ha h0 rfl
      have hq : 0 ≤ a / b := Int.ediv_nonneg ha hb
      have hd := Int.emod_add_mul_ediv a b
      rw [hg] at i1 i2
      rw [stB_pos h0, flat_cons, List.sum_append, sqL_app, i1, i2]
      unfold rep
      rw [sum_rep, sqL_rep]
      have hqc : (((a / b).toNat : Nat) : Int) = a / b := by omega
      simp only [hqc]
      generalize a / b = q at *
      generalize a % b = r at *
      subst hd
      refine ⟨by grind, by grind⟩
    · have : b = 0 := by omega
      subst this
      rw [stB_zero (by omega)]
      have e : gcdI a 0 = a := by unfold gcdI; simp; omega
      rw [e]
      exact ⟨by simp [flat], by simp [flat, sqL]⟩
/-- The sum of all k e over the first n runs. -/
def keS (T : List Int) : Nat → Int
  | 0 => 0
  | n + 1 => keS T n + kI T n * eI T n
theorem pre_sum {T : List Int} (h : BraOk T) : ∀ n, n < T.length → (flat (pre T n)).sum = lastV T n + gI T 0 - eI T n ∧ sqL (flat (pre T n)) = keS T n - (lastV T n + gI T 0 - eI T n) := by
  intro n
  induction n with
  | zero =>
    intro _
    have e : flat (pre T 0) = [] := rfl
    have e2 : eI T 0 = gI T 0 := rfl
    have e3 : lastV T 0 = 0 := rfl
    have e4 : keS T 0 = 0 := rfl
    rw [e, e2, e3, e4]
    exact ⟨by simp, by simp [sqL]⟩
  | succ n ih =>
    intro hn
    obtain ⟨i1, i2⟩ := ih (by omega)
    have hk := kI_bd h hn
    have he := eI_bd h n
    obtain ⟨f1, f2⟩ := flat_sum _ (kI T n) (eI T n) (Nat.le_refl _) (by omega) (by omega)
    rw [kI_gcd] at f1 f2
    have hl := lastI T n
    have hl2 := lastV_succ T n
    have hk2 : keS T (n + 1) = keS T n + kI T n * eI T n := rfl
    rw [pre_succ, flat_app, List.sum_append, sqL_app, i1, i2, f1, f2, hk2, hl2, hl]
    generalize lastV T n = l at *
    generalize gI T (n + 1) = g at *
    generalize eI T n = e at *
    exact ⟨by omega, by grind⟩
theorem keS_eq {T : List Int} : ∀ i, i + 1 < T.length → keS T (i + 1) = eI T i * vI T (i + 1) := by
  intro i
  induction i with
  | zero =>
    intro _
    show 0 + kI T 0 * eI T 0 = eI T 0 * gI T 1
    have e : kI T 0 = gI T 1 := by rw [lastI]; simp [lastV]
    rw [e, Int.mul_comm]; omega
  | succ i ih =>
    intro hi
    have ih := ih (by omega)
    have hk2 : keS T (i + 2) = keS T (i + 1) + kI T (i + 1) * eI T (i + 1) := rfl
    have hv := vI_two T i
    have hr := rI_mul T i
    have hkl := lastI T (i + 1)
    rw [lastV_succ] at hkl
    rw [hk2, ih, hv, hkl, ← hr]
    generalize rI T (i + 1) = r
    generalize eI T (i + 1) = e
    generalize vI T (i + 1) = v
    grind
theorem con_eq {T : List Int} : ∀ k, k + 1 < T.length → conTo T (k + 1) = 1 - gI T 0 + rI T (k + 1) * vI T (k + 1) - gI T (k + 1) := by
  intro k
  induction k with
  | zero =>
    intro _
    show 1 - gI T 0 + (rI T 1 - 1) * vI T 1 = _
    rw [vI_one]
    grind
  | succ k ih =>
    intro hk
    have hv := vI_two T k
    rw [conTo_succ, ih (by omega)]
    show _ = 1 - gI T 0 + rI T (k + 2) * vI T (k + 2) - gI T (k + 2)
    show 1 - gI T 0 + rI T (k + 1) * vI T (k + 1) - gI T (k + 1) + (rI T (k + 2) - 1) * vI T (k + 2) = _
    generalize vI T (k + 2) = v2 at *
    grind
theorem bra_single {T : List Int} (h : BraOk T) (h1 : T.length = 1) : T = [1] := by
  have := h.last
  rw [h1] at this
  have e : eI T (1 - 1) = gI T 0 := rfl
  rw [e] at this
  match T, h1 with
  | [x], _ => have : x = 1 := this; rw [this]
/-- The conductor is the sum of all m (m - 1) over the sequence. -/
theorem mu_con {T : List Int} (h : BraOk T) : sqL (seqP T) = conI T := by
  by_cases h1 : T.length = 1
  · rw [bra_single h h1]; rfl
  · have hp := h.len
    obtain ⟨g, hg⟩ : ∃ g, T.length = g + 2 := ⟨T.length - 2, by omega⟩
    have e : seqP T = flat (pre T (T.length - 1)) := by unfold seqP; rw [if_neg h1]
    have hl := h.last
    have hr := rI_mul T g
    rw [show T.length - 1 = g + 1 by omega] at hl
    rw [hl, Int.mul_one] at hr
    rw [e]
    unfold conI
    rw [show T.length - 1 = g + 1 by omega, (pre_sum h (g + 1) (by omega)).2, keS_eq g (by omega), con_eq g (by omega), hl, lastV_succ, hr]
    omega
/-- All numbers of the sequence lie from 1 to 64, and they are few. -/
theorem seqP_num {T : List Int} (h : BraOk T) : (∀ i, i < (seqP T).length → 1 ≤ gI (seqP T) i ∧ gI (seqP T) i ≤ 64) ∧ (seqP T).length ≤ 2100 := by
  by_cases h1 : T.length = 1
  · have e : seqP T = [1] := by unfold seqP; rw [if_pos h1]
    rw [e]
    refine ⟨fun i hi => ?_, by simp⟩
    simp at hi
    subst hi
    show 1 ≤ (1 : Int) ∧ (1 : Int) ≤ 64
    omega
  · have hp := h.len
    have e : seqP T = flat (pre T (T.length - 1)) := by unfold seqP; rw [if_neg h1]
    have ht := full_tl h 0
    have e2 : fullL T 0 = seqP T := by rw [e]; unfold fullL; simp
    rw [e2] at ht
    have hm := good_le _ ht.1 _ ht.2
    have hf := h.first
    have e3 : eI T 0 = gI T 0 := rfl
    rw [e3] at hm
    have hmem : ∀ i, i < (seqP T).length → 1 ≤ gI (seqP T) i ∧ gI (seqP T) i ≤ 64 := fun i hi => by
      have := hm _ (gI_mem hi); omega
    refine ⟨hmem, ?_⟩
    have hs := (pre_sum h (T.length - 1) (by omega)).1
    rw [← e] at hs
    have hsum : ∀ L : List Int, (∀ x, x ∈ L → 1 ≤ x) → (L.length : Int) ≤ L.sum := by
      intro L
      induction L with
      | nil => intro _; simp
      | cons x L ih =>
        intro hx
        have h2 := ih (fun y hy => hx y (by simp [hy]))
        have h3 := hx x (by simp)
        rw [List.length_cons, List.sum_cons]; omega
    have h4 := hsum _ (fun x hx => by have := hm x hx; omega)
    have h5 : lastV T (T.length - 1) = gI T (T.length - 1) := by unfold lastV; rw [if_neg (by omega)]
    have h6 := h.num (T.length - 1) (by omega)
    have h7 := h.last
    omega
theorem sumTo_cons (f : Int → Int) (x : Int) (xs : List Int) : ∀ n, sumTo (fun i => f (gI (x :: xs) i)) (n + 1) = f x + sumTo (fun i => f (gI xs i)) n := by
  intro n
  induction n with
  | zero => show 0 + f x = f x + 0; omega
  | succ n ih =>
    rw [sumTo_succ, ih, sumTo_succ]
    have e : gI (x :: xs) (n + 1) = gI xs n := rfl
    rw [e]; omega
theorem sumTo_map (f : Int → Int) : ∀ xs : List Int, sumTo (fun i => f (gI xs i)) xs.length = (xs.map f).sum := by
  intro xs
  induction xs with
  | nil => rfl
  | cons x xs ih => rw [List.length_cons, sumTo_cons, ih]; simp
theorem tri_two (x : Int) : 2 * tri x = x * (x - 1) := by
  unfold tri
  have h : (2 : Int) ∣ x * (x - 1) := by
    rcases (show x % 2 = 0 ∨ x % 2 = 1 by omega) with h | h
    · exact Int.dvd_trans (Int.dvd_of_emod_eq_zero h) (Int.dvd_mul_right _ _)
    · exact Int.dvd_trans (Int.dvd_of_emod_eq_zero (show (x - 1) % 2 = 0 by omega)) (Int.dvd_mul_left _ _)
  exact Int.mul_ediv_cancel' h
theorem delta_two (xs : List Int) : 2 * deltaL xs = sqL xs := by
  unfold deltaL sqL
  rw [← sumTo_map (fun m => m * (m - 1)) xs]
  generalize xs.length = n
  induction n with
  | zero => rfl
  | succ n ih => rw [sumTo_succ, sumTo_succ, Int.mul_add, ih, tri_two]

/-- The semigroup is symmetric. -/
theorem sumTo_sub (f g : Nat → Int) : ∀ n, sumTo (fun i => f i - g i) n = sumTo f n - sumTo g n := by
  intro n
  induction n with
  | zero => rfl
  | succ n ih => rw [sumTo_succ, sumTo_succ, sumTo_succ, ih]; omega
theorem low_sym {T : List Int} (h : BraOk T) (z : Int) : low T (conI T - 1 - z) = -gI T 0 - low T z := by
  have hp := h.len
  have hD := digA_ok h z
  let D : List Int := (List.range (T.length - 1)).map fun i => rI T (i + 1) - 1 - gI (digA T z) i
  have hDl : D.length = T.length - 1 := by simp [D]
  have hDi : ∀ i, i < T.length - 1 → gI D i = rI T (i + 1) - 1 - gI (digA T z) i := fun i hi => by
    rw [gI_lt (by rw [hDl]; exact hi)]; simp [D]
  have hT : TupOk T D (T.length - 1) := ⟨hDl, fun i hi => by rw [hDi i hi]; have := hD.2 i hi; omega⟩
  have hdv : eI T 0 ∣ -gI T 0 - low T z := Int.dvd_sub (Int.dvd_neg.2 (Int.dvd_refl _)) (low_dvd h z)
  have hs := (digs_tup h (T.length - 1) (by omega) D _ hT hdv).2
  have hsum : sumV T D (T.length - 1) = sumTo (fun i => (rI T (i + 1) - 1) * vI T (i + 1)) (T.length - 1) - sumV T (digA T z) (T.length - 1) := by
    unfold sumV
    rw [← sumTo_sub]
    refine sumTo_congr fun i hi => ?_
    rw [hDi i hi]; grind
  have hc := conTo_sum T (T.length - 1)
  have hl := lst_low T z
  unfold lst at hl
  have e : conI T - 1 - z = -gI T 0 - low T z + sumV T D (T.length - 1) := by
    unfold conI; rw [hsum, hc, hl]; omega
  unfold low at hs ⊢
  rw [e]
  unfold low
  exact hs
theorem val_sym {T : List Int} (h : BraOk T) (z : Int) : valB T (conI T - 1 - z) = !valB T z := by
  have h1 := low_sym h z
  have hn := h.num 0 h.len
  have hd := low_dvd h z
  have key : valB T z = true ↔ 0 ≤ low T z := (valB_iff h z).trans (val_iff h z)
  have key2 : valB T (conI T - 1 - z) = true ↔ 0 ≤ low T (conI T - 1 - z) := (valB_iff h _).trans (val_iff h _)
  rw [h1] at key2
  obtain ⟨q, hq⟩ := hd
  have hcase : 0 ≤ low T z ∨ low T z ≤ -gI T 0 := by
    rcases Int.lt_or_le q 0 with h2 | h2
    · right
      rw [hq]
      have := Int.mul_le_mul_of_nonneg_left (show q ≤ -1 by omega) (show 0 ≤ gI T 0 by omega)
      omega
    · left; rw [hq]; exact Int.mul_nonneg (by omega) h2
  cases c : valB T z
  · rcases hcase with h3 | h3
    · rw [key.2 h3] at c; cases c
    · rw [key2.2 (by omega)]; rfl
  · have h3 := key.1 c
    cases d : valB T (conI T - 1 - z)
    · rfl
    · have := key2.1 d; omega
/-- How many numbers below k have p. -/
def cntP (p : Nat → Bool) : Nat → Nat
  | 0 => 0
  | k + 1 => cntP p k + if p k = true then 1 else 0
theorem selTo_cnt (p : Nat → Bool) : ∀ k, (selTo p k).length = cntP p k := by
  intro k
  induction k with
  | zero => rfl
  | succ k ih =>
    cases h : p k
    · rw [selTo_no h, ih]; simp [cntP, h]
    · rw [selTo_yes h, List.length_append, ih]; simp [cntP, h]
theorem cntP_head (p : Nat → Bool) : ∀ k, cntP p (k + 1) = (if p 0 = true then 1 else 0) + cntP (fun i => p (i + 1)) k := by
  intro k
  induction k with
  | zero => simp [cntP]
  | succ k ih =>
    have e : cntP p (k + 1 + 1) = cntP p (k + 1) + if p (k + 1) = true then 1 else 0 := rfl
    rw [e, ih]
    simp only [cntP]; omega
theorem cntP_congr {p q : Nat → Bool} : ∀ k, (∀ i, i < k → p i = q i) → cntP p k = cntP q k := by
  intro k
  induction k with
  | zero => intro _; rfl
  | succ k ih => intro h; simp only [cntP]; rw [ih (fun i hi => h i (by omega)), h k (by omega)]
theorem cntP_turn : ∀ k (p : Nat → Bool), cntP (fun i => p (k - 1 - i)) k = cntP p k := by
  intro k
  induction k with
  | zero => intro p; rfl
  | succ k ih =>
    intro p
    rw [cntP_head]
    have e : cntP (fun i => p (k + 1 - 1 - (i + 1))) k = cntP (fun i => p (k - 1 - i)) k := cntP_congr k (fun i hi => by rw [show k + 1 - 1 - (i + 1) = k - 1 - i by omega])
    rw [e, ih p]
    simp only [cntP, Nat.add_sub_cancel, Nat.sub_zero]
    omega
theorem cntP_not (p : Nat → Bool) : ∀ k, cntP p k + cntP (fun i => !p i) k = k := by
  intro k
  induction k with
  | zero => rfl
  | succ k ih =>
    simp only [cntP]
    by_cases h : p k = true
    · rw [if_pos h, if_neg (by simp [h])]; omega
    · rw [if_neg h, if_pos (by simpa using h)]; omega
/-- There are as many gaps as half of the conductor. -/
theorem gaps_half {T : List Int} (h : BraOk T) {m : Nat} (hm : conI T = (m : Int)) : 2 * (selTo (fun v => !valB T (v : Int)) m).length = m := by
  rw [selTo_cnt]
  have h1 := cntP_turn m (fun v => !valB T (v : Int))
  have h2 := cntP_not (fun v => !valB T (v : Int)) m
  have h3 : cntP (fun i => !valB T ((m - 1 - i : Nat) : Int)) m = cntP (fun i => !!valB T (i : Int)) m := cntP_congr m (fun i hi => by
    have e : ((m - 1 - i : Nat) : Int) = conI T - 1 - (i : Int) := by omega
    rw [e, val_sym h])
  rw [h3] at h1
  omega
theorem gap_has {T : List Int} {m n : Nat} (hn : n < m) : hasB (selTo (fun v => !valB T (v : Int)) m) (n : Int) = !valB T (n : Int) := selTo_has _ _ n hn

/-- Generators and terms lead to each other. -/
theorem v_small {T : List Int} (h : BraOk T) {i : Nat} (hi : i < T.length) : 1 ≤ vI T i ∧ vI T i ≤ 200000 := by
  have h1 := (vI_bd h hi).1
  refine ⟨h1, ?_⟩
  cases i with
  | zero => rw [vI_zero]; have := h.num 0 hi; omega
  | succ i =>
    have hk := keS_eq i hi
    have he := eI_bd h i
    have hb : ∀ n, n < T.length → 0 ≤ keS T n ∧ keS T n ≤ 64 * lastV T n := by
      intro n
      induction n with
      | zero => intro _; simp [keS, lastV]
      | succ n ih =>
        intro hn
        have ih := ih (by omega)
        have h2 := kI_bd h hn
        have h3 := eI_bd h n
        have h4 := lastI T n
        have h5 := lastV_succ T n
        have h6 : kI T n * eI T n ≤ kI T n * 64 := Int.mul_le_mul_of_nonneg_left h3.2 (by omega)
        have h7 : 0 ≤ kI T n * eI T n := Int.mul_nonneg (by omega) (by omega)
        show 0 ≤ keS T n + kI T n * eI T n ∧ keS T n + kI T n * eI T n ≤ _
        rw [h5]; omega
    have h8 := hb (i + 1) hi
    rw [lastV_succ] at h8
    have h9 := h.num (i + 1) hi
    have h10 : 1 * vI T (i + 1) ≤ eI T i * vI T (i + 1) := Int.mul_le_mul_of_nonneg_right he.1 (by omega)
    omega
theorem eI_vTo (T : List Int) (n : Nat) : ∀ k, k < n → eI (vTo T n) k = eI T k := by
  intro k
  induction k with
  | zero => intro h; show gI (vTo T n) 0 = gI T 0; rw [gI_vTo h, vI_zero]
  | succ k ih =>
    intro h
    rw [eI_succ, ih (by omega), gI_vTo h, vI_gcd]
theorem tI_vTo (T : List Int) (n : Nat) : ∀ k, k < n → tI (vTo T n) k = gI T k ∧ (k + 1 < n → tI (vTo T n) (k + 1) = gI T (k + 1)) := by
  intro k
  induction k with
  | zero =>
    intro h
    refine ⟨by rw [tI_zero, gI_vTo h, vI_zero], fun h1 => ?_⟩
    show gI (vTo T n) 1 = _
    rw [gI_vTo h1, vI_one]
  | succ k ih =>
    intro h
    have h1 := (ih (by omega)).2 h
    refine ⟨h1, fun h2 => ?_⟩
    show tI (vTo T n) (k + 2) = gI T (k + 2)
    rw [tI_two, h1, gI_vTo h2, gI_vTo h, eI_vTo T n k (by omega), eI_vTo T n (k + 1) h, vI_two, ← rI_succ]
    omega
theorem bog_gens {T : List Int} (h : BraOk T) : bogC (vTo T T.length) = 0 ∧ bogB (vTo T T.length) = true ∧ tTo (vTo T T.length) (vTo T T.length).length = T := by
  have e : tTo (vTo T T.length) T.length = T := gI_ext (by simp) (fun i hi => by
    rw [tTo_len] at hi
    rw [gI_tTo hi, (tI_vTo T T.length i hi).1])
  have h1 : rgB (vTo T T.length) = true := rgB_iff.2 ⟨by have := h.len; simp; omega, by have := bra_len h; simp; omega, fun i hi => by
    rw [vTo_len] at hi
    rw [gI_vTo hi]
    have := v_small h hi; omega⟩
  have h2 : braB (tTo (vTo T T.length) (vTo T T.length).length) = true := by rw [vTo_len, e]; exact braB_iff.2 h
  exact ⟨(bog_ok h1 h2).2, (bog_ok h1 h2).1, by rw [vTo_len]; exact e⟩
theorem bog_zeroC {G : List Int} (h : bogC G = 0) : bogB G = true ∧ BraOk (tTo G G.length) := by
  cases c : rgB G
  · rw [(bog_range c).2] at h; simp at h
  · cases d : braB (tTo G G.length)
    · rw [(bog_state c d).2] at h; simp at h
    · exact ⟨(bog_ok c d).1, braB_iff.1 d⟩
theorem vTo_tTo {G : List Int} : vTo (tTo G G.length) G.length = G := by
  have key : ∀ k, k < G.length → vI (tTo G G.length) k = gI G k ∧ (k + 1 < G.length → vI (tTo G G.length) (k + 1) = gI G (k + 1)) := by
    intro k
    induction k with
    | zero =>
      intro h
      refine ⟨by rw [vI_zero, gI_tTo h, tI_zero], fun h1 => ?_⟩
      rw [vI_one, gI_tTo h1, tI_one]
    | succ k ih =>
      intro h
      have h1 := (ih (by omega)).2 h
      refine ⟨h1, fun h2 => ?_⟩
      show vI (tTo G G.length) (k + 2) = gI G (k + 2)
      rw [vI_two, h1, gI_tTo h2, gI_tTo h, rI_succ, eI_tTo G _ k (by omega), eI_tTo G _ (k + 1) h, tI_two]
      omega
  refine gI_ext (by simp) (fun i hi => ?_)
  rw [vTo_len] at hi
  rw [gI_vTo hi, (key i hi).1]
end Go.Proofs.Ytiinceflafigeaa
