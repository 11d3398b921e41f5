/- The sequence of multiplicities of a branch: the steps of Euclid's algorithm, and what stands behind each number. No program in sight. -/
import Derived.Test.YthpnmkghjnipoaaBraPure
import Derived.Test.YthpnmkghjnipoaaRowL
import Derived.Test.YthpnmkghjnipoaaRet
namespace Go.Proofs.Ythpnmkghjnipoaa

/-- The steps of a and b, at most n of them. -/
def stp : Nat → Int → Int → List (Int × Int)
  | 0, _, _ => []
  | n + 1, a, b => if 0 < b then (a / b, b) :: stp n b (a % b) else []
theorem stp_succ (n : Nat) (a b : Int) : stp (n + 1) a b = if 0 < b then (a / b, b) :: stp n b (a % b) else [] := rfl
theorem stp_fuel : ∀ n a b, b.toNat ≤ n → stp n a b = stp b.toNat a b := by
  intro n
  induction n using Nat.strongRecOn with
  | _ n ih =>
    intro a b h
    by_cases hb : 0 < b
    · obtain ⟨m, hm⟩ : ∃ m, b.toNat = m + 1 := ⟨b.toNat - 1, by omega⟩
      obtain ⟨n', rfl⟩ : ∃ n', n = n' + 1 := ⟨n - 1, by omega⟩
      have hr0 := Int.emod_nonneg a (show b ≠ 0 by omega)
      have hr1 := Int.emod_lt_of_pos a hb
      rw [hm, stp_succ, stp_succ, if_pos hb, if_pos hb, ih n' (by omega) _ _ (by omega), ih m (by omega) _ _ (by omega)]
    · have e : b.toNat = 0 := by omega
      rw [e]
      cases n with
      | zero => rfl
      | succ n => rw [stp_succ, if_neg hb]; rfl
/-- The steps of a and b. -/
def stB (a b : Int) : List (Int × Int) := stp b.toNat a b
theorem stB_pos {a b : Int} (h : 0 < b) : stB a b = (a / b, b) :: stB b (a % b) := by
  obtain ⟨m, hm⟩ : ∃ m, b.toNat = m + 1 := ⟨b.toNat - 1, by omega⟩
  have hr1 := Int.emod_lt_of_pos a h
  have hr0 := Int.emod_nonneg a (show b ≠ 0 by omega)
  unfold stB
  rw [hm, stp_succ, if_pos h, stp_fuel m _ _ (by omega)]
theorem stB_zero {a b : Int} (h : ¬ 0 < b) : stB a b = [] := by
  have e : b.toNat = 0 := by omega
  unfold stB
  rw [e]; rfl

/-- So many numbers as the step says. -/
def rep (s : Int × Int) : List Int := List.replicate s.1.toNat s.2
/-- The numbers of some steps. -/
def flat (R : List (Int × Int)) : List Int := R.flatMap rep
theorem flat_nil : flat [] = [] := rfl
theorem flat_cons (s : Int × Int) (R : List (Int × Int)) : flat (s :: R) = rep s ++ flat R := by simp [flat]
theorem flat_app (R R' : List (Int × Int)) : flat (R ++ R') = flat R ++ flat R' := by simp [flat]

/-- X may stand behind e. -/
def Beh (e : Int) (X : List Int) : Prop := ∀ r, X.head? = some r → 0 < r ∧ r ≤ e ∧ ∃ Z, X = List.replicate (e / r).toNat r ++ ((if e % r = 0 then [] else [e % r]) ++ Z)
/-- Each number of X has a list behind it that may stand there. -/
def Good (X : List Int) : Prop := ∀ A e Y, X = A ++ e :: Y → 0 < e ∧ Beh e Y
theorem good_nil : Good [] := fun A e Y h => by simp at h
theorem good_cons {e : Int} {X : List Int} (h0 : 0 < e) (h1 : Beh e X) (h2 : Good X) : Good (e :: X) := by
  intro A e' Y h
  cases A with
  | nil => injection h with a b; subst a; subst b; exact ⟨h0, h1⟩
  | cons a A => injection h with _ b; exact h2 A e' Y b
structure Tl (e : Int) (X : List Int) : Prop where
  good : Good X
  beh : Beh e X
theorem tl_nil (e : Int) : Tl e [] := ⟨good_nil, fun r h => by simp at h⟩
theorem tl_rep {b : Int} (hb : 0 < b) {Y : List Int} (h : Tl b Y) : ∀ n, Tl b (List.replicate n b ++ Y) := by
  intro n
  induction n with
  | zero => exact h
  | succ n ih =>
    rw [List.replicate_succ, List.cons_append]
    refine ⟨good_cons hb ih.beh ih.good, fun r hr => ?_⟩
    simp at hr
    subst hr
    exact ⟨hb, Int.le_refl _, List.replicate n b ++ Y, by rw [Int.ediv_self (by omega), Int.emod_self]; rfl⟩
theorem div_one_le {a b : Int} (hb : 0 < b) (h : b ≤ a) : 1 ≤ a / b := by
  apply (Int.le_ediv_iff_mul_le hb).2
  omega
theorem gcdI_dvd_self {a b : Int} (hb : 0 < b) (h : a % b = 0) : gcdI a b = b := by
  have h1 : b ∣ a := Int.dvd_of_emod_eq_zero h
  unfold gcdI
  have h2 : b.natAbs ∣ a.natAbs := Int.natAbs_dvd_natAbs.2 h1
  rw [Nat.gcd_eq_right h2]
  omega
theorem tl_steps : ∀ n : Nat, ∀ a b : Int, b.toNat ≤ n → 0 < b → 0 ≤ a → ∀ Y, Tl (gcdI a b) Y → Tl b (flat (stB a b) ++ Y) := by
  intro n
  induction n with
  | zero => intro a b h hb; omega
  | succ n ih =>
    intro a b h hb ha Y hY
    rw [stB_pos hb, flat_cons, List.append_assoc]
    refine tl_rep hb ?_ _
    have hr0 := Int.emod_nonneg a (show b ≠ 0 by omega)
    have hr1 := Int.emod_lt_of_pos a hb
    by_cases hz : a % b = 0
    · rw [gcdI_dvd_self hb hz] at hY
      rw [stB_zero (by omega)]
      exact hY
    · have hr : 0 < a % b := by omega
      have hg : gcdI b (a % b) = gcdI a b := gcdI_step _ a b ha hb rfl
      have h1 := ih b (a % b) (by omega) hr (by omega) Y (by rw [hg]; exact hY)
      refine ⟨h1.good, fun r0 hr0' => ?_⟩
      generalize a % b = r at *
      have hq := div_one_le hr (show r ≤ b by omega)
      have hqn : (b / r).toNat = ((b / r).toNat - 1) + 1 := by omega
      have hs0 := Int.emod_nonneg b (show r ≠ 0 by omega)
      have hs1 := Int.emod_lt_of_pos b hr
      have er : r0 = r := by
        rw [stB_pos hr, flat_cons] at hr0'
        simp only [rep] at hr0'
        rw [hqn, List.replicate_succ] at hr0'
        simp at hr0'
        exact hr0'.symm
      subst er
      refine ⟨hr, by omega, ?_⟩
      rw [stB_pos hr, flat_cons]
      by_cases hs : b % r0 = 0
      · rw [if_pos hs]
        exact ⟨flat (stB r0 (b % r0)) ++ Y, by simp [rep]⟩
      · rw [if_neg hs]
        have hsp : 0 < b % r0 := by omega
        have hq2 := div_one_le hsp (show b % r0 ≤ r0 by omega)
        have hqn2 : (r0 / (b % r0)).toNat = ((r0 / (b % r0)).toNat - 1) + 1 := by omega
        rw [stB_pos hsp, flat_cons]
        simp only [rep]
        rw [hqn2, List.replicate_succ]
        exact ⟨List.replicate ((r0 / (b % r0)).toNat - 1) (b % r0) ++ (flat (stB (b % r0) (r0 % (b % r0))) ++ Y), by simp⟩

/-- What the run i + 1 begins with. -/
def kI (T : List Int) : Nat → Int
  | 0 => gI T 1
  | i + 1 => gI T (i + 2) - gI T (i + 1)
/-- The steps of the first n runs. -/
def pre (T : List Int) : Nat → List (Int × Int)
  | 0 => []
  | n + 1 => pre T n ++ stB (kI T n) (eI T n)
theorem pre_succ (T : List Int) (n : Nat) : pre T (n + 1) = pre T n ++ stB (kI T n) (eI T n) := rfl
theorem gcdI_sym (x y : Int) : gcdI x y = gcdI y x := by unfold gcdI; rw [Nat.gcd_comm]
theorem gcdI_sub {e x y : Int} (h : e ∣ y) : gcdI (x - y) e = gcdI e x := by
  have key : ∀ p q : Int, e ∣ p - q → gcdI p e ∣ gcdI q e := by
    intro p q hd
    have h1 := gcdI_dvd_left p e
    have h2 := gcdI_dvd_right p e
    have h3 : gcdI p e ∣ q := by
      have h4 := Int.dvd_sub h1 (Int.dvd_trans h2 hd)
      rwa [show p - (p - q) = q by omega] at h4
    have h5 : (gcdI p e).natAbs ∣ Nat.gcd q.natAbs e.natAbs := Nat.dvd_gcd (Int.natAbs_dvd_natAbs.2 h3) (Int.natAbs_dvd_natAbs.2 h2)
    exact Int.natAbs_dvd.1 (Int.natCast_dvd_natCast.2 h5)
  rw [gcdI_sym e x]
  have a1 := key (x - y) x (by rw [show x - y - x = -y by omega]; exact Int.dvd_neg.2 h)
  have a2 := key x (x - y) (by rw [show x - (x - y) = y by omega]; exact h)
  exact Int.dvd_antisymm (gcdI_nn _ _) (gcdI_nn _ _) a1 a2
theorem kI_gcd (T : List Int) (n : Nat) : gcdI (kI T n) (eI T n) = eI T (n + 1) := by
  cases n with
  | zero => rw [eI_succ, gcdI_sym]; rfl
  | succ n => exact gcdI_sub (eI_dvd_term T (n + 1))
theorem kI_bd {T : List Int} (h : BraOk T) {n : Nat} (hn : n + 1 < T.length) : 1 ≤ kI T n ∧ kI T n ≤ 2000 := by
  cases n with
  | zero => exact h.num 1 hn
  | succ n =>
    have h1 : gI T (n + 1) < gI T (n + 2) := h.asc (n + 1) hn
    have h2 := h.num (n + 2) hn
    have h3 := h.num (n + 1) (by omega)
    show 1 ≤ gI T (n + 2) - gI T (n + 1) ∧ gI T (n + 2) - gI T (n + 1) ≤ 2000
    omega
theorem tl_pre {T : List Int} (h : BraOk T) : ∀ n, n < T.length → ∀ Y, Tl (eI T n) Y → Tl (eI T 0) (flat (pre T n) ++ Y) := by
  intro n
  induction n with
  | zero => intro _ Y hY; exact hY
  | succ n ih =>
    intro hn Y hY
    rw [pre_succ, flat_app, List.append_assoc]
    refine ih (by omega) _ ?_
    have h1 := eI_bd h n
    have h2 := kI_bd h hn
    exact tl_steps _ _ _ (Nat.le_refl _) (by omega) (by omega) Y (by rw [kI_gcd]; exact hY)

/-- The sequence with k more ones. -/
def fullL (T : List Int) (k : Nat) : List Int := flat (pre T (T.length - 1)) ++ List.replicate k 1
/-- The first k numbers of the sequence. -/
def seqL (T : List Int) (k : Nat) : List Int := (fullL T k).take k
@[simp] theorem seqL_len (T : List Int) (k : Nat) : (seqL T k).length = k := by simp [seqL, fullL]
theorem gI_seqL {T : List Int} {k i : Nat} (h : i < k) : gI (seqL T k) i = gI (fullL T k) i := gI_take h
theorem full_tl {T : List Int} (h : BraOk T) (k : Nat) : Tl (eI T 0) (fullL T k) := by
  have hl := h.len
  refine tl_pre h _ (by omega) _ ?_
  rw [h.last]
  have := tl_rep (b := 1) (by omega) (tl_nil 1) k
  rwa [List.append_nil] at this
theorem good_le : ∀ X : List Int, Good X → ∀ e, Beh e X → ∀ x, x ∈ X → 0 < x ∧ x ≤ e := by
  intro X
  induction X with
  | nil => intro _ e _ x hx; simp at hx
  | cons y X ih =>
    intro hg e hb x hx
    have h1 := hb y rfl
    have h2 := hg [] y X rfl
    rcases List.mem_cons.1 hx with rfl | hx
    · exact ⟨h1.1, h1.2.1⟩
    · have := ih (fun A e' Y he => hg (y :: A) e' Y (by rw [he]; rfl)) y h2.2 x hx
      omega
theorem split_at {X : List Int} {i : Nat} (h : i < X.length) : X = X.take i ++ gI X i :: X.drop (i + 1) := by
  rw [gI_lt h, List.getElem_cons_drop, List.take_append_drop]

/-- The sum of the numbers i + 1, .., j. -/
def psum (M : List Int) (i j : Nat) : Int := sumTo (fun t => gI M (i + 1 + t)) (j - i)
/-- What the sequences of multiplicities have. -/
structure Eu (M : List Int) : Prop where
  pos : ∀ i, i < M.length → 1 ≤ gI M i ∧ gI M i ≤ 64
  down : ∀ i, i + 1 < M.length → gI M (i + 1) ≤ gI M i
  near : ∀ i j, i < j → j < M.length → psum M i j ≤ gI M i → ∀ t, i < t → t < j → gI M t = gI M (i + 1)
theorem sumTo_mono {f : Nat → Int} {n m : Nat} (h : n ≤ m) (hf : ∀ i, i < m → 0 ≤ f i) : sumTo f n ≤ sumTo f m := by
  induction m with
  | zero => have : n = 0 := by omega
            subst this; exact Int.le_refl _
  | succ m ih =>
    by_cases e : n = m + 1
    · subst e; exact Int.le_refl _
    · have h1 := ih (by omega) (fun i hi => hf i (by omega))
      have h2 := hf m (by omega)
      rw [sumTo_succ]; omega
theorem sumTo_const {f : Nat → Int} {n : Nat} {c : Int} (h : ∀ i, i < n → f i = c) : sumTo f n = n * c := by
  have := sumTo_bound (f := f) (n := n) c c (fun i hi => by have := h i hi; omega)
  omega
theorem gI_app_ge {xs ys : List Int} {i : Nat} (h : xs.length ≤ i) : gI (xs ++ ys) i = gI ys (i - xs.length) := by simp [gI, List.getD, List.getElem?_append_right h]
theorem gI_cons_zero (x : Int) (xs : List Int) : gI (x :: xs) 0 = x := rfl
theorem near_good {L : List Int} (hg : Good L) {i j : Nat} (hij : i < j) (hj : j < L.length) (hs : psum L i j ≤ gI L i) : ∀ t, i < t → t < j → gI L t = gI L (i + 1) := by
  intro t ht1 ht2
  have hsp := split_at (X := L) (i := i) (by omega)
  obtain ⟨he, hb⟩ := hg _ _ _ hsp
  have hpos : ∀ x, x < L.length → 0 < gI L x := fun x hx => (hg _ _ _ (split_at hx)).1
  have hX : ∀ x, gI (L.drop (i + 1)) x = gI L (i + 1 + x) := fun x => gI_drop
  have hhd : (L.drop (i + 1)).head? = some (gI L (i + 1)) := by
    rw [List.head?_drop]
    exact gI_some (by omega)
  obtain ⟨hr0, hre, Z, hZ⟩ := hb _ hhd
  generalize hr : gI L (i + 1) = r at *
  generalize hee : gI L i = e at *
  generalize hq : (e / r).toNat = q at *
  have hq1 := div_one_le hr0 hre
  have hdm := Int.emod_add_mul_ediv e r
  have hqr : (q : Int) * r = r * (e / r) := by rw [show (q : Int) = e / r by omega, Int.mul_comm]
  have hrm := Int.emod_nonneg e (show r ≠ 0 by omega)
  have hfront : ∀ x, x < q → gI L (i + 1 + x) = r := by
    intro x hx
    rw [← hX, hZ, gI_app_lt (by simpa using hx), gI_rep hx]
  by_cases hle : j - i ≤ q + 1
  · have := hfront (t - (i + 1)) (by omega)
    rwa [show i + 1 + (t - (i + 1)) = t by omega] at this
  · exfalso
    unfold psum at hs
    have hm := sumTo_mono (f := fun t => gI L (i + 1 + t)) (n := q + 2) (m := j - i) (by omega) (fun x hx => Int.le_of_lt (hpos _ (by omega)))
    rw [sumTo_succ, sumTo_succ, sumTo_const (c := r) hfront] at hm
    have p1 := hpos (i + 1 + q) (by omega)
    have p2 := hpos (i + 1 + (q + 1)) (by omega)
    by_cases hz : e % r = 0
    · omega
    · have : gI L (i + 1 + q) = e % r := by
        rw [← hX, hZ, gI_app_ge (by simp), if_neg hz]
        simp [gI]
      omega
theorem eu_seq {T : List Int} (h : BraOk T) (k : Nat) : Eu (seqL T k) := by
  have ht := full_tl h k
  have hlen : k ≤ (fullL T k).length := by simp [fullL]
  have hb := good_le _ ht.good _ ht.beh
  have h64 : eI T 0 ≤ 64 := (eI_bd h 0).2
  refine ⟨fun i hi => ?_, fun i hi => ?_, fun i j hij hj hs t ht1 ht2 => ?_⟩
  · rw [seqL_len] at hi
    rw [gI_seqL hi]
    have := hb _ (gI_mem (by omega : i < (fullL T k).length))
    omega
  · rw [seqL_len] at hi
    rw [gI_seqL hi, gI_seqL (by omega)]
    have h1 := (ht.good _ _ _ (split_at (by omega : i < (fullL T k).length))).2
    have h2 := h1 (gI (fullL T k) (i + 1)) (by rw [List.head?_drop]; exact gI_some (by omega))
    exact h2.2.1
  · rw [seqL_len] at hj
    have e : psum (seqL T k) i j = psum (fullL T k) i j := sumTo_congr fun x hx => gI_seqL (by omega)
    rw [e, gI_seqL (by omega)] at hs
    rw [gI_seqL (by omega), gI_seqL (by omega)]
    exact near_good ht.good hij (by omega) hs t ht1 ht2
end Go.Proofs.Ythpnmkghjnipoaa
