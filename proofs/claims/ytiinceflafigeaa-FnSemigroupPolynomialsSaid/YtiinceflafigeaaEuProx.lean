/- The sequence of multiplicities of a branch: the steps of Euclid's algorithm, and what stands behind each number. No program in sight. -/
import Derived.Test.YtiinceflafigeaaBraPure
import Derived.Test.YtiinceflafigeaaRowL
import Derived.Test.YtiinceflafigeaaOrdPure
namespace Go.Proofs.Ytiinceflafigeaa

/-- The steps of a and b, at most n of them. -/
def stp : Nat → Int → Int → List (Int × Int)
  | 0, _, _ => []
  | n + 1, a, b => if 0 < b then (a / b, b) :: stp n b (a % b) else []
theorem stp_succ (n : Nat) (a b : Int) : stp (n + 1) a b = if 0 < b then (a / b, b) :: stp n b (a % b) else [] := rfl
theorem stp_fuel : ∀ n a b, b.toNat ≤ n → stp n a b = stp b.toNat a b := by
  intro n
  induction n using Nat.strongRecOn with
  | _ n ih =>
    intro a b h
    by_cases hb : 0 < b
    · obtain ⟨m, hm⟩ : ∃ m, b.toNat = m + 1 := ⟨b.toNat - 1, by omega⟩
      obtain ⟨n', rfl⟩ : ∃ n', n = n' + 1 := ⟨n - 1, by omega⟩
      have hr0 := Int.emod_nonneg a (show b ≠ 0 by omega)
      have hr1 := Int.emod_lt_of_pos a hb
      rw [hm, stp_succ, stp_succ, if_pos hb, if_pos hb, ih n' (by omega) _ _ (by omega), ih m (by omega) _ _ (by omega)]
    · have e : b.toNat = 0 := by omega
      rw [e]
      cases n with
      | zero => rfl
      | succ n => rw [stp_succ, if_neg hb]; rfl
/-- The steps of a and b. -/
def stB (a b : Int) : List (Int × Int) := stp b.toNat a b
theorem stB_pos {a b : Int} (h : 0 < b) : stB a b = (a / b, b) :: stB b (a % b) := by
  obtain ⟨m, hm⟩ : ∃ m, b.toNat = m + 1 := ⟨b.toNat - 1, by omega⟩
  have hr1 := Int.emod_lt_of_pos a h
  have hr0 := Int.emod_nonneg a (show b ≠ 0 by omega)
  unfold stB
  rw [hm, stp_succ, if_pos h, stp_fuel m _ _ (by omega)]
theorem stB_zero {a b : Int} (h : ¬ 0 < b) : stB a b = [] := by
  have e : b.toNat = 0 := by omega
  unfold stB
  rw [e]; rfl

/-- So many numbers as the step says. -/
def rep (s : Int × Int) : List Int := List.replicate s.1.toNat s.2
/-- The numbers of some steps. -/
def flat (R : List (Int × Int)) : List Int := R.flatMap rep
theorem flat_nil : flat [] = [] := rfl
theorem flat_cons (s : Int × Int) (R : List (Int × Int)) : flat (s :: R) = rep s ++ flat R := by simp [flat]
theorem flat_app (R R' : List (Int × Int)) : flat (R ++ R') = flat R ++ flat R' := by simp [flat]

/-- X may stand behind e. -/
def Beh (e : Int) (X : List Int) : Prop := ∀ r, X.head? = some r → 0 < r ∧ r ≤ e ∧ ∃ Z, X = List.replicate (e / r).toNat r ++ ((if e % r = 0 then [] else [e % r]) ++ Z)
/-- Each number of X has a list behind it that may stand there. -/
def GoodM (X : List Int) : Prop := ∀ A e Y, X = A ++ e :: Y → 0 < e ∧ Beh e Y
theorem good_nil : GoodM [] := fun A e Y h => by simp at h
theorem good_cons {e : Int} {X : List Int} (h0 : 0 < e) (h1 : Beh e X) (h2 : GoodM X) : GoodM (e :: X) := by
  intro A e' Y h
  cases A with
  | nil => injection h with a b; subst a; subst b; exact ⟨h0, h1⟩
  | cons a A => injection h with _ b; exact h2 A e' Y b
structure Tl (e : Int) (X : List Int) : Prop where
  good : GoodM X
  beh : Beh e X
theorem tl_nil (e : Int) : Tl e [] := ⟨good_nil, fun r h => by simp at h⟩
theorem tl_rep {b : Int} (hb : 0 < b) {Y : List Int} (h : Tl b Y) : ∀ n, Tl b (List.replicate n b ++ Y) := by
  intro n
  induction n with
  | zero => exact h
  | succ n ih =>
    rw [List.replicate_succ, List.cons_append]
    refine ⟨good_cons hb ih.beh ih.good, fun r hr => ?_⟩
    simp at hr
    subst hr
    exact ⟨hb, Int.le_refl _, List.replicate n b ++ Y, by rw [Int.ediv_self (by omega), Int.emod_self]; rfl⟩
theorem div_one_le {a b : Int} (hb : 0 < b) (h : b ≤ a) : 1 ≤ a / b := by
  apply (Int.le_ediv_iff_mul_le hb).2
  omega
theorem gcdI_dvd_self {a b : Int} (hb : 0 < b) (h : a % b = 0) : gcdI a b = b := by
  have h1 : b ∣ a := Int.dvd_of_emod_eq_zero h
  unfold gcdI
  have h2 : b.natAbs ∣ a.natAbs := Int.natAbs_dvd_natAbs.2 h1
  rw [Nat.gcd_eq_right h2]
  omega
theorem tl_steps : ∀ n : Nat, ∀ a b : Int, b.toNat ≤ n → 0 < b → 0 ≤ a → ∀ Y, Tl (gcdI a b) Y → Tl b (flat (stB a b) ++ Y) := by
  intro n
  induction n with
  | zero => intro a b h hb; omega
  | succ n ih =>
    intro a b h hb ha Y hY
    rw [stB_pos hb, flat_cons, List.append_assoc]
    refine tl_rep hb ?_ _
    have hr0 := Int.emod_nonneg a (show b ≠ 0 by omega)
    have hr1 := Int.emod_lt_of_pos a hb
    by_cases hz : a % b = 0
    · rw [gcdI_dvd_self hb hz] at hY
      rw [stB_zero (by omega)]
      exact hY
    · have hr : 0 < a % b := by omega
      have hg : gcdI b (a % b) = gcdI a b := gcdI_step _ a b ha hb rfl
      have h1 := ih b (a % b) (by omega) hr (by omega) Y (by rw [hg]; exact hY)
      refine ⟨h1.good, fun r0 hr0' => ?_⟩
      generalize a % b = r at *
      have hq := div_one_le hr (show r ≤ b by omega)
      have hqn : (b / r).toNat = ((b / r).toNat - 1) + 1 := by omega
      have hs0 := Int.emod_nonneg b (show r ≠ 0 by omega)
      have hs1 := Int.emod_lt_of_pos b hr
      have er : r0 = r := by
        rw [stB_pos hr, flat_cons] at hr0'
        simp only [rep] at hr0'
        rw [hqn, List.replicate_succ] at hr0'
        simp at hr0'
        exact hr0'.symm
      subst er
      refine ⟨hr, by omega, ?_⟩
      rw [stB_pos hr, flat_cons]
      by_cases hs : b % r0 = 0
      · rw [if_pos hs]
        exact ⟨flat (stB r0 (b % r0)) ++ Y, by simp [rep]⟩
      · rw [if_neg hs]
        have hsp : 0 < b % r0 := by omega
        have hq2 := div_one_le hsp (show b % r0 ≤ r0 by omega)
        have hqn2 : (r0 / (b % r0)).toNat = ((r0 / (b % r0)).toNat - 1) + 1 := by omega
        rw [stB_pos hsp, flat_cons]
        simp only [rep]
        rw [hqn2, List.replicate_succ]
        exact ⟨List.replicate ((r0 / (b % r0)).toNat - 1) (b % r0) ++ (flat (stB (b % r0) (r0 % (b % r0))) ++ Y), by simp⟩

/-- What the run i + 1 begins with. -/
def kI (T : List Int) : Nat → Int
  | 0 => gI T 1
  | i + 1 => gI T (i + 2) - gI T (i + 1)
/-- The steps of the first n runs. -/
def pre (T : List Int) : Nat → List (Int × Int)
  | 0 => []
  | n + 1 => pre T n ++ stB (kI T n) (eI T n)
theorem pre_succ (T : List Int) (n : Nat) : pre T (n + 1) = pre T n ++ stB (kI T n) (eI T n) := rfl
theorem gcdI_sym (x y : Int) : gcdI x y = gcdI y x := by unfold gcdI; rw [Nat.gcd_comm]
theorem gcdI_sub {e x y : Int} (h : e ∣ y) : gcdI (x - y) e = gcdI e x := by
  have key : ∀ p q : Int, e ∣ p - q → gcdI p e ∣ gcdI q e := by
    intro p q hd
    have h1 := gcdI_dvd_left p e
    have h2 := gcdI_dvd_right p e
    have h3 : gcdI p e ∣ q := by
      have h4 := Int.dvd_sub h1 (Int.dvd_trans h2 hd)
      rwa [show p - (p - q) = q by omega] at h4
    have h5 : (gcdI p e).natAbs ∣ Nat.gcd q.natAbs e.natAbs := Nat.dvd_gcd (Int.natAbs_dvd_natAbs.2 h3) (Int.natAbs_dvd_natAbs.2 h2)
    exact Int.natAbs_dvd.1 (Int.natCast_dvd_natCast.2 h5)
  rw [gcdI_sym e x]
  have a1 := key (x - y) x (by rw [show x - y - x = -y by omega]; exact Int.dvd_neg.2 h)
  have a2 := key x (x - y) (by rw [show x - (x - y) = y by omega]; exact h)
  exact Int.dvd_antisymm (gcdI_nn _ _) (gcdI_nn _ _) a1 a2
theorem kI_gcd (T : List Int) (n : Nat) : gcdI (kI T n) (eI T n) = eI T (n + 1) := by
  cases n with
  | zero => rw [eI_succ, gcdI_sym]; rfl
  | succ n => exact gcdI_sub (eI_dvd_term T (n + 1))
theorem kI_bd {T : List Int} (h : BraOk T) {n : Nat} (hn : n + 1 < T.length) : 1 ≤ kI T n ∧ kI T n ≤ 2000 := by
  cases n with
  | zero => exact h.num 1 hn
  | succ n =>
    have h1 : gI T (n + 1) < gI T (n + 2) := h.asc (n + 1) hn
    have h2 := h.num (n + 2) hn
    have h3 := h.num (n + 1) (by omega)
    show 1 ≤ gI T (n + 2) - gI T (n + 1) ∧ gI T (n + 2) - gI T (n + 1) ≤ 2000
    omega
theorem tl_pre {T : List Int} (h : BraOk T) : ∀ n, n < T.length → ∀ Y, Tl (eI T n) Y → Tl (eI T 0) (flat (pre T n) ++ Y) := by
  intro n
  induction n with
  | zero => intro _ Y hY; exact hY
  | succ n ih =>
    intro hn Y hY
    rw [pre_succ, flat_app, List.append_assoc]
    refine ih (by omega) _ ?_
    have h1 := eI_bd h n
    have h2 := kI_bd h hn
    exact tl_steps _ _ _ (Nat.le_refl _) (by omega) (by omega) Y (by rw [kI_gcd]; exact hY)

/-- The sequence with k more ones. -/
def fullL (T : List Int) (k : Nat) : List Int := flat (pre T (T.length - 1)) ++ List.replicate k 1
/-- The first k numbers of the sequence. -/
def seqL (T : List Int) (k : Nat) : List Int := (fullL T k).take k
@[simp] theorem seqL_len (T : List Int) (k : Nat) : (seqL T k).length = k := by simp [seqL, fullL]
theorem gI_seqL {T : List Int} {k i : Nat} (h : i < k) : gI (seqL T k) i = gI (fullL T k) i := gI_take h
theorem full_tl {T : List Int} (h : BraOk T) (k : Nat) : Tl (eI T 0) (fullL T k) := by
  have hl := h.len
  refine tl_pre h _ (by omega) _ ?_
  rw [h.last]
  have := tl_rep (b := 1) (by omega) (tl_nil 1) k
  rwa [List.append_nil] at this
theorem good_le : ∀ X : List Int, GoodM X → ∀ e, Beh e X → ∀ x, x ∈ X → 0 < x ∧ x ≤ e := by
  intro X
  induction X with
  | nil => intro _ e _ x hx; simp at hx
  | cons y X ih =>
    intro hg e hb x hx
    have h1 := hb y rfl
    have h2 := hg [] y X rfl
    rcases List.mem_cons.1 hx with rfl | hx
    · exact ⟨h1.1, h1.2.1⟩
    · have := ih (fun A e' Y he => hg (y :: A) e' Y (by rw [he]; rfl)) y h2.2 x hx
      omega
theorem split_at {X : List Int} {i : Nat} (h : i < X.length) : X = X.take i ++ gI X i :: X.drop (i + 1) := by
  rw [gI_lt h, List.getElem_cons_drop, List.take_append_drop]

/-- The sum of the numbers i + 1, .., j. -/
def psum (M : List Int) (i j : Nat) : Int := sumTo (fun t => gI M (i + 1 + t)) (j - i)
/-- What the sequences of multiplicities have. -/
structure Eu (M : List Int) : Prop where
  pos : ∀ i, i < M.length → 1 ≤ gI M i ∧ gI M i ≤ 64
  down : ∀ i, i + 1 < M.length → gI M (i + 1) ≤ gI M i
  near : ∀ i j, i < j → j < M.length → psum M i j ≤ gI M i → ∀ t, i < t → t < j → gI M t = gI M (i + 1)
theorem sumTo_mono {f : Nat → Int} {n m : Nat} (h : n ≤ m) (hf : ∀ i, i < m → 0 ≤ f i) : sumTo f n ≤ sumTo f m := by
  induction m with
  | zero => have : n = 0 := by omega
            subst this; exact Int.le_refl _
  | succ m ih =>
    by_cases e : n = m + 1
    · subst e; exact Int.le_refl _
    · have h1 := ih (by omega) (fun i hi => hf i (by omega))
      have h2 := hf m (by omega)
      rw [sumTo_succ]; omega
theorem sumTo_const {f : Nat → Int} {n : Nat} {c : Int} (h : ∀ i, i < n → f i = c) : sumTo f n = n * c := by
  have := sumTo_bound (f := f) (n := n) c c (fun i hi => by have := h i hi; omega)
  omega
theorem gI_app_ge {xs ys : List Int} {i : Nat} (h : xs.length ≤ i) : gI (xs ++ ys) i = gI ys (i - xs.length) := by simp [gI, List.getD, List.getElem?_append_right h]
theorem gI_cons_zero (x : Int) (xs : List Int) : gI (x :: xs) 0 = x := rfl
theorem near_good {L : List Int} (hg : GoodM L) {i j : Nat} (hij : i < j) (hj : j < L.length) (hs : psum L i j ≤ gI L i) : ∀ t, i < t → t < j → gI L t = gI L (i + 1) := by
  intro t ht1 ht2
  have hsp := split_at (X := L) (i := i) (by omega)
  obtain ⟨he, hb⟩ := hg _ _ _ hsp
  have hpos : ∀ x, x < L.length → 0 < gI L x := fun x hx => (hg _ _ _ (split_at hx)).1
  have hX : ∀ x, gI (L.drop (i + 1)) x = gI L (i + 1 + x) := fun x => gI_drop
  have hhd : (L.drop (i + 1)).head? = some (gI L (i + 1)) := by
    rw [List.head?_drop]
    exact gI_some (by omega)
  obtain ⟨hr0, hre, Z, hZ⟩ := hb _ hhd
  generalize hr : gI L (i + 1) = r at *
  generalize hee : gI L i = e at *
  generalize hq : (e / r).toNat = q at *
  have hq1 := div_one_le hr0 hre
  have hdm := Int.emod_add_mul_ediv e r
  have hqr : (q : Int) * r = r * (e / r) := by rw [show (q : Int) = e / r by omega, Int.mul_comm]
  have hrm := Int.emod_nonneg e (show r ≠ 0 by omega)
  have hfront : ∀ x, x < q → gI L (i + 1 + x) = r := by
    intro x hx
    rw [← hX, hZ, gI_app_lt (by simpa using hx), gI_rep hx]
  by_cases hle : j - i ≤ q + 1
  · have := hfront (t - (i + 1)) (by omega)
    rwa [show i + 1 + (t - (i + 1)) = t by omega] at this
  · exfalso
    unfold psum at hs
    have hm := sumTo_mono (f := fun t => gI L (i + 1 + t)) (n := q + 2) (m := j - i) (by omega) (fun x hx => Int.le_of_lt (hpos _ (by omega)))
    rw [sumTo_succ, sumTo_succ, sumTo_const (c := r) hfront] at hm
    have p1 := hpos (i + 1 + q) (by omega)
    have p2 := hpos (i + 1 + (q + 1)) (by omega)
    by_cases hz : e % r = 0
    · omega
    · have : gI L (i + 1 + q) = e % r := by
        rw [← hX, hZ, gI_app_ge (by simp), if_neg hz]
        simp [gI]
      omega
theorem eu_seq {T : List Int} (h : BraOk T) (k : Nat) : Eu (seqL T k) := by
  have ht := full_tl h k
  have hlen : k ≤ (fullL T k).length := by simp [fullL]
  have hb := good_le _ ht.good _ ht.beh
  have h64 : eI T 0 ≤ 64 := (eI_bd h 0).2
  refine ⟨fun i hi => ?_, fun i hi => ?_, fun i j hij hj hs t ht1 ht2 => ?_⟩
  · rw [seqL_len] at hi
    rw [gI_seqL hi]
    have := hb _ (gI_mem (by omega : i < (fullL T k).length))
    omega
  · rw [seqL_len] at hi
    rw [gI_seqL hi, gI_seqL (by omega)]
    have h1 := (ht.good _ _ _ (split_at (by omega : i < (fullL T k).length))).2
    have h2 := h1 (gI (fullL T k) (i + 1)) (by rw [List.head?_drop]; exact gI_some (by omega))
    exact h2.2.1
  · rw [seqL_len] at hj
    have e : psum (seqL T k) i j = psum (fullL T k) i j := sumTo_congr fun x hx => gI_seqL (by omega)
    rw [e, gI_seqL (by omega)] at hs
    rw [gI_seqL (by omega), gI_seqL (by omega)]
    exact near_good ht.good hij (by omega) hs t ht1 ht2
end Go.Proofs.Ytiinceflafigeaa

/- Which points of a sequence of multiplicities are proximate to which; their orders. No program in sight. -/
namespace Go.Proofs.Ytiinceflafigeaa

/-- The point j is proximate to the point i. -/
def pB (M : List Int) (i j : Nat) : Bool := decide (i < j ∧ psum M i j ≤ gI M i)
theorem pB_iff {M : List Int} {i j : Nat} : pB M i j = true ↔ i < j ∧ psum M i j ≤ gI M i := by simp [pB]
theorem pB_no {M : List Int} {i j : Nat} (h : ¬ (i < j ∧ psum M i j ≤ gI M i)) : pB M i j = false := by
  cases c : pB M i j
  · rfl
  · exact absurd (pB_iff.1 c) h
theorem psum_self (M : List Int) (i : Nat) : psum M i i = 0 := by unfold psum; rw [Nat.sub_self]; rfl
theorem psum_succ (M : List Int) {i j : Nat} (h : i ≤ j) : psum M i (j + 1) = psum M i j + gI M (j + 1) := by
  unfold psum
  rw [show j + 1 - i = (j - i) + 1 by omega, sumTo_succ, show i + 1 + (j - i) = j + 1 by omega]
theorem psum_mono {M : List Int} (h : Eu M) {i j j' : Nat} (hj : j < M.length) (hi : i ≤ j') (hle : j' ≤ j) : psum M i j' ≤ psum M i j := by
  unfold psum
  exact sumTo_mono (by omega) (fun x hx => by have := (h.pos (i + 1 + x) (by omega)).1; omega)
theorem pB_down {M : List Int} (h : Eu M) {i j j' : Nat} (hj : j < M.length) (hi : i < j') (hle : j' ≤ j) (hp : pB M i j = true) : pB M i j' = true := by
  have h1 := pB_iff.1 hp
  have h2 := psum_mono h hj (by omega : i ≤ j') hle
  exact pB_iff.2 ⟨hi, by omega⟩
theorem pB_prev {M : List Int} (h : Eu M) {j : Nat} (hj : j + 1 < M.length) : pB M j (j + 1) = true := by
  refine pB_iff.2 ⟨by omega, ?_⟩
  rw [psum_succ M (Nat.le_refl j), psum_self]
  have := h.down j hj
  omega
theorem pB_one {M : List Int} (h : Eu M) {a b j : Nat} (hab : a < b) (hbj : b + 1 < j) (hj : j < M.length) (ha : pB M a j = true) (hb : pB M b j = true) : False := by
  have h1 := pB_iff.1 ha
  have h2 := pB_iff.1 hb
  have e1 := h.near a j h1.1 hj h1.2 b hab (by omega)
  have e2 := h.near a j h1.1 hj h1.2 (b + 1) (by omega) hbj
  have h3 := psum_mono h hj (by omega : b ≤ b + 2) (by omega : b + 2 ≤ j)
  rw [psum_succ M (by omega), psum_succ M (by omega), psum_self] at h3
  have := (h.pos (b + 1 + 1) (by omega)).1
  omega

/-- The last of the first n points to which j is proximate, or -1. -/
def secTo (M : List Int) (j : Nat) : Nat → Int
  | 0 => -1
  | n + 1 => if pB M n j = true then (n : Int) else secTo M j n
theorem secTo_yes {M : List Int} {j n : Nat} (h : pB M n j = true) : secTo M j (n + 1) = n := by simp [secTo, h]
theorem secTo_no {M : List Int} {j n : Nat} (h : pB M n j = false) : secTo M j (n + 1) = secTo M j n := by simp [secTo, h]
theorem secTo_cases (M : List Int) (j : Nat) : ∀ n, (secTo M j n = -1 ∧ ∀ i, i < n → pB M i j = false) ∨ ∃ i, i < n ∧ secTo M j n = (i : Int) ∧ pB M i j = true := by
  intro n
  induction n with
  | zero => exact .inl ⟨rfl, fun i hi => by omega⟩
  | succ n ih =>
    cases c : pB M n j
    · rw [secTo_no c]
      rcases ih with ⟨h1, h2⟩ | ⟨i, h1, h2, h3⟩
      · refine .inl ⟨h1, fun i hi => ?_⟩
        by_cases e : i = n
        · subst e; exact c
        · exact h2 i (by omega)
      · exact .inr ⟨i, by omega, h2, h3⟩
    · rw [secTo_yes c]; exact .inr ⟨n, by omega, rfl, c⟩
/-- The second point to which j is proximate, or -1. -/
def sI (M : List Int) (j : Nat) : Int := secTo M j (j - 1)
theorem sI_bd (M : List Int) (j : Nat) : -1 ≤ sI M j ∧ (0 ≤ sI M j → sI M j + 1 < (j : Int)) := by
  unfold sI
  rcases secTo_cases M j (j - 1) with ⟨h1, _⟩ | ⟨i, h1, h2, _⟩ <;> omega
/-- The first n points to which j is proximate. -/
def rowTo (M : List Int) (j : Nat) : Nat → List Int
  | 0 => []
  | n + 1 => rowTo M j n ++ (if pB M n j = true then [(n : Int)] else [])
theorem rowTo_yes {M : List Int} {j n : Nat} (h : pB M n j = true) : rowTo M j (n + 1) = rowTo M j n ++ [(n : Int)] := by simp [rowTo, h]
theorem rowTo_no {M : List Int} {j n : Nat} (h : pB M n j = false) : rowTo M j (n + 1) = rowTo M j n := by simp [rowTo, h]
theorem secTo_none {M : List Int} (h : Eu M) {j n : Nat} (hj : j < M.length) (hn : n + 1 < j) (hp : pB M n j = true) : secTo M j n = -1 := by
  rcases secTo_cases M j n with ⟨h1, _⟩ | ⟨i, h1, _, h3⟩
  · exact h1
  · exact (pB_one h h1 hn hj h3 hp).elim
theorem rowTo_eq {M : List Int} (h : Eu M) {j : Nat} (hj : j < M.length) : ∀ n, n + 1 ≤ j → rowTo M j n = if 0 ≤ secTo M j n then [secTo M j n] else [] := by
  intro n
  induction n with
  | zero => intro _; rfl
  | succ n ih =>
    intro hn
    have ih := ih (by omega)
    cases c : pB M n j
    · rw [rowTo_no c, secTo_no c, ih]
    · rw [rowTo_yes c, ih, secTo_none h hj (by omega) c, secTo_yes c]
      simp
theorem rowTo_ge {M : List Int} {j : Nat} : ∀ n, rowTo M j (j + n) = rowTo M j j := by
  intro n
  induction n with
  | zero => rfl
  | succ n ih =>
    rw [← Nat.add_assoc, rowTo_no (pB_no (by omega)), ih]
/-- The parents, and the seconds. -/
def parL (k : Nat) : List Int := (List.range k).map fun (j : Nat) => (j : Int) - 1
def secM (M : List Int) : List Int := (List.range M.length).map (sI M)
@[simp] theorem parL_len (k : Nat) : (parL k).length = k := by simp [parL]
@[simp] theorem secM_len (M : List Int) : (secM M).length = M.length := by simp [secM]
theorem gI_parL {k j : Nat} (h : j < k) : gI (parL k) j = (j : Int) - 1 := by rw [gI_lt (by simpa using h)]; simp [parL]
theorem gI_secM {M : List Int} {j : Nat} (h : j < M.length) : gI (secM M) j = sI M j := by rw [gI_lt (by simpa using h)]; simp [secM]
theorem rowTo_prox {M : List Int} (h : Eu M) {j n : Nat} (hj : j < M.length) (hn : M.length ≤ n) : rowTo M j n = proxOf (parL M.length) (secM M) j := by
  obtain ⟨d, rfl⟩ : ∃ d, n = j + d := ⟨n - j, by omega⟩
  rw [rowTo_ge]
  unfold proxOf secL
  rw [gI_parL hj, gI_secM hj]
  cases j with
  | zero => rfl
  | succ j =>
    rw [if_neg (by omega), rowTo_yes (pB_prev h hj), rowTo_eq h hj j (Nat.le_refl _)]
    have e : ((j + 1 : Nat) : Int) - 1 = (j : Int) := by omega
    rw [e]
    rfl

/-- The number of the code at j (of the point j + 1). -/
def cI (M : List Int) (j : Nat) : Int := if 0 ≤ sI M (j + 1) then ((j + 1 : Nat) : Int) - sI M (j + 1) else 0
def codeL (M : List Int) : List Int := (List.range (M.length - 1)).map (cI M)
@[simp] theorem codeL_len (M : List Int) : (codeL M).length = M.length - 1 := by simp [codeL]
theorem gI_codeL {M : List Int} {j : Nat} (h : j + 1 < M.length) : gI (codeL M) j = cI M j := by rw [gI_lt (by simp; omega)]; simp [codeL]
theorem cI_bd (M : List Int) (j : Nat) : cI M j = 0 ∨ (2 ≤ cI M j ∧ cI M j ≤ (j : Int) + 1) := by
  have := sI_bd M (j + 1)
  unfold cI
  split
  · right; omega
  · left; rfl

/-- A sum over the points to which j is proximate. -/
theorem sum_prox {M : List Int} (h : Eu M) (f : Nat → Int) {j : Nat} (hj : j < M.length) : sumTo (fun i => if pB M i j = true then f i else 0) j = (if j = 0 then 0 else f (j - 1)) + (if 0 ≤ sI M j then f (sI M j).toNat else 0) := by
  have key : ∀ n, n + 1 ≤ j → sumTo (fun i => if pB M i j = true then f i else 0) n = if 0 ≤ secTo M j n then f (secTo M j n).toNat else 0 := by
    intro n
    induction n with
    | zero => intro _; rfl
    | succ n ih =>
      intro hn
      have ih := ih (by omega)
      rw [sumTo_succ, ih]
      cases c : pB M n j
      · rw [secTo_no c]; simp
      · rw [secTo_none h hj (by omega) c, secTo_yes c]; simp
  cases j with
  | zero => rfl
  | succ j =>
    have e0 : (if j + 1 = 0 then (0 : Int) else f (j + 1 - 1)) = f j := by simp
    rw [sumTo_succ, if_pos (pB_prev h hj), key j (Nat.le_refl _), e0]
    unfold sI
    rw [Nat.add_sub_cancel, Int.add_comm]

/-- The numbers behind i that are proximate to it, of the first n, are not more than its own number. -/
theorem prox_le {M : List Int} (h : Eu M) {i : Nat} (hi : i < M.length) : ∀ n, n ≤ M.length → sumTo (fun t => if pB M i t = true then gI M t else 0) n ≤ gI M i := by
  have zero : ∀ m, m ≤ i + 1 → sumTo (fun t => if pB M i t = true then gI M t else 0) m = 0 := by
    intro m hm
    refine sumTo_const_zero fun t ht => ?_
    rw [pB_no (by omega)]; rfl
  intro n
  induction n with
  | zero => intro _; have := (h.pos i hi).1; show (0 : Int) ≤ _; omega
  | succ n ih =>
    intro hn
    cases c : pB M i n
    · rw [sumTo_succ, c]
      have := ih (by omega)
      simpa using this
    · have all : ∀ m, i + m ≤ n → sumTo (fun t => if pB M i t = true then gI M t else 0) (i + m + 1) = psum M i (i + m) := by
        intro m
        induction m with
        | zero => intro _; rw [zero _ (by omega), Nat.add_zero, psum_self]
        | succ m ihm =>
          intro hm
          rw [sumTo_succ, show i + (m + 1) = i + m + 1 by omega, ihm (by omega), psum_succ M (by omega), if_pos (pB_down h (by omega) (by omega) (by omega) c)]
      have h1 := pB_iff.1 c
      have h2 := all (n - i) (by omega)
      rw [show i + (n - i) = n by omega] at h2
      rw [h2]
      exact h1.2

/-- The order of the point i. -/
def oI (own : Nat → Int) (M : List Int) (i : Nat) : Int := gI (ordTo own (parL M.length) (secM M) (i + 1)) i
theorem oI_eq {M : List Int} (own : Nat → Int) {i : Nat} (hi : i < M.length) : oI own M i = own i + (if i = 0 then 0 else oI own M (i - 1)) + (if 0 ≤ sI M i then oI own M (sI M i).toNat else 0) := by
  unfold oI
  rw [ordTo_at own _ _ (Nat.lt_succ_self i), gI_parL hi, gI_secM hi]
  congr 1
  · congr 1
    by_cases e : i = 0
    · rw [if_pos e, if_pos e]
    · rw [if_neg e, if_neg e, show ((i : Int) - 1).toNat = i - 1 by omega, ordTo_old own _ _ (by omega)]
  · by_cases e : 0 ≤ sI M i
    · rw [if_pos e, if_pos e]
      have := (sI_bd M i).2 e
      rw [ordTo_old own _ _ (by omega)]
    · rw [if_neg e, if_neg e]
theorem oI_sum {M : List Int} (h : Eu M) (own : Nat → Int) {j : Nat} (hj : j < M.length) : oI own M j = own j + sumTo (fun i => if pB M i j = true then oI own M i else 0) j := by
  rw [oI_eq own hj, sum_prox h (oI own M) hj, Int.add_assoc]
theorem oI_nn {M : List Int} {own : Nat → Int} (ho : ∀ i, i < M.length → 0 ≤ own i) : ∀ i, i < M.length → 0 ≤ oI own M i := by
  intro i
  induction i using Nat.strongRecOn with
  | _ i ih =>
    intro hi
    rw [oI_eq own hi]
    have h1 := ho i hi
    have h2 : (0 : Int) ≤ if i = 0 then 0 else oI own M (i - 1) := by
      split
      · omega
      · exact ih _ (by omega) (by omega)
    have h3 : (0 : Int) ≤ if 0 ≤ sI M i then oI own M (sI M i).toNat else 0 := by
      split
      · rename_i e
        have := (sI_bd M i).2 e
        exact ih _ (by omega) (by omega)
      · omega
    omega
/-- What is left of the number i. -/
def lft (M : List Int) (n i : Nat) : Int := gI M i - sumTo (fun t => if pB M i t = true then gI M t else 0) n
theorem lft_self (M : List Int) (n : Nat) : lft M (n + 1) n = gI M n := by
  unfold lft
  rw [sumTo_const_zero (fun t ht => by rw [pB_no (by omega)]; rfl)]
  omega
theorem phi {M : List Int} (h : Eu M) (own : Nat → Int) : ∀ n, n ≤ M.length → sumTo (fun i => oI own M i * lft M n i) n = sumTo (fun i => gI M i * own i) n := by
  intro n
  induction n with
  | zero => intro _; rfl
  | succ n ih =>
    intro hn
    have ih := ih (by omega)
    rw [sumTo_succ, sumTo_succ, lft_self, ← ih]
    have e1 : sumTo (fun i => oI own M i * lft M (n + 1) i) n = sumTo (fun i => oI own M i * lft M n i + (-(gI M n)) * (if pB M i n = true then oI own M i else 0)) n := by
      refine sumTo_congr fun i _ => ?_
      show oI own M i * lft M (n + 1) i = oI own M i * lft M n i + -(gI M n) * _
      have : lft M (n + 1) i = lft M n i - (if pB M i n = true then gI M n else 0) := by unfold lft; rw [sumTo_succ]; omega
      rw [this, Int.mul_sub]
      cases pB M i n
      · simp
      · have e2 : -(gI M n) * oI own M i = -(oI own M i * gI M n) := by rw [Int.neg_mul, Int.mul_comm]
        simp only [if_true]
        omega
    rw [e1, sumTo_add, sumTo_mul, oI_sum h own (by omega : n < M.length), Int.add_mul, Int.neg_mul, Int.mul_comm (gI M n), Int.mul_comm (gI M n)]
    omega
theorem oI_small {M : List Int} (h : Eu M) (hl : M.length ≤ 400) {own : Nat → Int} (ho : ∀ i, i < M.length → 0 ≤ own i ∧ own i ≤ 64) {n : Nat} (hn : n < M.length) : 0 ≤ oI own M n ∧ oI own M n ≤ 1638400 := by
  have nn := oI_nn (own := own) (fun i hi => (ho i hi).1)
  refine ⟨nn n hn, ?_⟩
  have hp := phi h own (n + 1) hn
  rw [sumTo_succ, lft_self] at hp
  have h1 : 0 ≤ sumTo (fun i => oI own M i * lft M (n + 1) i) n := by
    have := sumTo_mono (f := fun i => oI own M i * lft M (n + 1) i) (n := 0) (m := n) (by omega) (fun i hi => by
      refine Int.mul_nonneg (nn i (by omega)) ?_
      have := prox_le h (by omega : i < M.length) (n + 1) hn
      unfold lft; omega)
    exact this
  have h2 := sumTo_bound (f := fun i => gI M i * own i) (n := n + 1) 0 4096 (fun i hi => by
    have a := h.pos i (by omega)
    have b := ho i (by omega)
    refine ⟨Int.mul_nonneg (by omega) b.1, ?_⟩
    have := Int.mul_le_mul a.2 b.2 b.1 (by omega : (0 : Int) ≤ 64)
    omega)
  have h3 := (h.pos n hn).1
  have h4 : oI own M n * 1 ≤ oI own M n * gI M n := Int.mul_le_mul_of_nonneg_left h3 (nn n hn)
  have h5 : ((n + 1 : Nat) : Int) * 4096 ≤ 400 * 4096 := by omega
  omega
theorem gI_ord {M : List Int} {own : Nat → Int} {i k : Nat} (h : i < k) : gI (ordTo own (parL M.length) (secM M) k) i = oI own M i := ordTo_old own _ _ h
end Go.Proofs.Ytiinceflafigeaa

/- The multiplicities of a curvette, from the code backwards. No program in sight. -/
namespace Go.Proofs.Ytiinceflafigeaa
open Go.RowKit

/-- The number x is added at place i. -/
def bump (L : List Int) (i : Nat) (x : Int) : List Int := L.set i (gI L i + x)
@[simp] theorem bump_len (L : List Int) (i : Nat) (x : Int) : (bump L i x).length = L.length := by simp [bump]
theorem gI_bump {L : List Int} {i j : Nat} {x : Int} (hi : i < L.length) : gI (bump L i x) j = if j = i then gI L i + x else gI L j := by
  unfold bump
  by_cases e : j = i
  · subst e; rw [if_pos rfl, gI_set_at hi]
  · rw [if_neg e, gI_set_ne (by omega)]
/-- The point j gives its number to the points to which it is proximate. -/
def cuStep (K : List Int) (j : Nat) (L : List Int) : List Int :=
  if gI K (j - 1) = 0 then bump L (j - 1) (gI L j) else bump (bump L (j - 1) (gI L j)) (j - (gI K (j - 1)).toNat) (gI L j)
/-- The numbers after t points, from the last. -/
def cuAt (K : List Int) : Nat → List Int
  | 0 => List.replicate K.length 0 ++ [1]
  | t + 1 => cuStep K (K.length - t) (cuAt K t)
@[simp] theorem cuStep_len (K : List Int) (j : Nat) (L : List Int) : (cuStep K j L).length = L.length := by unfold cuStep; split <;> simp
@[simp] theorem cuAt_len (K : List Int) (t : Nat) : (cuAt K t).length = K.length + 1 := by
  induction t with
  | zero => simp [cuAt]
  | succ t ih => simp [cuAt, ih]
/-- A list of steps back that stay among the points. -/
def KOk (K : List Int) : Prop := K.length ≤ 399 ∧ ∀ i, i < K.length → 0 ≤ gI K i ∧ gI K i ≤ (i : Int) + 1
/-- The first t points from the last have numbers to 64. -/
def cuGo (K : List Int) (t : Nat) : Prop := ∀ s, s < t → gI (cuAt K s) (K.length - s) ≤ 64
theorem cuAt_bd {K : List Int} (h : KOk K) : ∀ t, t ≤ K.length → cuGo K t → ∀ i, 0 ≤ gI (cuAt K t) i ∧ gI (cuAt K t) i ≤ 1 + 128 * (t : Int) := by
  intro t
  induction t with
  | zero =>
    intro _ _ i
    unfold cuAt
    by_cases e : i < K.length
    · rw [gI_app_lt (by simpa using e), gI_rep e]; omega
    · by_cases e2 : i = K.length
      · rw [gI_app_at (by simpa using e2)]; omega
      · have : gI (List.replicate K.length 0 ++ [1]) i = 0 := by
          unfold gI List.getD
          rw [List.getElem?_eq_none (by simp; omega)]
          rfl
        omega
  | succ t ih =>
    intro ht hg i
    have ih' := ih (by omega) (fun s hs => hg s (by omega))
    have hx := hg t (by omega)
    have hxn := (ih' (K.length - t)).1
    have hl := cuAt_len K t
    have hK := h.2 (K.length - t - 1) (by omega)
    unfold cuAt cuStep
    generalize gI (cuAt K t) (K.length - t) = x at *
    split
    · rw [gI_bump (by omega)]
      have a1 := ih' i
      have a2 := ih' (K.length - t - 1)
      split <;> omega
    · rw [gI_bump (by simp; omega), gI_bump (by omega), gI_bump (by omega)]
      have a1 := ih' i
      have a2 := ih' (K.length - t - 1)
      have a3 := ih' (K.length - t - (gI K (K.length - t - 1)).toNat)
      split <;> split <;> omega
instance (K : List Int) (t : Nat) : Decidable (cuGo K t) := by unfold cuGo; infer_instance
/-- Are all the numbers behind the first to 64? -/
def cuE (K : List Int) : Bool := decide (cuGo K K.length)
theorem cuE_yes {K : List Int} (h : cuGo K K.length) : cuE K = true := by simpa [cuE] using h
theorem cuE_no {K : List Int} {t : Nat} (ht : t < K.length) (h : ¬ gI (cuAt K t) (K.length - t) ≤ 64) : cuE K = false := by
  simp only [cuE, decide_eq_false_iff_not]
  intro hg
  exact h (hg t ht)
/-- What is handed back. -/
def cuL (K : List Int) : List Int := if cuE K then cuAt K K.length else []
def cuB (K : List Int) : Bool := cuE K && decide (gI (cuAt K K.length) 0 ≤ 64)
theorem cuE_go {K : List Int} (h : cuE K = true) : cuGo K K.length := by simpa [cuE] using h
theorem cuL_yes {K : List Int} (h : cuGo K K.length) : cuL K = cuAt K K.length := by unfold cuL; rw [cuE_yes h]; rfl
theorem cuL_no {K : List Int} (h : cuE K = false) : cuL K = [] := by unfold cuL; rw [h]; rfl
theorem cuB_yes {K : List Int} (h : cuGo K K.length) : cuB K = decide (gI (cuAt K K.length) 0 ≤ 64) := by unfold cuB; rw [cuE_yes h]; rfl
theorem cuB_no {K : List Int} (h : cuE K = false) : cuB K = false := by unfold cuB; rw [h]; rfl
theorem cuGo_succ {K : List Int} {t : Nat} (h : cuGo K t) (hx : gI (cuAt K t) (K.length - t) ≤ 64) : cuGo K (t + 1) := by
  intro s hs
  by_cases e : s = t
  · subst e; exact hx
  · exact h s (by omega)
theorem cuAt_zero_eq (K : List Int) : (List.replicate (K.length + 1) (0 : Int)).set K.length 1 = cuAt K 0 := by
  unfold cuAt
  rw [List.replicate_succ', List.set_append_right _ _ (by simp)]
  simp
theorem cuAt_succ_zero {K : List Int} {t : Nat} (h : gI K (K.length - t - 1) = 0) : cuAt K (t + 1) = bump (cuAt K t) (K.length - t - 1) (gI (cuAt K t) (K.length - t)) := by
  show cuStep K (K.length - t) (cuAt K t) = _
  unfold cuStep
  rw [if_pos h]
theorem cuAt_succ_two {K : List Int} {t : Nat} (h : ¬ gI K (K.length - t - 1) = 0) : cuAt K (t + 1) = bump (bump (cuAt K t) (K.length - t - 1) (gI (cuAt K t) (K.length - t))) (K.length - t - (gI K (K.length - t - 1)).toNat) (gI (cuAt K t) (K.length - t)) := by
  show cuStep K (K.length - t) (cuAt K t) = _
  unfold cuStep
  rw [if_neg h]
end Go.Proofs.Ytiinceflafigeaa

/- The curvette's multiplicities are at most the branch's. No program in sight. -/
namespace Go.Proofs.Ytiinceflafigeaa
open Go.RowKit

theorem pB_sec {M : List Int} {j : Nat} (h : 0 ≤ sI M j) : pB M (sI M j).toNat j = true := by
  rcases secTo_cases M j (j - 1) with ⟨h1, _⟩ | ⟨i, _, h2, h3⟩
  · unfold sI at h; omega
  · have e : (sI M j).toNat = i := by unfold sI; omega
    rw [e]; exact h3
theorem kok_code {M : List Int} (hl : M.length ≤ 400) : KOk (codeL M) := by
  refine ⟨by simp; omega, fun i hi => ?_⟩
  simp at hi
  rw [gI_codeL (by omega)]
  have := cI_bd M i
  omega
theorem sum_nn {f : Nat → Int} (n : Nat) (h : ∀ i, i < n → 0 ≤ f i) : 0 ≤ sumTo f n := by
  induction n with
  | zero => simp [sumTo]
  | succ n ih => rw [sumTo_succ]; have := ih (fun i hi => h i (by omega)); have := h n (by omega); omega
theorem cur_le {M : List Int} (h : Eu M) (hp : 0 < M.length) (hl : M.length ≤ 400) : ∀ t, t ≤ M.length - 1 → ∀ i, i < M.length → gI (cuAt (codeL M) t) i + sumTo (fun s => if pB M i s = true then gI M s else 0) (M.length - t) ≤ gI M i := by
  have hkl : (codeL M).length = M.length - 1 := by simp
  intro t
  induction t with
  | zero =>
    intro _ i hi
    have h1 := prox_le h hi M.length (Nat.le_refl _)
    have h2 := h.pos i hi
    unfold cuAt
    rw [Nat.sub_zero]
    by_cases e : i = M.length - 1
    · have hz : sumTo (fun s => if pB M i s = true then gI M s else 0) M.length = 0 := by
        have hz0 : ∀ m, m ≤ M.length → sumTo (fun s => if pB M i s = true then gI M s else 0) m = 0 := by
          intro m
          induction m with
          | zero => intro _; rfl
          | succ m ih =>
            intro hm
            rw [sumTo_succ, ih (by omega)]
            have : pB M i m = false := pB_no (by omega)
            simp [this]
        exact hz0 _ (Nat.le_refl _)
      rw [hz, gI_app_at (by simp; omega)]
      omega
    · rw [gI_app_lt (by simp; omega), gI_rep (by omega)]
      omega
  | succ t ih =>
    intro ht i hi
    have hh := ih (by omega)
    obtain ⟨q, hq⟩ : ∃ q, M.length - (t + 1) = q + 1 := ⟨M.length - (t + 1) - 1, by omega⟩
    have hq1 : M.length - t = q + 1 + 1 := by omega
    have hq2 : (codeL M).length - t = q + 1 := by omega
    rw [hq1] at hh
    rw [hq]
    have hi' := hh i hi
    rw [sumTo_succ] at hi'
    have hx := hh (q + 1) (by omega)
    have hs0 : 0 ≤ sumTo (fun s => if pB M (q + 1) s = true then gI M s else 0) (q + 1 + 1) := sum_nn _ (fun s hs => by
      have := h.pos s (by omega)
      split <;> omega)
    have hxM : gI (cuAt (codeL M) t) (q + 1) ≤ gI M (q + 1) := by omega
    have hMq := h.pos (q + 1) (by omega)
    have hprev := pB_prev h (j := q) (by omega)
    have hln := cuAt_len (codeL M) t
    have hk := gI_codeL (M := M) (j := q) (by omega)
    have hsb := sI_bd M (q + 1)
    by_cases hs : 0 ≤ sI M (q + 1)
    · have hsec := pB_sec hs
      have hcI : cI M q = ((q + 1 : Nat) : Int) - sI M (q + 1) := by simp [cI, hs]
      have hr : q + 1 - (gI (codeL M) q).toNat = (sI M (q + 1)).toNat := by rw [hk, hcI]; omega
      rw [cuAt_succ_two (by rw [hq2]; show ¬ gI (codeL M) q = 0; rw [hk, hcI]; omega), hq2, Nat.add_sub_cancel, hr]
      rw [gI_bump (by rw [bump_len]; omega), gI_bump (by omega), gI_bump (by omega)]
      have hne : ¬ (sI M (q + 1)).toNat = q := by omega
      by_cases e1 : i = (sI M (q + 1)).toNat
      · rw [if_pos e1, if_neg hne, ← e1]
        rw [← e1] at hsec
        simp only [hsec, if_true] at hi'
        omega
      · rw [if_neg e1]
        by_cases e2 : i = q
        · subst e2
          rw [if_pos rfl]
          simp only [hprev, if_true] at hi'
          omega
        · rw [if_neg e2]
          split at hi' <;> omega
    · have hcI : cI M q = 0 := by simp [cI, hs]
      rw [cuAt_succ_zero (by rw [hq2]; show gI (codeL M) q = 0; rw [hk, hcI]), hq2, Nat.add_sub_cancel]
      rw [gI_bump (by omega)]
      by_cases e2 : i = q
      · subst e2
        rw [if_pos rfl]
        simp only [hprev, if_true] at hi'
        omega
      · rw [if_neg e2]
        split at hi' <;> omega
theorem cur_small {M : List Int} (h : Eu M) (hp : 0 < M.length) (hl : M.length ≤ 400) {t : Nat} (ht : t ≤ M.length - 1) {i : Nat} (hi : i < M.length) : gI (cuAt (codeL M) t) i ≤ gI M i := by
  have h1 := cur_le h hp hl t ht i hi
  have h2 : 0 ≤ sumTo (fun s => if pB M i s = true then gI M s else 0) (M.length - t) := sum_nn _ (fun s hs => by
    have := h.pos s (by omega)
    split <;> omega)
  omega
theorem cur_go {M : List Int} (h : Eu M) (hp : 0 < M.length) (hl : M.length ≤ 400) : cuGo (codeL M) (codeL M).length := by
  intro s hs
  simp at hs
  have h1 := cur_small h hp hl (t := s) (by omega) (i := (codeL M).length - s) (by simp; omega)
  have h2 := h.pos ((codeL M).length - s) (by simp; omega)
  omega
end Go.Proofs.Ytiinceflafigeaa
