/- The sequence of multiplicities of a branch: the steps of Euclid's algorithm, and what stands behind each number. No program in sight. -/
import Derived.Test.YtglghdkjppcedaaGreatDoorPart3
import Derived.Test.YtglghdkjppcedaaGreatDoorPart1
import Derived.Test.YtglghdkjppcedaaGreatDoorPart2
import Derived.Test.YtglghdkjppcedaaGreatDoorPart6
import Derived.Test.YtglghdkjppcedaaGreatDoorPart14
import Derived.Deep.RegionLaw
import Derived.Deep.DeepCutAuto
import Derived.Deep.OwnRows
namespace Go.Proofs.YtglghdkjppcedaaGreatDoor

/-- The steps of a and b, at most n of them. -/
def stp : Nat → Int → Int → List (Int × Int)
  | 0, _, _ => []
  | n + 1, a, b => if 0 < b then (a / b, b) :: stp n b (a % b) else []
theorem stp_succ (n : Nat) (a b : Int) : stp (n + 1) a b = if 0 < b then (a / b, b) :: stp n b (a % b) else [] := rfl
theorem stp_fuel : ∀ n a b, b.toNat ≤ n → stp n a b = stp b.toNat a b := by
  intro n
  induction n using Nat.strongRecOn with
  | _ n ih =>
    intro a b h
    by_cases hb : 0 < b
    · obtain ⟨m, hm⟩ : ∃ m, b.toNat = m + 1 := ⟨b.toNat - 1, by omega⟩
      obtain ⟨n', rfl⟩ : ∃ n', n = n' + 1 := ⟨n - 1, by omega⟩
      have hr0 := Int.emod_nonneg a (show b ≠ 0 by omega)
      have hr1 := Int.emod_lt_of_pos a hb
      rw [hm, stp_succ, stp_succ, if_pos hb, if_pos hb, ih n' (by omega) _ _ (by omega), ih m (by omega) _ _ (by omega)]
    · have e : b.toNat = 0 := by omega
      rw [e]
      cases n with
      | zero => rfl
      | succ n => rw [stp_succ, if_neg hb]; rfl
/-- The steps of a and b. -/
def stB (a b : Int) : List (Int × Int) := stp b.toNat a b
theorem stB_pos {a b : Int} (h : 0 < b) : stB a b = (a / b, b) :: stB b (a % b) := by
  obtain ⟨m, hm⟩ : ∃ m, b.toNat = m + 1 := ⟨b.toNat - 1, by omega⟩
  have hr1 := Int.emod_lt_of_pos a h
  have hr0 := Int.emod_nonneg a (show b ≠ 0 by omega)
  unfold stB
  rw [hm, stp_succ, if_pos h, stp_fuel m _ _ (by omega)]
theorem stB_zero {a b : Int} (h : ¬ 0 < b) : stB a b = [] := by
  have e : b.toNat = 0 := by omega
  unfold stB
  rw [e]; rfl

/-- So many numbers as the step says. -/
def rep (s : Int × Int) : List Int := List.replicate s.1.toNat s.2
/-- The numbers of some steps. -/
def flat (R : List (Int × Int)) : List Int := R.flatMap rep
theorem flat_nil : flat [] = [] := rfl
theorem flat_cons (s : Int × Int) (R : List (Int × Int)) : flat (s :: R) = rep s ++ flat R := by simp [flat]
theorem flat_app (R R' : List (Int × Int)) : flat (R ++ R') = flat R ++ flat R' := by simp [flat]

/-- X may stand behind e. -/
def Beh (e : Int) (X : List Int) : Prop := ∀ r, X.head? = some r → 0 < r ∧ r ≤ e ∧ ∃ Z, X = List.replicate (e / r).toNat r ++ ((if e % r = 0 then [] else [e % r]) ++ Z)
/-- Each number of X has a list behind it that may stand there. -/
def GoodM (X : List Int) : Prop := ∀ A e Y, X = A ++ e :: Y → 0 < e ∧ Beh e Y
theorem good_nil : GoodM [] := fun A e Y h => by simp at h
theorem good_cons {e : Int} {X : List Int} (h0 : 0 < e) (h1 : Beh e X) (h2 : GoodM X) : GoodM (e :: X) := by
  intro A e' Y h
  cases A with
  | nil => injection h with a b; subst a; subst b; exact ⟨h0, h1⟩
  | cons a A => injection h with _ b; exact h2 A e' Y b
structure Tl (e : Int) (X : List Int) : Prop where
  good : GoodM X
  beh : Beh e X
theorem tl_nil (e : Int) : Tl e [] := ⟨good_nil, fun r h => by simp at h⟩
theorem tl_rep {b : Int} (hb : 0 < b) {Y : List Int} (h : Tl b Y) : ∀ n, Tl b (List.replicate n b ++ Y) := by
  intro n
  induction n with
  | zero => exact h
  | succ n ih =>
    rw [List.replicate_succ, List.cons_append]
    refine ⟨good_cons hb ih.beh ih.good, fun r hr => ?_⟩
    simp at hr
    subst hr
    exact ⟨hb, Int.le_refl _, List.replicate n b ++ Y, by rw [Int.ediv_self (by omega), Int.emod_self]; rfl⟩
theorem div_one_le {a b : Int} (hb : 0 < b) (h : b ≤ a) : 1 ≤ a / b := by
  apply (Int.le_ediv_iff_mul_le hb).2
  omega
theorem gcdI_dvd_self {a b : Int} (hb : 0 < b) (h : a % b = 0) : gcdI a b = b := by
  have h1 : b ∣ a := Int.dvd_of_emod_eq_zero h
  unfold gcdI
  have h2 : b.natAbs ∣ a.natAbs := Int.natAbs_dvd_natAbs.2 h1
  rw [Nat.gcd_eq_right h2]
  omega
theorem tl_steps : ∀ n : Nat, ∀ a b : Int, b.toNat ≤ n → 0 < b → 0 ≤ a → ∀ Y, Tl (gcdI a b) Y → Tl b (flat (stB a b) ++ Y) := by
  intro n
  induction n with
  | zero => intro a b h hb; omega
  | succ n ih =>
    intro a b h hb ha Y hY
    rw [stB_pos hb, flat_cons, List.append_assoc]
    refine tl_rep hb ?_ _
    have hr0 := Int.emod_nonneg a (show b ≠ 0 by omega)
    have hr1 := Int.emod_lt_of_pos a hb
    by_cases hz : a % b = 0
    · rw [gcdI_dvd_self hb hz] at hY
      rw [stB_zero (by omega)]
      exact hY
    · have hr : 0 < a % b := by omega
      have hg : gcdI b (a % b) = gcdI a b := gcdI_step _ a b ha hb rfl
      have h1 := ih b (a % b) (by omega) hr (by omega) Y (by rw [hg]; exact hY)
      refine ⟨h1.good, fun r0 hr0' => ?_⟩
      generalize a % b = r at *
      have hq := div_one_le hr (show r ≤ b by omega)
      have hqn : (b / r).toNat = ((b / r).toNat - 1) + 1 := by omega
      have hs0 := Int.emod_nonneg b (show r ≠ 0 by omega)
      have hs1 := Int.emod_lt_of_pos b hr
      have er : r0 = r := by
        rw [stB_pos hr, flat_cons] at hr0'
        simp only [rep] at hr0'
        rw [hqn, List.replicate_succ] at hr0'
        simp at hr0'
        exact hr0'.symm
      subst er
      refine ⟨hr, by omega, ?_⟩
      rw [stB_pos hr, flat_cons]
      by_cases hs : b % r0 = 0
      · rw [if_pos hs]
        exact ⟨flat (stB r0 (b % r0)) ++ Y, by simp [rep]⟩
      · rw [if_neg hs]
        have hsp : 0 < b % r0 := by omega
        have hq2 := div_one_le hsp (show b % r0 ≤ r0 by omega)
        have hqn2 : (r0 / (b % r0)).toNat = ((r0 / (b % r0)).toNat - 1) + 1 := by omega
        rw [stB_pos hsp, flat_cons]
        simp only [rep]
        rw [hqn2, List.replicate_succ]
        exact ⟨List.replicate ((r0 / (b % r0)).toNat - 1) (b % r0) ++ (flat (stB (b % r0) (r0 % (b % r0))) ++ Y), by simp⟩

/-- What the run i + 1 begins with. -/
def kI (T : List Int) : Nat → Int
  | 0 => gI T 1
  | i + 1 => gI T (i + 2) - gI T (i + 1)
/-- The steps of the first n runs. -/
def pre (T : List Int) : Nat → List (Int × Int)
  | 0 => []
  | n + 1 => pre T n ++ stB (kI T n) (eI T n)
theorem pre_succ (T : List Int) (n : Nat) : pre T (n + 1) = pre T n ++ stB (kI T n) (eI T n) := rfl
theorem gcdI_sym (x y : Int) : gcdI x y = gcdI y x := by unfold gcdI; rw [Nat.gcd_comm]
theorem gcdI_sub {e x y : Int} (h : e ∣ y) : gcdI (x - y) e = gcdI e x := by
  have key : ∀ p q : Int, e ∣ p - q → gcdI p e ∣ gcdI q e := by
    intro p q hd
    have h1 := gcdI_dvd_left p e
    have h2 := gcdI_dvd_right p e
    have h3 : gcdI p e ∣ q := by
      have h4 := Int.dvd_sub h1 (Int.dvd_trans h2 hd)
      rwa [show p - (p - q) = q by omega] at h4
    have h5 : (gcdI p e).natAbs ∣ Nat.gcd q.natAbs e.natAbs := Nat.dvd_gcd (Int.natAbs_dvd_natAbs.2 h3) (Int.natAbs_dvd_natAbs.2 h2)
    exact Int.natAbs_dvd.1 (Int.natCast_dvd_natCast.2 h5)
  rw [gcdI_sym e x]
  have a1 := key (x - y) x (by rw [show x - y - x = -y by omega]; exact Int.dvd_neg.2 h)
  have a2 := key x (x - y) (by rw [show x - (x - y) = y by omega]; exact h)
  exact Int.dvd_antisymm (gcdI_nn _ _) (gcdI_nn _ _) a1 a2
theorem kI_gcd (T : List Int) (n : Nat) : gcdI (kI T n) (eI T n) = eI T (n + 1) := by
  cases n with
  | zero => rw [eI_succ, gcdI_sym]; rfl
  | succ n => exact gcdI_sub (eI_dvd_term T (n + 1))
theorem kI_bd {T : List Int} (h : BraOk T) {n : Nat} (hn : n + 1 < T.length) : 1 ≤ kI T n ∧ kI T n ≤ 2000 := by
  cases n with
  | zero => exact h.num 1 hn
  | succ n =>
    have h1 : gI T (n + 1) < gI T (n + 2) := h.asc (n + 1) hn
    have h2 := h.num (n + 2) hn
    have h3 := h.num (n + 1) (by omega)
    show 1 ≤ gI T (n + 2) - gI T (n + 1) ∧ gI T (n + 2) - gI T (n + 1) ≤ 2000
    omega
theorem tl_pre {T : List Int} (h : BraOk T) : ∀ n, n < T.length → ∀ Y, Tl (eI T n) Y → Tl (eI T 0) (flat (pre T n) ++ Y) := by
  intro n
  induction n with
  | zero => intro _ Y hY; exact hY
  | succ n ih =>
    intro hn Y hY
    rw [pre_succ, flat_app, List.append_assoc]
    refine ih (by omega) _ ?_
    have h1 := eI_bd h n
    have h2 := kI_bd h hn
    exact tl_steps _ _ _ (Nat.le_refl _) (by omega) (by omega) Y (by rw [kI_gcd]; exact hY)

/-- The sequence with k more ones. -/
def fullL (T : List Int) (k : Nat) : List Int := flat (pre T (T.length - 1)) ++ List.replicate k 1
/-- The first k numbers of the sequence. -/
def seqL (T : List Int) (k : Nat) : List Int := (fullL T k).take k
@[simp] theorem seqL_len (T : List Int) (k : Nat) : (seqL T k).length = k := by simp [seqL, fullL]
theorem gI_seqL {T : List Int} {k i : Nat} (h : i < k) : gI (seqL T k) i = gI (fullL T k) i := gI_take h
theorem full_tl {T : List Int} (h : BraOk T) (k : Nat) : Tl (eI T 0) (fullL T k) := by
  have hl := h.len
  refine tl_pre h _ (by omega) _ ?_
  rw [h.last]
  have := tl_rep (b := 1) (by omega) (tl_nil 1) k
  rwa [List.append_nil] at this
theorem good_le : ∀ X : List Int, GoodM X → ∀ e, Beh e X → ∀ x, x ∈ X → 0 < x ∧ x ≤ e := by
  intro X
  induction X with
  | nil => intro _ e _ x hx; simp at hx
  | cons y X ih =>
    intro hg e hb x hx
    have h1 := hb y rfl
    have h2 := hg [] y X rfl
    rcases List.mem_cons.1 hx with rfl | hx
    · exact ⟨h1.1, h1.2.1⟩
    · have := ih (fun A e' Y he => hg (y :: A) e' Y (by rw [he]; rfl)) y h2.2 x hx
      omega
theorem split_at {X : List Int} {i : Nat} (h : i < X.length) : X = X.take i ++ gI X i :: X.drop (i + 1) := by
  rw [gI_lt h, List.getElem_cons_drop, List.take_append_drop]

/-- The sum of the numbers i + 1, .., j. -/
def psum (M : List Int) (i j : Nat) : Int := sumTo (fun t => gI M (i + 1 + t)) (j - i)
/-- What the sequences of multiplicities have. -/
structure Eu (M : List Int) : Prop where
  pos : ∀ i, i < M.length → 1 ≤ gI M i ∧ gI M i ≤ 64
  down : ∀ i, i + 1 < M.length → gI M (i + 1) ≤ gI M i
  near : ∀ i j, i < j → j < M.length → psum M i j ≤ gI M i → ∀ t, i < t → t < j → gI M t = gI M (i + 1)
theorem sumTo_mono {f : Nat → Int} {n m : Nat} (h : n ≤ m) (hf : ∀ i, i < m → 0 ≤ f i) : sumTo f n ≤ sumTo f m := by
  induction m with
  | zero => have : n = 0 := by omega
            subst this; exact Int.le_refl _
  | succ m ih =>
    by_cases e : n = m + 1
    · subst e; exact Int.le_refl _
    · have h1 := ih (by omega) (fun i hi => hf i (by omega))
      have h2 := hf m (by omega)
      rw [sumTo_succ]; omega
theorem sumTo_const {f : Nat → Int} {n : Nat} {c : Int} (h : ∀ i, i < n → f i = c) : sumTo f n = n * c := by
  have := sumTo_bound (f := f) (n := n) c c (fun i hi => by have := h i hi; omega)
  omega
theorem gI_app_ge {xs ys : List Int} {i : Nat} (h : xs.length ≤ i) : gI (xs ++ ys) i = gI ys (i - xs.length) := by simp [gI, List.getD, List.getElem?_append_right h]
theorem near_good {L : List Int} (hg : GoodM L) {i j : Nat} (hij : i < j) (hj : j < L.length) (hs : psum L i j ≤ gI L i) : ∀ t, i < t → t < j → gI L t = gI L (i + 1) := by
  intro t ht1 ht2
  have hsp := split_at (X := L) (i := i) (by omega)
  obtain ⟨he, hb⟩ := hg _ _ _ hsp
  have hpos : ∀ x, x < L.length → 0 < gI L x := fun x hx => (hg _ _ _ (split_at hx)).1
  have hX : ∀ x, gI (L.drop (i + 1)) x = gI L (i + 1 + x) := fun x => gI_drop
  have hhd : (L.drop (i + 1)).head? = some (gI L (i + 1)) := by
    rw [List.head?_drop]
    exact gI_some (by omega)
  obtain ⟨hr0, hre, Z, hZ⟩ := hb _ hhd
  generalize hr : gI L (i + 1) = r at *
  generalize hee : gI L i = e at *
  generalize hq : (e / r).toNat = q at *
  have hq1 := div_one_le hr0 hre
  have hdm := Int.emod_add_mul_ediv e r
  have hqr : (q : Int) * r = r * (e / r) := by rw [show (q : Int) = e / r by omega, Int.mul_comm]
  have hrm := Int.emod_nonneg e (show r ≠ 0 by omega)
  have hfront : ∀ x, x < q → gI L (i + 1 + x) = r := by
    intro x hx
    rw [← hX, hZ, gI_app_lt (by simpa using hx), gI_rep hx]
  by_cases hle : j - i ≤ q + 1
  · have := hfront (t - (i + 1)) (by omega)
    rwa [show i + 1 + (t - (i + 1)) = t by omega] at this
  · exfalso
    unfold psum at hs
    have hm := sumTo_mono (f := fun t => gI L (i + 1 + t)) (n := q + 2) (m := j - i) (by omega) (fun x hx => Int.le_of_lt (hpos _ (by omega)))
    rw [sumTo_succ, sumTo_succ, sumTo_const (c := r) hfront] at hm
    have p1 := hpos (i + 1 + q) (by omega)
    have p2 := hpos (i + 1 + (q + 1)) (by omega)
    by_cases hz : e % r = 0
    · omega
    · have : gI L (i + 1 + q) = e % r := by
        rw [← hX, hZ, gI_app_ge (by simp), if_neg hz]
        simp [gI]
      omega
theorem eu_seq {T : List Int} (h : BraOk T) (k : Nat) : Eu (seqL T k) := by
  have ht := full_tl h k
  have hlen : k ≤ (fullL T k).length := by simp [fullL]
  have hb := good_le _ ht.good _ ht.beh
  have h64 : eI T 0 ≤ 64 := (eI_bd h 0).2
  refine ⟨fun i hi => ?_, fun i hi => ?_, fun i j hij hj hs t ht1 ht2 => ?_⟩
  · rw [seqL_len] at hi
    rw [gI_seqL hi]
    have := hb _ (gI_mem (by omega : i < (fullL T k).length))
    omega
  · rw [seqL_len] at hi
    rw [gI_seqL hi, gI_seqL (by omega)]
    have h1 := (ht.good _ _ _ (split_at (by omega : i < (fullL T k).length))).2
    have h2 := h1 (gI (fullL T k) (i + 1)) (by rw [List.head?_drop]; exact gI_some (by omega))
    exact h2.2.1
  · rw [seqL_len] at hj
    have e : psum (seqL T k) i j = psum (fullL T k) i j := sumTo_congr fun x hx => gI_seqL (by omega)
    rw [e, gI_seqL (by omega)] at hs
    rw [gI_seqL (by omega), gI_seqL (by omega)]
    exact near_good ht.good hij (by omega) hs t ht1 ht2
end Go.Proofs.YtglghdkjppcedaaGreatDoor

/- Which points of a sequence of multiplicities are proximate to which; their orders. No program in sight. -/
namespace Go.Proofs.YtglghdkjppcedaaGreatDoor

/-- The point j is proximate to the point i. -/
def pB (M : List Int) (i j : Nat) : Bool := decide (i < j ∧ psum M i j ≤ gI M i)
theorem pB_iff {M : List Int} {i j : Nat} : pB M i j = true ↔ i < j ∧ psum M i j ≤ gI M i := by simp [pB]
theorem psum_self (M : List Int) (i : Nat) : psum M i i = 0 := by unfold psum; rw [Nat.sub_self]; rfl
theorem psum_succ (M : List Int) {i j : Nat} (h : i ≤ j) : psum M i (j + 1) = psum M i j + gI M (j + 1) := by
  unfold psum
  rw [show j + 1 - i = (j - i) + 1 by omega, sumTo_succ, show i + 1 + (j - i) = j + 1 by omega]
theorem psum_mono {M : List Int} (h : Eu M) {i j j' : Nat} (hj : j < M.length) (hi : i ≤ j') (hle : j' ≤ j) : psum M i j' ≤ psum M i j := by
  unfold psum
  exact sumTo_mono (by omega) (fun x hx => by have := (h.pos (i + 1 + x) (by omega)).1; omega)
theorem pB_down {M : List Int} (h : Eu M) {i j j' : Nat} (hj : j < M.length) (hi : i < j') (hle : j' ≤ j) (hp : pB M i j = true) : pB M i j' = true := by
  have h1 := pB_iff.1 hp
  have h2 := psum_mono h hj (by omega : i ≤ j') hle
  exact pB_iff.2 ⟨hi, by omega⟩
/-- The last of the first n points to which j is proximate, or -1. -/
def secTo (M : List Int) (j : Nat) : Nat → Int
  | 0 => -1
  | n + 1 => if pB M n j = true then (n : Int) else secTo M j n
theorem secTo_yes {M : List Int} {j n : Nat} (h : pB M n j = true) : secTo M j (n + 1) = n := by simp [secTo, h]
theorem secTo_no {M : List Int} {j n : Nat} (h : pB M n j = false) : secTo M j (n + 1) = secTo M j n := by simp [secTo, h]
theorem secTo_cases (M : List Int) (j : Nat) : ∀ n, (secTo M j n = -1 ∧ ∀ i, i < n → pB M i j = false) ∨ ∃ i, i < n ∧ secTo M j n = (i : Int) ∧ pB M i j = true := by
  intro n
  induction n with
  | zero => exact .inl ⟨rfl, fun i hi => by omega⟩
  | succ n ih =>
    cases c : pB M n j
    · rw [secTo_no c]
      rcases ih with ⟨h1, h2⟩ | ⟨i, h1, h2, h3⟩
      · refine .inl ⟨h1, fun i hi => ?_⟩
        by_cases e : i = n
        · subst e; exact c
        · exact h2 i (by omega)
      · exact .inr ⟨i, by omega, h2, h3⟩
    · rw [secTo_yes c]; exact .inr ⟨n, by omega, rfl, c⟩
/-- The second point to which j is proximate, or -1. -/
def sI (M : List Int) (j : Nat) : Int := secTo M j (j - 1)
theorem sI_bd (M : List Int) (j : Nat) : -1 ≤ sI M j ∧ (0 ≤ sI M j → sI M j + 1 < (j : Int)) := by
  unfold sI
  rcases secTo_cases M j (j - 1) with ⟨h1, _⟩ | ⟨i, h1, h2, _⟩ <;> omega
/-- The first n points to which j is proximate. -/
def rowTo (M : List Int) (j : Nat) : Nat → List Int
  | 0 => []
  | n + 1 => rowTo M j n ++ (if pB M n j = true then [(n : Int)] else [])
/-- The parents, and the seconds. -/
def parL (k : Nat) : List Int := (List.range k).map fun (j : Nat) => (j : Int) - 1
def secM (M : List Int) : List Int := (List.range M.length).map (sI M)
@[simp] theorem parL_len (k : Nat) : (parL k).length = k := by simp [parL]
@[simp] theorem secM_len (M : List Int) : (secM M).length = M.length := by simp [secM]
/-- The number of the code at j (of the point j + 1). -/
def cI (M : List Int) (j : Nat) : Int := if 0 ≤ sI M (j + 1) then ((j + 1 : Nat) : Int) - sI M (j + 1) else 0
def codeL (M : List Int) : List Int := (List.range (M.length - 1)).map (cI M)
@[simp] theorem codeL_len (M : List Int) : (codeL M).length = M.length - 1 := by simp [codeL]
theorem gI_codeL {M : List Int} {j : Nat} (h : j + 1 < M.length) : gI (codeL M) j = cI M j := by rw [gI_lt (by simp; omega)]; simp [codeL]
/-- The order of the point i. -/
def oI (own : Nat → Int) (M : List Int) (i : Nat) : Int := gI (ordTo own (parL M.length) (secM M) (i + 1)) i
/-- What is left of the number i. -/
def lft (M : List Int) (n i : Nat) : Int := gI M i - sumTo (fun t => if pB M i t = true then gI M t else 0) n
end Go.Proofs.YtglghdkjppcedaaGreatDoor

/- The multiplicities of a curvette, from the code backwards. No program in sight. -/
namespace Go.Proofs.YtglghdkjppcedaaGreatDoor
open Go.RowKit

/-- The number x is added at place i. -/
def bump (L : List Int) (i : Nat) (x : Int) : List Int := L.set i (gI L i + x)
@[simp] theorem bump_len (L : List Int) (i : Nat) (x : Int) : (bump L i x).length = L.length := by simp [bump]
/-- The point j gives its number to the points to which it is proximate. -/
def cuStep (K : List Int) (j : Nat) (L : List Int) : List Int :=
  if gI K (j - 1) = 0 then bump L (j - 1) (gI L j) else bump (bump L (j - 1) (gI L j)) (j - (gI K (j - 1)).toNat) (gI L j)
/-- The numbers after t points, from the last. -/
def cuAt (K : List Int) : Nat → List Int
  | 0 => List.replicate K.length 0 ++ [1]
  | t + 1 => cuStep K (K.length - t) (cuAt K t)
@[simp] theorem cuStep_len (K : List Int) (j : Nat) (L : List Int) : (cuStep K j L).length = L.length := by unfold cuStep; split <;> simp
@[simp] theorem cuAt_len (K : List Int) (t : Nat) : (cuAt K t).length = K.length + 1 := by
  induction t with
  | zero => simp [cuAt]
  | succ t ih => simp [cuAt, ih]
/-- A list of steps back that stay among the points. -/
def KOk (K : List Int) : Prop := K.length ≤ 399 ∧ ∀ i, i < K.length → 0 ≤ gI K i ∧ gI K i ≤ (i : Int) + 1
/-- The first t points from the last have numbers to 64. -/
def cuGo (K : List Int) (t : Nat) : Prop := ∀ s, s < t → gI (cuAt K s) (K.length - s) ≤ 64
instance (K : List Int) (t : Nat) : Decidable (cuGo K t) := by unfold cuGo; infer_instance
/-- Are all the numbers behind the first to 64? -/
def cuE (K : List Int) : Bool := decide (cuGo K K.length)
/-- What is handed back. -/
def cuL (K : List Int) : List Int := if cuE K then cuAt K K.length else []
def cuB (K : List Int) : Bool := cuE K && decide (gI (cuAt K K.length) 0 ≤ 64)
end Go.Proofs.YtglghdkjppcedaaGreatDoor

/- The curvette's multiplicities are at most the branch's. No program in sight. -/
namespace Go.Proofs.YtglghdkjppcedaaGreatDoor
open Go.RowKit

end Go.Proofs.YtglghdkjppcedaaGreatDoor

/- Contracts: the steps of Euclid's algorithm. -/
namespace Go.Proofs.YtglghdkjppcedaaGreatDoor
open Go.RowKit

theorem stp_len : ∀ n a b, (stp n a b).length ≤ n := by
  intro n
  induction n with
  | zero => intro a b; simp [stp]
  | succ n ih =>
    intro a b
    rw [stp_succ]
    split
    · have := ih b (a % b); simp; omega
    · simp
theorem stB_len (a b : Int) : (stB a b).length ≤ b.toNat := stp_len _ _ _
/-- The steps as rows. -/
def rowsOf (R : List (Int × Int)) : List (List Int) := R.map fun s => [s.1, s.2]
@[simp] theorem rowsOf_len (R : List (Int × Int)) : (rowsOf R).length = R.length := by simp [rowsOf]
theorem rowsOf_snoc (R : List (Int × Int)) (s : Int × Int) : rowsOf (R ++ [s]) = rowsOf R ++ [[s.1, s.2]] := by simp [rowsOf]

set_option maxRecDepth 100000 in
set_option maxHeartbeats 4000000 in
theorem l01Steps_c (a b : Int) (w : World) (ha : 0 ≤ a) (ha2 : a ≤ 100000) (hb : 0 ≤ b) (hb2 : b ≤ 100000) :
    Calls Tryz.prog 96 #[.int .i64 a, .int .i64 b] w (RetM 2 w (rowsOf (stB a b))) := by
  obtain ⟨j0, ji, jz0, jz1, jz2⟩ := info_parts Tryz.infoII
  have hE : GrowM 2 24 (w.alloc (.cells #[] 24)) w.heap.size (.slice (some ⟨w.heap.size, 0, none⟩) 0 0) [] [] := GrowM.empty _ _ w w.heap.size w.heap.size rfl (Nat.le_refl _)
  have hal : Below w.heap.size w (w.alloc (.cells #[] 24)) := (Below.refl _ _).alloc (Nat.le_refl _) _
  have hlen := stB_len a b
  go_enter Tryz.func96, Tryz.ntmps96
  go_wp2_with fail
  go_loopw [0, 1, 5, 6] (fun av bv lv _ wr => ∃ (A B : Int) (R : List (Int × Int)) (g c : Nat) (vs : List Value), av = .int .i64 A ∧ bv = .int .i64 B ∧ 0 ≤ A ∧ A ≤ 100000 ∧ 0 ≤ B ∧ B ≤ 100000 ∧ lv = .slice (some ⟨g, 0, none⟩) (rowsOf R).length c ∧ GrowM 2 24 wr w.heap.size (.slice (some ⟨g, 0, none⟩) (rowsOf R).length c) vs (rowsOf R) ∧ R ++ stB A B = stB a b ∧ Below w.heap.size w wr) (fun _ bv _ _ _ => (intOf bv).toNat)
  case atStart => exact ⟨a, b, [], w.heap.size, 0, [], rfl, rfl, ha, ha2, hb, hb2, rfl, hE, rfl, hal⟩
  case round =>
    obtain ⟨A, B, R, g, c, vs, rfl, rfl, hA, hA2, hB, hB2, rfl, hG, hR, hbl⟩ := hrel
    clear hE hal
    obtain ⟨wo, rfl⟩ : ∃ wo : World, wo = wr := ⟨_, rfl⟩
    by_cases hlt : 0 < B
    · have hR' : R ++ [(A / B, B)] ++ stB B (A % B) = stB a b := by rw [← hR, stB_pos hlt]; simp
      have hRl : R.length ≤ 100000 := by have h := congrArg List.length hR; simp at h; omega
      have hq : Int.tdiv A B = A / B := Int.tdiv_eq_ediv_of_nonneg hA
      have hm : Int.tmod A B = A % B := Int.tmod_eq_emod_of_nonneg hA
      have hq0 : 0 ≤ A / B := Int.ediv_nonneg hA hB
      have hq1 : A / B ≤ A := Int.ediv_le_self _ hA
      have hm0 := Int.emod_nonneg A (show B ≠ 0 by omega)
      have hm1 := Int.emod_lt_of_pos A hlt
      have hBn : ¬ B = 0 := by omega
      have HR := Lib.hid hR'
      have HY := Lib.hid (rowsOf_snoc R (A / B, B))
      have HRL := Lib.hid hRl
      clear hR hR' hlen hRl
      generalize A / B = q at *
      generalize A % B = r at *
      have wq : IntKind.i64.wrap q = q := IntWalk.i64_in _ (by omega)
      have wr' : IntKind.i64.wrap r = r := IntWalk.i64_in _ (by omega)
      have hsz := hbl.size
      have hgl := (hG.block g rfl).2
      have hal2 : Below wo.heap.size wo (wo.alloc (.cells #[.int .i64 q, .int .i64 B] 2)) := (Below.refl _ _).alloc (Nat.le_refl _) _
      have hG2 := hG.below hal2
      have hu : Own 2 (wo.alloc (.cells #[.int .i64 q, .int .i64 B] 2)) w.heap.size (.slice (some ⟨wo.heap.size, 0, none⟩) 2 2) [q, B] := own_blk2 (Blk.new wo _ _) hsz
      have hua : Apart (.slice (some ⟨wo.heap.size, 0, none⟩) 2 2) (.slice (some ⟨g, 0, none⟩) (rowsOf R).length c) := fun x h1 h2 => by simp [Value.ownBlock] at h1 h2; omega
      have hur : ∀ i, i < (rowsOf R).length → Apart (vs.getD i (.slice none 0 0)) (.slice (some ⟨wo.heap.size, 0, none⟩) 2 2) := fun i hi x h1 h2 => by simp [Value.ownBlock] at h2; have := ((hG.row i hi).block x h1).2; omega
      go_wp2_with (at_builtin; refine wpList_pushR rfl (.tmp 10) (.tmp 16) 35 rfl w.heap.size 2 24 j0 Tryz.underlying35 ji jz0 jz1 jz2 (.slice (some ⟨g, 0, none⟩) (rowsOf R).length c) vs (rowsOf R) (.slice (some ⟨wo.heap.size, 0, none⟩) 2 2) [q, B] (by simp [go_sem]) hG2 (wo.heap.size + 1) (by simp) rfl hu hua hur (by have := HRL.out; simp; omega) (by simp; omega) ?_; intro g3 c3 w2 hG3 hkp hlt3)
      have hbl2 := (hbl.trans (hal2.mono hsz)).trans (hkp.below (by simp; omega) (fun k hk => by simp [Value.ownBlock] at hk; have := (hG.block g rfl).1; omega))
      rw [rowsOf_len] at hG3
      rw [← HY.out] at hG3
      have hl3 : (rowsOf (R ++ [(q, B)])).length = R.length + 1 := by simp
      rw [← hl3] at hG3
      have HL3 := Lib.hid hl3
      clear hkp hG hG2 hl3
      go_roundw
      case rel => exact ⟨B, r, R ++ [(q, B)], g3, c3, _, rfl, rfl, hB, hB2, hm0, by omega, by rw [HL3.out], hG3, HR.out, hbl2⟩
      case measure => simp [intOf]; omega
    · have hz : stB A B = [] := stB_zero hlt
      rw [hz, List.append_nil] at hR
      subst hR
      have hret := retM_mk hG.own hbl
      rw [rowsOf_len] at hret
      have HR := Lib.hid hret
      clear hG hz hret
      go_wp2
      go_ret
      exact HR.out
end Go.Proofs.YtglghdkjppcedaaGreatDoor

/- Contract: impl.runOf. -/
namespace Go.Proofs.YtglghdkjppcedaaGreatDoor
open Go.RowKit

/-- What was there first may have been written in M alone; later blocks do not count. -/
theorem Keeps.join {M N : Nat → Prop} {a b c : World} (h : Keeps M a b) (h' : Keeps N b c) (hMN : ∀ k, k < a.heap.size → N k → M k) : Keeps M a c :=
  ⟨h'.os.trans h.os, h'.tape.trans h.tape, h'.output.trans h.output, Nat.le_trans h.size h'.size, fun k hk hn => (h'.block k (Nat.lt_of_lt_of_le hk h.size) (fun e => hn (hMN k hk e))).trans (h.block k hk hn)⟩
theorem gR_rowsOf {R : List (Int × Int)} {i : Nat} (h : i < R.length) : gR (rowsOf R) i = [(R.getD i (0, 0)).1, (R.getD i (0, 0)).2] := by
  rw [gR_lt (by simpa using h)]
  simp [rowsOf, List.getD, h]
/-- The numbers of the first m steps. -/
def flatTo (R : List (Int × Int)) (m : Nat) : List Int := flat (R.take m)
theorem flatTo_zero (R : List (Int × Int)) : flatTo R 0 = [] := rfl
theorem flatTo_all (R : List (Int × Int)) : flatTo R R.length = flat R := by unfold flatTo; rw [List.take_length]
theorem flatTo_succ {R : List (Int × Int)} {m : Nat} (h : m < R.length) : flatTo R (m + 1) = flatTo R m ++ List.replicate (R.getD m (0, 0)).1.toNat (R.getD m (0, 0)).2 := by
  unfold flatTo
  rw [List.take_succ_eq_append_getElem h, flat_app, flat_cons, flat_nil, List.append_nil]
  simp [rep, List.getD, h]
/-- The steps are small. -/
theorem stp_bd : ∀ n (a b : Int), 0 ≤ a → a ≤ 100000 → b ≤ 100000 → ∀ s, s ∈ stp n a b → 0 ≤ s.1 ∧ s.1 ≤ 100000 ∧ 0 < s.2 ∧ s.2 ≤ 100000 := by
  intro n
  induction n with
  | zero => intro a b _ _ _ s hs; simp [stp] at hs
  | succ n ih =>
    intro a b h1 h2 h3 s hs
    rw [stp_succ] at hs
    by_cases hb : 0 < b
    · rw [if_pos hb] at hs
      have hq0 : 0 ≤ a / b := Int.ediv_nonneg h1 (by omega)
      have hq1 : a / b ≤ a := Int.ediv_le_self _ h1
      have hm0 := Int.emod_nonneg a (show b ≠ 0 by omega)
      have hm1 := Int.emod_lt_of_pos a hb
      rcases List.mem_cons.1 hs with rfl | hs
      · exact ⟨hq0, by omega, hb, h3⟩
      · exact ih b (a % b) (by omega) h3 (by omega) s hs
    · rw [if_neg hb] at hs; simp at hs

end Go.Proofs.YtglghdkjppcedaaGreatDoor

/- Contracts: divisors, ascends, falls, IsBranch; l03Is, l03Divisors. -/
namespace Go.Proofs.YtglghdkjppcedaaGreatDoor
open Go.RowKit

end Go.Proofs.YtglghdkjppcedaaGreatDoor

/- Contracts: impl.IsBranch, spec.l03Is. -/
namespace Go.Proofs.YtglghdkjppcedaaGreatDoor
open Go.RowKit

end Go.Proofs.YtglghdkjppcedaaGreatDoor

/- Contract: spec.l03Is. -/
namespace Go.Proofs.YtglghdkjppcedaaGreatDoor
open Go.RowKit

theorem Drew.cell {w w' : World} (h : Drew w w') (p : Addr) : w'.cell? p = w.cell? p := by
  obtain ⟨n, rfl⟩ := h; rfl

/-- The first k steps are good. -/
def braTo (T : List Int) (k : Nat) : Prop := ∀ i, i < k → inB (gI T (i + 1)) (gI T i + 1) 2000 = true ∧ eI T (i + 1) ≠ eI T i
end Go.Proofs.YtglghdkjppcedaaGreatDoor

/- Contract: spec.l03Divisors. -/
namespace Go.Proofs.YtglghdkjppcedaaGreatDoor
open Go.RowKit

set_option maxRecDepth 100000 in
set_option maxHeartbeats 4000000 in
theorem l03Divisors_c (v : Value) (T : List Int) (w : World) (h : Rd w v T) (hp : 0 < T.length) (hn : T.length ≤ 1000) (h0 : ∀ i, i < T.length → 1 ≤ gI T i ∧ gI T i ≤ 1000000000000) :
    Calls Tryz.prog 95 #[.agg #[v]] w (RetI w (eTo T T.length)) := by
  obtain ⟨i0, hi, hz0, hz1, hz2⟩ := info_parts Tryz.infoI
  have hx := Boxed.start w 90 #[v]
  obtain ⟨b, off, cap, rfl, hc1, hc2, hb, hc⟩ := h.cells hp
  have d0 : (w.alloc (.cells #[.slice (some ⟨b, off, none⟩) T.length cap] 90)).cell? ⟨b, off, none⟩ = some (.int .i64 (gI T 0)) := by
    rw [hx.below.cell (p := ⟨b, off, none⟩) hb]; exact hc 0 hp
  have hT0 : 0 < gI T 0 := by have := h0 0 hp; omega
  have hT1 : gI T 0 ≤ 1000000000000 := by have := h0 0 hp; omega
  go_enter Tryz.func95, Tryz.ntmps95
  have q0 := hx.cell 0
  have hlp : (0 : Int) < (T.length : Int) := by omega
  go_wp2_with fail
  have hlit := own_one (e := 2) (w.alloc (.cells #[.slice (some ⟨b, off, none⟩) T.length cap] 90)) (w.heap.size + 1) (by simp) (gI T 0)
  have hx1 := hx.alloc (.cells #[.int .i64 (gI T 0)] 2)
  clear d0 q0
  go_loopw [3, 4] (fun v i wr => ∃ k : Nat, 1 ≤ k ∧ k ≤ T.length ∧ i = .int .i64 k ∧ (∃ g c, v = .slice (some ⟨g, 0, none⟩) k c ∧ OwnI wr (w.heap.size + 1) v (eTo T k)) ∧ Boxed w wr 90 #[.slice (some ⟨b, off, none⟩) T.length cap]) (fun _ i _ => T.length - (intOf i).toNat)
  case atStart => exact ⟨1, Nat.le_refl _, by omega, rfl, ⟨_, _, rfl, by simpa [eTo, eI] using hlit⟩, hx1⟩
  case round =>
    clear hlit hx1
    obtain ⟨k, hk1, hk, rfl, ⟨g, c, rfl, hown⟩, hbx⟩ := hrel
    obtain ⟨wo, rfl⟩ : ∃ wo : World, wo = wr := ⟨_, rfl⟩
    have q0 := hbx.cell 0
    by_cases hlt : k < T.length
    · have hown' : OwnI wo (w.heap.size + 1) (.slice (some ⟨g, 0, none⟩) (eTo T k).length c) (eTo T k) := by rw [eTo_len]; exact hown
      have hcl := hown'.cell (k - 1) (by simp; omega)
      rw [gI_eTo (by omega)] at hcl
      obtain ⟨j, rfl⟩ : ∃ j, k = j + 1 := ⟨k - 1, by omega⟩
      rw [Nat.add_sub_cancel] at hcl
      have dT : wo.cell? ⟨b, off + (j + 1), none⟩ = some (.int .i64 (gI T (j + 1))) := by rw [hbx.below.cell (p := ⟨b, off + (j + 1), none⟩) hb]; exact hc _ hlt
      have hE := eI_pos hT0 j
      have hE2 := eI_le0 hT0 j
      have hTj := h0 (j + 1) hlt
      have HY := Lib.hid (eTo_succ T (j + 1))
      have HG := Lib.hid (eI_succ T j)
      have hsz := hbx.size
      have hbb : b < wo.heap.size := by omega
      have hgs := (hown.block g rfl).2
      have hgl := (hown.block g rfl).1
      have hj1 : ((j + 1 : Nat) : Int) < (T.length : Int) := by omega
      have hj2 : (j : Int) < ((j + 1 : Nat) : Int) := by omega
      have hj3 : (0 : Int) ≤ (j : Int) := by omega
      have wj : IntKind.i64.wrap (j : Int) = (j : Int) := IntWalk.i64_in _ (by omega)
      have hj4 : (j : Int) + 1 < (T.length : Int) := by omega
      have hj5 : (j : Int) < (j : Int) + 1 := by omega
      have hj6 : (0 : Int) ≤ (j : Int) + 1 := by omega
      have hj7 : ((j : Int) + 1).toNat = j + 1 := by omega
      clear hown'
      generalize gI T (j + 1) = y at dT hTj HG
      generalize eI T j = x at hcl hE hE2 HG
      have hal : Below wo.heap.size wo ((wo.alloc (.cells #[.int .i64 (gcdI x y)] 2)).drew) := ((Below.refl _ _).alloc (Nat.le_refl _) _).drew
      have hO := hown.below hal (Nat.le_refl _)
      have hbx' := hbx.trans hal
      go_wp2_with fail
      go_region_law (first | (refine step_push rfl (.tmp 17) (.tmp 29) 24 rfl (w.heap.size + 1) 2 i0 Tryz.underlying24 hi hz0 hz1 hz2 (.slice (some ⟨g, 0, none⟩) (j + 1) c) (eTo T (j + 1)) (gcdI x y) wo.heap.size rfl hO rfl (Blk.new wo _ _) (by simp; omega) (by simp; omega) ?_; intro g2 cap2 w2 h1 h2 h3 h4) | (go_simp; go_at_call 103; refine (l01Gcd_c _ _ _ (by omega) (by omega) (by omega) (by omega)).mono ?_; rintro e w1 ⟨rfl, rfl⟩))
      all_goals
        have hbx2 := hbx'.wrote (h2.mono (fun k hk => by simp [Value.ownBlock] at hk; omega))
        rw [← HG.out, ← HY.out, eTo_len] at h1
        clear h2 h3 h4 hO
        go_wp2
        go_roundw
        case rel => exact ⟨j + 1 + 1, by omega, by omega, by go_num, ⟨g2, cap2, rfl, h1⟩, hbx2⟩
        case measure => simp [intOf]; omega
    · go_wp2
      have hk' : k = T.length := by omega
      subst hk'
      go_ret
      exact retI_mk (hown.base_le (by omega)) hbx.below
end Go.Proofs.YtglghdkjppcedaaGreatDoor

/- Contract: spec.l03Divisors, where its list lies; lists that were made. -/
namespace Go.Proofs.YtglghdkjppcedaaGreatDoor
open Go.RowKit

theorem own_of_blk {e : TypeId} {w : World} {g n base : Nat} {cs : Array Value} {xs : List Int} (h : Blk w g e cs) (hn : cs.size = n) (hx : xs.length = n) (hb : base ≤ g) (hm : n ≤ maxLen) (hc : ∀ i, i < n → w.cell? ⟨g, i, none⟩ = some (.int .i64 (gI xs i))) : Own e w base (.slice (some ⟨g, 0, none⟩) n n) xs := by
  subst hx
  refine ⟨by simp, .inr ⟨g, xs.length, cs, rfl, hb, h, Nat.le_refl _, hm, by omega, ?_⟩⟩
  rw [Nat.mul_one, List.take_of_length_le (by simp; omega)]
  apply List.ext_getElem
  · simp; omega
  · intro i h1 h2
    have h3 : i < xs.length := by simpa using h2
    have h4 := hc i h3
    rw [h.cell, Array.getElem?_eq_getElem (by omega)] at h4
    injection h4 with h4
    simp [h4, gI_lt h3]
theorem size_made (z : Value) (N : Nat) : (madeCells #[z] N).size = N := by simp [madeCells]
theorem divisorsS_p (v : Value) (T : List Int) (w : World) (h : Rd w v T) (hok : BraOk T) :
    Calls Tryz.prog 95 #[.agg #[v]] w fun e w' => ∃ g c, e = .returned (.slice (some ⟨g, 0, none⟩) T.length c) ∧ OwnI w' w.heap.size (.slice (some ⟨g, 0, none⟩) T.length c) (eTo T T.length) ∧ Below w.heap.size w w' := by
  have hl := bra_len hok
  refine (l03Divisors_c v T w h hok.len (by omega) (fun i hi => by have := hok.num i hi; omega)).mono ?_
  rintro e w1 ⟨ge, ke, rfl, ho, hb1⟩
  obtain ⟨g, c, hge, h1⟩ := Own.pos ho (by have := hok.len; simp; omega)
  rw [hge] at ho ⊢
  rw [eTo_len] at ho ⊢
  exact ⟨g, c, rfl, ho, hb1⟩
theorem ownI_made {e : TypeId} {w : World} {base g n : Nat} (h : Blk w g e (madeCells #[.int .i64 0] n)) (hb : base ≤ g) (hn : n ≤ maxLen) : Own e w base (.slice (some ⟨g, 0, none⟩) n n) (List.replicate n 0) := by
  refine own_of_blk h (size_made _ _) (by simp) hb hn (fun i hi => ?_)
  rw [h.cell, gI_rep hi]
  simp [madeCells, hi, Nat.mod_one]
end Go.Proofs.YtglghdkjppcedaaGreatDoor
