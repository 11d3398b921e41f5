/- What the two readers of a curvette's multiplicities see at each run. No program in sight. -/
import Derived.Test.YtiinceflafigeaaCurT
import Derived.Test.YtiinceflafigeaaBlkS
namespace Go.Proofs.Ytiinceflafigeaa
open Go.RowKit

/-- The numbers of d runs from t on. -/
def remT (T : List Int) : Nat → Nat → List Int
  | _, 0 => []
  | t, d + 1 => flat (stB (kI T t) (eI T t)) ++ remT T (t + 1) d
theorem pre_rem (T : List Int) : ∀ d t, flat (pre T t) ++ remT T t d = flat (pre T (t + d)) := by
  intro d
  induction d with
  | zero => intro t; simp [remT]
  | succ d ih =>
    intro t
    show flat (pre T t) ++ (flat (stB (kI T t) (eI T t)) ++ remT T (t + 1) d) = _
    rw [← List.append_assoc, ← flat_app, ← pre_succ, ih, show t + 1 + d = t + (d + 1) by omega]
/-- What is left of the sequence of T and Z ones behind t runs. -/
def leftT (T : List Int) (Z t : Nat) : List Int := remT T t (T.length - 1 - t) ++ List.replicate Z 1
theorem leftT_zero (T : List Int) (Z : Nat) : leftT T Z 0 = flat (pre T (T.length - 1)) ++ List.replicate Z 1 := by
  have := pre_rem T (T.length - 1) 0
  rw [show pre T 0 = [] from rfl, flat_nil, List.nil_append, Nat.zero_add] at this
  unfold leftT
  rw [Nat.sub_zero, this]
theorem leftT_succ {T : List Int} {Z t : Nat} (h : t + 1 < T.length) : leftT T Z t = flat (stB (kI T t) (eI T t)) ++ leftT T Z (t + 1) := by
  unfold leftT
  obtain ⟨d, hd⟩ : ∃ d, T.length - 1 - t = d + 1 := ⟨T.length - 1 - t - 1, by omega⟩
  rw [hd, show T.length - 1 - (t + 1) = d by omega]
  show flat (stB (kI T t) (eI T t)) ++ remT T (t + 1) d ++ _ = _
  rw [List.append_assoc]
theorem leftT_end {T : List Int} {Z t : Nat} (h : T.length ≤ t + 1) : leftT T Z t = List.replicate Z 1 := by
  unfold leftT
  rw [show T.length - 1 - t = 0 by omega]
  rfl
theorem leftT_all (T : List Int) (Z : Nat) {t : Nat} (h : t < T.length) : flat (pre T t) ++ leftT T Z t = leftT T Z 0 := by
  rw [leftT_zero, leftT, ← List.append_assoc, pre_rem, show t + (T.length - 1 - t) = T.length - 1 by omega]

/-- The numbers of a run. -/
structure RunT (e k : Int) : Prop where
  e0 : 2 ≤ e
  e64 : e ≤ 64
  k1 : 1 ≤ k
  r0 : 0 < k % e
  r1 : k % e < e
theorem CurT.run {M T : List Int} {z : Nat} (h : CurT M T z) (h64 : gI M 0 ≤ 64) {t : Nat} (ht : t + 1 < T.length) : RunT (eI T t) (kI T t) := by
  have hb0 := h.bd 0 h.len
  have hf := h.fall t ht
  have he1 := eI_pos (T := T) (by omega) (t + 1)
  have he := eI_le0 (T := T) (by omega) t
  have hf0 := h.first
  have hk : 1 ≤ kI T t := by
    cases t with
    | zero => exact (h.bd 1 ht).1
    | succ t => have h5 : gI T (t + 1) < gI T (t + 2) := h.asc (t + 1) ht; show 1 ≤ gI T (t + 2) - gI T (t + 1); omega
  refine ⟨by omega, by omega, hk, ?_, Int.emod_lt_of_pos _ (by omega)⟩
  have hm := Int.emod_nonneg (kI T t) (show eI T t ≠ 0 by omega)
  by_cases c : kI T t % eI T t = 0
  · have h1 := gcdI_dvd_self (show 0 < eI T t by omega) c
    rw [kI_gcd] at h1
    omega
  · omega
/-- A run: so many e, then the rest, and what is behind. -/
theorem run_flat {e k : Int} (h : RunT e k) : flat (stB k e) = List.replicate (k / e).toNat e ++ flat (stB e (k % e)) := by
  rw [stB_pos (by have := h.e0; omega), flat_cons]; rfl
theorem flat_head {a b : Int} (hb : 0 < b) (h : b ≤ a) : ∃ Y, flat (stB a b) = b :: Y := by
  have hq := div_one_le hb h
  have hqn : (a / b).toNat = ((a / b).toNat - 1) + 1 := by omega
  rw [stB_pos hb, flat_cons]
  simp only [rep]
  rw [hqn, List.replicate_succ]
  exact ⟨_, rfl⟩
theorem rep_uniq {e : Int} : ∀ {c c' : Nat} {Y Y' : List Int}, List.replicate c e ++ Y = List.replicate c' e ++ Y' → Y.head? ≠ some e → Y'.head? ≠ some e → c = c' ∧ Y = Y' := by
  intro c
  induction c with
  | zero =>
    intro c' Y Y' h h1 h2
    cases c' with
    | zero => exact ⟨rfl, by simpa using h⟩
    | succ c' => rw [List.replicate_succ] at h; simp at h; rw [h] at h1; simp at h1
  | succ c ih =>
    intro c' Y Y' h h1 h2
    cases c' with
    | zero => rw [List.replicate_succ] at h; simp at h; rw [← h] at h2; simp at h2
    | succ c' =>
      rw [List.replicate_succ, List.replicate_succ] at h
      simp only [List.cons_append, List.cons.injEq, true_and] at h
      obtain ⟨h3, h4⟩ := ih h h1 h2
      exact ⟨by omega, h4⟩
theorem blk_some {x : Int} {Y : List Int} (h : Y.head? = some x) : ∃ c R, blk Y = (x, c) :: R := by
  obtain ⟨c, Y', h1, h2, _⟩ := lead x Y
  cases c with
  | zero =>
    rw [List.replicate_zero, List.nil_append] at h1
    rw [h1] at h; exact absurd h h2
  | succ c =>
    exact ⟨(c : Int) + 1, blk Y', by rw [h1, blk_rep _ _ _ h2]⟩
/-- What the spec's reader sees in the middle of a run: a full block and the remainder's block. -/
theorem mid_blk {a b : Int} {Y : List Int} (hb : 0 < b) (h : b ≤ a) (hm : a % b ≠ 0) :
    ∃ c R, blk (flat (stB a b) ++ Y) = (b, a / b) :: blk (flat (stB b (a % b)) ++ Y) ∧ blk (flat (stB b (a % b)) ++ Y) = (a % b, c) :: R := by
  have hm0 := Int.emod_nonneg a (show b ≠ 0 by omega)
  have hm1 := Int.emod_lt_of_pos a hb
  have hq := div_one_le hb h
  have hqn : (a / b).toNat = ((a / b).toNat - 1) + 1 := by omega
  obtain ⟨Y2, hY2⟩ := flat_head (a := b) (b := a % b) (by omega) (by omega)
  have hh : (flat (stB b (a % b)) ++ Y).head? = some (a % b) := by rw [hY2]; rfl
  obtain ⟨c, R, hc⟩ := blk_some hh
  refine ⟨c, R, ?_, hc⟩
  rw [stB_pos hb, flat_cons, List.append_assoc]
  simp only [rep]
  rw [hqn, blk_rep _ _ _ (by rw [hh]; intro h; injection h with h; omega)]
  congr 2
  omega
/-- .. and at the end of a run: the block, of which the first numbers are the run's. -/
theorem end_blk {a b : Int} {Y : List Int} (hb : 0 < b) (h : b ≤ a) (hm : a % b = 0) :
    ∃ (x : Nat) (Y' : List Int), Y = List.replicate x b ++ Y' ∧ Y'.head? ≠ some b ∧ blk (flat (stB a b) ++ Y) = (b, a / b + x) :: blk Y' := by
  have hq := div_one_le hb h
  obtain ⟨x, Y', h1, h2, _⟩ := lead b Y
  refine ⟨x, Y', h1, h2, ?_⟩
  rw [stB_pos hb, stB_zero (by omega), flat_cons, flat_nil, List.append_nil]
  simp only [rep]
  rw [h1, ← List.append_assoc, List.replicate_append_replicate]
  have e : (a / b).toNat + x = ((a / b).toNat + x - 1) + 1 := by omega
  rw [e, blk_rep _ _ _ h2]
  congr 2
  omega

/-- What impl's reader sees: so many e from p on, then the rest; the run stands there. -/
theorem CurT.see {M T : List Int} {z : Nat} (h : CurT M T z) (h64 : gI M 0 ≤ 64) {t : Nat} (ht : t + 1 < T.length) {p : Nat} (hp : (flat (pre T t)).length = p) :
    (∀ c, c < (kI T t / eI T t).toNat → gI M (p + c) = eI T t) ∧ gI M (p + (kI T t / eI T t).toNat) = kI T t % eI T t ∧ p + (kI T t / eI T t).toNat < M.length ∧ p + (flat (stB (kI T t) (eI T t))).length ≤ M.length ∧
    (∀ i, i < (flat (stB (kI T t) (eI T t))).length → gI M (p + i) = gI (flat (stB (kI T t) (eI T t))) i) ∧ (flat (pre T (t + 1))).length = p + (flat (stB (kI T t) (eI T t))).length := by
  have hr := h.run h64 ht
  have hM : M = flat (pre T t) ++ (flat (stB (kI T t) (eI T t)) ++ leftT T z (t + 1)) := by
    rw [← leftT_succ ht, leftT_all _ _ (by omega), leftT_zero]; exact h.eq
  have hD : ∀ i, gI M (p + i) = gI (flat (stB (kI T t) (eI T t)) ++ leftT T z (t + 1)) i := fun i => by
    conv => lhs; rw [hM]
    rw [gI_app_ge (by omega)]; congr 1; omega
  have hl : M.length = p + ((flat (stB (kI T t) (eI T t))).length + (leftT T z (t + 1)).length) := by
    conv => lhs; rw [hM]
    simp [hp]
  have hpre : (flat (pre T (t + 1))).length = p + (flat (stB (kI T t) (eI T t))).length := by rw [pre_succ, flat_app, List.length_append, hp]
  have hf := run_flat hr
  obtain ⟨Y2, hY2⟩ := flat_head (a := eI T t) (b := kI T t % eI T t) hr.r0 (by have := hr.r1; omega)
  have hfl : (flat (stB (kI T t) (eI T t))).length = (kI T t / eI T t).toNat + (Y2.length + 1) := by rw [hf, hY2]; simp
  refine ⟨fun c hc => ?_, ?_, by omega, by omega, fun i hi => ?_, hpre⟩
  · rw [hD, hf, List.append_assoc, gI_replicate_app hc]
  · rw [hD, hf, List.append_assoc, gI_app_ge (by simp), hY2]
    simp [gI]
  · rw [hD, gI_app_lt hi]
theorem CurT.ones {M T : List Int} {z : Nat} (h : CurT M T z) {p : Nat} (hp : (flat (pre T (T.length - 1))).length = p) : p ≤ M.length ∧ ∀ i, p ≤ i → i < M.length → gI M i = 1 := by
  have hl : M.length = p + z := by
    conv => lhs; rw [h.eq]
    simp [hp]
  refine ⟨by omega, fun i h1 h2 => ?_⟩
  conv => lhs; rw [h.eq]
  rw [gI_app_ge (by omega), gI_rep (by omega)]
/-- The runs are not long. -/
theorem CurT.kbd {M T : List Int} {z : Nat} (h : CurT M T z) (h64 : gI M 0 ≤ 64) (hl : M.length ≤ 400) {t : Nat} (ht : t + 1 < T.length) : 0 ≤ kI T t / eI T t ∧ kI T t / eI T t ≤ 400 ∧ kI T t ≤ 26000 ∧ kI T t / eI T t * eI T t + kI T t % eI T t = kI T t := by
  have hr := h.run h64 ht
  have hs := (h.see h64 ht rfl).2.2.1
  have he := hr.e0
  have h64' := hr.e64
  have hq0 : 0 ≤ kI T t / eI T t := Int.ediv_nonneg (by have := hr.k1; omega) (by omega)
  have hdm := Int.emod_add_mul_ediv (kI T t) (eI T t)
  have hc : eI T t * (kI T t / eI T t) = kI T t / eI T t * eI T t := Int.mul_comm _ _
  have hm := Int.mul_le_mul (show kI T t / eI T t ≤ 400 by omega) h64' (by omega) (by omega)
  have := hr.r1
  refine ⟨hq0, by omega, by omega, by omega⟩
end Go.Proofs.Ytiinceflafigeaa
