/- What the law on curvettes says: codes and curvettes lead to each other, the meeting number is the order, the branch is the curvette at its last point. No program in sight. -/
import Derived.Test.YtiinceflafigeaaCat
import Derived.Test.YtiinceflafigeaaPtsLaw
import Derived.Test.YtiinceflafigeaaThrC
import Derived.Test.YtiinceflafigeaaUnlPure
import Derived.Test.YtiinceflafigeaaDrwC
namespace Go.Proofs.Ytiinceflafigeaa
open Go.RowKit

/-- Proximate by the code, proximate by the sums. -/
theorem pK_pB {M : List Int} (h : Eu M) {i j : Nat} (hij : i < j) (hj : j < M.length) : pK (codeL M) i j = pB M i j := by
  obtain ⟨q, rfl⟩ : ∃ q, j = q + 1 := ⟨j - 1, by omega⟩
  have hg : gI (codeL M) (q + 1 - 1) = cI M q := by rw [Nat.add_sub_cancel, gI_codeL hj]
  have hb := sI_bd M (q + 1)
  rw [Bool.eq_iff_iff]
  simp only [pK, decide_eq_true_eq, hg]
  constructor
  · rintro ⟨_, h1 | ⟨h1, h2⟩⟩
    · have : i = q := by omega
      subst this; exact pB_prev h hj
    · by_cases hs : 0 ≤ sI M (q + 1)
      · have hc : cI M q = ((q + 1 : Nat) : Int) - sI M (q + 1) := by simp [cI, hs]
        have he : (sI M (q + 1)).toNat = i := by omega
        have := pB_sec hs
        rwa [he] at this
      · have hc : cI M q = 0 := by simp [cI, hs]
        omega
  · intro hp
    rcases pB_of h hj hp with h1 | h1
    · exact ⟨by omega, .inl (by omega)⟩
    · have hs : 0 ≤ sI M (q + 1) := by omega
      have hc : cI M q = ((q + 1 : Nat) : Int) - sI M (q + 1) := by simp [cI, hs]
      exact ⟨by omega, .inr ⟨by omega, by omega⟩⟩
theorem cu_pB {M : List Int} (h : Eu M) (hk : KCo (codeL M)) (hp : 0 < M.length) {i : Nat} (hi : i < M.length) :
    gI (cuM (codeL M)) i = (if i = M.length - 1 then 1 else 0) + sumTo (fun j => if pB M i j = true then gI (cuM (codeL M)) j else 0) M.length := by
  have hl := codeL_len M
  rw [cuM_sum hk (by omega), hl, show M.length - 1 + 1 = M.length by omega]
  congr 1
  refine sumTo_congr fun j hj => ?_
  by_cases hij : i < j
  · rw [pK_pB h hij hj]
  · have h1 : pB M i j = false := pB_no (by omega)
    have h2 : pK (codeL M) i j = false := by
      cases c : pK (codeL M) i j
      · rfl
      · exact absurd (pK_last c) hij
    rw [h1, h2]
theorem oI_all {M : List Int} (h : Eu M) (own : Nat → Int) {j : Nat} (hj : j < M.length) : oI own M j = own j + sumTo (fun i => if pB M i j = true then oI own M i else 0) M.length := by
  rw [oI_sum h own hj]
  congr 1
  obtain ⟨d, hd⟩ : ∃ d, M.length = j + d := ⟨M.length - j, by omega⟩
  rw [hd]
  clear hd
  induction d with
  | zero => rfl
  | succ d ih => rw [← Nat.add_assoc, sumTo_succ, ← ih, pB_no (by omega)]; simp
/-- The number in which a branch and its curvette meet is the order. -/
theorem meet_ord {M : List Int} (h : Eu M) (hk : KCo (codeL M)) (hp : 0 < M.length) (own : Nat → Int) : sumTo (fun i => own i * gI (cuM (codeL M)) i) M.length = oI own M (M.length - 1) := by
  have hc := fun i (hi : i < M.length) => cu_pB h hk hp hi
  have ho := fun j (hj : j < M.length) => oI_all h own hj
  generalize hcc : (fun i => gI (cuM (codeL M)) i) = c at *
  have hci : ∀ i, gI (cuM (codeL M)) i = c i := fun i => congrFun hcc i
  simp only [hci] at hc ⊢
  clear hcc hci
  have e1 : sumTo (fun j => c j * oI own M j) M.length = sumTo (fun j => own j * c j) M.length + sumTo (fun j => sumTo (fun i => if pB M i j = true then c j * oI own M i else 0) M.length) M.length := by
    rw [← sumTo_add]
    refine sumTo_congr fun j hj => ?_
    rw [ho j hj, Int.mul_add, Int.mul_comm]
    congr 1
    rw [← sumTo_mul]
    refine sumTo_congr fun i _ => ?_
    split <;> simp
  have e2 : sumTo (fun i => oI own M i * c i) M.length = sumTo (fun i => (if i = M.length - 1 then 1 else 0) * oI own M i) M.length + sumTo (fun i => sumTo (fun j => if pB M i j = true then c j * oI own M i else 0) M.length) M.length := by
    rw [← sumTo_add]
    refine sumTo_congr fun i hi => ?_
    conv => lhs; rw [hc i hi]
    rw [Int.mul_add, Int.mul_comm]
    congr 1
    rw [← sumTo_mul]
    refine sumTo_congr fun j _ => ?_
    split
    · exact Int.mul_comm _ _
    · simp
  rw [sumTo_swap] at e1
  rw [sumTo_unit, if_pos (by omega)] at e2
  have e3 : sumTo (fun j => c j * oI own M j) M.length = sumTo (fun i => oI own M i * c i) M.length := sumTo_congr fun i _ => Int.mul_comm _ _
  omega

theorem psum_cu {K : List Int} (h : KCo K) {i j : Nat} (hij : i < j) (hj : j ≤ K.length) : pB (cuM K) i j = pK K i j := by
  obtain ⟨s, h1, h2, hp⟩ := span_ex h (i := i) (by omega)
  have hsum := cuM_span h (by omega) h2 hp
  rw [Bool.eq_iff_iff, pB_iff, hp j hj]
  constructor
  · rintro ⟨_, hle⟩
    refine ⟨hij, Nat.le_of_not_lt fun hlt => ?_⟩
    have hm := sumTo_mono (f := fun t => gI (cuM K) (i + 1 + t)) (n := s + 1) (m := j - i) (by omega) (fun x hx => by have := cuM_pos h (i := i + 1 + x) (by omega); omega)
    rw [sumTo_succ, ← hsum] at hm
    have := cuM_pos h (i := i + 1 + s) (by omega)
    unfold psum at hle
    omega
  · rintro ⟨_, hle⟩
    refine ⟨hij, ?_⟩
    unfold psum
    rw [hsum]
    exact sumTo_mono (by omega) (fun x hx => by have := cuM_pos h (i := i + 1 + x) (by omega); omega)
/-- The curvette of a code has this code. -/
theorem code_cu {K : List Int} (h : KCo K) (he : Eu (cuM K)) : codeL (cuM K) = K := by
  have hl : (cuM K).length = K.length + 1 := cuAt_len K K.length
  apply gI_ext (by simp [hl])
  intro i hi
  have hi' : i < K.length := by rw [codeL_len, hl] at hi; omega
  rw [gI_codeL (by omega)]
  have hb := sI_bd (cuM K) (i + 1)
  have hk := h.ok.2 i hi'
  unfold cI
  by_cases hz : gI K i = 0
  · have : ¬ 0 ≤ sI (cuM K) (i + 1) := by
      intro hs
      have hp := pB_sec hs
      rw [psum_cu h (by omega) (by omega)] at hp
      simp only [pK, decide_eq_true_eq, Nat.add_sub_cancel] at hp
      omega
    rw [if_neg this, hz]
  · have hg := kco_ge h hi' hz
    have hp : pK K (i + 1 - (gI K i).toNat) (i + 1) = true := by
      simp only [pK, decide_eq_true_eq, Nat.add_sub_cancel]; exact ⟨by omega, .inr ⟨by omega, by omega⟩⟩
    rw [← psum_cu h (by omega) (by omega)] at hp
    rcases pB_of he (by omega) hp with h1 | h1
    · omega
    · rw [if_pos (by omega), ← h1]; omega
theorem CurT.seq {M T : List Int} {z : Nat} (h : CurT M T z) : seqL T M.length = M := by
  have e := h.eq
  apply gI_ext (by simp)
  intro i hi
  rw [seqL_len] at hi
  rw [gI_seqL hi]
  unfold fullL
  by_cases c : i < (flat (pre T (T.length - 1))).length
  · conv => rhs; rw [e]
    rw [gI_app_lt c, gI_app_lt c]
  · have hl := congrArg List.length e
    simp at hl
    conv => rhs; rw [e]
    rw [gI_app_ge (by omega), gI_app_ge (by omega), gI_rep (by omega), gI_rep (by omega)]
/-- What is known of the curvette of a code. -/
theorem cvR_code {K xs : List Int} (hk : KCo K) (h : CvR K xs 0) : BraOk xs ∧ codeL (seqL xs (K.length + 1)) = K := by
  rcases h with ⟨_, _, h⟩ | ⟨hu, T, z, hT, h⟩
  · cases h
  · rcases h with ⟨hb, rfl, _⟩ | ⟨_, _, h⟩
    · have hok := braB_iff.1 hb
      have hl : (cuM K).length = K.length + 1 := cuAt_len K K.length
      have hs := hT.seq
      rw [hl] at hs
      have he := eu_seq hok (K.length + 1)
      rw [hs] at he ⊢
      exact ⟨hok, code_cu hk he⟩
    · cases h

/-- In a whole sequence the numbers are the sums over the points that are proximate. -/
theorem full_sum {M : List Int} (h : Eu M) (hg : GoodM M) {i : Nat} (hi : i + 1 < M.length) : gI M i = sumTo (fun t => if pB M i t = true then gI M t else 0) M.length := by
  have hle := prox_le h (i := i) (by omega) M.length (Nat.le_refl _)
  refine Int.le_antisymm ?_ hle
  have hsp := split_at (X := M) (i := i) (by omega)
  obtain ⟨he, hb⟩ := hg _ _ _ hsp
  have hX : ∀ x, gI (M.drop (i + 1)) x = gI M (i + 1 + x) := fun x => gI_drop
  have hhd : (M.drop (i + 1)).head? = some (gI M (i + 1)) := by
    rw [List.head?_drop]
    exact gI_some hi
  obtain ⟨hr0, hre, Z, hZ⟩ := hb _ hhd
  -- a point where the sum is the number
  have key : ∃ s, 1 ≤ s ∧ i + s < M.length ∧ psum M i (i + s) = gI M i := by
    have hdm := Int.emod_add_mul_ediv (gI M i) (gI M (i + 1))
    have hq1 := div_one_le hr0 hre
    generalize hr : gI M (i + 1) = r at *
    generalize gI M i = e at *
    generalize hq : (e / r).toNat = q at *
    have hqr : (q : Int) * r = r * (e / r) := by rw [show (q : Int) = e / r by omega, Int.mul_comm]
    have hfront : ∀ x, x < q → gI M (i + 1 + x) = r := by
      intro x hx
      rw [← hX, hZ, gI_app_lt (by simpa using hx), gI_rep hx]
    have hlen := congrArg List.length hZ
    simp only [List.length_drop, List.length_append, List.length_replicate] at hlen
    by_cases hz : e % r = 0
    · rw [if_pos hz] at hlen
      refine ⟨q, by omega, by omega, ?_⟩
      unfold psum
      rw [show i + q - i = q by omega, sumTo_const (c := r) hfront]
      omega
    · rw [if_neg hz] at hlen
      simp at hlen
      refine ⟨q + 1, by omega, by omega, ?_⟩
      unfold psum
      rw [show i + (q + 1) - i = q + 1 by omega, sumTo_succ, sumTo_const (c := r) hfront]
      have : gI M (i + 1 + q) = e % r := by
        rw [← hX, hZ, gI_app_ge (by simp), if_neg hz]
        simp [gI]
      omega
  obtain ⟨s, hs1, hs2, hs⟩ := key
  have hp : pB M i (i + s) = true := pB_iff.2 ⟨by omega, by omega⟩
  have zero : ∀ m, m ≤ i + 1 → sumTo (fun t => if pB M i t = true then gI M t else 0) m = 0 := by
    intro m hm
    refine sumTo_const_zero fun t ht => ?_
    rw [pB_no (by omega)]; rfl
  have all : ∀ m, m ≤ s → sumTo (fun t => if pB M i t = true then gI M t else 0) (i + m + 1) = psum M i (i + m) := by
    intro m
    induction m with
    | zero => intro _; rw [zero _ (by omega), Nat.add_zero, psum_self]
    | succ m ihm =>
      intro hm
      rw [sumTo_succ, show i + (m + 1) = i + m + 1 by omega, ihm (by omega), psum_succ M (by omega), if_pos (pB_down h hs2 (by omega) (by omega) hp)]
  rw [← hs, ← all s (Nat.le_refl _)]
  exact sumTo_mono (by omega) (fun x hx => by
    show 0 ≤ if pB M i x = true then gI M x else 0
    split
    · have := (h.pos x hx).1; omega
    · omega)
theorem cu_full {M : List Int} (h : Eu M) (hg : GoodM M) (hk : KCo (codeL M)) (hp : 0 < M.length) (hl : gI M (M.length - 1) = 1) : cuM (codeL M) = M := by
  have hlen : (cuM (codeL M)).length = M.length := by have := cuAt_len (codeL M) (codeL M).length; rw [codeL_len] at this; show (cuAt (codeL M) (codeL M).length).length = _; rw [codeL_len]; omega
  have key : ∀ d i, i + d + 1 = M.length → gI (cuM (codeL M)) i = gI M i := by
    intro d
    induction d using Nat.strongRecOn with
    | _ d ih =>
      intro i hi
      rw [cu_pB h hk hp (by omega)]
      have hz : ∀ f : Nat → Int, (∀ j, i < j → j < M.length → f j = gI M j) → sumTo (fun j => if pB M i j = true then f j else 0) M.length = sumTo (fun j => if pB M i j = true then gI M j else 0) M.length := fun f hf => sumTo_congr fun j hj => by
        cases c : pB M i j
        · rfl
        · have := (pB_iff.1 c).1
          rw [hf j this hj]
      rw [hz _ (fun j hij hj => ih (M.length - 1 - j) (by omega) j (by omega))]
      by_cases e : i = M.length - 1
      · rw [if_pos e, sumTo_const_zero (fun j hj => by rw [pB_no (by omega)]; rfl), e, hl]; rfl
      · rw [if_neg e, ← full_sum h hg (by omega)]; omega
  apply gI_ext hlen
  intro i hi
  rw [hlen] at hi
  exact key (M.length - 1 - i) i (by omega)

/-- The whole sequence of a branch. -/
theorem good_seqP {T : List Int} (h : BraOk T) : GoodM (seqP T) ∧ gI (seqP T) (cntT T - 1) = 1 := by
  have hc := cnt_pos h
  unfold cntT at hc ⊢
  unfold seqP at *
  split at hc
  · rename_i h1
    rw [if_pos h1]
    refine ⟨?_, rfl⟩
    have := (tl_rep (b := 1) (by omega) (tl_nil 1) 1).good
    simpa using this
  · rename_i h1
    rw [if_neg h1]
    have h0 := (full_tl h 0).good
    have h2 := (full_tl h 1).good
    unfold fullL at h0 h2
    rw [List.replicate_zero, List.append_nil] at h0
    refine ⟨h0, ?_⟩
    generalize flat (pre T (T.length - 1)) = M at *
    have hM : M ++ List.replicate 1 1 = M.take (M.length - 1) ++ gI M (M.length - 1) :: [1] := by
      have := split_at (X := M) (i := M.length - 1) (by omega)
      conv => lhs; rw [this]
      rw [List.drop_eq_nil_of_le (by omega)]; simp
    obtain ⟨h3, h4⟩ := h2 _ _ _ hM
    obtain ⟨_, _, Z, hZ⟩ := h4 1 rfl
    have hl := congrArg List.length hZ
    simp at hl
    omega
theorem curT_seqP {T : List Int} (h : BraOk T) : ∃ z, CurT (seqP T) T z := by
  have hl7 := bra_len h
  by_cases h1 : T.length = 1
  · have hf := h.last
    rw [h1] at hf
    have e0 : eI T 0 = gI T 0 := rfl
    have es : seqP T = [1] := by unfold seqP; rw [if_pos h1]
    rw [es]
    refine ⟨1, h.len, hl7, ?_, fun i hi => by omega, fun i hi => by omega, h.last, fun i hi => by have := h.num i hi; omega, ?_⟩
    · rw [← e0]; exact hf
    · rw [h1]; rfl
  · have es : seqP T = flat (pre T (T.length - 1)) := by unfold seqP; rw [if_neg h1]
    rw [es]
    have hp := h.len
    have hk : kI T 0 = gI T 1 := rfl
    have ha : gI T 0 < gI T 1 := h.asc 0 (by omega)
    have e0 : eI T 0 = gI T 0 := rfl
    have h0 := h.num 0 hp
    refine ⟨0, hp, hl7, ?_, fun i hi => h.asc i hi, fun i hi => h.fall i hi, h.last, fun i hi => by have := h.num i hi; omega, by simp⟩
    have e1 : flat (pre T (T.length - 1)) = leftT T 0 0 := by rw [leftT_zero]; simp
    obtain ⟨Y, hY⟩ := flat_head (a := kI T 0) (b := eI T 0) (by omega) (by omega)
    rw [e1, leftT_succ (by omega), hY, e0]; rfl
/-- A branch is the curvette at the last point of its sequence. -/
theorem cat_last {T : List Int} (h : BraOk T) (hc : cntT T ≤ 400) : CatR T ((cntT T : Int) - 1) T 0 := by
  have hp := cnt_pos h
  have e1 : (cntT T : Int) - 1 + 1 = (cntT T : Int) := by omega
  have hck : ckC T (cntT T : Int) = 0 := by
    unfold ckC
    rw [braB_iff.2 h, if_pos rfl, if_pos (inB_iff.2 (by omega))]
  refine .inr ⟨by rw [e1]; exact hck, ?_⟩
  rw [e1, Int.toNat_natCast]
  have hk := kco_at hck
  have heu := eu_seq h (cntT T)
  have hgo := cur_go heu (by simp; omega) (by simp; omega)
  obtain ⟨z, hz⟩ := curT_seqP h
  obtain ⟨hg, hl1⟩ := good_seqP h
  have hsl : (seqP T).length = cntT T := rfl
  rw [seqL_cnt] at *
  have hcu : cuM (codeL (seqP T)) = seqP T := cu_full heu hg hk (by omega) (by rw [hsl]; exact hl1)
  have h64 := (heu.pos 0 (by omega)).2
  refine .inr ⟨?_, T, z, by rw [hcu]; exact hz, .inl ⟨braB_iff.2 h, rfl, rfl⟩⟩
  rw [cuB_yes hgo]
  show decide (gI (cuM (codeL (seqP T))) 0 ≤ 64) = true
  rw [hcu]
  exact decide_eq_true h64
end Go.Proofs.Ytiinceflafigeaa

/- Contract: spec.CurvetteAt. -/
namespace Go.Proofs.Ytiinceflafigeaa
open Go.RowKit

set_option maxRecDepth 100000 in
set_option maxHeartbeats 4000000 in
theorem specCat_yes (v : Value) (T xs : List Int) (n : Nat) (c : Int) (w : World) (h : Rd w v T) (h0 : ckC T (n : Int) = 0) (hR : CvR (codeL (seqL T n)) xs c) :
    Calls Try.prog 15 #[.agg #[v], .int .i64 ((n : Int) - 1)] w (RetBC w xs c) := by
  have hx := (Boxed.start w 26 #[v]).alloc (.cells #[.slice none 0 0] 26)
  have D := Blk.new' (w := w.alloc (.cells #[v] 26)) (t := 26) (cs := #[.slice none 0 0]) (g := w.heap.size + 1) (by simp)
  obtain ⟨a, cp, rfl⟩ := h.len0
  obtain ⟨hok, hk3, hk4⟩ := ckC_zero h0
  have e1 : (n : Int) - 1 + 1 = (n : Int) := by omega
  have hw : IntKind.i64.wrap (n : Int) = (n : Int) := IntWalk.i64_in _ (by omega)
  have hR2 : CocR (codeL (seqL T n)) xs c := .inr ⟨code_of_kco (kco_at h0), hR⟩
  have H0 := Lib.hid h0
  have HR := Lib.hid hR2
  have c0 := hx.cell 0
  have hKl : (codeL (seqL T n)).length = n - 1 := by rw [codeL_len, seqL_len]
  have HKL := Lib.hid hKl
  have hn0 : ¬ (n : Int) - 1 < 0 := by omega
  clear h0 hR hR2 hKl
  go_enter Try.func15, Try.ntmps15
  go_wp2_with fail
  refine (l06Range_c _ T n _ (hx.rd h)).mono ?_
  rintro e w1 ⟨rfl, hb⟩
  rw [H0.out]
  have hx1 := hx.trans hb
  have D1 := D.stays hb
  clear c0 hx D
  have c0 := hx1.cell 0
  go_wp2_with fail
  refine (l06Code_c _ T n _ (hx1.rd h) hok (by omega) (by omega)).mono ?_
  rintro e w2 ⟨ac, kc, rfl, hO, hb2⟩
  have hx2 := hx1.trans hb2
  have D2 := D1.stays hb2
  have hrdK := hO.rd
  rw [HKL.out] at hrdK ⊢
  have hDl := D2.lt
  clear hO c0 hx1 D1
  go_wp2_with fail
  refine (specCoc_c _ (codeL (seqL T n)) xs c _ hrdK HR.out).mono ?_
  rintro e w3 ⟨a3, k3, rfl, hO3, hb3⟩
  have hs3 := hb3.size
  have hal : Below w3.heap.size w3 (w3.alloc (.cells #[.slice a3 xs.length k3] 26)) := (Below.refl _ _).alloc (Nat.le_refl _) _
  have D3 := (D2.stays hb3).stays hal
  have fr3 := below_step (hx2.trans hb3).below hal
  have O3 := hO3.below hal (Nat.le_refl _)
  have B3 := Blk.new w3 26 #[.slice a3 xs.length k3]
  have e0 := D3.cell 0
  have f0 := D3.free 0
  have b0 := B3.cell 0
  have q0 := (D3.set 0 (.slice a3 xs.length k3)).cell 0
  have hfin : RetBC w xs c (.returned (.tuple #[.agg #[.slice a3 xs.length k3], .int .i64 c])) ((w3.alloc (.cells #[.slice a3 xs.length k3] 26)).setCell ⟨w.heap.size + 1, 0, none⟩ (.slice a3 xs.length k3)) :=
    retBC_of ((O3.other (g := w.heap.size + 1) (fun q hq => by have := (O3.block q hq).1; omega) 0 (.slice a3 xs.length k3)).base_le (by omega)) (fr3.setCell (p := ⟨w.heap.size + 1, 0, none⟩) (by show w.heap.size ≤ w.heap.size + 1; omega) (.slice a3 xs.length k3))
  clear hO3 hrdK O3
  go_wp2
  exact bodyPost_ret (v := .tuple #[.agg #[.slice a3 xs.length k3], .int .i64 c]) (by simp [results, Try.results15, go_sem, q0]) rfl hfin

set_option maxRecDepth 100000 in
set_option maxHeartbeats 4000000 in
theorem specCat_no (v : Value) (T : List Int) (k c : Int) (w : World) (h : Rd w v T) (h0 : ckC T (IntKind.i64.wrap (k + 1)) = c) (hc : c ≠ 0) :
    Calls Try.prog 15 #[.agg #[v], .int .i64 k] w (RetBC w [] c) := by
  have hx := (Boxed.start w 26 #[v]).alloc (.cells #[.slice none 0 0] 26)
  have D := Blk.new' (w := w.alloc (.cells #[v] 26)) (t := 26) (cs := #[.slice none 0 0]) (g := w.heap.size + 1) (by simp)
  obtain ⟨a, cp, rfl⟩ := h.len0
  generalize hkk : IntKind.i64.wrap (k + 1) = kk at *
  have H0 := Lib.hid h0
  have hcb : (c == 0) = false := by simpa using hc
  have hcb2 : (c != 0) = true := by simpa using hc
  have c0 := hx.cell 0
  clear h0 hc
  go_enter Try.func15, Try.ntmps15
  go_wp2_with fail
  refine (l06Range_c _ T kk _ (hx.rd h)).mono ?_
  rintro e w1 ⟨rfl, hb⟩
  rw [H0.out]
  have hx1 := hx.trans hb
  have D2 := D.stays hb
  have e0 := D2.cell 0
  have f0 := D2.free 0
  have q0 := (D2.set 0 (.slice none 0 0)).cell 0
  have hfin := retBC_none (c := c) (hx1.below.setCell (p := ⟨w.heap.size + 1, 0, none⟩) (by show w.heap.size ≤ w.heap.size + 1; omega) (.slice none 0 0))
  clear c0
  go_wp2
  exact bodyPost_ret (v := .tuple #[.agg #[.slice none 0 0], .int .i64 c]) (by simp [results, Try.results15, go_sem, q0]) rfl hfin
theorem specCat_c (v : Value) (T : List Int) (k : Int) (xs : List Int) (c : Int) (w : World) (h : Rd w v T) (hk0 : -9223372036854775808 ≤ k) (hk1 : k ≤ 9223372036854775807) (hR : CatR T k xs c) :
    Calls Try.prog 15 #[.agg #[v], .int .i64 k] w (RetBC w xs c) := by
  rcases hR with ⟨h1, rfl, rfl⟩ | ⟨h1, h2⟩
  · exact specCat_no v T k _ w h (ckC_wrap T hk0 hk1) h1
  · obtain ⟨_, h3, _⟩ := ckC_zero h1
    obtain ⟨n, hn⟩ := Int.eq_ofNat_of_zero_le (show 0 ≤ k + 1 by omega)
    have hkn : k = (n : Int) - 1 := by omega
    rw [hn] at h1 h2
    rw [hkn]
    exact specCat_yes v T xs n c w h h1 h2
theorem specCatW_c (v : Value) (T : List Int) (k : Int) (w : World) (h : Rd w v T) (wf : (Lit.int .i64 k).wf = true) (xs : List Int) (c : Int) (hR : CatR T k xs c) :
    Calls Try.prog 15 #[.agg #[v], .int .i64 k] w (RetBC w xs c) := specCat_c v T k xs c w h (wf_bd wf).1 (wf_bd wf).2 hR
theorem implCatW_c (v : Value) (T : List Int) (k : Int) (w : World) (h : Rd w v T) (wf : (Lit.int .i64 k).wf = true) (xs : List Int) (c : Int) (hR : CatR T k xs c) :
    Calls Try.prog 14 #[.agg #[v], .int .i64 k] w (RetBC w xs c) := implCat_c v T k xs c w h (wf_bd wf).1 (wf_bd wf).2 hR
end Go.Proofs.Ytiinceflafigeaa

/- Contracts and plain facts as the law on curvettes needs them. -/
namespace Go.Proofs.Ytiinceflafigeaa
open Go.RowKit

/-- A branch and a code. -/
def RvBC (w : World) (n : Nat) (xs : List Int) (c : Int) (e : Ending) (w' : World) : Prop :=
  ∃ a k, e = .returned (.tuple #[.agg #[.slice a n k], .int .i64 c]) ∧ Rd w' (.slice a n k) xs ∧ Below w.heap.size w w'
theorem rvBC_bc {w : World} {n : Nat} {xs : List Int} {c : Int} {e : Ending} {w' : World} (h : RetBC w xs c e w') (h2 : xs.length = n) : RvBC w n xs c e w' := by
  subst h2
  obtain ⟨a, k, he, ho, hb⟩ := h
  exact ⟨a, k, he, ho.rd, hb⟩
theorem implCat_v (v : Value) (T : List Int) (k : Int) (xs : List Int) (c : Int) (n : Nat) (w : World) (h : Rd w v T) (hk0 : -9223372036854775808 ≤ k) (hk1 : k ≤ 9223372036854775807) (hR : CatR T k xs c) (hn : xs.length = n) :
    Calls Try.prog 14 #[.agg #[v], .int .i64 k] w (RvBC w n xs c) :=
  (implCat_c v T k xs c w h hk0 hk1 hR).mono fun _ _ hh => rvBC_bc hh hn
theorem specCat_v (v : Value) (T : List Int) (k : Int) (xs : List Int) (c : Int) (n : Nat) (w : World) (h : Rd w v T) (hk0 : -9223372036854775808 ≤ k) (hk1 : k ≤ 9223372036854775807) (hR : CatR T k xs c) (hn : xs.length = n) :
    Calls Try.prog 15 #[.agg #[v], .int .i64 k] w (RvBC w n xs c) :=
  (specCat_c v T k xs c w h hk0 hk1 hR).mono fun _ _ hh => rvBC_bc hh hn
theorem implCoc_v (v : Value) (K xs : List Int) (c : Int) (n : Nat) (w : World) (h : Rd w v K) (hR : CocR K xs c) (hn : xs.length = n) :
    Calls Try.prog 23 #[v] w (RvBC w n xs c) :=
  (implCoc_c v K xs c w h hR).mono fun _ _ hh => rvBC_bc hh hn
theorem specCoc_v (v : Value) (K xs : List Int) (c : Int) (n : Nat) (w : World) (h : Rd w v K) (hR : CocR K xs c) (hn : xs.length = n) :
    Calls Try.prog 24 #[v] w (RvBC w n xs c) :=
  (specCoc_c v K xs c w h hR).mono fun _ _ hh => rvBC_bc hh hn
theorem codeOf_v (v : Value) (T K : List Int) (k : Int) (n m : Nat) (w : World) (h : Rd w v T) (hk : k = (n : Int)) (h0 : ckC T (n : Int) = 0) (hK : codeL (seqL T n) = K) (hm : K.length = m) :
    Calls Try.prog 20 #[.agg #[v], .int .i64 k] w (RvC w m K 0) := by
  subst hk
  exact (implCodeOf_c v T n w h).mono fun _ _ hh => rvC_ic hh (by rw [← hK]; exact ckL_ok h0) hm h0
theorem ordersOf_v (v : Value) (T : List Int) (k : Int) (n : Nat) (w : World) (h : Rd w v T) (hk : k = (n : Int)) (h0 : ckC T (n : Int) = 0) :
    Calls Try.prog 19 #[.agg #[v], .int .i64 k] w (RvC w n (orL T n) 0) := by
  subst hk
  exact implOrdersOf_ok v T n w h h0
theorem ckC_of {T : List Int} {n : Nat} (h : BraOk T) (h1 : 1 ≤ n) (h2 : n ≤ 400) : ckC T (n : Int) = 0 :=
  ckC_ok (braB_iff.2 h) (by simp only [inB, decide_eq_true_eq]; omega)
/-- What is known where a curvette is handed back. -/
structure CaF (T xs : List Int) (j : Int) (n : Nat) : Prop where
  bra : BraOk T
  num : j = (n : Int)
  ok : ckC T ((n + 1 : Nat) : Int) = 0
  okx : ckC xs ((n + 1 : Nat) : Int) = 0
  code : codeL (seqL xs (n + 1)) = codeL (seqL T (n + 1))
  clen : (codeL (seqL T (n + 1))).length = n
  meet : gI (orL T (n + 1)) n = meetV T j
theorem caF {T xs : List Int} {j : Int} (h : CatR T j xs 0) : ∃ n, CaF T xs j n := by
  rcases h with ⟨h1, _, h3⟩ | ⟨h1, h2⟩
  · exact absurd h3.symm h1
  · obtain ⟨hb, hj1, hj2⟩ := ckC_zero h1
    obtain ⟨n, rfl⟩ : ∃ n : Nat, j = (n : Int) := ⟨j.toNat, by omega⟩
    have e : (n : Int) + 1 = ((n + 1 : Nat) : Int) := by omega
    rw [e] at h1 h2
    rw [Int.toNat_natCast] at h2
    have hk := kco_at h1
    have hcl : (codeL (seqL T (n + 1))).length = n := by simp
    obtain ⟨hx, hc⟩ := cvR_code hk h2
    rw [hcl] at hc
    refine ⟨n, hb, rfl, h1, ckC_of hx (by omega) (by omega), hc, hcl, ?_⟩
    have hE := eu_seq hb (n + 1)
    have hm := meet_ord hE hk (by simp) (mOf (seqL T (n + 1)))
    rw [seqL_len, Nat.add_sub_cancel] at hm
    rw [gI_orL (by omega), ← hm]
    have hv := meetV_ok h1
    rw [show ((n + 1 : Nat) : Int) - 1 = (n : Int) by omega] at hv
    rw [hv]
    unfold meetTo cuM
    rw [hcl]
    rfl
/-- What is known of the curvette of a code. -/
theorem coF {K xs : List Int} (h : CocR K xs 0) : ckC xs ((K.length + 1 : Nat) : Int) = 0 ∧ codeL (seqL xs (K.length + 1)) = K := by
  rcases h with ⟨_, _, h3⟩ | ⟨h1, h2⟩
  · cases h3
  · obtain ⟨hb, hc⟩ := cvR_code (kco_of_code h1) h2
    have hl : K.length ≤ 399 := by simp only [isCodeB, decide_eq_true_eq] at h1; exact h1.1
    exact ⟨ckC_of hb (by omega) (by omega), hc⟩
theorem Rd.atC {w : World} {a : Option Addr} {n k : Nat} {xs : List Int} (h : Rd w (.slice a n k) xs) (hn : xs.length = n) (hp : 0 < n) : ∃ b off, a = some ⟨b, off, none⟩ ∧ b < w.heap.size ∧ ∀ i, i < n → w.cell? ⟨b, off + i, none⟩ = some (.int .i64 (gI xs i)) := by
  subst hn
  obtain ⟨b, off, cap, he, _, _, hb, hc⟩ := h.cells hp
  injection he with e1 _ _
  exact ⟨b, off, e1, hb, hc⟩
end Go.Proofs.Ytiinceflafigeaa
