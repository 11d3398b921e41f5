/- What the law on unloading says of the weights. No program in sight. -/
import Derived.Test.YtiinceflafigeaaUSS
import Derived.Test.YtiinceflafigeaaLawK
import Derived.Test.YtiinceflafigeaaUC
namespace Go.Proofs.Ytiinceflafigeaa

theorem Good.trans {P S : List Int} {A B C : Nat → Int} (h : Good P S A B) (h' : Good P S B C) : Good P S A C :=
  ⟨fun i hi => Int.le_trans (h.ge i hi) (h'.ge i hi), fun U hU hA => h'.le U hU (h.le U hU hA)⟩
theorem nonNeg_at {L : List Int} (h : nonNeg L = true) : ∀ i, i < L.length → 0 ≤ gI L i := by simpa [nonNeg] using h
/-- What is known of the unloaded cluster. -/
structure UlOk (P S W L : List Int) : Prop where
  old : CluOk P S W
  new : CluOk P S L
  len : L.length = P.length
  again : unlL P S L = L
  okB : ucB P S L = true
  con : nonNeg (exTo (proxL P S) L P.length) = true
  up : ∀ i, i < P.length → gI (ordTo (fun j => gI W j) P S P.length) i ≤ gI (ordTo (fun j => gI L j) P S P.length) i
  same : nonNeg (exTo (proxL P S) W P.length) = true → W = L
theorem ul_ok {P S W : List Int} (h : ucB P S W = true) : UlOk P S W (unlL P S W) := by
  have hc := ucB_clu h
  have hw : uwB P S W = true := by simp [ucB] at h; exact h.2
  obtain ⟨hl, hu⟩ := clu_unlOk hc
  have hlen := unlL_len hc
  obtain ⟨h1, h2⟩ := unlL_ok hc hu hl
  have hcb : cluB P S (unlL P S W) = true := by rw [cluB_with hc hlen]; exact hw
  have hc2 := cluB_iff.1 hcb
  obtain ⟨hl2, hu2⟩ := clu_unlOk hc2
  have ha := (OnWay.done (L := unlL P S W) hc2 hu2 hl2 ⟨hl2, Good.refl _ _ _⟩ h2).symm
  refine ⟨hc, hc2, hlen, ha, ?_, nonNeg_yes fun i hi => ?_, h1.2.ge, fun hn => ?_⟩
  · simp only [ucB, hcb, Bool.true_and]
    unfold uwB
    rw [ha]; exact hw
  · exact h2 i (by rw [exTo_len, hlen] at hi; exact hi)
  · exact OnWay.done hc hu hl ⟨hl, Good.refl _ _ _⟩ fun i hi => nonNeg_at hn i (by rw [exTo_len, hl]; exact hi)
/-- What is known of a step. -/
structure UsOk (P S W L : List Int) (p : Nat) (s : Int) : Prop where
  old : CluOk P S W
  new : CluOk P S L
  len : L.length = P.length
  same : unlL P S L = unlL P S W
  okB : ucB P S L = ucB P S W
  okC : ucC P S L = ucC P S W
  pt : p < P.length
  pos : 1 ≤ s
  step : ∀ i, i < P.length → gI (ordTo (fun j => gI L j) P S P.length) i = gI (ordTo (fun j => gI W j) P S P.length) i + if i = p then s else 0
theorem us_ok {P S W : List Int} (h : usB P S W = true) : ∃ p s, UsOk P S W (usL P S W) p s := by
  have hcb : cluB P S W = true := by simp [usB] at h; exact h.1
  have hc := cluB_iff.1 hcb
  have hn : 0 ≤ usN P S W := by simp [usB] at h; exact h.2.1
  have hw : allIn (usL P S W) (-100000) 100000 = true := by simp [usB] at h; exact h.2.2
  obtain ⟨hl, hu⟩ := clu_unlOk hc
  have hlen := usL_len P S W
  have hcb2 : cluB P S (usL P S W) = true := by rw [cluB_with hc hlen]; exact hw
  have hc2 := cluB_iff.1 hcb2
  obtain ⟨hl2, hu2⟩ := clu_unlOk hc2
  rcases leastTo_spec (exL P S W) P.length with ⟨h1, _⟩ | ⟨h1, h2, h3, _⟩
  · exact absurd hn (by unfold usN; omega)
  · have hp : (usN P S W).toNat < P.length := by unfold usN; omega
    have he : gI (exL P S W) (usN P S W).toNat < 0 := h3
    have hw1 : OnWay P S W (usL P S W) := OnWay.step hc ⟨hl, Good.refl _ _ _⟩ hp he
    obtain ⟨g1, g2⟩ := unlL_ok hc2 hu2 hl2
    have hs : unlL P S (usL P S W) = unlL P S W := OnWay.done hc hu hl ⟨g1.1, hw1.2.trans g1.2⟩ g2
    have huw : uwB P S (usL P S W) = uwB P S W := by unfold uwB; rw [hs]
    refine ⟨(usN P S W).toNat, upS (gI (exL P S W) (usN P S W).toNat) (hB P S (usN P S W).toNat), hc, hc2, hlen, hs, ?_, ?_, hp, upS_pos he (hB_bd P S _ hc.1.2.1).1, fun i hi => ?_⟩
    · unfold ucB; rw [hcb, hcb2, huw]
    · unfold ucC; rw [hcb, hcb2, huw]
    · have e1 := ordF_congr hc (A := fun j => gI (usL P S W) j) (B := stF P S (fun i => gI W i) (usN P S W).toNat (upS (gI (exL P S W) (usN P S W).toNat) (hB P S (usN P S W).toNat))) (fun j hj => gI_lF hj) i hi
      have e2 := ordF_step hc (fun i => gI W i) (upS (gI (exL P S W) (usN P S W).toNat) (hB P S (usN P S W).toNat)) hp i hi
      exact e1.trans e2
end Go.Proofs.Ytiinceflafigeaa

/- The contracts of unloading as its law needs them: a cluster is handed back, or none. -/
namespace Go.Proofs.Ytiinceflafigeaa
open Go.RowKit

theorem implUC_ok (p s q : Value) (P S W : List Int) (m : Nat) (w : World) (hp : Rd w p P) (hs : Rd w s S) (hq : Rd w q W) (h : ucB P S W = true) (hm : P.length = m) :
    Calls Try.prog 62 #[.agg #[p, s, q]] w (RvKC w m m m P S (unlL P S W) 0) :=
  (implUC_c p s q P S W w hp hs hq).mono fun _ _ hh => rvKC_cc hh (by rw [okL_true h]) (by rw [okL_true h]) (by rw [okL_true h]) hm (by have := (ucB_clu h).1; omega) (by rw [unlL_len (ucB_clu h)]; exact hm) (by
    have hc := cluB_iff.2 (ucB_clu h)
    rw [(ucB_2 hc).2, okC_true (by rw [← (ucB_2 hc).1]; exact h)])
theorem specUC_ok (p s q : Value) (P S W : List Int) (m : Nat) (w : World) (hp : Rd w p P) (hs : Rd w s S) (hq : Rd w q W) (h : ucB P S W = true) (hm : P.length = m) :
    Calls Try.prog 63 #[.agg #[p, s, q]] w (RvKC w m m m P S (unlL P S W) 0) :=
  (specUC_c p s q P S W w hp hs hq).mono fun _ _ hh => rvKC_cc hh (by rw [okL_true h]) (by rw [okL_true h]) (by rw [okL_true h]) hm (by have := (ucB_clu h).1; omega) (by rw [unlL_len (ucB_clu h)]; exact hm) (by
    have hc := cluB_iff.2 (ucB_clu h)
    rw [(ucB_2 hc).2, okC_true (by rw [← (ucB_2 hc).1]; exact h)])
theorem implUC_no (p s q : Value) (P S W : List Int) (w : World) (hp : Rd w p P) (hs : Rd w s S) (hq : Rd w q W) (h : ucB P S W = false) :
    Calls Try.prog 62 #[.agg #[p, s, q]] w (RvKC w 0 0 0 [] [] [] (ucC P S W)) :=
  (implUC_c p s q P S W w hp hs hq).mono fun _ _ hh => rvKC_cc hh (by rw [okL_false h]) (by rw [okL_false h]) (by rw [okL_false h]) rfl rfl rfl rfl
theorem specUC_no (p s q : Value) (P S W : List Int) (w : World) (hp : Rd w p P) (hs : Rd w s S) (hq : Rd w q W) (h : ucB P S W = false) :
    Calls Try.prog 63 #[.agg #[p, s, q]] w (RvKC w 0 0 0 [] [] [] (ucC P S W)) :=
  (specUC_c p s q P S W w hp hs hq).mono fun _ _ hh => rvKC_cc hh (by rw [okL_false h]) (by rw [okL_false h]) (by rw [okL_false h]) rfl rfl rfl rfl
theorem ucC_ne {P S W : List Int} (h : ucB P S W = false) : (ucC P S W == 0) = false := by
  cases hc : cluB P S W
  · rw [(ucB_1 hc).2]; rfl
  · rw [(ucB_2 hc).2, okC_false (by rw [← (ucB_2 hc).1]; exact h)]; rfl
theorem implUS_ok (p s q : Value) (P S W : List Int) (m : Nat) (w : World) (hp : Rd w p P) (hs : Rd w s S) (hq : Rd w q W) (h : usB P S W = true) (hm : P.length = m) :
    Calls Try.prog 68 #[.agg #[p, s, q]] w (RvKC w m m m P S (usL P S W) 0) :=
  (implUS_c p s q P S W w hp hs hq).mono fun _ _ hh => rvKC_cc hh (by rw [okL_true h]) (by rw [okL_true h]) (by rw [okL_true h]) hm (by
    have hc : cluB P S W = true := by simp [usB] at h; exact h.1
    have := (cluB_iff.1 hc).1; omega) (by rw [usL_len]; exact hm) (by
    have hc : cluB P S W = true := by simp [usB] at h; exact h.1
    have hn : 0 ≤ usN P S W := by simp [usB] at h; exact h.2.1
    rw [(usB_3 hc hn).2, okC_true (by rw [← (usB_3 hc hn).1]; exact h)])
theorem specUS_ok (p s q : Value) (P S W : List Int) (m : Nat) (w : World) (hp : Rd w p P) (hs : Rd w s S) (hq : Rd w q W) (h : usB P S W = true) (hm : P.length = m) :
    Calls Try.prog 69 #[.agg #[p, s, q]] w (RvKC w m m m P S (usL P S W) 0) :=
  (specUS_c p s q P S W w hp hs hq).mono fun _ _ hh => rvKC_cc hh (by rw [okL_true h]) (by rw [okL_true h]) (by rw [okL_true h]) hm (by
    have hc : cluB P S W = true := by simp [usB] at h; exact h.1
    have := (cluB_iff.1 hc).1; omega) (by rw [usL_len]; exact hm) (by
    have hc : cluB P S W = true := by simp [usB] at h; exact h.1
    have hn : 0 ≤ usN P S W := by simp [usB] at h; exact h.2.1
    rw [(usB_3 hc hn).2, okC_true (by rw [← (usB_3 hc hn).1]; exact h)])
theorem implUS_no (p s q : Value) (P S W : List Int) (w : World) (hp : Rd w p P) (hs : Rd w s S) (hq : Rd w q W) (h : usB P S W = false) :
    Calls Try.prog 68 #[.agg #[p, s, q]] w (RvKC w 0 0 0 [] [] [] (usC P S W)) :=
  (implUS_c p s q P S W w hp hs hq).mono fun _ _ hh => rvKC_cc hh (by rw [okL_false h]) (by rw [okL_false h]) (by rw [okL_false h]) rfl rfl rfl rfl
theorem specUS_no (p s q : Value) (P S W : List Int) (w : World) (hp : Rd w p P) (hs : Rd w s S) (hq : Rd w q W) (h : usB P S W = false) :
    Calls Try.prog 69 #[.agg #[p, s, q]] w (RvKC w 0 0 0 [] [] [] (usC P S W)) :=
  (specUS_c p s q P S W w hp hs hq).mono fun _ _ hh => rvKC_cc hh (by rw [okL_false h]) (by rw [okL_false h]) (by rw [okL_false h]) rfl rfl rfl rfl
theorem usC_ne {P S W : List Int} (h : usB P S W = false) : (usC P S W != 0) = true := by
  cases hc : cluB P S W
  · rw [(usB_1 hc).2]; rfl
  · by_cases hn : 0 ≤ usN P S W
    · rw [(usB_3 hc hn).2, okC_false (by rw [← (usB_3 hc hn).1]; exact h)]; rfl
    · rw [(usB_2 hc hn).2]; rfl
/-- Has the point p been passed? -/
def pstI (p k : Nat) : Int := if p < k then 1 else 0
theorem pstI_zero (p : Nat) : pstI p 0 = 0 := rfl
theorem pstI_yes (k : Nat) : pstI k k = 0 ∧ pstI k (k + 1) = 1 := by simp [pstI]
theorem pstI_no {p k : Nat} (h : k ≠ p) : pstI p (k + 1) = pstI p k := by
  unfold pstI
  by_cases e : p < k
  · rw [if_pos e, if_pos (by omega)]
  · rw [if_neg e, if_neg (by omega)]
theorem pstI_all {p m : Nat} (h : p < m) : pstI p m = 1 := by unfold pstI; rw [if_pos h]
theorem pstI_bd (p k : Nat) : 0 ≤ pstI p k ∧ pstI p k ≤ 1 := by unfold pstI; split <;> omega
end Go.Proofs.Ytiinceflafigeaa
