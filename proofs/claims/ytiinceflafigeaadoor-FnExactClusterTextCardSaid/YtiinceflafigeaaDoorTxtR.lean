/- What ParseCluster hands back, by the texts of clusters: what the reference reads, what the program reads. No program in sight. -/
import Derived.Test.YtiinceflafigeaaDoorTxtW
namespace Go.Proofs.YtiinceflafigeaaDoor
open Go.RowKit

theorem gT_lt {l : List (List UInt8)} {i : Nat} (h : i < l.length) : gT l i = l[i] := by simp [gT, List.getD, h]
theorem gI_mapT {f : List UInt8 → Int} {l : List (List UInt8)} {i : Nat} (h : i < l.length) : gI (l.map f) i = f (gT l i) := by rw [gI_lt (by simpa using h), gT_lt h]; simp
theorem gT_words {P S W : List Int} {i : Nat} (h : i < W.length) : gT (wordsT P S W) i = wordT (gI W i) (gI P i) (gI S i) := by rw [gT_lt (by simpa using h)]; simp [wordsT]
/-- What ParseCluster hands back. -/
def PcR (t : List UInt8) (P S W : List Int) (c : Int) : Prop := (CluOk P S W ∧ ctL P S W = t ∧ c = 0) ∨ ((∀ P' S' W', CluOk P' S' W' → ctL P' S' W' ≠ t) ∧ P = [] ∧ S = [] ∧ W = [] ∧ c = 6)
theorem pcR_ex (t : List UInt8) : ∃ P S W c, PcR t P S W c ∧ P.length ≤ 24 ∧ S.length ≤ 24 ∧ W.length ≤ 24 := by
  by_cases h : ∃ P S W, CluOk P S W ∧ ctL P S W = t
  · obtain ⟨P, S, W, h1, h2⟩ := h
    have := h1.1
    exact ⟨P, S, W, 0, .inl ⟨h1, h2, rfl⟩, by omega, by omega, by omega⟩
  · exact ⟨[], [], [], 6, .inr ⟨fun P S W h1 h2 => h ⟨P, S, W, h1, h2⟩, rfl, rfl, rfl, rfl⟩, by simp, by simp, by simp⟩
/-- The numbers of a cluster are small. -/
theorem clu_small {P S W : List Int} (hc : CluOk P S W) {i : Nat} (hi : i < P.length) : (-1000000000 < gI W i ∧ gI W i < 1000000000) ∧ (-1 ≤ gI P i ∧ gI P i < 1000000000) ∧ (-1 ≤ gI S i ∧ gI S i < 1000000000) ∧ (gI P i = -1 → gI S i = -1) := by
  have hw := hc.2.1 i (by have := hc.1; omega)
  have h24 := hc.1
  by_cases h0 : i = 0
  · subst h0
    have := clu_zero hc
    omega
  · obtain ⟨h1, h2, h3⟩ := clu_place hc hi (by omega)
    have hs : -1 ≤ gI S i := by
      rcases (hc.2.2 i hi).1 with ⟨a, _⟩ | ⟨_, _, _, h | h⟩ <;> omega
    omega
/-- The reference's lists. -/
def spPs (t : List UInt8) : List Int := (splitL 32 t).map spP
def spSs (t : List UInt8) : List Int := (splitL 32 t).map spS
def spWs (t : List UInt8) : List Int := (splitL 32 t).map spW
theorem sp_ct {P S W : List Int} (hc : CluOk P S W) : spPs (ctL P S W) = P ∧ spSs (ctL P S W) = S ∧ spWs (ctL P S W) = W := by
  have hl := hc.1
  unfold spPs spSs spWs
  rw [spl_ct (by omega)]
  have key : ∀ i, i < W.length → spW (gT (wordsT P S W) i) = gI W i ∧ spP (gT (wordsT P S W) i) = gI P i ∧ spS (gT (wordsT P S W) i) = gI S i := by
    intro i hi
    obtain ⟨⟨a1, a2⟩, ⟨b1, b2⟩, ⟨c1, c2⟩, d⟩ := clu_small hc (i := i) (by omega)
    rw [gT_words hi]
    exact sp_word a1 a2 b1 b2 c1 c2 d
  refine ⟨gI_ext (by simp; omega) fun i hi => ?_, gI_ext (by simp; omega) fun i hi => ?_, gI_ext (by simp) fun i hi => ?_⟩
  all_goals
    have hi' : i < W.length := by simpa using hi
    rw [gI_mapT (by simpa using hi')]
  · exact (key i hi').2.1
  · exact (key i hi').2.2
  · exact (key i hi').1
theorem pc_uniq {t : List UInt8} {P S W : List Int} {c : Int} (h : PcR t P S W c) {P' S' W' : List Int} (hc : CluOk P' S' W') (ht : ctL P' S' W' = t) : P = P' ∧ S = S' ∧ W = W' ∧ c = 0 := by
  rcases h with ⟨h1, h2, h3⟩ | ⟨h1, _⟩
  · obtain ⟨a1, a2, a3⟩ := sp_ct h1
    obtain ⟨b1, b2, b3⟩ := sp_ct hc
    rw [h2] at a1 a2 a3
    rw [ht] at b1 b2 b3
    exact ⟨by rw [← a1, b1], by rw [← a2, b2], by rw [← a3, b3], h3⟩
  · exact absurd ht (h1 _ _ _ hc)
/-- The reference takes the text. -/
theorem pc_yes {t : List UInt8} {P S W : List Int} {c : Int} (h : PcR t P S W c) (hc : cluB (spPs t) (spSs t) (spWs t) = true) (ht : ctL (spPs t) (spSs t) (spWs t) = t) : P = spPs t ∧ S = spSs t ∧ W = spWs t ∧ c = 0 :=
  pc_uniq h (cluB_iff.1 hc) ht
/-- It does not. -/
theorem pc_no {t : List UInt8} {P S W : List Int} {c : Int} (h : PcR t P S W c) (hn : ¬ (cluB (spPs t) (spSs t) (spWs t) = true ∧ ctL (spPs t) (spSs t) (spWs t) = t)) : P = [] ∧ S = [] ∧ W = [] ∧ c = 6 := by
  rcases h with ⟨h1, h2, h3⟩ | ⟨_, h⟩
  · exfalso
    apply hn
    obtain ⟨a1, a2, a3⟩ := sp_ct h1
    rw [h2] at a1 a2 a3
    rw [a1, a2, a3]
    exact ⟨cluB_iff.2 h1, h2⟩
  · exact h
/-- The program's lists. -/
def imPs (t : List UInt8) : List Int := (splitL 32 t).map imP
def imSs (t : List UInt8) : List Int := (splitL 32 t).map imS
def imWs (t : List UInt8) : List Int := (splitL 32 t).map imW
/-- Are all words read? -/
def allIm (t : List UInt8) : Prop := ∀ i, i < (splitL 32 t).length → imB (gT (splitL 32 t) i) = true
theorem im_ct {P S W : List Int} (hc : CluOk P S W) : (splitL 32 (ctL P S W)).length ≤ 24 ∧ allIm (ctL P S W) ∧ imPs (ctL P S W) = P ∧ imSs (ctL P S W) = S ∧ imWs (ctL P S W) = W := by
  have hl := hc.1
  unfold imPs imSs imWs allIm
  rw [spl_ct (by omega)]
  have key : ∀ i, i < W.length → imB (gT (wordsT P S W) i) = true ∧ imW (gT (wordsT P S W) i) = gI W i ∧ imP (gT (wordsT P S W) i) = gI P i ∧ imS (gT (wordsT P S W) i) = gI S i := by
    intro i hi
    obtain ⟨⟨a1, a2⟩, ⟨b1, b2⟩, ⟨c1, c2⟩, d⟩ := clu_small hc (i := i) (by omega)
    rw [gT_words hi]
    exact im_word a1 a2 b1 b2 c1 c2 d
  refine ⟨by simp; omega, fun i hi => (key i (by simpa using hi)).1, gI_ext (by simp; omega) fun i hi => ?_, gI_ext (by simp; omega) fun i hi => ?_, gI_ext (by simp) fun i hi => ?_⟩
  all_goals
    have hi' : i < W.length := by simpa using hi
    rw [gI_mapT (by simpa using hi')]
  · exact (key i hi').2.2.1
  · exact (key i hi').2.2.2
  · exact (key i hi').2.1
theorem ct_im {t : List UInt8} (h : allIm t) : ctL (imPs t) (imSs t) (imWs t) = t := by
  have e : wordsT (imPs t) (imSs t) (imWs t) = splitL 32 t := by
    apply List.ext_getElem (by simp [imWs])
    intro i h1 h2
    rw [← gT_lt h1, ← gT_lt h2, gT_words (by simpa using h1)]
    unfold imPs imSs imWs
    rw [gI_mapT h2, gI_mapT h2, gI_mapT h2]
    exact (word_im (h i h2)).1
  unfold ctL
  rw [e]
  exact join_spl 32 _ t (Nat.le_refl _)
/-- The program takes the text. -/
theorem pim_yes {t : List UInt8} {P S W : List Int} {c : Int} (h : PcR t P S W c) (hb : allIm t) (hc : cluB (imPs t) (imSs t) (imWs t) = true) : P = imPs t ∧ S = imSs t ∧ W = imWs t ∧ c = 0 :=
  pc_uniq h (cluB_iff.1 hc) (ct_im hb)
theorem pim_no {t : List UInt8} {P S W : List Int} {c : Int} (h : PcR t P S W c) (hn : ¬ (allIm t ∧ (splitL 32 t).length ≤ 24 ∧ cluB (imPs t) (imSs t) (imWs t) = true)) : P = [] ∧ S = [] ∧ W = [] ∧ c = 6 := by
  rcases h with ⟨h1, h2, h3⟩ | ⟨_, h⟩
  · exfalso
    apply hn
    obtain ⟨a0, b0, a1, a2, a3⟩ := im_ct h1
    rw [h2] at a0 b0 a1 a2 a3
    rw [a1, a2, a3]
    exact ⟨b0, a0, cluB_iff.2 h1⟩
  · exact h
end Go.Proofs.YtiinceflafigeaaDoor
