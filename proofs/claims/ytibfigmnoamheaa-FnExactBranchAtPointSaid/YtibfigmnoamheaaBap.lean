/- The code of the path to a point of a cluster. No program in sight. -/
import Derived.Test.YtibfigmnoamheaaPath
import Derived.Test.YtibfigmnoamheaaCurT
namespace Go.Proofs.Ytibfigmnoamheaa
open Go.RowKit

/-- What the path to a point is. -/
structure PathOk (P L : List Int) (n : Int) : Prop where
  len : 0 < L.length
  last : gI L (L.length - 1) = n
  zero : gI L 0 = 0
  num : ∀ j, j < L.length → 0 ≤ gI L j ∧ gI L j ≤ n
  par : ∀ j, j + 1 < L.length → gI P (gI L (j + 1)).toNat = gI L j ∧ gI L j < gI L (j + 1)
theorem path_ok {P S W : List Int} (h : CluOk P S W) : ∀ (f : Nat) (n : Int), 0 ≤ n → n < (f : Int) → n < P.length → PathOk P (pathUp P f n) n := by
  intro f
  induction f with
  | zero => intro n h1 h2; omega
  | succ f ih =>
    intro n h0 hf hn
    rw [pathUp_succ P h0]
    by_cases hz : n = 0
    · subst hz
      have := (clu_zero h).1
      rw [show ((0 : Int).toNat) = 0 from rfl, this, pathUp_neg P (by omega)]
      refine ⟨by simp, rfl, rfl, fun j hj => ?_, fun j hj => ?_⟩
      · simp at hj; subst hj; show 0 ≤ (0 : Int) ∧ (0 : Int) ≤ 0; omega
      · simp at hj
    · obtain ⟨p1, p2, p3⟩ := clu_place h (k := n.toNat) (by omega) (by omega)
      have ih := ih (gI P n.toNat) p1 (by omega) (by omega)
      generalize hL : pathUp P f (gI P n.toNat) = L at *
      have hl := ih.len
      have hlast : gI (L ++ [n]) L.length = n := gI_app_at rfl
      refine ⟨by simp, ?_, ?_, fun j hj => ?_, fun j hj => ?_⟩
      · rw [List.length_append]; exact hlast
      · rw [gI_app_lt hl]; exact ih.zero
      · simp at hj
        by_cases e : j = L.length
        · subst e; rw [hlast]; omega
        · rw [gI_app_lt (by omega)]; have := ih.num j (by omega); omega
      · simp at hj
        by_cases e : j + 1 = L.length
        · rw [e, hlast, gI_app_lt (by omega)]
          have := ih.last
          rw [show L.length - 1 = j by omega] at this
          rw [this]; exact ⟨rfl, by omega⟩
        · rw [gI_app_lt (by omega), gI_app_lt (by omega)]; exact ih.par j (by omega)
theorem pathTo_ok {P S W : List Int} (h : CluOk P S W) {n : Int} (h0 : 0 ≤ n) (hn : n < P.length) : PathOk P (pathTo P n) n := path_ok h _ n h0 (by omega) hn
theorem path_mono {P L : List Int} {n : Int} (h : PathOk P L n) {i j : Nat} (hij : i < j) (hj : j < L.length) : gI L i < gI L j := by
  induction j with
  | zero => omega
  | succ j ih =>
    have h1 := (h.par j hj).2
    by_cases e : i = j
    · subst e; exact h1
    · have := ih (by omega) (by omega); omega
/-- The second of a point of the path. -/
def seL (S L : List Int) (j : Nat) : Int := gI S (gI L j).toNat
/-- The number of the code at a point of the path. -/
def pcI (S L : List Int) : Nat → Int
  | 0 => 0
  | j + 1 => if seL S L (j + 1) < 0 then 0 else if 0 < j ∧ seL S L (j + 1) = gI L (j - 1) then 2 else pcI S L j + 1
theorem pcI_no {S L : List Int} {j : Nat} (h : seL S L (j + 1) < 0) : pcI S L (j + 1) = 0 := by simp [pcI, h]
theorem pcI_ix {P S W L : List Int} {n : Int} (hc : CluOk P S W) (h : PathOk P L n) (hn : n < P.length) : ∀ j, j < L.length → 0 ≤ seL S L j → 2 ≤ pcI S L j ∧ pcI S L j ≤ (j : Int) ∧ gI L (j - (pcI S L j).toNat) = seL S L j := by
  have hlen := hc.1
  intro j
  induction j with
  | zero =>
    intro hj h0
    have := (clu_zero hc).2
    unfold seL at h0
    rw [h.zero, show ((0 : Int).toNat) = 0 from rfl, this] at h0
    omega
  | succ j ih =>
    intro hj h0
    have hk := h.num (j + 1) hj
    have hkp := h.par j hj
    have hkj := h.num j (by omega)
    have hk1 : 0 < (gI L (j + 1)).toNat := by omega
    have hp := (hc.2.2 (gI L (j + 1)).toNat (by omega)).1
    have hs : 0 ≤ seL S L (j + 1) ∧ (seL S L (j + 1) = gI P (gI L j).toNat ∨ seL S L (j + 1) = seL S L j) := by
      rcases hp with hp | ⟨_, _, _, hp | hp⟩
      · omega
      · unfold seL at h0; rw [hp] at h0; omega
      · rw [hkp.1] at hp; exact hp
    have hn0 : ¬ seL S L (j + 1) < 0 := by omega
    cases j with
    | zero =>
      exfalso
      have h1 := clu_zero hc
      have h2 : gI L 0 = 0 := h.zero
      unfold seL at hs h0
      rw [h2, show ((0 : Int).toNat) = 0 from rfl, h1.1, h1.2] at hs
      omega
    | succ j =>
      have hpp := h.par j (by omega)
      rw [hpp.1] at hs
      by_cases c : seL S L (j + 1 + 1) = gI L j
      · have e : pcI S L (j + 1 + 1) = 2 := by
          rw [pcI, if_neg hn0, if_pos ⟨by omega, by rw [Nat.add_sub_cancel]; exact c⟩]
        rw [e, c]
        exact ⟨by omega, by omega, rfl⟩
      · have hs2 : seL S L (j + 1 + 1) = seL S L (j + 1) := hs.2.resolve_left c
        have e : pcI S L (j + 1 + 1) = pcI S L (j + 1) + 1 := by
          rw [pcI, if_neg hn0, if_neg (by rintro ⟨_, h3⟩; rw [Nat.add_sub_cancel] at h3; exact c h3)]
        obtain ⟨i1, i2, i3⟩ := ih (by omega) (by omega)
        rw [e, hs2, ← i3]
        refine ⟨by omega, by omega, ?_⟩
        congr 1; omega
/-- The code of the first m points of the path. -/
def pcL (S L : List Int) (m : Nat) : List Int := (List.range m).map fun j => pcI S L (j + 1)
@[simp] theorem pcL_len (S L : List Int) (m : Nat) : (pcL S L m).length = m := by simp [pcL]
theorem pcL_succ (S L : List Int) (m : Nat) : pcL S L (m + 1) = pcL S L m ++ [pcI S L (m + 1)] := by simp [pcL, List.range_succ]
theorem gI_pcL {S L : List Int} {m j : Nat} (h : j < m) : gI (pcL S L m) j = pcI S L (j + 1) := by rw [gI_lt (by simpa using h)]; simp [pcL]
theorem kco_path {P S W L : List Int} {n : Int} (hc : CluOk P S W) (h : PathOk P L n) (hn : n < P.length) (hl : L.length ≤ 400) : KCo (pcL S L (L.length - 1)) := by
  have hlen := hc.1
  refine ⟨⟨by simp; omega, fun i hi => ?_⟩, fun i hi => ?_⟩
  · rw [pcL_len] at hi
    rw [gI_pcL hi]
    by_cases c : seL S L (i + 1) < 0
    · rw [pcI_no c]; omega
    · have := pcI_ix hc h hn (i + 1) (by omega) (by omega); omega
  · rw [pcL_len] at hi
    rw [gI_pcL hi]
    by_cases c : seL S L (i + 1) < 0
    · left; exact pcI_no c
    · right
      obtain ⟨h1, h2, h3⟩ := pcI_ix hc h hn (i + 1) (by omega) (by omega)
      have hi0 : 0 < i := by omega
      refine ⟨hi0, ?_⟩
      rw [gI_pcL (by omega), show i - 1 + 1 = i by omega]
      by_cases d : seL S L (i + 1) = gI L (i - 1)
      · left; rw [pcI, if_neg c, if_pos ⟨hi0, d⟩]
      · right
        have e : pcI S L (i + 1) = pcI S L i + 1 := by rw [pcI, if_neg c, if_neg (fun h4 => d h4.2)]
        refine ⟨?_, e⟩
        obtain ⟨j, rfl⟩ : ∃ j, i = j + 1 := ⟨i - 1, by omega⟩
        have hp := (hc.2.2 (gI L (j + 1 + 1)).toNat (by have := h.num (j + 1 + 1) (by omega); omega)).1
        have hkp := h.par (j + 1) (by omega)
        have hpp := h.par j (by omega)
        have hk := h.num (j + 1) (by omega)
        have hs : seL S L (j + 1 + 1) = gI P (gI L (j + 1)).toNat ∨ seL S L (j + 1 + 1) = seL S L (j + 1) := by
          rcases hp with hp | ⟨_, _, _, hp | hp⟩
          · omega
          · unfold seL at c; rw [hp] at c; omega
          · rw [hkp.1] at hp; exact hp.2
        have hs2 : seL S L (j + 1 + 1) = seL S L (j + 1) := hs.resolve_left (fun h5 => d (by rw [h5, hpp.1]; rfl))
        exact (pcI_ix hc h hn (j + 1) (by omega) (by omega)).1
/-- Where the second stands in the path. -/
theorem path_first {P S W L : List Int} {n : Int} (hc : CluOk P S W) (h : PathOk P L n) (hn : n < P.length) {j : Nat} (hj : j < L.length) (hs : 0 ≤ seL S L j) : ∃ q : Nat, q < j ∧ (j : Int) - pcI S L j = (q : Int) ∧ gI L q = seL S L j ∧ ∀ i, i < q → gI L i ≠ seL S L j := by
  obtain ⟨h1, h2, h3⟩ := pcI_ix hc h hn j hj hs
  refine ⟨j - (pcI S L j).toNat, by omega, by omega, h3, fun i hi e => ?_⟩
  have := path_mono h hi (by omega)
  omega
end Go.Proofs.Ytibfigmnoamheaa
