/- From the reading of an argument to what a walk is told: slices of integers, alone or as the fields of a struct. -/
import Derived.Test.YtiinceflafigeaaDoorRows
import Derived.Test.YtiinceflafigeaaDoorLib
import Derived.ProofKit
import Derived.OpenShut
import Derived.ShutString
import Derived.ChangeOld
import Derived.Lib.SmallJoins
namespace Go.Proofs.YtiinceflafigeaaDoor
open Go.ChangeShapes Go.WideShapes Go.ChangeAt Go.RowKit Go.Deep

section
variable {H : Type} {enc : TypeId × Value → H} {P : Program} {W : World}

theorem rd_of_trod {t e : TypeId} {n : Nat} {v : Value} {y : DataW H × List MemPlace} (ht : P.underlying t = some (.slice e)) (he : P.underlying e = some (.int .i64)) (hc : P.cellsOf e = 1)
    (h : DataW.trod enc P W 0 (fun _ => true) true n t [v] = some y) : ∃ xs, Rd W v xs ∧ ∀ x ∈ xs, (Lit.int .i64 x).wf = true := by
  rcases open_ints ht he hc h with ⟨hcs, _⟩ | ⟨a, len, cap, zs, hcs, _, hl, hm, hz, _, hcell, hwz⟩
  · simp at hcs
    subst hcs
    exact ⟨[], rd_nil W, by simp⟩
  · simp at hcs
    subst hcs
    refine ⟨zs.take len, ?_, fun x hx => hwz x (List.mem_of_mem_take hx)⟩
    have hz' : zs.length = cap := by simpa using hz
    have hlen : (zs.take len).length = len := by simp; omega
    refine ⟨some a, cap, by rw [hlen], by omega, by unfold maxLen at hm; omega, fun hne => ?_⟩
    have hpos : 0 < len := by
      rcases Nat.eq_zero_or_pos len with h0 | h0
      · exact absurd (List.eq_nil_of_length_eq_zero (hlen.trans h0)) hne
      · exact h0
    obtain ⟨b, off, rfl, hcs⟩ := ints_at hcell (by omega)
    have hb : b < W.heap.size := World.block_lt_of_cell? W ⟨b, off + 0, none⟩ (hcs 0 (by omega))
    refine ⟨b, off, rfl, hb, fun i hi => ?_⟩
    rw [hcs i (by omega)]
    have hi' : i < len := by omega
    simp [gI, List.getD, hi']

theorem rd_of_Trod {t e : TypeId} {v : Value} {d : DataW H} {p : List MemPlace} {base : Nat} (ht : P.underlying t = some (.slice e)) (he : P.underlying e = some (.int .i64)) (hc : P.cellsOf e = 1)
    (hv : Value.okWide P W .any base t v) (h : DataW.Trod enc P W 0 (fun _ => true) true t v d p) : ∃ xs, Rd W v xs ∧ ∀ x ∈ xs, (Lit.int .i64 x).wf = true := by
  obtain ⟨a, len, cap, rfl⟩ := okWide_slice ht hv
  obtain ⟨n, hn⟩ := h
  exact rd_of_trod ht he hc hn

theorem array1 {α : Type} {cs : Array α} (h : cs.size = 1) : ∃ c0, cs = #[c0] := by
  obtain ⟨l⟩ := cs
  match l, h with
  | [c], _ => exact ⟨c, rfl⟩

theorem open_agg1 {r : Reach} {b0 base : Nat} {spare : Nat → Bool} {held : Bool} {t : TypeId} {f0 : Field} {v : Value} {d : DataW H} {p : List MemPlace} (hs : P.underlying t = some (.struct #[f0])) (hone : oneCellFields P #[f0] = true) (hC : P.cellsOf t = 1)
    (hv : Value.okWide P W r b0 t v) (h : DataW.Trod enc P W base spare held t v d p) :
    ∃ (v0 : Value) (y0 : DataW H × List MemPlace) (n : Nat), v = .agg #[v0] ∧ d = .agg [y0.1] ∧ p = y0.2 ∧ DataW.trod enc P W base spare held n f0.type [v0] = some y0 := by
  obtain ⟨cs, rfl, hsz⟩ := okWide_struct hs hv
  obtain ⟨c0, rfl⟩ := array1 (hsz.trans hC)
  obtain ⟨fuel, hf⟩ := h
  obtain ⟨y0, n, hx, _, h0⟩ := trod_struct1 hs hf
  obtain ⟨o0, k0⟩ := hone_of hone 0 f0 rfl
  simp only [Prod.mk.injEq] at hx
  exact ⟨c0, y0, n, rfl, hx.1, hx.2, by simpa [Value.cells, o0, k0] using h0⟩

/-- A struct of one slice of integers (a branch), by value. -/
theorem open_branch {t ti ts : TypeId} {f0 : Field} {v : Value} {d : DataW H} {p : List MemPlace} {base : Nat} (hs : P.underlying t = some (.struct #[f0])) (hone : oneCellFields P #[f0] = true) (hC : P.cellsOf t = 1)
    (h0 : f0.type = ts) (ht : P.underlying ts = some (.slice ti)) (he : P.underlying ti = some (.int .i64)) (hc : P.cellsOf ti = 1)
    (hv : Value.okWide P W .any base t v) (h : DataW.Trod enc P W 0 (fun _ => true) true t v d p) : ∃ v0 xs, v = .agg #[v0] ∧ Rd W v0 xs := by
  obtain ⟨v0, y0, n, rfl, _, _, h1⟩ := open_agg1 hs hone hC hv h
  rw [h0] at h1
  obtain ⟨xs, hx, _⟩ := rd_of_trod ht he hc h1
  exact ⟨v0, xs, rfl, hx⟩

/-- A struct of three slices of integers (a cluster), by value. -/
theorem open_cluster {t ti ts : TypeId} {f0 f1 f2 : Field} {v : Value} {d : DataW H} {p : List MemPlace} {base : Nat} (hs : P.underlying t = some (.struct #[f0, f1, f2])) (hone : oneCellFields P #[f0, f1, f2] = true) (hC : P.cellsOf t = 3)
    (h0 : f0.type = ts ∧ f1.type = ts ∧ f2.type = ts) (ht : P.underlying ts = some (.slice ti)) (he : P.underlying ti = some (.int .i64)) (hc : P.cellsOf ti = 1)
    (hv : Value.okWide P W .any base t v) (h : DataW.Trod enc P W 0 (fun _ => true) true t v d p) :
    ∃ v0 v1 v2 xs ys zs, v = .agg #[v0, v1, v2] ∧ Rd W v0 xs ∧ Rd W v1 ys ∧ Rd W v2 zs := by
  obtain ⟨v0, v1, v2, y0, y1, y2, n, rfl, _, _, k0, k1, k2⟩ := Go.Joins.open_agg3 hs hone hC hv h
  rw [h0.1] at k0
  rw [h0.2.1] at k1
  rw [h0.2.2] at k2
  obtain ⟨xs, hx, _⟩ := rd_of_trod ht he hc k0
  obtain ⟨ys, hy, _⟩ := rd_of_trod ht he hc k1
  obtain ⟨zs, hz, _⟩ := rd_of_trod ht he hc k2
  exact ⟨v0, v1, v2, xs, ys, zs, rfl, hx, hy, hz⟩

/-- A struct of two integers (a fraction), by value. -/
theorem open_fraction {t ti : TypeId} {f0 f1 : Field} {v : Value} {d : DataW H} {p : List MemPlace} {base : Nat} (hs : P.underlying t = some (.struct #[f0, f1])) (hone : oneCellFields P #[f0, f1] = true) (hC : P.cellsOf t = 2)
    (h0 : f0.type = ti ∧ f1.type = ti) (he : P.underlying ti = some (.int .i64))
    (hv : Value.okWide P W .any base t v) (h : DataW.Trod enc P W 0 (fun _ => true) true t v d p) :
    ∃ x y, v = .agg #[.int .i64 x, .int .i64 y] ∧ (Lit.int .i64 x).wf = true ∧ (Lit.int .i64 y).wf = true := by
  obtain ⟨v0, v1, y0, y1, n, rfl, _, _, k0, k1⟩ := Go.Joins.open_agg2 hs hone hC hv h
  rw [h0.1] at k0
  rw [h0.2] at k1
  obtain ⟨x, hx, _, hx2⟩ := DataW.trod_int he k0
  obtain ⟨y, hy, _, hy2⟩ := DataW.trod_int he k1
  simp at hx hy
  subst hx
  subst hy
  exact ⟨x, y, rfl, hx2, hy2⟩
end

theorem own : ownKnob Tryd.prog.godebug = none := by kernel_rfl
theorem laidOut : laidOutB Tryd.prog = true := by kernel_rfl

end Go.Proofs.YtiinceflafigeaaDoor
