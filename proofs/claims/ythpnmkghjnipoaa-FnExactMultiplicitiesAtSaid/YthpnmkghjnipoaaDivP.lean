/- Contract: spec.l03Divisors, where its list lies; lists that were made. -/
import Derived.Test.YthpnmkghjnipoaaDivS
import Derived.Test.YthpnmkghjnipoaaAddPure
import Derived.Deep.OwnRows
namespace Go.Proofs.Ythpnmkghjnipoaa
open Go.RowKit

theorem own_of_blk {e : TypeId} {w : World} {g n base : Nat} {cs : Array Value} {xs : List Int} (h : Blk w g e cs) (hn : cs.size = n) (hx : xs.length = n) (hb : base ≤ g) (hm : n ≤ maxLen) (hc : ∀ i, i < n → w.cell? ⟨g, i, none⟩ = some (.int .i64 (gI xs i))) : Own e w base (.slice (some ⟨g, 0, none⟩) n n) xs := by
  subst hx
  refine ⟨by simp, .inr ⟨g, xs.length, cs, rfl, hb, h, Nat.le_refl _, hm, by omega, ?_⟩⟩
  rw [Nat.mul_one, List.take_of_length_le (by simp; omega)]
  apply List.ext_getElem
  · simp; omega
  · intro i h1 h2
    have h3 : i < xs.length := by simpa using h2
    have h4 := hc i h3
    rw [h.cell, Array.getElem?_eq_getElem (by omega)] at h4
    injection h4 with h4
    simp [h4, gI_lt h3]
theorem size_made (z : Value) (N : Nat) : (madeCells #[z] N).size = N := by simp [madeCells]
theorem divisorsS_p (v : Value) (T : List Int) (w : World) (h : Rd w v T) (hok : BraOk T) :
    Calls Try.prog 83 #[.agg #[v]] w fun e w' => ∃ g c, e = .returned (.slice (some ⟨g, 0, none⟩) T.length c) ∧ OwnI w' w.heap.size (.slice (some ⟨g, 0, none⟩) T.length c) (eTo T T.length) ∧ Below w.heap.size w w' := by
  have hl := bra_len hok
  refine (l03Divisors_c v T w h hok.len (by omega) (fun i hi => by have := hok.num i hi; omega)).mono ?_
  rintro e w1 ⟨ge, ke, rfl, ho, hb1⟩
  obtain ⟨g, c, hge, h1⟩ := Own.pos ho (by have := hok.len; simp; omega)
  rw [hge] at ho ⊢
  rw [eTo_len] at ho ⊢
  exact ⟨g, c, rfl, ho, hb1⟩
theorem ownI_made {e : TypeId} {w : World} {base g n : Nat} (h : Blk w g e (madeCells #[.int .i64 0] n)) (hb : base ≤ g) (hn : n ≤ maxLen) : Own e w base (.slice (some ⟨g, 0, none⟩) n n) (List.replicate n 0) := by
  refine own_of_blk h (size_made _ _) (by simp) hb hn (fun i hi => ?_)
  rw [h.cell, gI_rep hi]
  simp [madeCells, hi, Nat.mod_one]
end Go.Proofs.Ythpnmkghjnipoaa
