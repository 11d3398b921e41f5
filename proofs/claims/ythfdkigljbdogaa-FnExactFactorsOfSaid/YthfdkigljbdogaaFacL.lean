/- Contracts: FactorsOf. -/
import Derived.Test.YthfdkigljbdogaaFac
namespace Go.Proofs.Ythfdkigljbdogaa
open Go.RowKit

def facB (P S W : List Int) : Bool := cluB P S W && nonNeg (exTo (proxL P S) W P.length)
def facC (P S W : List Int) : Int := if cluB P S W then okC (nonNeg (exTo (proxL P S) W P.length)) 5 else 1
theorem fac_1 {P S W : List Int} (h : cluB P S W = false) : facB P S W = false ∧ facC P S W = 1 := by simp [facB, facC, h]
theorem fac_2 {P S W : List Int} (h : cluB P S W = true) (h2 : nonNeg (exTo (proxL P S) W P.length) = false) : facB P S W = false ∧ facC P S W = 5 := by simp [facB, facC, h, h2, okC]
theorem fac_3 {P S W : List Int} (h : cluB P S W = true) (h2 : nonNeg (exTo (proxL P S) W P.length) = true) : facB P S W = true ∧ facC P S W = 0 := by simp [facB, facC, h, h2, okC]
theorem facL_len (P S W : List Int) : (facL P S W).length ≤ P.length := fTo_len _ _
theorem facL_row {P S W : List Int} : ∀ j, j < (facL P S W).length → (gR (facL P S W) j).length ≤ 2 := fTo_row _ _

set_option maxHeartbeats 1000000 in
theorem implFactors_1 (p s q : Value) (P S W : List Int) (w : World) (hp : Rd w p P) (hs : Rd w s S) (hq : Rd w q W) (hc : cluB P S W = false) :
    Calls Try.prog 66 #[.agg #[p, s, q]] w (RetMC 2 w [] 1) := by
  have hx := Boxed.start w 47 #[p, s, q]
  obtain ⟨a1, k1, rfl⟩ := hp.len0
  obtain ⟨a2, k2, rfl⟩ := hs.len0
  obtain ⟨a3, k3, rfl⟩ := hq.len0
  go_enter Try.func66, Try.ntmps66
  go_wp2_with fail
  refine (implIsCluster_c _ _ _ P S W _ (hx.rd hp) (hx.rd hs) (hx.rd hq)).mono ?_
  rintro e w1 ⟨rfl, hb⟩
  have hx1 := hx.trans hb
  go_wp2
  go_ret2
  exact retMC_nil hx1.below
set_option maxHeartbeats 1000000 in
theorem implFactors_2 (p s q : Value) (P S W : List Int) (w : World) (hp : Rd w p P) (hs : Rd w s S) (hq : Rd w q W) (hc : cluB P S W = true) (hn : nonNeg (exTo (proxL P S) W P.length) = false) :
    Calls Try.prog 66 #[.agg #[p, s, q]] w (RetMC 2 w [] 5) := by
  have hx := Boxed.start w 47 #[p, s, q]
  obtain ⟨a1, k1, rfl⟩ := hp.len0
  obtain ⟨a2, k2, rfl⟩ := hs.len0
  obtain ⟨a3, k3, rfl⟩ := hq.len0
  go_enter Try.func66, Try.ntmps66
  go_wp2_with fail
  refine (implIsCluster_c _ _ _ P S W _ (hx.rd hp) (hx.rd hs) (hx.rd hq)).mono ?_
  rintro e w1 ⟨rfl, hb⟩
  have hx1 := hx.trans hb
  have HC := Lib.hid (cluB_iff.1 hc)
  have c0 := hx1.cell 0
  have c1 := hx1.cell 1
  have c2 := hx1.cell 2
  go_wp2_with fail
  refine (consistent_c _ _ _ P S W _ (hx1.rd hp) (hx1.rd hs) (hx1.rd hq) HC.out).mono ?_
  rintro e w2 ⟨rfl, hb2⟩
  rw [hn]
  have hx2 := hx1.trans hb2
  clear c0 c1 c2
  go_wp2
  go_ret2
  exact retMC_nil hx2.below
set_option maxHeartbeats 1000000 in
theorem implFactors_3 (p s q : Value) (P S W : List Int) (w : World) (hp : Rd w p P) (hs : Rd w s S) (hq : Rd w q W) (hc : cluB P S W = true) (hn : nonNeg (exTo (proxL P S) W P.length) = true) :
    Calls Try.prog 66 #[.agg #[p, s, q]] w (RetMC 2 w (facL P S W) 0) := by
  have hx := Boxed.start w 47 #[p, s, q]
  obtain ⟨a1, k1, rfl⟩ := hp.len0
  obtain ⟨a2, k2, rfl⟩ := hs.len0
  obtain ⟨a3, k3, rfl⟩ := hq.len0
  go_enter Try.func66, Try.ntmps66
  go_wp2_with fail
  refine (implIsCluster_c _ _ _ P S W _ (hx.rd hp) (hx.rd hs) (hx.rd hq)).mono ?_
  rintro e w1 ⟨rfl, hb⟩
  have hx1 := hx.trans hb
  have HC := Lib.hid (cluB_iff.1 hc)
  have c0 := hx1.cell 0
  have c1 := hx1.cell 1
  have c2 := hx1.cell 2
  go_wp2_with fail
  refine (consistent_c _ _ _ P S W _ (hx1.rd hp) (hx1.rd hs) (hx1.rd hq) HC.out).mono ?_
  rintro e w2 ⟨rfl, hb2⟩
  rw [hn]
  have hx2 := hx1.trans hb2
  clear c0 c1 c2
  have c0 := hx2.cell 0
  have c1 := hx2.cell 1
  have c2 := hx2.cell 2
  go_wp2_with fail
  refine (factors_c _ _ _ P S W _ (hx2.rd hp) (hx2.rd hs) (hx2.rd hq) HC.out).mono ?_
  rintro e w3 ⟨a, k, V, rfl, ho, hb3⟩
  go_wp2
  go_ret2
  exact retMC_mk (ho.base_le (Nat.le_of_lt hx2.size)) (hx2.trans hb3).below
theorem implFactors_c (p s q : Value) (P S W : List Int) (w : World) (hp : Rd w p P) (hs : Rd w s S) (hq : Rd w q W) :
    Calls Try.prog 66 #[.agg #[p, s, q]] w (RetMC 2 w (okR (facB P S W) (facL P S W)) (facC P S W)) := by
  cases hc : cluB P S W
  · rw [(fac_1 hc).1, (fac_1 hc).2, okR_false rfl]; exact implFactors_1 p s q P S W w hp hs hq hc
  · cases hn : nonNeg (exTo (proxL P S) W P.length)
    · rw [(fac_2 hc hn).1, (fac_2 hc hn).2, okR_false rfl]; exact implFactors_2 p s q P S W w hp hs hq hc hn
    · rw [(fac_3 hc hn).1, (fac_3 hc hn).2, okR_true rfl]; exact implFactors_3 p s q P S W w hp hs hq hc hn

set_option maxHeartbeats 1000000 in
theorem specFactors_1 (p s q : Value) (P S W : List Int) (w : World) (hp : Rd w p P) (hs : Rd w s S) (hq : Rd w q W) (hc : cluB P S W = false) :
    Calls Try.prog 65 #[.agg #[p, s, q]] w (RetMC 2 w [] 1) := by
  have hx := Boxed.start w 47 #[p, s, q]
  obtain ⟨a1, k1, rfl⟩ := hp.len0
  obtain ⟨a2, k2, rfl⟩ := hs.len0
  obtain ⟨a3, k3, rfl⟩ := hq.len0
  go_enter Try.func65, Try.ntmps65
  go_wp2_with fail
  refine (l07Is_c _ _ _ P S W _ (hx.rd hp) (hx.rd hs) (hx.rd hq)).mono ?_
  rintro e w1 ⟨rfl, hb⟩
  have hx1 := hx.trans hb
  go_wp2
  go_ret2
  exact retMC_nil hx1.below
set_option maxHeartbeats 1000000 in
theorem specFactors_2 (p s q : Value) (P S W : List Int) (w : World) (hp : Rd w p P) (hs : Rd w s S) (hq : Rd w q W) (hc : cluB P S W = true) (hn : nonNeg (exTo (proxL P S) W P.length) = false) :
    Calls Try.prog 65 #[.agg #[p, s, q]] w (RetMC 2 w [] 5) := by
  have hx := Boxed.start w 47 #[p, s, q]
  obtain ⟨a1, k1, rfl⟩ := hp.len0
  obtain ⟨a2, k2, rfl⟩ := hs.len0
  obtain ⟨a3, k3, rfl⟩ := hq.len0
  go_enter Try.func65, Try.ntmps65
  go_wp2_with fail
  refine (l07Is_c _ _ _ P S W _ (hx.rd hp) (hx.rd hs) (hx.rd hq)).mono ?_
  rintro e w1 ⟨rfl, hb⟩
  have hx1 := hx.trans hb
  have HC := Lib.hid (cluB_iff.1 hc)
  have c0 := hx1.cell 0
  have c1 := hx1.cell 1
  have c2 := hx1.cell 2
  go_wp2_with fail
  refine (l07Consistent_c _ _ _ P S W _ (hx1.rd hp) (hx1.rd hs) (hx1.rd hq) HC.out).mono ?_
  rintro e w2 ⟨rfl, hb2⟩
  rw [hn]
  have hx2 := hx1.trans hb2
  clear c0 c1 c2
  go_wp2
  go_ret2
  exact retMC_nil hx2.below
set_option maxHeartbeats 1000000 in
theorem specFactors_3 (p s q : Value) (P S W : List Int) (w : World) (hp : Rd w p P) (hs : Rd w s S) (hq : Rd w q W) (hc : cluB P S W = true) (hn : nonNeg (exTo (proxL P S) W P.length) = true) :
    Calls Try.prog 65 #[.agg #[p, s, q]] w (RetMC 2 w (facL P S W) 0) := by
  have hx := Boxed.start w 47 #[p, s, q]
  obtain ⟨a1, k1, rfl⟩ := hp.len0
  obtain ⟨a2, k2, rfl⟩ := hs.len0
  obtain ⟨a3, k3, rfl⟩ := hq.len0
  go_enter Try.func65, Try.ntmps65
  go_wp2_with fail
  refine (l07Is_c _ _ _ P S W _ (hx.rd hp) (hx.rd hs) (hx.rd hq)).mono ?_
  rintro e w1 ⟨rfl, hb⟩
  have hx1 := hx.trans hb
  have HC := Lib.hid (cluB_iff.1 hc)
  have c0 := hx1.cell 0
  have c1 := hx1.cell 1
  have c2 := hx1.cell 2
  go_wp2_with fail
  refine (l07Consistent_c _ _ _ P S W _ (hx1.rd hp) (hx1.rd hs) (hx1.rd hq) HC.out).mono ?_
  rintro e w2 ⟨rfl, hb2⟩
  rw [hn]
  have hx2 := hx1.trans hb2
  clear c0 c1 c2
  have c0 := hx2.cell 0
  have c1 := hx2.cell 1
  have c2 := hx2.cell 2
  go_wp2_with fail
  refine (l08Factors_c _ _ _ P S W _ (hx2.rd hp) (hx2.rd hs) (hx2.rd hq) HC.out).mono ?_
  rintro e w3 ⟨a, k, V, rfl, ho, hb3⟩
  go_wp2
  go_ret2
  exact retMC_mk (ho.base_le (Nat.le_of_lt hx2.size)) (hx2.trans hb3).below
theorem specFactors_c (p s q : Value) (P S W : List Int) (w : World) (hp : Rd w p P) (hs : Rd w s S) (hq : Rd w q W) :
    Calls Try.prog 65 #[.agg #[p, s, q]] w (RetMC 2 w (okR (facB P S W) (facL P S W)) (facC P S W)) := by
  cases hc : cluB P S W
  · rw [(fac_1 hc).1, (fac_1 hc).2, okR_false rfl]; exact specFactors_1 p s q P S W w hp hs hq hc
  · cases hn : nonNeg (exTo (proxL P S) W P.length)
    · rw [(fac_2 hc hn).1, (fac_2 hc hn).2, okR_false rfl]; exact specFactors_2 p s q P S W w hp hs hq hc hn
    · rw [(fac_3 hc hn).1, (fac_3 hc hn).2, okR_true rfl]; exact specFactors_3 p s q P S W w hp hs hq hc hn

end Go.Proofs.Ythfdkigljbdogaa
