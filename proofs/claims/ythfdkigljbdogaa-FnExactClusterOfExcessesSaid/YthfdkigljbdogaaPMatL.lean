/- Contracts: ProximityMatrix. -/
import Derived.Test.YthfdkigljbdogaaPMatS
import Derived.Test.YthfdkigljbdogaaHelpM
namespace Go.Proofs.Ythfdkigljbdogaa
open Go.RowKit

theorem retM_of_rows {w w' : World} {n : Nat} {R : Nat → List Int} {e : Ending} (hn : n ≤ 1000000) (h : RetR w n R e w') : RetM 2 w ((List.range n).map R) e w' := by
  obtain ⟨g, V, rfl, hr, hb⟩ := h
  have := OwnM.of_rows (cap := n) hr (Nat.le_refl _) (by omega)
  exact retM_mk this hb
/-- The proximity matrix. -/
def pmL (P S : List Int) : List (List Int) := (List.range P.length).map (pmRow P S P.length)
theorem pmL_len (P S : List Int) : (pmL P S).length = P.length := by simp [pmL]
theorem pmL_row {P S : List Int} {j : Nat} (h : j < (pmL P S).length) : (gR (pmL P S) j).length = P.length := by rw [pmL_len] at h; unfold pmL; rw [gR_map h, pmRow_len]
theorem l07Prox_m (p s q : Value) (P S W : List Int) (w : World) (hp : Rd w p P) (hs : Rd w s S) (hq : Rd w q W) (hc : CluOk P S W) :
    Calls Try.prog 100 #[.agg #[p, s, q]] w (RetM 2 w (pmL P S)) := l07Prox_c p s q P S W w hp hs hq hc
theorem proximityMatrix_m (p s q : Value) (P S W : List Int) (w : World) (hp : Rd w p P) (hs : Rd w s S) (hq : Rd w q W) (hc : CluOk P S W) :
    Calls Try.prog 101 #[.agg #[p, s, q]] w (RetM 2 w (pmL P S)) :=
  (proximityMatrix_c p s q P S W w hp hs hq hc).mono fun e w' h => retM_of_rows (by have := hc.1; omega) h

set_option maxHeartbeats 1000000 in
theorem implProximityMatrix_yes (p s q : Value) (P S W : List Int) (w : World) (hp : Rd w p P) (hs : Rd w s S) (hq : Rd w q W) (hc : cluB P S W = true) :
    Calls Try.prog 46 #[.agg #[p, s, q]] w (RetMC 2 w (pmL P S) 0) := by
  have hx := Boxed.start w 47 #[p, s, q]
  have hcl := cluB_iff.1 hc
  obtain ⟨a1, k1, rfl⟩ := hp.len0
  obtain ⟨a2, k2, rfl⟩ := hs.len0
  obtain ⟨a3, k3, rfl⟩ := hq.len0
  have HC := Lib.hid hcl
  clear hcl
  go_enter Try.func46, Try.ntmps46
  go_wp2_with fail
  refine (implIsCluster_c _ _ _ P S W _ (hx.rd hp) (hx.rd hs) (hx.rd hq)).mono ?_
  rintro e w1 ⟨rfl, hb⟩
  have hx1 := hx.trans hb
  have c0 := hx1.cell 0
  have c1 := hx1.cell 1
  have c2 := hx1.cell 2
  go_wp2_with fail
  refine (proximityMatrix_m _ _ _ P S W _ (hx1.rd hp) (hx1.rd hs) (hx1.rd hq) HC.out).mono ?_
  rintro e w2 ⟨a, k, V, rfl, ho, hb2⟩
  go_wp2
  go_ret2
  exact retMC_mk (ho.base_le (Nat.le_of_lt hx1.size)) (hx1.trans hb2).below

theorem implProximityMatrix_no (p s q : Value) (P S W : List Int) (w : World) (hp : Rd w p P) (hs : Rd w s S) (hq : Rd w q W) (hc : cluB P S W = false) :
    Calls Try.prog 46 #[.agg #[p, s, q]] w (RetMC 2 w [] 1) := by
  have hx := Boxed.start w 47 #[p, s, q]
  obtain ⟨a1, k1, rfl⟩ := hp.len0
  obtain ⟨a2, k2, rfl⟩ := hs.len0
  obtain ⟨a3, k3, rfl⟩ := hq.len0
  go_enter Try.func46, Try.ntmps46
  go_wp2_with fail
  refine (implIsCluster_c _ _ _ P S W _ (hx.rd hp) (hx.rd hs) (hx.rd hq)).mono ?_
  rintro e w1 ⟨rfl, hb⟩
  go_wp2
  go_ret2
  exact retMC_nil (hx.trans hb).below

theorem implProximityMatrix_c (p s q : Value) (P S W : List Int) (w : World) (hp : Rd w p P) (hs : Rd w s S) (hq : Rd w q W) :
    Calls Try.prog 46 #[.agg #[p, s, q]] w (RetMC 2 w (okR (cluB P S W) (pmL P S)) (okC (cluB P S W) 1)) := by
  cases hc : cluB P S W
  · rw [okR_false rfl, okC_false rfl]; exact implProximityMatrix_no p s q P S W w hp hs hq hc
  · rw [okR_true rfl, okC_true rfl]; exact implProximityMatrix_yes p s q P S W w hp hs hq hc

set_option maxHeartbeats 1000000 in
theorem specProximityMatrix_yes (p s q : Value) (P S W : List Int) (w : World) (hp : Rd w p P) (hs : Rd w s S) (hq : Rd w q W) (hc : cluB P S W = true) :
    Calls Try.prog 45 #[.agg #[p, s, q]] w (RetMC 2 w (pmL P S) 0) := by
  have hx := Boxed.start w 47 #[p, s, q]
  have hcl := cluB_iff.1 hc
  obtain ⟨a1, k1, rfl⟩ := hp.len0
  obtain ⟨a2, k2, rfl⟩ := hs.len0
  obtain ⟨a3, k3, rfl⟩ := hq.len0
  have HC := Lib.hid hcl
  clear hcl
  go_enter Try.func45, Try.ntmps45
  go_wp2_with fail
  refine (l07Is_c _ _ _ P S W _ (hx.rd hp) (hx.rd hs) (hx.rd hq)).mono ?_
  rintro e w1 ⟨rfl, hb⟩
  have hx1 := hx.trans hb
  have c0 := hx1.cell 0
  have c1 := hx1.cell 1
  have c2 := hx1.cell 2
  go_wp2_with fail
  refine (l07Prox_m _ _ _ P S W _ (hx1.rd hp) (hx1.rd hs) (hx1.rd hq) HC.out).mono ?_
  rintro e w2 ⟨a, k, V, rfl, ho, hb2⟩
  go_wp2
  go_ret2
  exact retMC_mk (ho.base_le (Nat.le_of_lt hx1.size)) (hx1.trans hb2).below

theorem specProximityMatrix_no (p s q : Value) (P S W : List Int) (w : World) (hp : Rd w p P) (hs : Rd w s S) (hq : Rd w q W) (hc : cluB P S W = false) :
    Calls Try.prog 45 #[.agg #[p, s, q]] w (RetMC 2 w [] 1) := by
  have hx := Boxed.start w 47 #[p, s, q]
  obtain ⟨a1, k1, rfl⟩ := hp.len0
  obtain ⟨a2, k2, rfl⟩ := hs.len0
  obtain ⟨a3, k3, rfl⟩ := hq.len0
  go_enter Try.func45, Try.ntmps45
  go_wp2_with fail
  refine (l07Is_c _ _ _ P S W _ (hx.rd hp) (hx.rd hs) (hx.rd hq)).mono ?_
  rintro e w1 ⟨rfl, hb⟩
  go_wp2
  go_ret2
  exact retMC_nil (hx.trans hb).below

theorem specProximityMatrix_c (p s q : Value) (P S W : List Int) (w : World) (hp : Rd w p P) (hs : Rd w s S) (hq : Rd w q W) :
    Calls Try.prog 45 #[.agg #[p, s, q]] w (RetMC 2 w (okR (cluB P S W) (pmL P S)) (okC (cluB P S W) 1)) := by
  cases hc : cluB P S W
  · rw [okR_false rfl, okC_false rfl]; exact specProximityMatrix_no p s q P S W w hp hs hq hc
  · rw [okR_true rfl, okC_true rfl]; exact specProximityMatrix_yes p s q P S W w hp hs hq hc

end Go.Proofs.Ythfdkigljbdogaa
