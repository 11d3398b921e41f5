/- Contracts: ExceptionalMatrix. -/
import Derived.Test.YthfdkigljbdogaaEmS
namespace Go.Proofs.Ythfdkigljbdogaa
open Go.RowKit

/-- The intersection matrix. -/
def emL (P S : List Int) : List (List Int) := (List.range P.length).map (emRow P S)
theorem emL_len (P S : List Int) : (emL P S).length = P.length := by simp [emL]
theorem emL_row {P S : List Int} {j : Nat} (h : j < (emL P S).length) : (gR (emL P S) j).length = P.length := by rw [emL_len] at h; unfold emL; rw [gR_map h, emRow_len]
theorem l07Meet_m (p s q : Value) (P S W : List Int) (w : World) (hp : Rd w p P) (hs : Rd w s S) (hq : Rd w q W) (hc : CluOk P S W) :
    Calls Try.prog 120 #[.agg #[p, s, q]] w (RetM 2 w (emL P S)) := l07Meet_c p s q P S W w hp hs hq hc
theorem exceptionalMatrix_m (p s q : Value) (P S W : List Int) (w : World) (hp : Rd w p P) (hs : Rd w s S) (hq : Rd w q W) (hc : CluOk P S W) :
    Calls Try.prog 121 #[.agg #[p, s, q]] w (RetM 2 w (emL P S)) :=
  (exceptionalMatrix_c p s q P S W w hp hs hq hc).mono fun e w' h => retM_of_rows (by have := hc.1; omega) h

set_option maxHeartbeats 1000000 in
theorem implExceptionalMatrix_yes (p s q : Value) (P S W : List Int) (w : World) (hp : Rd w p P) (hs : Rd w s S) (hq : Rd w q W) (hc : cluB P S W = true) :
    Calls Try.prog 64 #[.agg #[p, s, q]] w (RetMC 2 w (emL P S) 0) := by
  have hx := Boxed.start w 47 #[p, s, q]
  have hcl := cluB_iff.1 hc
  obtain ⟨a1, k1, rfl⟩ := hp.len0
  obtain ⟨a2, k2, rfl⟩ := hs.len0
  obtain ⟨a3, k3, rfl⟩ := hq.len0
  have HC := Lib.hid hcl
  clear hcl
  go_enter Try.func64, Try.ntmps64
  go_wp2_with fail
  refine (implIsCluster_c _ _ _ P S W _ (hx.rd hp) (hx.rd hs) (hx.rd hq)).mono ?_
  rintro e w1 ⟨rfl, hb⟩
  have hx1 := hx.trans hb
  have c0 := hx1.cell 0
  have c1 := hx1.cell 1
  have c2 := hx1.cell 2
  go_wp2_with fail
  refine (exceptionalMatrix_m _ _ _ P S W _ (hx1.rd hp) (hx1.rd hs) (hx1.rd hq) HC.out).mono ?_
  rintro e w2 ⟨a, k, V, rfl, ho, hb2⟩
  go_wp2
  go_ret2
  exact retMC_mk (ho.base_le (Nat.le_of_lt hx1.size)) (hx1.trans hb2).below

theorem implExceptionalMatrix_no (p s q : Value) (P S W : List Int) (w : World) (hp : Rd w p P) (hs : Rd w s S) (hq : Rd w q W) (hc : cluB P S W = false) :
    Calls Try.prog 64 #[.agg #[p, s, q]] w (RetMC 2 w [] 1) := by
  have hx := Boxed.start w 47 #[p, s, q]
  obtain ⟨a1, k1, rfl⟩ := hp.len0
  obtain ⟨a2, k2, rfl⟩ := hs.len0
  obtain ⟨a3, k3, rfl⟩ := hq.len0
  go_enter Try.func64, Try.ntmps64
  go_wp2_with fail
  refine (implIsCluster_c _ _ _ P S W _ (hx.rd hp) (hx.rd hs) (hx.rd hq)).mono ?_
  rintro e w1 ⟨rfl, hb⟩
  go_wp2
  go_ret2
  exact retMC_nil (hx.trans hb).below

theorem implExceptionalMatrix_c (p s q : Value) (P S W : List Int) (w : World) (hp : Rd w p P) (hs : Rd w s S) (hq : Rd w q W) :
    Calls Try.prog 64 #[.agg #[p, s, q]] w (RetMC 2 w (okR (cluB P S W) (emL P S)) (okC (cluB P S W) 1)) := by
  cases hc : cluB P S W
  · rw [okR_false rfl, okC_false rfl]; exact implExceptionalMatrix_no p s q P S W w hp hs hq hc
  · rw [okR_true rfl, okC_true rfl]; exact implExceptionalMatrix_yes p s q P S W w hp hs hq hc

set_option maxHeartbeats 1000000 in
theorem specExceptionalMatrix_yes (p s q : Value) (P S W : List Int) (w : World) (hp : Rd w p P) (hs : Rd w s S) (hq : Rd w q W) (hc : cluB P S W = true) :
    Calls Try.prog 63 #[.agg #[p, s, q]] w (RetMC 2 w (emL P S) 0) := by
  have hx := Boxed.start w 47 #[p, s, q]
  have hcl := cluB_iff.1 hc
  obtain ⟨a1, k1, rfl⟩ := hp.len0
  obtain ⟨a2, k2, rfl⟩ := hs.len0
  obtain ⟨a3, k3, rfl⟩ := hq.len0
  have HC := Lib.hid hcl
  clear hcl
  go_enter Try.func63, Try.ntmps63
  go_wp2_with fail
  refine (l07Is_c _ _ _ P S W _ (hx.rd hp) (hx.rd hs) (hx.rd hq)).mono ?_
  rintro e w1 ⟨rfl, hb⟩
  have hx1 := hx.trans hb
  have c0 := hx1.cell 0
  have c1 := hx1.cell 1
  have c2 := hx1.cell 2
  go_wp2_with fail
  refine (l07Meet_m _ _ _ P S W _ (hx1.rd hp) (hx1.rd hs) (hx1.rd hq) HC.out).mono ?_
  rintro e w2 ⟨a, k, V, rfl, ho, hb2⟩
  go_wp2
  go_ret2
  exact retMC_mk (ho.base_le (Nat.le_of_lt hx1.size)) (hx1.trans hb2).below

theorem specExceptionalMatrix_no (p s q : Value) (P S W : List Int) (w : World) (hp : Rd w p P) (hs : Rd w s S) (hq : Rd w q W) (hc : cluB P S W = false) :
    Calls Try.prog 63 #[.agg #[p, s, q]] w (RetMC 2 w [] 1) := by
  have hx := Boxed.start w 47 #[p, s, q]
  obtain ⟨a1, k1, rfl⟩ := hp.len0
  obtain ⟨a2, k2, rfl⟩ := hs.len0
  obtain ⟨a3, k3, rfl⟩ := hq.len0
  go_enter Try.func63, Try.ntmps63
  go_wp2_with fail
  refine (l07Is_c _ _ _ P S W _ (hx.rd hp) (hx.rd hs) (hx.rd hq)).mono ?_
  rintro e w1 ⟨rfl, hb⟩
  go_wp2
  go_ret2
  exact retMC_nil (hx.trans hb).below

theorem specExceptionalMatrix_c (p s q : Value) (P S W : List Int) (w : World) (hp : Rd w p P) (hs : Rd w s S) (hq : Rd w q W) :
    Calls Try.prog 63 #[.agg #[p, s, q]] w (RetMC 2 w (okR (cluB P S W) (emL P S)) (okC (cluB P S W) 1)) := by
  cases hc : cluB P S W
  · rw [okR_false rfl, okC_false rfl]; exact specExceptionalMatrix_no p s q P S W w hp hs hq hc
  · rw [okR_true rfl, okC_true rfl]; exact specExceptionalMatrix_yes p s q P S W w hp hs hq hc

end Go.Proofs.Ythfdkigljbdogaa
