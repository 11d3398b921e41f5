/- Contracts: ExcessesOf. -/
import Derived.Test.YtiinceflafigeaaCons
namespace Go.Proofs.Ytiinceflafigeaa
open Go.RowKit

set_option maxHeartbeats 1000000 in
theorem implExcessesOf_yes (p s q : Value) (P S W : List Int) (w : World) (hp : Rd w p P) (hs : Rd w s S) (hq : Rd w q W) (hc : cluB P S W = true) :
    Calls Try.prog 81 #[.agg #[p, s, q]] w (RetIC w (exTo (proxL P S) W P.length) 0) := by
  have hx := Boxed.start w 40 #[p, s, q]
  have hcl := cluB_iff.1 hc
  obtain ⟨a1, k1, rfl⟩ := hp.len0
  obtain ⟨a2, k2, rfl⟩ := hs.len0
  obtain ⟨a3, k3, rfl⟩ := hq.len0
  have HC := Lib.hid hcl
  clear hcl
  go_enter Try.func81, Try.ntmps81
  go_wp2_with fail
  refine (implIsCluster_c _ _ _ P S W _ (hx.rd hp) (hx.rd hs) (hx.rd hq)).mono ?_
  rintro e w1 ⟨rfl, hb⟩
  have hx1 := hx.trans hb
  have c0 := hx1.cell 0
  have c1 := hx1.cell 1
  have c2 := hx1.cell 2
  go_wp2_with fail
  refine (excesses_c _ _ _ P S W _ (hx1.rd hp) (hx1.rd hs) (hx1.rd hq) HC.out).mono ?_
  rintro e w2 ⟨a, k, rfl, ho, hb2⟩
  go_wp2
  go_ret2
  exact retIC_mk (ho.base_le (Nat.le_of_lt hx1.size)) (hx1.trans hb2).below

theorem implExcessesOf_no (p s q : Value) (P S W : List Int) (w : World) (hp : Rd w p P) (hs : Rd w s S) (hq : Rd w q W) (hc : cluB P S W = false) :
    Calls Try.prog 81 #[.agg #[p, s, q]] w (RetIC w [] 1) := by
  have hx := Boxed.start w 40 #[p, s, q]
  obtain ⟨a1, k1, rfl⟩ := hp.len0
  obtain ⟨a2, k2, rfl⟩ := hs.len0
  obtain ⟨a3, k3, rfl⟩ := hq.len0
  go_enter Try.func81, Try.ntmps81
  go_wp2_with fail
  refine (implIsCluster_c _ _ _ P S W _ (hx.rd hp) (hx.rd hs) (hx.rd hq)).mono ?_
  rintro e w1 ⟨rfl, hb⟩
  go_wp2
  go_ret2
  exact retIC_nil (hx.trans hb).below

theorem implExcessesOf_c (p s q : Value) (P S W : List Int) (w : World) (hp : Rd w p P) (hs : Rd w s S) (hq : Rd w q W) :
    Calls Try.prog 81 #[.agg #[p, s, q]] w (RetIC w (okL (cluB P S W) (exTo (proxL P S) W P.length)) (okC (cluB P S W) 1)) := by
  cases hc : cluB P S W
  · rw [okL_false rfl, okC_false rfl]; exact implExcessesOf_no p s q P S W w hp hs hq hc
  · rw [okL_true rfl, okC_true rfl]; exact implExcessesOf_yes p s q P S W w hp hs hq hc

end Go.Proofs.Ytiinceflafigeaa
