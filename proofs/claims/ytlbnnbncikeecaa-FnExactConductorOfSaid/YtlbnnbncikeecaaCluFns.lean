/- Contracts of the two programs' functions on one cluster: IsCluster. -/
import Derived.Test.YtlbnnbncikeecaaNear
import Derived.Test.YtlbnnbncikeecaaHelpC
namespace Go.Proofs.Ytlbnnbncikeecaa
open Go.RowKit

theorem specIsCluster_c (p s q : Value) (P S W : List Int) (w : World) (hp : Rd w p P) (hs : Rd w s S) (hq : Rd w q W) :
    Calls Try.prog 20 #[.agg #[p, s, q]] w fun e w' => e = .returned (.bool (cluB P S W)) ∧ Below w.heap.size w w' := by
  have hx := Boxed.start w 30 #[p, s, q]
  obtain ⟨a1, k1, rfl⟩ := hp.len0
  obtain ⟨a2, k2, rfl⟩ := hs.len0
  obtain ⟨a3, k3, rfl⟩ := hq.len0
  go_enter Try.func20, Try.ntmps20
  go_wp2_with fail
  refine (l07Is_c _ _ _ P S W _ (hx.rd hp) (hx.rd hs) (hx.rd hq)).mono ?_
  rintro e w1 ⟨rfl, hb⟩
  go_wp2
  go_ret
  exact ⟨rfl, (hx.trans hb).below⟩
end Go.Proofs.Ytlbnnbncikeecaa
