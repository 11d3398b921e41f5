/- Contracts of the laws' own helpers on clusters: marks that are still there. -/
import Derived.Test.YtiinceflafigeaaHelpB
namespace Go.Proofs.Ytiinceflafigeaa
open Go.RowKit

theorem heldCluster_c (p s q : Value) (n m l : Nat) (k : Int) (w : World) (hp : Rd w p (iotaI k n)) (hs : Rd w s (iotaI (k + n) m)) (hq : Rd w q (iotaI (k + n + m) l)) (h0 : 0 ≤ k) (h1 : k ≤ 1000000) (hn : n ≤ 1048576 ∧ m ≤ 1048576 ∧ l ≤ 1048576) :
    Calls Try.prog 31 #[.agg #[p, s, q], .int .i64 k] w fun e w' => e = .returned (.int .i64 (k + n + m + l)) ∧ Below w.heap.size w w' := by
  have hl1 := hp.len0
  have hl2 := hs.len0
  have hl3 := hq.len0
  rw [iotaI_length] at hl1 hl2 hl3
  obtain ⟨a1, k1, rfl⟩ := hl1
  obtain ⟨a2, k2, rfl⟩ := hl2
  obtain ⟨a3, k3, rfl⟩ := hl3
  have hx := Boxed.start w 40 #[.slice a1 n k1, .slice a2 m k2, .slice a3 l k3]
  have c0 := hx.cell 0
  have c1 := hx.cell 1
  have c2 := hx.cell 2
  have n1 : ¬ (k + (n : Int)) < 0 := by omega
  have n2 : ¬ (k + (n : Int) + (m : Int)) < 0 := by omega
  have n3 : ¬ (k + (n : Int) + (m : Int) + (l : Int)) < 0 := by omega
  go_enter Try.func31, Try.ntmps31
  go_wp2_with fail
  refine (held_c _ n _ _ (hx.rd hp) h0 (by omega) (by omega)).mono ?_
  rintro e w1 ⟨rfl, rfl⟩
  go_wp2_with fail
  refine (held_c _ m _ _ (hx.rd hs) (by omega) (by omega) (by omega)).mono ?_
  rintro e w1 ⟨rfl, rfl⟩
  go_wp2_with fail
  refine (held_c _ l _ _ (hx.rd hq) (by omega) (by omega) (by omega)).mono ?_
  rintro e w1 ⟨rfl, rfl⟩
  go_wp2
  go_ret
  exact ⟨rfl, hx.below⟩
end Go.Proofs.Ytiinceflafigeaa
