/- Contracts: BranchOfGenerators, the reference. -/
import Derived.Test.YthpnmkghjnipoaaBog
import Derived.Test.YthpnmkghjnipoaaL03Is
import Derived.Test.YthpnmkghjnipoaaPushS
import Derived.Deep.RegionHeld3
import Derived.Deep.RegionLaw
namespace Go.Proofs.Ythpnmkghjnipoaa
open Go.RowKit

theorem below3 (w : World) (o1 o2 o3 : Obj) : Below w.heap.size w (((w.alloc o1).alloc o2).alloc o3).drew := ((((Below.refl _ _).alloc (Nat.le_refl _) o1).alloc (by simp) o2).alloc (by simp; omega) o3).drew
theorem blk_a (w : World) (t1 t2 t3 : TypeId) (c1 c2 c3 : Array Value) : Blk (((w.alloc (.cells c1 t1)).alloc (.cells c2 t2)).alloc (.cells c3 t3)).drew w.heap.size t1 c1 := (((Blk.new w t1 c1).alloc _).alloc _).drewN 1
theorem blk_b (w : World) (t1 t2 t3 : TypeId) (c1 c2 c3 : Array Value) : Blk (((w.alloc (.cells c1 t1)).alloc (.cells c2 t2)).alloc (.cells c3 t3)).drew (w.heap.size + 1) t2 c2 := ((Blk.new' (w := w.alloc (.cells c1 t1)) (by simp)).alloc _).drewN 1
theorem blk_c (w : World) (t1 t2 t3 : TypeId) (c1 c2 c3 : Array Value) : Blk (((w.alloc (.cells c1 t1)).alloc (.cells c2 t2)).alloc (.cells c3 t3)).drew (w.heap.size + 1 + 1) t3 c3 := (Blk.new' (w := (w.alloc (.cells c1 t1)).alloc (.cells c2 t2)) (by simp)).drewN 1

theorem own_blk1 {w : World} {g base : Nat} {x : Int} (h : Blk w g 2 #[.int .i64 x]) (hb : base ≤ g) : OwnI w base (.slice (some ⟨g, 0, none⟩) 1 1) [x] := by
  exact ⟨rfl, .inr ⟨g, 1, #[.int .i64 x], rfl, hb, h, Nat.le_refl _, by unfold maxLen; omega, rfl, rfl⟩⟩
def rgC (a fb : Bool) : Int := if a = true then okC fb 5 else 2

theorem bog_len (G : List Int) : (okL (bogB G) (tTo G G.length)).length ≤ 1048576 := okL_len fun h => by
  have h1 : rgB G = true := by simp [bogB] at h; exact h.1
  have := rgB_iff.1 h1
  rw [tTo_len]; omega
end Go.Proofs.Ythpnmkghjnipoaa
