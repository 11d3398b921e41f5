/- Contracts: ClusterText, the program and the reference. -/
import Derived.Test.YtiinceflafigeaaDoorCtI
import Derived.Test.YtiinceflafigeaaDoorOrdPure
namespace Go.Proofs.YtiinceflafigeaaDoor
open Go.RowKit

/-- The text of a cluster, and none of what is no cluster. -/
def ctS (P S W : List Int) : ByteArray := ⟨(if cluB P S W = true then ctL P S W else []).toArray⟩
theorem ctS_yes {P S W : List Int} (h : cluB P S W = true) {s : ByteArray} (hs : lB s = ctL P S W) : s = ctS P S W := by
  apply lB_inj
  rw [hs]; unfold ctS; rw [if_pos h]; simp [lB]
theorem ctS_no {P S W : List Int} (h : cluB P S W = false) : ctS P S W = ByteArray.empty := by
  unfold ctS; rw [if_neg (by rw [h]; decide)]; rfl
set_option maxRecDepth 100000 in
set_option maxHeartbeats 2000000 in
theorem implCT_c (p s q : Value) (P S W : List Int) (w : World) (hp : Rd w p P) (hs : Rd w s S) (hq : Rd w q W) (ht : Tab w) :
    Calls Tryd.prog 25 #[.agg #[p, s, q]] w fun e w' => e = .returned (.tuple #[.string (ctS P S W), .int .i64 (okC (cluB P S W) 1)]) ∧ Below w.heap.size w w' := by
  have hx := Boxed.start w 47 #[p, s, q]
  obtain ⟨a0, k0, rfl⟩ := hp.len0
  obtain ⟨a1, k1, rfl⟩ := hs.len0
  obtain ⟨a2, k2, rfl⟩ := hq.len0
  have c0 := hx.cell 0
  have c1 := hx.cell 1
  have c2 := hx.cell 2
  go_enter Tryd.func25, Tryd.ntmps25
  go_wp2_with fail
  refine (implIsCluster_c _ _ _ P S W _ (hx.rd hp) (hx.rd hs) (hx.rd hq)).mono ?_
  rintro e w1 ⟨rfl, hb⟩
  have hx1 := hx.trans hb
  clear c0 c1 c2 hx hb
  cases hc : cluB P S W
  · have e1 := ctS_no hc
    go_wp2
    go_ret2
    exact ⟨by first | (rw [e1, okC_false hc]; rfl) | (rw [e1]; rfl), hx1.below⟩
  · have hok := cluB_iff.1 hc
    have c0 := hx1.cell 0
    have c1 := hx1.cell 1
    have c2 := hx1.cell 2
    have ht1 := ht.below hx1.below (Nat.le_refl _)
    go_wp2_with fail
    refine (clusterText_c _ _ _ P S W _ (hx1.rd hp) (hx1.rd hs) (hx1.rd hq) hok ht1).mono ?_
    rintro e w2 ⟨t, rfl, hl, hb⟩
    have HT := Lib.hid (ctS_yes hc hl)
    have hx2 := hx1.trans hb
    clear hl hb hx1 c0 c1 c2 hok ht1
    go_wp2
    go_ret2
    exact ⟨by first | (rw [HT.out, okC_true hc]; rfl) | (rw [HT.out]; rfl), hx2.below⟩
set_option maxRecDepth 100000 in
set_option maxHeartbeats 2000000 in
theorem specCT_c (p s q : Value) (P S W : List Int) (w : World) (hp : Rd w p P) (hs : Rd w s S) (hq : Rd w q W) :
    Calls Tryd.prog 23 #[.agg #[p, s, q]] w fun e w' => e = .returned (.tuple #[.string (ctS P S W), .int .i64 (okC (cluB P S W) 1)]) ∧ Below w.heap.size w w' := by
  have hx := Boxed.start w 47 #[p, s, q]
  obtain ⟨a0, k0, rfl⟩ := hp.len0
  obtain ⟨a1, k1, rfl⟩ := hs.len0
  obtain ⟨a2, k2, rfl⟩ := hq.len0
  have c0 := hx.cell 0
  have c1 := hx.cell 1
  have c2 := hx.cell 2
  go_enter Tryd.func23, Tryd.ntmps23
  go_wp2_with fail
  refine (l07Is_c _ _ _ P S W _ (hx.rd hp) (hx.rd hs) (hx.rd hq)).mono ?_
  rintro e w1 ⟨rfl, hb⟩
  have hx1 := hx.trans hb
  clear c0 c1 c2 hx hb
  cases hc : cluB P S W
  · have e1 := ctS_no hc
    go_wp2
    go_ret2
    exact ⟨by first | (rw [e1, okC_false hc]; rfl) | (rw [e1]; rfl), hx1.below⟩
  · have hok := cluB_iff.1 hc
    have c0 := hx1.cell 0
    have c1 := hx1.cell 1
    have c2 := hx1.cell 2
    go_wp2_with fail
    refine (l07Text_c _ _ _ P S W _ (hx1.rd hp) (hx1.rd hs) (hx1.rd hq) hok).mono ?_
    rintro e w2 ⟨t, rfl, hl, hb⟩
    have HT := Lib.hid (ctS_yes hc hl)
    have hx2 := hx1.trans hb
    clear hl hb hx1 c0 c1 c2 hok
    go_wp2
    go_ret2
    exact ⟨by first | (rw [HT.out, okC_true hc]; rfl) | (rw [HT.out]; rfl), hx2.below⟩
end Go.Proofs.YtiinceflafigeaaDoor
