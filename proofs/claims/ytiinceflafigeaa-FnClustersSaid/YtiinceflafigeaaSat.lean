/- Contracts: SatellitesOf. -/
import Derived.Test.YtiinceflafigeaaPath
import Derived.Test.YtiinceflafigeaaOrdPure
namespace Go.Proofs.Ytiinceflafigeaa
open Go.RowKit

/-- The satellites among the first k points. -/
def satTo (S : List Int) (k : Nat) : List Int := ((List.range k).filter fun i => decide (0 ≤ gI S i)).map fun (i : Nat) => (i : Int)
theorem satTo_yes {S : List Int} {k : Nat} (h : 0 ≤ gI S k) : satTo S (k + 1) = satTo S k ++ [(k : Int)] := by simp [satTo, List.range_succ, List.filter_append, h]
theorem satTo_no {S : List Int} {k : Nat} (h : ¬ 0 ≤ gI S k) : satTo S (k + 1) = satTo S k := by simp [satTo, List.range_succ, List.filter_append, h]
theorem satTo_len (S : List Int) (k : Nat) : (satTo S k).length ≤ k := by
  unfold satTo
  rw [List.length_map]
  exact Nat.le_trans (List.length_filter_le _ _) (by simp)

set_option maxHeartbeats 1000000 in
theorem implSatellites_yes (p s q : Value) (P S W : List Int) (w : World) (hp : Rd w p P) (hs : Rd w s S) (hq : Rd w q W) (hc : cluB P S W = true) :
    Calls Try.prog 82 #[.agg #[p, s, q]] w (RetIC w (satTo S S.length) 0) := by
  obtain ⟨i0, hi, hz0, hz1, hz2⟩ := info_parts Try.infoI
  have hx := Boxed.start w 40 #[p, s, q]
  have hcl := cluB_iff.1 hc
  have hS24 : S.length ≤ 24 := by have := hcl.1; omega
  obtain ⟨bs, os, ks, rfl, hsc1, hsc2, hsb, hsc⟩ := hs.cells (by have := hcl.1; omega)
  clear hcl
  go_enter Try.func82, Try.ntmps82
  go_wp2_with fail
  refine (implIsCluster_c _ _ _ P S W _ (hx.rd hp) (hx.rd hs) (hx.rd hq)).mono ?_
  rintro e w1 ⟨rfl, hb⟩
  have hx1 := hx.trans hb
  have c1 := hx1.cell 1
  have z1 := hx1.size
  clear hx hb
  go_wp2
  have hB : w.heap.size ≤ w1.heap.size := by omega
  go_loopw [4, 5, 6, 14] (fun v _ _ i wr => ∃ k : Nat, k ≤ S.length ∧ i = .int .i64 k ∧ OwnI wr w.heap.size v (satTo S k) ∧ Below w.heap.size w wr) (fun _ _ _ i _ => S.length - (intOf i).toNat)
  case atStart => exact ⟨0, Nat.zero_le _, rfl, own_empty w1 _ hB, hx1.below.alloc hB _⟩
  case round =>
    obtain ⟨k, hk, rfl, hown, hbl⟩ := hrel
    by_cases hlt : k < S.length
    · have hc := hsc k hlt
      rw [← hbl.cell (p := ⟨bs, os + k, none⟩) hsb] at hc
      have hlen := satTo_len S k
      have hwr := hbl.size
      by_cases hge : 0 ≤ gI S k
      · have HY := Lib.hid (satTo_yes hge)
        generalize gI S k = sk at hc hge
        clear c1 z1
        go_wp2_with (at_builtin; refine wpList_push rfl (.tmp 21) (.tmp 23) 24 rfl w.heap.size 2 i0 Try.underlying24 hi hz0 hz1 hz2 u4 (satTo S k) (k : Int) rfl hown rfl (by omega) hwr ?_; intro v' w2 hown' hkp)
        have hbl' := hbl.trans (hkp.below hwr (fun g hg => (hown.block g hg).1))
        rw [← HY.out] at hown'
        go_roundw
        case rel => exact ⟨k + 1, by omega, by go_num, hown', hbl'⟩
        case measure => simp [intOf]; omega
      · have HN := Lib.hid (satTo_no hge)
        generalize gI S k = sk at hc hge
        go_wp2
        go_roundw
        case rel => exact ⟨k + 1, by omega, by go_num, by rw [HN.out]; exact hown, hbl⟩
        case measure => simp [intOf]; omega
    · go_wp2
      have hk' : k = S.length := by omega
      subst hk'
      go_ret2
      exact retIC_mk hown hbl

/-- Both functions hand back an error for what is no cluster. -/
theorem implSatellites_no (p s q : Value) (P S W : List Int) (w : World) (hp : Rd w p P) (hs : Rd w s S) (hq : Rd w q W) (hc : cluB P S W = false) :
    Calls Try.prog 82 #[.agg #[p, s, q]] w (RetIC w [] 1) := by
  have hx := Boxed.start w 40 #[p, s, q]
  obtain ⟨a1, k1, rfl⟩ := hp.len0
  obtain ⟨a2, k2, rfl⟩ := hs.len0
  obtain ⟨a3, k3, rfl⟩ := hq.len0
  go_enter Try.func82, Try.ntmps82
  go_wp2_with fail
  refine (implIsCluster_c _ _ _ P S W _ (hx.rd hp) (hx.rd hs) (hx.rd hq)).mono ?_
  rintro e w1 ⟨rfl, hb⟩
  go_wp2
  go_ret2
  exact retIC_nil (hx.trans hb).below
theorem implSatellites_c (p s q : Value) (P S W : List Int) (w : World) (hp : Rd w p P) (hs : Rd w s S) (hq : Rd w q W) :
    Calls Try.prog 82 #[.agg #[p, s, q]] w (RetIC w (okL (cluB P S W) (satTo S S.length)) (okC (cluB P S W) 1)) := by
  cases hc : cluB P S W
  · rw [okL_false rfl, okC_false rfl]; exact implSatellites_no p s q P S W w hp hs hq hc
  · rw [okL_true rfl, okC_true rfl]; exact implSatellites_yes p s q P S W w hp hs hq hc
end Go.Proofs.Ytiinceflafigeaa
