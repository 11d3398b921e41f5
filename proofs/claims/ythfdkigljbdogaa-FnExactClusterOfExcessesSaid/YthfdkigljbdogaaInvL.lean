/- Contracts: InverseProximity. -/
import Derived.Test.YthfdkigljbdogaaInv
import Derived.Test.YthfdkigljbdogaaSimS
import Derived.Test.YthfdkigljbdogaaWith
import Derived.Test.YthfdkigljbdogaaPMatL
namespace Go.Proofs.Ythfdkigljbdogaa
open Go.RowKit

/-- The inverse of the proximity matrix. -/
def miL (P S : List Int) : List (List Int) := (List.range P.length).map (mRow P S)
theorem miL_len (P S : List Int) : (miL P S).length = P.length := by simp [miL]
theorem miL_row {P S : List Int} {j : Nat} (h : j < (miL P S).length) : (gR (miL P S) j).length = P.length := by rw [miL_len] at h; unfold miL; rw [gR_map h, mRow_len]
theorem inverseProximity_m (p s q : Value) (P S W : List Int) (w : World) (hp : Rd w p P) (hs : Rd w s S) (hq : Rd w q W) (hc : CluOk P S W) :
    Calls Try.prog 103 #[.agg #[p, s, q]] w (RetM 2 w (miL P S)) :=
  (inverseProximity_c p s q P S W w hp hs hq hc).mono fun e w' h => retM_of_rows (by have := hc.1; omega) h
theorem l07Simple_l (p s q : Value) (P S W : List Int) (i : Nat) (w : World) (hp : Rd w p P) (hs : Rd w s S) (hc : CluOk P S W) (hi : i < P.length) :
    Calls Try.prog 102 #[.agg #[p, s, q], .int .i64 (i : Int)] w (RetL P.length w (mRow P S i)) :=
  (l07Simple_c p s q P S W i w hp hs hc hi).mono fun e w' h => retL_of h (by simp)

set_option maxHeartbeats 1000000 in
theorem implInverse_yes (p s q : Value) (P S W : List Int) (w : World) (hp : Rd w p P) (hs : Rd w s S) (hq : Rd w q W) (hc : cluB P S W = true) :
    Calls Try.prog 51 #[.agg #[p, s, q]] w (RetMC 2 w (miL P S) 0) := by
  have hx := Boxed.start w 47 #[p, s, q]
  have hcl := cluB_iff.1 hc
  obtain ⟨a1, k1, rfl⟩ := hp.len0
  obtain ⟨a2, k2, rfl⟩ := hs.len0
  obtain ⟨a3, k3, rfl⟩ := hq.len0
  have HC := Lib.hid hcl
  clear hcl
  go_enter Try.func51, Try.ntmps51
  go_wp2_with fail
  refine (implIsCluster_c _ _ _ P S W _ (hx.rd hp) (hx.rd hs) (hx.rd hq)).mono ?_
  rintro e w1 ⟨rfl, hb⟩
  have hx1 := hx.trans hb
  have c0 := hx1.cell 0
  have c1 := hx1.cell 1
  have c2 := hx1.cell 2
  go_wp2_with fail
  refine (inverseProximity_m _ _ _ P S W _ (hx1.rd hp) (hx1.rd hs) (hx1.rd hq) HC.out).mono ?_
  rintro e w2 ⟨a, k, V, rfl, ho, hb2⟩
  go_wp2
  go_ret2
  exact retMC_mk (ho.base_le (Nat.le_of_lt hx1.size)) (hx1.trans hb2).below

theorem implInverse_no (p s q : Value) (P S W : List Int) (w : World) (hp : Rd w p P) (hs : Rd w s S) (hq : Rd w q W) (hc : cluB P S W = false) :
    Calls Try.prog 51 #[.agg #[p, s, q]] w (RetMC 2 w [] 1) := by
  have hx := Boxed.start w 47 #[p, s, q]
  obtain ⟨a1, k1, rfl⟩ := hp.len0
  obtain ⟨a2, k2, rfl⟩ := hs.len0
  obtain ⟨a3, k3, rfl⟩ := hq.len0
  go_enter Try.func51, Try.ntmps51
  go_wp2_with fail
  refine (implIsCluster_c _ _ _ P S W _ (hx.rd hp) (hx.rd hs) (hx.rd hq)).mono ?_
  rintro e w1 ⟨rfl, hb⟩
  go_wp2
  go_ret2
  exact retMC_nil (hx.trans hb).below

theorem implInverse_c (p s q : Value) (P S W : List Int) (w : World) (hp : Rd w p P) (hs : Rd w s S) (hq : Rd w q W) :
    Calls Try.prog 51 #[.agg #[p, s, q]] w (RetMC 2 w (okR (cluB P S W) (miL P S)) (okC (cluB P S W) 1)) := by
  cases hc : cluB P S W
  · rw [okR_false rfl, okC_false rfl]; exact implInverse_no p s q P S W w hp hs hq hc
  · rw [okR_true rfl, okC_true rfl]; exact implInverse_yes p s q P S W w hp hs hq hc

set_option maxHeartbeats 1000000 in
theorem specInverse_yes (p s q : Value) (P S W : List Int) (w : World) (hp : Rd w p P) (hs : Rd w s S) (hq : Rd w q W) (hc : cluB P S W = true) :
    Calls Try.prog 50 #[.agg #[p, s, q]] w (RetMC 2 w (miL P S) 0) := by
  obtain ⟨j0, ji, jz0, jz1, jz2⟩ := info_parts Try.infoII
  have hx := Boxed.start w 47 #[p, s, q]
  have hcl := cluB_iff.1 hc
  obtain ⟨a1, k1, rfl⟩ := hp.len0
  obtain ⟨a2, k2, rfl⟩ := hs.len0
  obtain ⟨a3, k3, rfl⟩ := hq.len0
  have HC := Lib.hid hcl
  clear hcl
  go_enter Try.func50, Try.ntmps50
  go_wp2_with fail
  refine (l07Is_c _ _ _ P S W _ (hx.rd hp) (hx.rd hs) (hx.rd hq)).mono ?_
  rintro e w1 ⟨rfl, hb⟩
  have hx1 := hx.trans hb
  have c0 := hx1.cell 0
  have c1 := hx1.cell 1
  have c2 := hx1.cell 2
  clear c0 c1 c2
  have h24 := HC.out.1.2.1
  go_wp2
  go_loopw [4, 5] (fun v i wr => ∃ k : Nat, ∃ vs, k ≤ P.length ∧ i = .int .i64 k ∧ GrowM 2 22 wr (w.heap.size + 1) v vs ((List.range k).map (mRow P S)) ∧ Boxed w wr 47 #[.slice a1 P.length k1, .slice a2 S.length k2, .slice a3 W.length k3]) (fun _ i _ => P.length - (intOf i).toNat)
  case atStart => exact ⟨0, _, Nat.zero_le _, rfl, GrowM.empty _ _ w1 _ _ rfl hx1.size, hx1.alloc _⟩
  case round =>
    obtain ⟨k, vs, hk, rfl, hown, hbx⟩ := hrel
    obtain ⟨wo, rfl⟩ : ∃ wo : World, wo = wr := ⟨_, rfl⟩
    have c0 := hbx.cell 0
    have c1 := hbx.cell 1
    have c2 := hbx.cell 2
    by_cases hlt : k < P.length
    · have hki : (k : Int) < (P.length : Int) := by omega
      go_wp2_with fail
      refine (l07Simple_l _ _ _ P S W k _ (hbx.rd hp) (hbx.rd hs) HC.out hlt).mono ?_
      rintro e w2 ⟨a, c, rfl, ho, hb2⟩
      have hblk : ∀ b, OwnM.mine u4 (fun i => vs.getD i (.slice none 0 0)) ((List.range k).map (mRow P S)) b → w.heap.size + 1 ≤ b ∧ b < wo.heap.size := hown.own.block
      have hgr := hown.below hb2
      have hbx2 := hbx.trans hb2
      have hl5 : ((List.range k).map (mRow P S)).length = k := by simp
      have q1 : Apart (.slice a P.length c) u4 := by intro b h1 h2; have := (hblk b (.inl h2)).2; have := (ho.block b h1).1; omega
      have q2 : ∀ i, i < ((List.range k).map (mRow P S)).length → Apart (vs.getD i (.slice none 0 0)) (.slice a P.length c) := by intro i hi b h1 h2; have := (hblk b (.inr ⟨i, hi, h1⟩)).2; have := (ho.block b h2).1; omega
      have q3 : ((List.range k).map (mRow P S)).length ≤ 1000000000 := by rw [hl5]; omega
      have hsz := hbx2.size
      have q4 : w.heap.size + 1 ≤ w2.heap.size := hsz
      have hsz0 := hbx.size
      have hown5 := ho.base_le (base' := w.heap.size + 1) (by omega)
      have HY := Lib.hid (show (List.range k).map (mRow P S) ++ [mRow P S k] = (List.range (k + 1)).map (mRow P S) by rw [List.range_succ, List.map_append]; rfl)
      have HL5 := Lib.hid hl5
      clear hl5 c0 c1 c2 hown hbx
      go_wp2_with (at_builtin; refine wpList_pushR rfl (.tmp 17) (.tmp 21) 52 rfl (w.heap.size + 1) 2 22 j0 Try.underlying52 ji jz0 jz1 jz2 u4 vs ((List.range k).map (mRow P S)) (.slice a P.length c) (mRow P S k) rfl hgr _ (by simp) rfl hown5 q1 q2 q3 q4 ?_; intro g5 cap5 w5 hgr5 hk5 hg5)
      have hbx5 := hbx2.wrote (hk5.mono (fun b hb => (hblk b (.inl hb)).1))
      rw [HY.out, HL5.out] at hgr5
      go_roundw
      case rel => exact ⟨k + 1, _, by omega, by go_num, hgr5, hbx5⟩
      case measure => simp [intOf]; omega
    · go_wp2
      have hk' : k = P.length := by omega
      subst hk'
      go_ret2
      exact retMC_mk (R := miL P S) (hown.own.base_le (by omega)) hbx.below

theorem specInverse_no (p s q : Value) (P S W : List Int) (w : World) (hp : Rd w p P) (hs : Rd w s S) (hq : Rd w q W) (hc : cluB P S W = false) :
    Calls Try.prog 50 #[.agg #[p, s, q]] w (RetMC 2 w [] 1) := by
  have hx := Boxed.start w 47 #[p, s, q]
  obtain ⟨a1, k1, rfl⟩ := hp.len0
  obtain ⟨a2, k2, rfl⟩ := hs.len0
  obtain ⟨a3, k3, rfl⟩ := hq.len0
  go_enter Try.func50, Try.ntmps50
  go_wp2_with fail
  refine (l07Is_c _ _ _ P S W _ (hx.rd hp) (hx.rd hs) (hx.rd hq)).mono ?_
  rintro e w1 ⟨rfl, hb⟩
  go_wp2
  go_ret2
  exact retMC_nil (hx.trans hb).below

theorem specInverse_c (p s q : Value) (P S W : List Int) (w : World) (hp : Rd w p P) (hs : Rd w s S) (hq : Rd w q W) :
    Calls Try.prog 50 #[.agg #[p, s, q]] w (RetMC 2 w (okR (cluB P S W) (miL P S)) (okC (cluB P S W) 1)) := by
  cases hc : cluB P S W
  · rw [okR_false rfl, okC_false rfl]; exact specInverse_no p s q P S W w hp hs hq hc
  · rw [okR_true rfl, okC_true rfl]; exact specInverse_yes p s q P S W w hp hs hq hc

end Go.Proofs.Ythfdkigljbdogaa
