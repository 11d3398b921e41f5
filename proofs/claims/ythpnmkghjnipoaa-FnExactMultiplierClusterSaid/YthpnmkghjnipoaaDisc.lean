/- Contracts: the discrepancies of the points of a cluster. -/
import Derived.Test.YthpnmkghjnipoaaAddedN
import Derived.Test.YthpnmkghjnipoaaOrd
import Derived.Deep.RegionHeld3
namespace Go.Proofs.Ythpnmkghjnipoaa
open Go.RowKit

theorem one_c (j : Int) (w : World) : Calls Try.prog 155 #[.int .i64 j] w fun e w' => e = .returned (.int .i64 1) ∧ w = w' := by
  go_enter Try.func155, Try.ntmps155
  go_wp2
  go_ret
  exact ⟨rfl, rfl⟩

/-- The first k discrepancies. -/
def discTo (P S : List Int) (k : Nat) : List Int := ordTo (fun _ => 1) P S k
theorem discTo_len (P S : List Int) (k : Nat) : (discTo P S k).length = k := ordTo_len _ _ _ _

set_option maxHeartbeats 1000000 in
theorem discrepancies_c (p s q : Value) (P S W : List Int) (w : World) (hp : Rd w p P) (hs : Rd w s S) (hq : Rd w q W) (hc : CluOk P S W) :
    Calls Try.prog 119 #[.agg #[p, s, q]] w (RetI w (discTo P S P.length)) := by
  have hx := Boxed.start w 47 #[p, s, q]
  have hlP : (proxL P S).length = P.length := by simp [proxL]
  have hEQ := ord_eq hc (own := fun _ => 1)
  have hOK := addOk_clu hc (own := fun _ => 1) (fun j hj => by omega)
  go_enter Try.func119, Try.ntmps119
  have c0 := hx.cell 0
  have c1 := hx.cell 1
  have c2 := hx.cell 2
  go_wp2_with fail
  refine (clusterProximates_c _ _ _ P S W _ (hx.rd hp) (hx.rd hs) (hx.rd hq) hc.1.2.2.1 hc.1.1 hc.1.2.1).mono ?_
  rintro e w1 ⟨g, V, rfl, hrow, hb⟩
  have hx1 := hx.trans hb
  have hrd := hrow.rd (cap := P.length) (Nat.le_refl _) (by have := hc.1; omega)
  clear c0 c1 c2
  go_wp2_with fail
  have hcall := added_one_c (.slice (some ⟨g, 0, none⟩) P.length P.length) (proxL P S) (fun _ => 1) w1 hrd hOK (fun j w2 hj hbl => one_c _ _)
  rw [hlP, hEQ] at hcall
  refine hcall.mono ?_
  rintro e w3 ⟨a, k, rfl, ho, hb3⟩
  clear hcall hEQ hOK hlP
  go_wp2
  go_ret
  exact retI_mk (ho.base_le (Nat.le_of_lt hx1.size)) (hx1.trans hb3).below

/-- k ones. -/
def onesTo (k : Nat) : List Int := List.replicate k 1
@[simp] theorem onesTo_len (k : Nat) : (onesTo k).length = k := by simp [onesTo]
theorem onesTo_succ (k : Nat) : onesTo (k + 1) = onesTo k ++ [1] := by simp [onesTo, List.replicate_succ']
theorem gI_ones {k i : Nat} (h : i < k) : gI (onesTo k) i = 1 := gI_rep h

set_option maxHeartbeats 1000000 in
theorem l06Ones_c (n : Nat) (w : World) (hn : n ≤ 100000) :
    Calls Try.prog 102 #[.int .i64 (n : Int)] w (RetI w (onesTo n)) := by
  obtain ⟨i0, hi, hz0, hz1, hz2⟩ := info_parts Try.infoI
  go_enter Try.func102, Try.ntmps102
  go_wp2
  go_loopw [0, 3] (fun k v wr => ∃ j : Nat, j ≤ n ∧ k = .int .i64 ((n : Int) - j) ∧ OwnI wr w.heap.size v (onesTo j) ∧ Below w.heap.size w wr) (fun k _ _ => (intOf k).toNat)
  case atStart => exact ⟨0, Nat.zero_le _, by simp, own_empty w _ (Nat.le_refl _), (Below.refl _ _).alloc (Nat.le_refl _) _⟩
  case round =>
    obtain ⟨j, hj, rfl, hown, hbl⟩ := hrel
    obtain ⟨wo, rfl⟩ : ∃ wo : World, wo = wr := ⟨_, rfl⟩
    have hsz := hbl.size
    by_cases hlt : j < n
    · have h1 : (0 : Int) < (n : Int) - j := by omega
      have hl : (onesTo j).length ≤ 1000000 := by simp; omega
      have HY := Lib.hid (onesTo_succ j)
      have hw : IntKind.i64.wrap ((n : Int) - j - 1) = (n : Int) - j - 1 := IntWalk.i64_in _ (by omega)
      go_wp2_with (at_builtin; refine wpList_push rfl (.tmp 9) (.tmp 10) 22 rfl w.heap.size 2 i0 Try.underlying22 hi hz0 hz1 hz2 u3 (onesTo j) 1 rfl hown rfl (by omega) hsz ?_; intro v' w2 hown' hkp)
      have hbl' := hbl.trans (hkp.below hsz (fun g hg => (hown.block g hg).1))
      rw [← HY.out] at hown'
      go_roundw
      case rel => exact ⟨j + 1, by omega, by go_num, hown', hbl'⟩
      case measure => simp [intOf]; omega
    · have h1 : ¬ (0 : Int) < (n : Int) - j := by omega
      go_wp2
      have hj' : j = n := by omega
      subst hj'
      go_ret
      exact retI_mk hown hbl
end Go.Proofs.Ythpnmkghjnipoaa
