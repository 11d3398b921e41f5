/- Contract: spec.l06Ones. -/
import Derived.Test.YtibfigmnoamheaaOrdPure
import Derived.Test.YtibfigmnoamheaaRowL
namespace Go.Proofs.Ytibfigmnoamheaa
open Go.RowKit

/-- k ones. -/
def onesTo (k : Nat) : List Int := List.replicate k 1
@[simp] theorem onesTo_len (k : Nat) : (onesTo k).length = k := by simp [onesTo]
theorem onesTo_succ (k : Nat) : onesTo (k + 1) = onesTo k ++ [1] := by simp [onesTo, List.replicate_succ']
theorem gI_ones {k i : Nat} (h : i < k) : gI (onesTo k) i = 1 := gI_rep h

set_option maxHeartbeats 1000000 in
theorem l06Ones_c (n : Nat) (w : World) (hn : n ≤ 100000) :
    Calls Try.prog 143 #[.int .i64 (n : Int)] w (RetI w (onesTo n)) := by
  obtain ⟨i0, hi, hz0, hz1, hz2⟩ := info_parts Try.infoI
  go_enter Try.func143, Try.ntmps143
  go_wp2
  go_loopw [0, 3] (fun k v wr => ∃ j : Nat, j ≤ n ∧ k = .int .i64 ((n : Int) - j) ∧ OwnI wr w.heap.size v (onesTo j) ∧ Below w.heap.size w wr) (fun k _ _ => (intOf k).toNat)
  case atStart => exact ⟨0, Nat.zero_le _, by simp, own_empty w _ (Nat.le_refl _), (Below.refl _ _).alloc (Nat.le_refl _) _⟩
  case round =>
    obtain ⟨j, hj, rfl, hown, hbl⟩ := hrel
    obtain ⟨wo, rfl⟩ : ∃ wo : World, wo = wr := ⟨_, rfl⟩
    have hsz := hbl.size
    by_cases hlt : j < n
    · have h1 : (0 : Int) < (n : Int) - j := by omega
      have hl : (onesTo j).length ≤ 1000000 := by simp; omega
      have HY := Lib.hid (onesTo_succ j)
      have hw : IntKind.i64.wrap ((n : Int) - j - 1) = (n : Int) - j - 1 := IntWalk.i64_in _ (by omega)
      go_wp2_with (at_builtin; refine wpList_push rfl (.tmp 9) (.tmp 10) 24 rfl w.heap.size 2 i0 Try.underlying24 hi hz0 hz1 hz2 u3 (onesTo j) 1 rfl hown rfl (by omega) hsz ?_; intro v' w2 hown' hkp)
      have hbl' := hbl.trans (hkp.below hsz (fun g hg => (hown.block g hg).1))
      rw [← HY.out] at hown'
      go_roundw
      case rel => exact ⟨j + 1, by omega, by go_num, hown', hbl'⟩
      case measure => simp [intOf]; omega
    · have h1 : ¬ (0 : Int) < (n : Int) - j := by omega
      go_wp2
      have hj' : j = n := by omega
      subst hj'
      go_ret
      exact retI_mk hown hbl
end Go.Proofs.Ytibfigmnoamheaa
