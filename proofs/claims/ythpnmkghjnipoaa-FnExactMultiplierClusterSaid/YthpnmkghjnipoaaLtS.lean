/- Contracts: LeastThreshold, the reference. -/
import Derived.Test.YthpnmkghjnipoaaLt
import Derived.Test.YthpnmkghjnipoaaPDiscL
import Derived.Test.YthpnmkghjnipoaaWith
import Derived.Deep.RegionHeld3
import Derived.Deep.DeepCutAuto
namespace Go.Proofs.Ythpnmkghjnipoaa
open Go.RowKit

theorem below1 (w : World) (o1 : Obj) : Below w.heap.size w (w.alloc o1).drew := ((Below.refl _ _).alloc (Nat.le_refl _) o1).drew
theorem rdF_bd {p : Int × Int} (h : 1 ≤ p.1 ∧ p.1 ≤ 2000001 ∧ 0 ≤ p.2 ∧ p.2 ≤ 120000000000) : 0 ≤ (rdF p).1 ∧ (rdF p).1 ≤ 2000001 ∧ 0 ≤ (rdF p).2 ∧ (rdF p).2 ≤ 120000000000 := by
  by_cases h0 : p.2 = 0
  · rw [rdF_zero h0]; show (0 : Int) ≤ 0 ∧ (0 : Int) ≤ 2000001 ∧ (0 : Int) ≤ 0 ∧ (0 : Int) ≤ 120000000000; omega
  · have hp : 0 < p.2 := by omega
    have hb := red_bot (a := p.1) (b := p.2) (by omega) hp
    rw [rdF_pos hp]
    show 0 ≤ p.1 / gcdI p.1 p.2 ∧ p.1 / gcdI p.1 p.2 ≤ 2000001 ∧ 0 ≤ p.2 / gcdI p.1 p.2 ∧ p.2 / gcdI p.1 p.2 ≤ 120000000000
    omega
set_option maxHeartbeats 1000000 in
theorem l01Fraction_c (x y : Int) (w : World) (h1 : -1000000000000 ≤ x ∧ x ≤ 1000000000000) (h2 : -1000000000000 ≤ y ∧ y ≤ 1000000000000) (hg : gcdI x y = 1) :
    Calls Try.prog 109 #[.agg #[.int .i64 x, .int .i64 y]] w fun e w' => e = .returned (.bool (fitB x y)) ∧ Below w.heap.size w w' := by
  have hx := Boxed.start w 62 #[.int .i64 x, .int .i64 y]
  have c0 := hx.cell 0
  have c1 := hx.cell 1
  cases i1 : inB x (-1000000000) 1000000000
  · have hf : fitB x y = false := by simp [fitB, i1]
    rw [hf]
    go_enter Try.func109, Try.ntmps109
    go_wp2_with fail
    refine (l01Integer_c _ _).mono ?_
    rintro e w1 ⟨rfl, rfl⟩
    rw [i1]
    go_wp2
    go_ret
    exact ⟨rfl, hx.below⟩
  · cases i2 : inB y 1 1000000000
    · have hf : fitB x y = false := by simp [fitB, i1, i2]
      rw [hf]
      go_enter Try.func109, Try.ntmps109
      go_wp2_with fail
      refine (l01Integer_c _ _).mono ?_
      rintro e w1 ⟨rfl, rfl⟩
      rw [i1]
      go_wp2_with fail
      refine (l01Natural_c _ _).mono ?_
      rintro e w1 ⟨rfl, rfl⟩
      rw [i2]
      go_wp2
      go_ret
      exact ⟨rfl, hx.below⟩
    · have hf : fitB x y = true := by simp [fitB, i1, i2]
      rw [hf]
      go_enter Try.func109, Try.ntmps109
      go_wp2_with fail
      refine (l01Integer_c _ _).mono ?_
      rintro e w1 ⟨rfl, rfl⟩
      rw [i1]
      go_wp2_with fail
      refine (l01Natural_c _ _).mono ?_
      rintro e w1 ⟨rfl, rfl⟩
      rw [i2]
      go_wp2_with fail
      refine (l01Gcd_c x y _ (by omega) (by omega) (by omega) (by omega)).mono ?_
      rintro e w1 ⟨rfl, rfl⟩
      rw [hg]
      go_wp2
      go_ret
      exact ⟨rfl, hx.below⟩

/-- The orders of ones are the discrepancies. -/
theorem l07Ones_c (p s q v : Value) (P S W : List Int) (w : World) (hp : Rd w p P) (hs : Rd w s S) (hv : Rd w v (onesTo P.length)) (hc : CluOk P S W) :
    Calls Try.prog 146 #[.agg #[p, s, q], v] w (RetL P.length w (discTo P S P.length)) := by
  have h1 := l07Orders_c p s q v P S W (onesTo P.length) w hp hs hv hc (by simp) (fun j hj => by rw [gI_ones (by simpa using hj)]; omega)
  rw [ord_own_congrL (own' := fun _ => 1) (fun j hj => gI_ones hj)] at h1
  exact h1.mono fun _ _ h2 => retL_of h2 (discTo_len _ _ _)
theorem l06OnesL_c (n : Nat) (w : World) (hn : n ≤ 100000) : Calls Try.prog 102 #[.int .i64 (n : Int)] w (RetL n w (onesTo n)) := (l06Ones_c n w hn).mono fun _ _ h2 => retL_of h2 (onesTo_len n)
theorem l07OrdersL_c (p s q v : Value) (P S W : List Int) (w : World) (hp : Rd w p P) (hs : Rd w s S) (hv : Rd w v W) (hc : CluOk P S W) :
    Calls Try.prog 146 #[.agg #[p, s, q], v] w (RetL P.length w (ordTo (fun j => gI W j) P S P.length)) :=
  (l07Orders_c p s q v P S W W w hp hs hv hc hc.1.2.2.2 hc.2.1).mono fun _ _ h2 => retL_of h2 (ordTo_len _ _ _ _)

end Go.Proofs.Ythpnmkghjnipoaa
