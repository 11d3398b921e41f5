/- Contracts: DeltaOfCluster. -/
import Derived.Test.YtlbnnbncikeecaaCluFns
import Derived.Test.YtlbnnbncikeecaaRet
namespace Go.Proofs.Ytlbnnbncikeecaa
open Go.RowKit

/-- x (x - 1) / 2 -/
def tri (x : Int) : Int := x * (x - 1) / 2
theorem tri_nn (x : Int) : 0 ≤ x * (x - 1) := by
  rcases Int.lt_or_le 0 x with h | h
  · exact Int.mul_nonneg (by omega) (by omega)
  · exact Int.mul_nonneg_of_nonpos_of_nonpos (by omega) (by omega)
theorem tri_prod (x : Int) (h : -100000 ≤ x ∧ x ≤ 100000) : 0 ≤ x * (x - 1) ∧ x * (x - 1) ≤ 10000100000 := by
  have h1 := tri_nn x
  have h2 := mul_abs_le (x := x) (y := x - 1) (B := 100000) (C := 100001) (by omega) (by omega)
  omega
theorem tri_bd (x : Int) (h : -100000 ≤ x ∧ x ≤ 100000) : 0 ≤ tri x ∧ tri x ≤ 10000100000 := by
  have h1 := tri_prod x h
  unfold tri
  omega
/-- The sum of all x (x - 1) / 2. -/
def deltaL (xs : List Int) : Int := sumTo (fun i => tri (gI xs i)) xs.length

set_option maxHeartbeats 1000000 in
theorem deltaOf_c (v : Value) (xs : List Int) (w : World) (h : Rd w v xs) (hb : ∀ i, i < xs.length → -100000 ≤ gI xs i ∧ gI xs i ≤ 100000) (hn : xs.length ≤ 10000) :
    Calls Try.prog 58 #[v] w fun e w' => e = .returned (.int .i64 (deltaL xs)) ∧ w = w' := by
  obtain ⟨a, cap, rfl, hcap1, hcap2, hrd⟩ := h
  go_enter Try.func58, Try.ntmps58
  go_wp2
  go_loop [3, 5, 8] (fun n _ i => ∃ k : Nat, k ≤ xs.length ∧ i = .int .i64 k ∧ n = .int .i64 (sumTo (fun i => tri (gI xs i)) k)) (fun _ _ i => xs.length - (intOf i).toNat)
  case atStart => exact ⟨0, Nat.zero_le _, rfl, rfl⟩
  case round =>
    obtain ⟨k, hk, rfl, rfl⟩ := hrel
    by_cases hlt : k < xs.length
    · obtain ⟨b, off, rfl, hbl, hcs⟩ := hrd (ne_of_lt_len hlt)
      have hc := hcs k hlt
      have hx := tri_prod _ (hb k hlt)
      have hs := sumTo_bound (f := fun i => tri (gI xs i)) (n := k) 0 10000100000 (fun i hi => tri_bd _ (hb i (by omega)))
      have HS := Lib.hid (sumTo_succ (fun i => tri (gI xs i)) k)
      have hbk := hb k hlt
      clear hcs hrd hb
      generalize sumTo (fun i => tri (gI xs i)) k = s at hs HS
      generalize gI xs k = x at hc hx HS hbk
      have hs1 : 0 ≤ s := by omega
      have hs2 : s ≤ 100001000000000 := by omega
      clear hs
      obtain ⟨hx1, hx2⟩ := hx
      obtain ⟨hb1, hb2⟩ := hbk
      go_wp2
      go_round
      case rel => exact ⟨k + 1, by omega, by go_num, by rw [HS.out]; rfl⟩
      case measure => simp [intOf]; omega
    · go_wp2
      have hk' : k = xs.length := by omega
      subst hk'
      go_ret
      exact ⟨rfl, rfl⟩

set_option maxHeartbeats 1000000 in
theorem implDeltaOfCluster_yes (p s q : Value) (P S W : List Int) (w : World) (hp : Rd w p P) (hs : Rd w s S) (hq : Rd w q W) (hc : cluB P S W = true) :
    Calls Try.prog 25 #[.agg #[p, s, q]] w fun e w' => e = .returned (.tuple #[.int .i64 (deltaL W), .int .i64 0]) ∧ Below w.heap.size w w' := by
  have hx := Boxed.start w 30 #[p, s, q]
  have hcl := cluB_iff.1 hc
  obtain ⟨aq, kq, rfl⟩ := hq.len0
  go_enter Try.func25, Try.ntmps25
  go_wp2_with fail
  refine (implIsCluster_c _ _ _ P S W _ (hx.rd hp) (hx.rd hs) (hx.rd hq)).mono ?_
  rintro e w1 ⟨rfl, hb⟩
  have hx1 := hx.trans hb
  have c2 := hx1.cell 2
  go_wp2_with fail
  refine (deltaOf_c _ W _ (hx1.rd hq) hcl.2.1 (by have := hcl.1; omega)).mono ?_
  rintro e w2 ⟨rfl, rfl⟩
  go_wp2
  go_ret2
  exact ⟨rfl, hx1.below⟩

set_option maxHeartbeats 1000000 in
theorem specDeltaOfCluster_yes (p s q : Value) (P S W : List Int) (w : World) (hp : Rd w p P) (hs : Rd w s S) (hq : Rd w q W) (hc : cluB P S W = true) :
    Calls Try.prog 24 #[.agg #[p, s, q]] w fun e w' => e = .returned (.tuple #[.int .i64 (deltaL W), .int .i64 0]) ∧ Below w.heap.size w w' := by
  have hx := Boxed.start w 30 #[p, s, q]
  have hcl := cluB_iff.1 hc
  obtain ⟨bq, oq, kq, rfl, hqc1, hqc2, hqb, hqc⟩ := hq.cells (by have := hcl.1; omega)
  go_enter Try.func24, Try.ntmps24
  go_wp2_with fail
  refine (l07Is_c _ _ _ P S W _ (hx.rd hp) (hx.rd hs) (hx.rd hq)).mono ?_
  rintro e w1 ⟨rfl, hb⟩
  have hx1 := hx.trans hb
  have hb' := hcl.2.1
  have hW24 : W.length ≤ 24 := by have := hcl.1; omega
  clear hx hb hcl
  go_wp2
  go_loopw [4, 5] (fun n i wr => ∃ k : Nat, k ≤ W.length ∧ i = .int .i64 k ∧ n = .int .i64 (sumTo (fun i => tri (gI W i)) k) ∧ Drew w1 wr) (fun _ i _ => W.length - (intOf i).toNat)
  case atStart => exact ⟨0, Nat.zero_le _, rfl, rfl, Drew.refl _⟩
  case round =>
    obtain ⟨k, hk, rfl, rfl, n, rfl⟩ := hrel
    have c2 := hx1.cell 2
    by_cases hlt : k < W.length
    · have hc0 := hqc k hlt
      rw [← hx1.below.cell (p := ⟨bq, oq + k, none⟩) hqb] at hc0
      have hx := tri_prod _ (hb' k hlt)
      have hs := sumTo_bound (f := fun i => tri (gI W i)) (n := k) 0 10000100000 (fun i hi => tri_bd _ (hb' i (by omega)))
      have HS := Lib.hid (sumTo_succ (fun i => tri (gI W i)) k)
      have hbk := hb' k hlt
      have HB := Lib.hid hb'
      clear hqc hb'
      generalize sumTo (fun i => tri (gI W i)) k = s at hs HS
      generalize gI W k = x at hc0 hx HS hbk
      have hs1 : 0 ≤ s := by omega
      have hs2 : s ≤ 100001000000000 := by omega
      clear hs
      obtain ⟨hx1', hx2'⟩ := hx
      obtain ⟨hb1, hb2⟩ := hbk
      have e1 : IntKind.i64.wrap (x - 1) = x - 1 := IntWalk.i64_in _ (by omega)
      have e2 : IntKind.i64.wrap (x * (x - 1)) = x * (x - 1) := IntWalk.i64_in _ (by omega)
      have e4 : IntKind.i64.wrap (s + x * (x - 1) / 2) = s + x * (x - 1) / 2 := IntWalk.i64_in _ (by omega)
      go_wp2
      go_quiet (fail)
      go_wp2
      go_roundw
      case rel => exact ⟨k + 1, by omega, by go_num, by rw [HS.out]; rfl, by first | exact Drew.one _ _ | exact Drew.two _ _ _⟩
      case measure => simp [intOf]; omega
    · go_wp2
      have hk' : k = W.length := by omega
      subst hk'
      go_ret2
      exact ⟨rfl, (hx1.drewN _).below⟩

theorem implDeltaOfCluster_no (p s q : Value) (P S W : List Int) (w : World) (hp : Rd w p P) (hs : Rd w s S) (hq : Rd w q W) (hc : cluB P S W = false) :
    Calls Try.prog 25 #[.agg #[p, s, q]] w fun e w' => e = .returned (.tuple #[.int .i64 0, .int .i64 1]) ∧ Below w.heap.size w w' := by
  have hx := Boxed.start w 30 #[p, s, q]
  obtain ⟨a1, k1, rfl⟩ := hp.len0
  obtain ⟨a2, k2, rfl⟩ := hs.len0
  obtain ⟨a3, k3, rfl⟩ := hq.len0
  go_enter Try.func25, Try.ntmps25
  go_wp2_with fail
  refine (implIsCluster_c _ _ _ P S W _ (hx.rd hp) (hx.rd hs) (hx.rd hq)).mono ?_
  rintro e w1 ⟨rfl, hb⟩
  go_wp2
  go_ret2
  exact ⟨rfl, (hx.trans hb).below⟩

theorem implDeltaOfCluster_c (p s q : Value) (P S W : List Int) (w : World) (hp : Rd w p P) (hs : Rd w s S) (hq : Rd w q W) :
    Calls Try.prog 25 #[.agg #[p, s, q]] w fun e w' => e = .returned (.tuple #[.int .i64 (okN (cluB P S W) (deltaL W)), .int .i64 (okC (cluB P S W) 1)]) ∧ Below w.heap.size w w' := by
  cases hc : cluB P S W
  · rw [okN_false rfl, okC_false rfl]; exact implDeltaOfCluster_no p s q P S W w hp hs hq hc
  · rw [okN_true rfl, okC_true rfl]; exact implDeltaOfCluster_yes p s q P S W w hp hs hq hc

theorem specDeltaOfCluster_no (p s q : Value) (P S W : List Int) (w : World) (hp : Rd w p P) (hs : Rd w s S) (hq : Rd w q W) (hc : cluB P S W = false) :
    Calls Try.prog 24 #[.agg #[p, s, q]] w fun e w' => e = .returned (.tuple #[.int .i64 0, .int .i64 1]) ∧ Below w.heap.size w w' := by
  have hx := Boxed.start w 30 #[p, s, q]
  obtain ⟨a1, k1, rfl⟩ := hp.len0
  obtain ⟨a2, k2, rfl⟩ := hs.len0
  obtain ⟨a3, k3, rfl⟩ := hq.len0
  go_enter Try.func24, Try.ntmps24
  go_wp2_with fail
  refine (l07Is_c _ _ _ P S W _ (hx.rd hp) (hx.rd hs) (hx.rd hq)).mono ?_
  rintro e w1 ⟨rfl, hb⟩
  go_wp2
  go_ret2
  exact ⟨rfl, (hx.trans hb).below⟩

theorem specDeltaOfCluster_c (p s q : Value) (P S W : List Int) (w : World) (hp : Rd w p P) (hs : Rd w s S) (hq : Rd w q W) :
    Calls Try.prog 24 #[.agg #[p, s, q]] w fun e w' => e = .returned (.tuple #[.int .i64 (okN (cluB P S W) (deltaL W)), .int .i64 (okC (cluB P S W) 1)]) ∧ Below w.heap.size w w' := by
  cases hc : cluB P S W
  · rw [okN_false rfl, okC_false rfl]; exact specDeltaOfCluster_no p s q P S W w hp hs hq hc
  · rw [okN_true rfl, okC_true rfl]; exact specDeltaOfCluster_yes p s q P S W w hp hs hq hc

end Go.Proofs.Ytlbnnbncikeecaa
