/- Contracts: impl.excesses, slices.Min, impl.consistent. -/
import Derived.Test.YthpnmkghjnipoaaExImpl
import Derived.Test.YthpnmkghjnipoaaProx
import Derived.Deep.RegionHeld3
namespace Go.Proofs.Ythpnmkghjnipoaa
open Go.RowKit

set_option maxHeartbeats 1000000 in
theorem excesses_c (p s q : Value) (P S W : List Int) (w : World) (hp : Rd w p P) (hs : Rd w s S) (hq : Rd w q W) (hc : CluOk P S W) :
    Calls Try.prog 154 #[.agg #[p, s, q]] w (RetI w (exTo (proxL P S) W P.length)) := by
  have hx := Boxed.start w 47 #[p, s, q]
  have hlW : W.length = P.length := by have := hc.1; omega
  have hok := exOk_clu hc hlW (fun i hi => by have := hc.2.1 i hi; omega)
  have hp0 : 0 < W.length := by have := hc.1; omega
  have hcl1 : S.length = P.length := hc.1.2.2.1
  have hcl2 : 0 < P.length := hc.1.1
  have hcl3 : P.length ≤ 24 := hc.1.2.1
  have hcl4 : P.length ≤ 9223372036854775807 := by omega
  go_enter Try.func154, Try.ntmps154
  have c0 := hx.cell 0
  have c1 := hx.cell 1
  have c2 := hx.cell 2
  go_wp2_with fail
  have hx0 := hx.trans (Below.refl _ _).drew
  have HC : (w.alloc (.cells #[p, s, q] 47)).drew.cell? ⟨w.heap.size, 0, none⟩ = some p ∧ (w.alloc (.cells #[p, s, q] 47)).drew.cell? ⟨w.heap.size, 1, none⟩ = some s ∧ (w.alloc (.cells #[p, s, q] 47)).drew.cell? ⟨w.heap.size, 2, none⟩ = some q := ⟨hx0.cell 0, hx0.cell 1, hx0.cell 2⟩
  clear c0 c1 c2
  go_region_held3 (fun w' => w'.cell? ⟨w.heap.size, 0, none⟩ = some p ∧ w'.cell? ⟨w.heap.size, 1, none⟩ = some s ∧ w'.cell? ⟨w.heap.size, 2, none⟩ = some q)
    (first | assumption | exact HC)
    (first
      | (go_at_call 118; (with_reducible refine (clusterProximates_c _ _ _ P S W _ (hx0.rd hp) (hx0.rd hs) (hx0.rd hq) hcl1 hcl2 hcl3).mono ?_); rintro e w1 ⟨g, V, rfl, hrow, hb⟩; have hx1 := hx0.trans hb; have hrd := hrow.rd (cap := P.length) (Nat.le_refl _) hcl4; have HC : w1.cell? ⟨w.heap.size, 0, none⟩ = some p ∧ w1.cell? ⟨w.heap.size, 1, none⟩ = some s ∧ w1.cell? ⟨w.heap.size, 2, none⟩ = some q := ⟨hx1.cell 0, hx1.cell 1, hx1.cell 2⟩)
      | (go_at_call 159; (with_reducible refine (excessesOf_c _ _ (proxL P S) W _ hrd (hx1.rd hq) hok hp0).mono ?_); rintro e w2 ⟨a, k, rfl, ho, hb2⟩; have hx2 := hx1.trans hb2; have HC : w2.cell? ⟨w.heap.size, 0, none⟩ = some p ∧ w2.cell? ⟨w.heap.size, 1, none⟩ = some s ∧ w2.cell? ⟨w.heap.size, 2, none⟩ = some q := ⟨hx2.cell 0, hx2.cell 1, hx2.cell 2⟩))
  go_wp2
  go_ret
  rw [prox_len] at ho ⊢
  exact retI_mk (ho.base_le (Nat.le_of_lt hx1.size)) hx2.below

theorem min_c (v : Value) (xs : List Int) (w : World) (h : Rd w v xs) (hp : 0 < xs.length) (hn : xs.length ≤ 1000000) :
    Calls Try.prog 153 #[v] w fun e w' => e = .returned (.int .i64 (minTo xs xs.length)) ∧ w = w' := by
  obtain ⟨b, off, cap, rfl, h1, h2, hb, hc⟩ := h.cells hp
  have hz : w.cell? ⟨b, off, none⟩ = some (.int .i64 (gI xs 0)) := hc 0 hp
  go_enter Try.func153, Try.ntmps153
  go_wp2
  go_loop [3, 4] (fun m i => ∃ k : Nat, 1 ≤ k ∧ k ≤ xs.length ∧ i = .int .i64 k ∧ m = .int .i64 (minTo xs k)) (fun _ i => xs.length - (intOf i).toNat)
  case atStart => exact ⟨1, Nat.le_refl _, hp, rfl, by rw [minTo_one]⟩
  case round =>
    obtain ⟨k, hk1, hk, rfl, rfl⟩ := hrel
    clear hz
    by_cases hlt : k < xs.length
    · have hck := hc k hlt
      have HS := Lib.hid (minTo_succ xs k)
      clear hc
      generalize minTo xs k = m at HS
      generalize gI xs k = x at hck HS
      by_cases hlx : x < m
      · rw [if_pos hlx] at HS
        go_wp2
        go_round
        case rel => exact ⟨k + 1, by omega, by omega, by go_num, by rw [HS.out]⟩
        case measure => simp [intOf]; omega
      · rw [if_neg hlx] at HS
        go_wp2
        go_round
        case rel => exact ⟨k + 1, by omega, by omega, by go_num, by rw [HS.out]⟩
        case measure => simp [intOf]; omega
    · have hk' : k = xs.length := by omega
      subst hk'
      go_wp2
      go_ret
      exact ⟨rfl, rfl⟩
end Go.Proofs.Ythpnmkghjnipoaa
