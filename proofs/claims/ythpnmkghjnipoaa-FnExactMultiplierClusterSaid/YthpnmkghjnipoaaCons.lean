/- Contracts: consistent, IsConsistent. -/
import Derived.Test.YthpnmkghjnipoaaExSpec
namespace Go.Proofs.Ythpnmkghjnipoaa
open Go.RowKit

set_option maxHeartbeats 1000000 in
theorem consistent_c (p s q : Value) (P S W : List Int) (w : World) (hp : Rd w p P) (hs : Rd w s S) (hq : Rd w q W) (hc : CluOk P S W) :
    Calls Try.prog 117 #[.agg #[p, s, q]] w fun e w' => e = .returned (.bool (nonNeg (exTo (proxL P S) W P.length))) ∧ Below w.heap.size w w' := by
  have hx := Boxed.start w 47 #[p, s, q]
  have hl : (exTo (proxL P S) W P.length).length = W.length := exTo_len _ _ _
  have h0 := hc.1.1
  have h24 := hc.1.2.1
  have hlW : W.length = P.length := by have := hc.1; omega
  generalize hLd : exTo (proxL P S) W P.length = L at hl ⊢
  have hn1 : 0 < L.length := by omega
  have hn2 : L.length ≤ 24 := by omega
  have HW := Lib.hid hlW
  clear hl hlW
  go_enter Try.func117, Try.ntmps117
  have c0 := hx.cell 0
  have c1 := hx.cell 1
  have c2 := hx.cell 2
  go_wp2_with fail
  have hcall := excesses_c _ _ _ P S W _ (hx.rd hp) (hx.rd hs) (hx.rd hq) hc
  rw [hLd] at hcall
  refine hcall.mono ?_
  rintro e w1 ⟨g, k, rfl, ho, hb⟩
  have hx1 := hx.trans hb
  clear c0 c1 c2
  go_wp2_with fail
  refine (min_c _ L w1 ho.rd hn1 (by omega)).mono ?_
  rintro e w2 ⟨rfl, rfl⟩
  have HN := Lib.hid (min_nonNeg (L := L) (by omega))
  generalize minTo L L.length = m at HN
  go_wp2
  go_ret
  exact ⟨ret_bool HN.out.symm, hx1.below⟩

set_option maxHeartbeats 1000000 in
theorem l07Consistent_c (p s q : Value) (P S W : List Int) (w : World) (hp : Rd w p P) (hs : Rd w s S) (hq : Rd w q W) (hc : CluOk P S W) :
    Calls Try.prog 110 #[.agg #[p, s, q]] w fun e w' => e = .returned (.bool (nonNeg (exTo (proxL P S) W P.length))) ∧ Below w.heap.size w w' := by
  have hx := Boxed.start w 47 #[p, s, q]
  have h0 := hc.1.1
  have h24 := hc.1.2.1
  have hlW : W.length = P.length := by have := hc.1; omega
  have hl : (exTo (proxL P S) W P.length).length = W.length := exTo_len _ _ _
  generalize hLd : exTo (proxL P S) W P.length = L at hl ⊢
  have hn1 : 0 < L.length := by omega
  have hn2 : L.length ≤ 24 := by omega
  have HW := Lib.hid hlW
  clear hl hlW
  go_enter Try.func110, Try.ntmps110
  have c0 := hx.cell 0
  have c1 := hx.cell 1
  have c2 := hx.cell 2
  go_wp2_with fail
  have hcall := l07Excess_c p s q q P S W W _ (hx.rd hp) (hx.rd hs) (hx.rd hq) hc HW.out (fun i hi => by have := hc.2.1 i hi; omega)
  rw [hLd] at hcall
  refine hcall.mono ?_
  rintro e w1 ⟨g, k, rfl, ho, hb⟩
  have hx1 := hx.trans hb
  clear c0 c1 c2 hb hx
  go_wp2_with fail
  go_loop [4] (fun i => ∃ k : Nat, k ≤ L.length ∧ i = .int .i64 k ∧ ∀ j, j < k → 0 ≤ gI L j) (fun i => L.length - (intOf i).toNat)
  case atStart => exact ⟨0, Nat.zero_le _, rfl, fun j hj => by omega⟩
  case round =>
    obtain ⟨j, hj, rfl, hall⟩ := hrel
    by_cases hlt : j < L.length
    · obtain ⟨g', gc, hge, hg0, hg1, hg2, hg3⟩ := Own.pos ho (by omega)
      injection hge with hge1 hge2 hge3
      subst hge1 hge3
      have hcell := ho.cell j hlt
      have hjL : (j : Int) < (L.length : Int) := by omega
      have HN : Hid (gI L j < 0 → nonNeg L = false) := Lib.hid (fun h => nonNeg_no hlt h)
      have HA : Hid (0 ≤ gI L j → ∀ i, i < j + 1 → 0 ≤ gI L i) := Lib.hid (fun h i hi => by
        by_cases e : i = j
        · rw [e]; exact h
        · exact hall i (by omega))
      generalize gI L j = x at hcell HN HA
      by_cases hx0 : x < 0
      · have HN' := Lib.hid (HN.out hx0)
        go_wp2
        go_ret
        exact ⟨ret_bool HN'.out.symm, hx1.below⟩
      · have HA' := Lib.hid (HA.out (by omega))
        go_wp2
        go_round
        case rel => exact ⟨j + 1, by omega, by go_num, HA'.out⟩
        case measure => simp [intOf]; omega
    · have hj' : j = L.length := by omega
      subst hj'
      have HN := Lib.hid (nonNeg_yes hall)
      go_wp2
      go_ret
      exact ⟨ret_bool HN.out.symm, hx1.below⟩

end Go.Proofs.Ythpnmkghjnipoaa
