/- Contracts: spec.l08Least: the least point with a negative excess. -/
import Derived.Test.YtgjnllialhjhoaaExSpec
import Derived.Test.YtgjnllialhjhoaaUnlBd
namespace Go.Proofs.Ytgjnllialhjhoaa
open Go.RowKit

set_option maxHeartbeats 1000000 in
theorem l08Least_c (p s q v : Value) (P S W L : List Int) (w : World) (hp : Rd w p P) (hs : Rd w s S) (hv : Rd w v L) (hq : ∃ a n k, q = .slice a n k) (hc : CluOk P S W) (hl : L.length = P.length) (hL : ∀ i, i < L.length → -1000000000000 ≤ gI L i ∧ gI L i ≤ 1000000000000) :
    Calls Try.prog 96 #[.agg #[p, s, q], v] w fun e w' => e = .returned (.int .i64 (leastTo (exL P S L) P.length)) ∧ Below w.heap.size w w' := by
  have hx := Boxed.start w 51 #[p, s, q]
  obtain ⟨a1, k1, rfl⟩ := hp.len0
  obtain ⟨a2, k2, rfl⟩ := hs.len0
  obtain ⟨a3, n3, k3, rfl⟩ := hq
  obtain ⟨a4, k4, rfl⟩ := hv.len0
  have HL := Lib.hid hl
  have HC := Lib.hid hc
  have HB := Lib.hid hL
  have h0 := hc.1.1
  have h24 := hc.1.2.1
  clear hl hc hL
  have c0 := hx.cell 0
  have c1 := hx.cell 1
  have c2 := hx.cell 2
  go_enter Try.func96, Try.ntmps96
  go_wp2_with fail
  refine (l07Excess_c _ _ _ _ P S W L _ (hx.rd hp) (hx.rd hs) (hx.rd hv) HC.out HL.out HB.out).mono ?_
  rintro e w1 ⟨a, k, rfl, ho, hb⟩
  have hEl : (exTo (proxL P S) L P.length).length = P.length := by rw [exTo_len]; exact HL.out
  have hEX : exL P S L = exTo (proxL P S) L P.length := rfl
  have HEX := Lib.hid hEX
  have hb1 := (hx.trans hb).below
  obtain ⟨ge, gc, hge, hge0, hge1, hge2, hge3⟩ := Own.pos ho (by rw [hEl]; exact h0)
  injection hge with hgea hgeb hgec
  subst hgea hgec
  clear hgeb hEX c0 c1 c2
  have hcell : ∀ i, i < P.length → w1.cell? ⟨ge, i, none⟩ = some (.int .i64 (gI (exTo (proxL P S) L P.length) i)) := fun i hi => ho.cell i (by rw [hEl]; exact hi)
  rw [hEl]
  clear ho hge2
  generalize exTo (proxL P S) L P.length = E at HEX hcell hEl
  clear hEl
  have hres : ∀ m, leastTo E P.length = m → leastTo (exL P S L) P.length = m := fun m h => by rw [HEX.out]; exact h
  have HR := Lib.hid hres
  clear hres
  go_wp2
  go_loop [6] (fun i => ∃ j : Nat, j ≤ P.length ∧ i = .int .i64 j ∧ ∀ t, t < j → 0 ≤ gI E t) (fun i => P.length - (intOf i).toNat)
  case atStart => exact ⟨0, Nat.zero_le _, rfl, fun t ht => absurd ht (by omega)⟩
  case round =>
    obtain ⟨j, hj, rfl, hg⟩ := hrel
    by_cases hlt : j < P.length
    · have hji : (j : Int) < (P.length : Int) := by omega
      have dE := hcell j hlt
      have HG := Lib.hid hg
      by_cases hneg : gI E j < 0
      · have HF := Lib.hid (HR.out _ (leastTo_at hlt hneg hg))
        clear hg hcell
        generalize gI E j = x at dE hneg
        go_wp2
        go_ret
        exact ⟨ret_int HF.out.symm, hb1⟩
      · have HF : Hid (∀ t, t < j + 1 → 0 ≤ gI E t) := Lib.hid (fun t ht => by
          by_cases e : t = j
          · subst e; omega
          · exact hg t (by omega))
        clear hg hcell
        generalize gI E j = x at dE hneg
        go_wp2
        go_round
        case rel => exact ⟨j + 1, by omega, by go_num, HF.out⟩
        case measure => simp [intOf]; omega
    · have hj' : j = P.length := by omega
      subst hj'
      have HF := Lib.hid (HR.out _ (leastTo_none hg))
      clear hg
      go_wp2
      go_ret
      exact ⟨ret_int HF.out.symm, hb1⟩
end Go.Proofs.Ytgjnllialhjhoaa
