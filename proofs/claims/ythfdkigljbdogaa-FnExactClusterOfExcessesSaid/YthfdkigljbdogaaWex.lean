/- Contracts: impl.weightsOfExcesses: excesses led back to weights. -/
import Derived.Test.YthfdkigljbdogaaOfOrd
import Derived.Test.YthfdkigljbdogaaSimS
import Derived.Test.YthfdkigljbdogaaInv
import Derived.Test.YthfdkigljbdogaaWith
namespace Go.Proofs.Ythfdkigljbdogaa
open Go.RowKit

theorem backAt_lin {P S W E : List Int} (hc : CluOk P S W) (hl : E.length = P.length) (hE : ∀ i, i < E.length → -1000 ≤ gI E i ∧ gI E i ≤ 1000) : BackAt P S (linTo P S E P.length) E (P.length - 1) := by
  refine ⟨hl, back_lin hc hl, 1000, num_all hE (by omega) (by omega), ?_⟩
  have h24 := hc.1.2.1
  have := pow3_mono (show P.length - 1 ≤ 23 by omega)
  have e : (3 : Int) ^ 23 = 94143178827 := by decide +kernel
  omega

set_option maxRecDepth 100000 in
set_option maxHeartbeats 4000000 in
theorem weightsOfExcesses_c (v u : Value) (P S W E : List Int) (w : World) (h : RdR w v (proxL P S)) (hu : Rd w u E) (hc : CluOk P S W) (hl : E.length = P.length) (hE : ∀ i, i < E.length → -1000 ≤ gI E i ∧ gI E i ≤ 1000) :
    Calls Try.prog 119 #[v, u] w (RetL E.length w (linTo P S E P.length)) := by
  have hback0 := backAt_lin hc hl hE
  have h0 := hc.1.1
  have h24 := hc.1.2.1
  have hp : 0 < E.length := by omega
  have hE24 : E.length ≤ 1000000 := by omega
  have HC := Lib.hid hc
  have HL := Lib.hid hl
  obtain ⟨a, cap, rfl, hcap1, hcap2, hrd⟩ := h
  rw [prox_len] at hcap1 ⊢
  clear hc hl hE
  have hB0 := Lib.hid hback0
  clear hback0
  have hw1 : IntKind.i64.wrap ((P.length : Int) - 1) = (P.length : Int) - 1 := IntWalk.i64_in _ (by omega)
  go_enter Try.func119, Try.ntmps119
  go_wp2_with fail
  refine (clone_c _ E _ hu hp hE24).mono ?_
  rintro e w1 ⟨g, k, rfl, hown, hb⟩
  obtain ⟨g', gc, hge, hg0, hg1, hg2, hg3⟩ := Own.pos hown hp
  injection hge with hge1 hge2 hge3
  subst hge1 hge3
  have hg1' := hb.size
  clear hge2
  rw [HL.out] at hown ⊢
  go_wp2
  go_loopw [6, 8, 23] (fun jj _ _ wr => ∃ j : Nat, ∃ L, j + 1 ≤ P.length ∧ jj = .int .i64 j ∧ BackAt P S (linTo P S E P.length) L j ∧ OwnI wr w.heap.size (.slice (some ⟨g', 0, none⟩) P.length k) L ∧ Below w.heap.size w wr) (fun jj _ _ _ => (intOf jj).toNat)
  case atStart => exact ⟨P.length - 1, E, by omega, by have : ((P.length - 1 : Nat) : Int) = (P.length : Int) - 1 := by omega
                                                       rw [this], hB0.out, hown, hb⟩
  case round =>
    obtain ⟨j, L, hj, rfl, hback, hown2, hbl⟩ := hrel
    clear hown hb hB0
    obtain ⟨wo, rfl⟩ : ∃ wo : World, wo = wr := ⟨_, rfl⟩
    cases j with
    | zero =>
      go_wp2
      go_ret
      have he : L = linTo P S E P.length := hback.eq
      rw [← he]
      exact ⟨_, _, by rw [HL.out]; rfl, by rw [HL.out]; exact hown2, hbl⟩
    | succ j =>
      have hst := hback.step
      have hsmall := hback.small
      have hlen := hback.len
      have hlt : j + 1 < P.length := by omega
      rw [bStep_row (by omega)] at hst
      have hbnd := prox_bnd HC.out hlt
      have hpl := prox_row_len P S (j + 1)
      generalize hjj : j + 1 = t at hlt hst hbnd hpl
      have htj : t - 1 = j := by omega
      have htp : (0 : Int) < (t : Int) := by omega
      have htpn : 0 < t := by omega
      have ht0 : (0 : Int) ≤ (t : Int) := by omega
      have htn : (t : Int) < (P.length : Int) := by omega
      obtain ⟨b, off, rfl, hrb, hcs⟩ := hrd (by intro e; have := congrArg List.length e; rw [prox_len, List.length_nil] at this; omega)
      obtain ⟨ur, hur, hru⟩ := hcs t (by rw [prox_len]; exact hlt)
      rw [prox_row hlt] at hru
      have hu' : wo.cell? ⟨b, off + t, none⟩ = some ur := by rw [hbl.cell (p := ⟨b, off + t, none⟩) hrb]; exact hur
      obtain ⟨ar, kr, rfl, hr1, hr2, hrr⟩ := hru
      have HT := Lib.hid hst
      clear hcs hur hst
      go_wp2_with fail
      go_loopw [8, 23] (fun _ i wr => ∃ m : Nat, m ≤ (proxOf P S t).length ∧ i = .int .i64 m ∧ OwnI wr w.heap.size (.slice (some ⟨g', 0, none⟩) P.length k) (incTo (proxOf P S t) (gI L t) L m) ∧ Below w.heap.size w wr) (fun _ i _ => (proxOf P S t).length - (intOf i).toNat)
      case atStart => exact ⟨0, Nat.zero_le _, rfl, hown2, hbl⟩
      case round =>
        obtain ⟨m, hm, rfl, hown3, hbl3⟩ := hrel
        clear hown2 hbl hu'
        obtain ⟨wq, rfl⟩ : ∃ wq : World, wq = wr := ⟨_, rfl⟩
        by_cases hmt : m < (proxOf P S t).length
        · obtain ⟨b2, off2, rfl, hb2, hcs2⟩ := hrr (ne_of_lt_len hmt)
          have hc2 : wq.cell? ⟨b2, off2 + m, none⟩ = some (.int .i64 (gI (proxOf P S t) m)) := by rw [hbl3.cell (p := ⟨b2, off2 + m, none⟩) hb2]; exact hcs2 m hmt
          have hxr := hbnd m hmt
          have hil : (incTo (proxOf P S t) (gI L t) L m).length = P.length := by rw [incTo_len, hlen]
          have hO : OwnI wq w.heap.size (.slice (some ⟨g', 0, none⟩) (incTo (proxOf P S t) (gI L t) L m).length k) (incTo (proxOf P S t) (gI L t) L m) := by rw [hil]; exact hown3
          have hcell := hO.cell (gI (proxOf P S t) m).toNat (by rw [hil]; omega)
          have hcellj := hO.cell t (by rw [hil]; exact hlt)
          rw [incTo_other (fun i hi => by have := hbnd i (by omega); omega)] at hcellj
          have hfree := hO.free (gI (proxOf P S t) m).toNat
          have bx := hsmall t
          have bY := incTo_bd (row := proxOf P S t) (X := 1000000000000000) (A := 1000000000000000) bx (by omega) hsmall (m := m) (by omega) (gI (proxOf P S t) m).toNat
          have hset := hO.set (gI (proxOf P S t) m).toNat (gI (incTo (proxOf P S t) (gI L t) L m) (gI (proxOf P S t) m).toNat + gI L t)
          have HS : Hid (OwnI (wq.setCell ⟨g', (gI (proxOf P S t) m).toNat, none⟩ (.int .i64 (gI (incTo (proxOf P S t) (gI L t) L m) (gI (proxOf P S t) m).toNat + gI L t))) w.heap.size (.slice (some ⟨g', 0, none⟩) P.length k) (incTo (proxOf P S t) (gI L t) L (m + 1))) := Lib.hid (by
            rw [hil] at hset; exact hset)
          have HB := Lib.hid (hbl3.setCell (p := ⟨g', (gI (proxOf P S t) m).toNat, none⟩) hg0 (.int .i64 (gI (incTo (proxOf P S t) (gI L t) L m) (gI (proxOf P S t) m).toNat + gI L t)))
          have hxn : gI (proxOf P S t) m < (P.length : Int) := by omega
          clear hset hO hown3 hbl3 hil hcs2 hrr
          generalize gI (incTo (proxOf P S t) (gI L t) L m) (gI (proxOf P S t) m).toNat = y at hcell bY HS HB
          generalize gI (proxOf P S t) m = x at hc2 hxr hcell hfree HS HB hxn
          generalize gI L t = z at hcellj bx HS HB
          obtain ⟨hx0, hx1⟩ := hxr
          obtain ⟨q1, q2⟩ := bx
          obtain ⟨q3, q4⟩ := bY
          clear hsmall hback
          go_wp2_with fail
          go_still_tail 10, (by kernel_rfl)
          change wpList _ _ _ _ _ wq.drew
          go_wp2
          go_roundw
          case rel => exact ⟨m + 1, by omega, by go_num, HS.out, HB.out.drew⟩
          case measure => simp [intOf]; omega
        · have hm' : m = (proxOf P S t).length := by omega
          subst hm'
          go_wp2
          go_roundw
          case rel => exact ⟨j, _, by omega, by go_num, HT.out, hown3, hbl3⟩
          case measure => simp [intOf]; omega
end Go.Proofs.Ythfdkigljbdogaa
