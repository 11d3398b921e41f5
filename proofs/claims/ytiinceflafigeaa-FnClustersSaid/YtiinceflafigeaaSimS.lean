/- Contracts: spec.l07Simple: the weights of the simple cluster of a point. -/
import Derived.Test.YtiinceflafigeaaSimPure
import Derived.Test.YtiinceflafigeaaSq
import Derived.Test.YtiinceflafigeaaCons
namespace Go.Proofs.Ytiinceflafigeaa
open Go.RowKit

/-- Parent and second are not the same. -/
theorem clu_ne0 {P S W : List Int} (hc : CluOk P S W) {i : Nat} (hi : i < P.length) (hs : 0 ≤ gI S i) : gI P i ≠ gI S i ∧ gI S i < gI P i ∧ 0 < i := by
  have h0 : 0 < i := by
    rcases Nat.eq_zero_or_pos i with e | e
    · subst e; have := clu_zero hc; omega
    · exact e
  have hp := clu_place hc hi h0
  rcases (hc.2.2 i hi).1 with h | h
  · omega
  · obtain ⟨_, h1, h2, h3⟩ := h
    have hpi : (gI P i).toNat < P.length := by omega
    by_cases hz : (gI P i).toNat = 0
    · have := clu_zero hc
      rw [hz] at h3; omega
    · have := clu_place hc hpi (by omega)
      rcases h3 with h3 | ⟨_, h3⟩
      · omega
      · omega
theorem pow3 (j : Nat) : (1 : Int) ≤ 3 ^ j := by
  induction j with
  | zero => decide
  | succ j ih => rw [Int.pow_succ]; omega
theorem pow3_mono {i j : Nat} (h : i ≤ j) : (3 : Int) ^ i ≤ 3 ^ j := by
  induction j with
  | zero => rw [show i = 0 by omega]; exact Int.le_refl _
  | succ j ih =>
    by_cases e : i = j + 1
    · rw [e]; exact Int.le_refl _
    · have := ih (by omega); have := pow3 j; rw [Int.pow_succ]; omega
/-- L is on the way to M: the points j, .., 1 are left to be handed on; and no number is too large. -/
structure BackAt (P S M L : List Int) (j : Nat) : Prop where
  len : L.length = P.length
  eq : backTo P S j L = M
  bd : ∃ A : Int, (∀ k, -A ≤ gI L k ∧ gI L k ≤ A) ∧ A * 3 ^ j ≤ 1000000000000000
theorem BackAt.small {P S M L : List Int} {j : Nat} (h : BackAt P S M L j) (k : Nat) : -1000000000000000 ≤ gI L k ∧ gI L k ≤ 1000000000000000 := by
  obtain ⟨A, h1, h2⟩ := h.bd
  have hA : 0 ≤ A := by have := h1 0; omega
  have h3 := Int.mul_le_mul_of_nonneg_left (pow3 j) hA
  have := h1 k
  omega
theorem BackAt.step {P S M L : List Int} {j : Nat} (h : BackAt P S M L (j + 1)) : BackAt P S M (bStep P S L (j + 1)) j := by
  obtain ⟨A, h1, h2⟩ := h.bd
  refine ⟨by rw [bStep_len]; exact h.len, h.eq, 3 * A, fun k => bStep_bd h1 k, ?_⟩
  rw [Int.pow_succ] at h2
  have : 3 * A * 3 ^ j = A * (3 ^ j * 3) := by rw [Int.mul_comm (3 ^ j) 3, ← Int.mul_assoc, Int.mul_comm A 3]
  omega
theorem backAt_unit {P S W : List Int} (hc : CluOk P S W) {i : Nat} (hi : i < P.length) : BackAt P S (mRow P S i) (unitL P.length i) i := by
  refine ⟨by simp, back_unit hc hi, 1, fun k => ?_, ?_⟩
  · rw [gI_unit hi]; split <;> omega
  · have h24 := hc.1.2.1
    have := pow3_mono (show i ≤ 23 by omega)
    have e : (3 : Int) ^ 23 = 94143178827 := by decide +kernel
    omega

set_option maxRecDepth 100000 in
set_option maxHeartbeats 4000000 in
theorem l07Simple_c (p s q : Value) (P S W : List Int) (i : Nat) (w : World) (hp : Rd w p P) (hs : Rd w s S) (hc : CluOk P S W) (hi : i < P.length) :
    Calls Try.prog 180 #[.agg #[p, s, q], .int .i64 (i : Int)] w (RetI w (mRow P S i)) := by
  obtain ⟨i0, hi0, hz0, hz1, hz2⟩ := info_parts Try.infoI
  have hx := Boxed.start w 40 #[p, s, q]
  obtain ⟨bp, op, kp, rfl, hpc1, hpc2, hpb, hpc⟩ := hp.cells hc.1.1
  obtain ⟨bs, os, ks, rfl, hsc1, hsc2, hsb, hsc⟩ := hs.cells (by have := hc.1; omega)
  have h24 := hc.1.2.1
  have hp0 := hc.1.1
  have hl1 : P.length ≤ S.length := by have := hc.1; omega
  have hl4 : S.length ≤ P.length := by have := hc.1; omega
  have HC := Lib.hid hc
  clear hc
  have c0 := hx.cell 0
  go_enter Try.func180, Try.ntmps180
  go_wp2_with (at_make; refine wpList_make_full _ rfl (.tmp 9) (.tmp 9) 24 rfl (w.heap.size + 1) 2 i0 (.int .i64 0) 1 Try.underlying24 hi0 hz0 hz1 _ _ _ _ P.length rfl rfl rfl rfl ?c1 ?c2 ?c3 ?_)
  case c1 => rw [hz2]; omega
  case c2 => unfold maxLen; omega
  case c3 => simp
  intro w1 hown hgrow
  have hx1 : Boxed w w1 40 #[.slice (some ⟨bp, op, none⟩) P.length kp, .slice (some ⟨bs, os, none⟩) S.length ks, q] :=
    hx.trans ((Below.refl _ _).grown hgrow (Nat.le_refl _) (by simp))
  rw [toList_madeCells_one] at hown
  have ho1 := own_made hown
  clear hown hgrow hx c0
  have ho2 : OwnI w1 (w.heap.size + 1) (.slice (some ⟨w.heap.size + 1, 0, none⟩) (zeroL P.length).length P.length) (zeroL P.length) := by simpa using ho1
  have cz := ho2.cell i (by simpa using hi)
  have fz := ho2.free i
  have hset := ho2.set i 1
  rw [zeroL_len, show (zeroL P.length).set i 1 = unitL P.length i from rfl] at hset
  have hx2 := hx1.wrote ((Keeps.refl (fun k => w.heap.size + 1 ≤ k) w1).setCell (p := ⟨w.heap.size + 1, i, none⟩) (Nat.le_refl _) (.int .i64 1))
  have hii : (i : Int) < (P.length : Int) := by omega
  have HS := Lib.hid hset
  have HX := Lib.hid hx2
  clear ho1 ho2 hset hx1 hx2
  generalize gI (zeroL P.length) i = z0 at cz
  go_wp2
  go_loopw [6] (fun i' wr => ∃ j : Nat, ∃ L, j ≤ i ∧ i' = .int .i64 j ∧ BackAt P S (mRow P S i) L j ∧ OwnI wr (w.heap.size + 1) (.slice (some ⟨w.heap.size + 1, 0, none⟩) P.length P.length) L ∧ Boxed w wr 40 #[.slice (some ⟨bp, op, none⟩) P.length kp, .slice (some ⟨bs, os, none⟩) S.length ks, q]) (fun i' _ => (intOf i').toNat)
  case atStart => exact ⟨i, _, Nat.le_refl _, rfl, backAt_unit HC.out hi, HS.out, HX.out⟩
  case round =>
    obtain ⟨j, L, hj, rfl, hback, hown2, hbx⟩ := hrel
    clear HS HX
    obtain ⟨wo, rfl⟩ : ∃ wo : World, wo = wr := ⟨_, rfl⟩
    cases j with
    | zero =>
      go_wp2
      go_ret
      have : L = mRow P S i := hback.eq
      rw [← this]
      have hle := hback.len
      have hres : RetI w L (.returned (.slice (some ⟨w.heap.size + 1, 0, none⟩) P.length P.length)) wo := by
        refine ⟨_, P.length, by rw [hle], ?_, hbx.below⟩
        rw [hle]
        exact hown2.base_le (by omega)
      exact hres
    | succ j =>
      have hlt : j + 1 < P.length := by omega
      have hjL : ((j + 1 : Nat) : Int) < (P.length : Int) := by omega
      have hjS : ((j + 1 : Nat) : Int) < (S.length : Int) := by omega
      have hj0 : (0 : Int) ≤ ((j + 1 : Nat) : Int) := Int.natCast_nonneg _
      have hjp : (0 : Int) < ((j + 1 : Nat) : Int) := by omega
      have hst := hback.step
      have hsmall := hback.small
      have hlen := hback.len
      obtain ⟨hp1, hp2, hp3⟩ := clu_place HC.out hlt (by omega)
      generalize hjj : j + 1 = t at hlt hjL hjS hj0 hjp hst hp1 hp2 hp3
      have htj : t - 1 = j := by omega
      have c0 := hbx.cell 0
      have c1 := hbx.cell 1
      have dS : wo.cell? ⟨bs, os + t, none⟩ = some (.int .i64 (gI S t)) := by rw [hbx.below.cell (p := ⟨bs, os + t, none⟩) hsb]; exact hsc t (by omega)
      have dP : wo.cell? ⟨bp, op + t, none⟩ = some (.int .i64 (gI P t)) := by rw [hbx.below.cell (p := ⟨bp, op + t, none⟩) hpb]; exact hpc t hlt
      have hO : OwnI wo (w.heap.size + 1) (.slice (some ⟨w.heap.size + 1, 0, none⟩) L.length P.length) L := by rw [hlen]; exact hown2
      have hcell := hO.cell (gI P t).toNat (by rw [hlen]; omega)
      have hcellj := hO.cell t (by rw [hlen]; omega)
      have hfree := hO.free (gI P t).toNat
      have hs1 := hsmall (gI P t).toNat
      have hs2 := hsmall t
      have hset := hO.set (gI P t).toNat (gI L (gI P t).toNat + gI L t)
      have hbx4 := hbx.wrote ((Keeps.refl (fun k => w.heap.size + 1 ≤ k) wo).setCell (p := ⟨w.heap.size + 1, (gI P t).toNat, none⟩) (Nat.le_refl _) (.int .i64 (gI L (gI P t).toNat + gI L t)))
      by_cases hs : 0 ≤ gI S t
      · have hne := clu_ne0 HC.out hlt hs
        have hO2 : OwnI (wo.setCell ⟨w.heap.size + 1, (gI P t).toNat, none⟩ (.int .i64 (gI L (gI P t).toNat + gI L t))) (w.heap.size + 1) (.slice (some ⟨w.heap.size + 1, 0, none⟩) (inc L (gI P t) (gI L t)).length P.length) (inc L (gI P t) (gI L t)) := by rw [inc_len]; exact hset
        have hcell2 := hO2.cell (gI S t).toNat (by rw [inc_len, hlen]; omega)
        have hcellj2 := hO2.cell t (by rw [inc_len, hlen]; omega)
        rw [gI_inc, if_neg (by omega)] at hcell2 hcellj2
        have hfree2 := hO2.free (gI S t).toNat
        have hset2 := hO2.set (gI S t).toNat (gI L (gI S t).toNat + gI L t)
        have e2 : (inc L (gI P t) (gI L t)).set (gI S t).toNat (gI L (gI S t).toNat + gI L t) = bStep P S L t := by
          unfold bStep
          rw [if_pos hs]
          show _ = (inc L (gI P t) (gI L t)).set (gI S t).toNat (gI (inc L (gI P t) (gI L t)) (gI S t).toNat + gI L t)
          rw [gI_inc, if_neg (by omega)]
        rw [e2, inc_len, hlen] at hset2
        have hbx5 := hbx4.wrote ((Keeps.refl (fun k => w.heap.size + 1 ≤ k) _).setCell (p := ⟨w.heap.size + 1, (gI S t).toNat, none⟩) (Nat.le_refl _) (.int .i64 (gI L (gI S t).toNat + gI L t)))
        have hs3 := hsmall (gI S t).toNat
        have f1 := hbx4.cell 1
        have e1 : (wo.setCell ⟨w.heap.size + 1, (gI P t).toNat, none⟩ (.int .i64 (gI L (gI P t).toNat + gI L t))).cell? ⟨bs, os + t, none⟩ = some (.int .i64 (gI S t)) := by rw [hbx4.below.cell (p := ⟨bs, os + t, none⟩) hsb]; exact hsc t (by omega)
        have hxP : gI P t < (P.length : Int) := by omega
        have hxS : gI S t < (P.length : Int) := by omega
        have HS := Lib.hid hset2
        have HB := Lib.hid hbx5
        have HT := Lib.hid hst
        clear hset hset2 hO hO2 hown2 hbx hbx4 hbx5 hst hback hsmall e2 hne hlen
        generalize gI L (gI S t).toNat = z2 at hcell2 hs3 HS HB
        generalize gI L (gI P t).toNat = y at hcell hs1 HS HB hcell2 hfree2 e1 f1 hcellj2
        generalize gI L t = x at hcellj hs2 HS HB hcell2 hfree2 e1 f1 hcellj2
        generalize gI P t = a at dP hcell hfree hxP hp1 hp2 HS HB hcell2 hfree2 e1 f1 hcellj2
        generalize gI S t = b at dS hs hxS hp3 hcell2 hfree2 HS HB e1
        obtain ⟨q1, q2⟩ := hs1
        obtain ⟨q3, q4⟩ := hs2
        obtain ⟨q5, q6⟩ := hs3
        go_wp2_with fail
        go_still_tail 20, (by kernel_rfl)
        change wpList _ _ _ _ _ wo.drew
        go_wp2_with fail
        clear c0 c1 dS dP hcell hcellj hfree
        obtain ⟨wq, hW⟩ : ∃ wq : World, wq = (wo.setCell ⟨w.heap.size + 1, a.toNat, none⟩ (.int .i64 (y + x))).drew := ⟨_, rfl⟩
        replace f1 : wq.cell? ⟨w.heap.size, 1, none⟩ = some (.slice (some ⟨bs, os, none⟩) S.length ks) := by rw [hW]; exact f1
        replace e1 : wq.cell? ⟨bs, os + t, none⟩ = some (.int .i64 b) := by rw [hW]; exact e1
        replace hcell2 : wq.cell? ⟨w.heap.size + 1, b.toNat, none⟩ = some (.int .i64 z2) := by rw [hW]; exact hcell2
        replace hcellj2 : wq.cell? ⟨w.heap.size + 1, t, none⟩ = some (.int .i64 x) := by rw [hW]; exact hcellj2
        replace hfree2 : wq.frozen? ⟨w.heap.size + 1, b.toNat, none⟩ = false := by rw [hW]; exact hfree2
        replace HS : Hid (OwnI (wq.setCell ⟨w.heap.size + 1, b.toNat, none⟩ (.int .i64 (z2 + x))) (w.heap.size + 1) (.slice (some ⟨w.heap.size + 1, 0, none⟩) P.length P.length) (bStep P S L t)) := by rw [hW]; exact HS
        replace HB : Hid (Boxed w (wq.setCell ⟨w.heap.size + 1, b.toNat, none⟩ (.int .i64 (z2 + x))) 40 #[.slice (some ⟨bp, op, none⟩) P.length kp, .slice (some ⟨bs, os, none⟩) S.length ks, q]) := by rw [hW]; exact Lib.hid (HB.out.trans (Below.refl _ _).drew)
        rw [← hW]
        clear hW
        go_still_tail 20, (by kernel_rfl)
        change wpList _ _ _ _ _ wq.drew
        go_wp2
        go_roundw
        case rel => exact ⟨j, _, by omega, by go_num, HT.out, HS.out, HB.out.trans (Below.refl _ _).drew⟩
        case measure => simp [intOf]; omega
      · have e2 : L.set (gI P t).toNat (gI L (gI P t).toNat + gI L t) = bStep P S L t := by
          unfold bStep
          rw [if_neg hs]; rfl
        rw [e2, hlen] at hset
        have e1 : (wo.setCell ⟨w.heap.size + 1, (gI P t).toNat, none⟩ (.int .i64 (gI L (gI P t).toNat + gI L t))).cell? ⟨bs, os + t, none⟩ = some (.int .i64 (gI S t)) := by rw [hbx4.below.cell (p := ⟨bs, os + t, none⟩) hsb]; exact hsc t (by omega)
        have f1 := hbx4.cell 1
        have hxP : gI P t < (P.length : Int) := by omega
        have HS := Lib.hid hset
        have HB := Lib.hid hbx4
        have HT := Lib.hid hst
        clear hset hO hown2 hbx hbx4 hst hback hsmall e2 hlen
        generalize gI L (gI P t).toNat = y at hcell hs1 HS HB e1 f1
        generalize gI L t = x at hcellj hs2 HS HB e1 f1
        generalize gI P t = a at dP hcell hfree hxP hp1 hp2 HS HB e1 f1
        generalize gI S t = b at dS hs e1 hp3
        obtain ⟨q1, q2⟩ := hs1
        obtain ⟨q3, q4⟩ := hs2
        go_wp2_with fail
        go_still_tail 20, (by kernel_rfl)
        change wpList _ _ _ _ _ wo.drew
        go_wp2
        go_roundw
        case rel => exact ⟨j, _, by omega, by go_num, HT.out, HS.out, HB.out.trans (Below.refl _ _).drew⟩
        case measure => simp [intOf]; omega
end Go.Proofs.Ytiinceflafigeaa
