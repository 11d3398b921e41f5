/- Contracts and plain facts as the law on clusters needs them. -/
import Derived.Test.YtiinceflafigeaaLawM
import Derived.Test.YtiinceflafigeaaLawK
import Derived.Test.YtiinceflafigeaaCluLaw
import Derived.Test.YtiinceflafigeaaInvL
import Derived.Test.YtiinceflafigeaaSimC
import Derived.Test.YtiinceflafigeaaSat
import Derived.Test.YtiinceflafigeaaIsClu
import Derived.Test.YtiinceflafigeaaExc
import Derived.Test.YtiinceflafigeaaWith
namespace Go.Proofs.Ytiinceflafigeaa
open Go.RowKit

theorem implPM_v (p s q : Value) (P S W : List Int) (n : Nat) (w : World) (hp : Rd w p P) (hs : Rd w s S) (hq : Rd w q W) (hn : (okR (cluB P S W) (pmL P S)).length = n) :
    Calls Try.prog 71 #[.agg #[p, s, q]] w (RvMC w n (okR (cluB P S W) (pmL P S)) (okC (cluB P S W) 1)) :=
  (implProximityMatrix_c p s q P S W w hp hs hq).mono fun _ _ hh => rvMC_mc hh rfl hn rfl
theorem specPM_v (p s q : Value) (P S W : List Int) (n : Nat) (w : World) (hp : Rd w p P) (hs : Rd w s S) (hq : Rd w q W) (hn : (okR (cluB P S W) (pmL P S)).length = n) :
    Calls Try.prog 72 #[.agg #[p, s, q]] w (RvMC w n (okR (cluB P S W) (pmL P S)) (okC (cluB P S W) 1)) :=
  (specProximityMatrix_c p s q P S W w hp hs hq).mono fun _ _ hh => rvMC_mc hh rfl hn rfl
theorem implIP_v (p s q : Value) (P S W : List Int) (n : Nat) (w : World) (hp : Rd w p P) (hs : Rd w s S) (hq : Rd w q W) (hn : (okR (cluB P S W) (miL P S)).length = n) :
    Calls Try.prog 73 #[.agg #[p, s, q]] w (RvMC w n (okR (cluB P S W) (miL P S)) (okC (cluB P S W) 1)) :=
  (implInverse_c p s q P S W w hp hs hq).mono fun _ _ hh => rvMC_mc hh rfl hn rfl
theorem specIP_v (p s q : Value) (P S W : List Int) (n : Nat) (w : World) (hp : Rd w p P) (hs : Rd w s S) (hq : Rd w q W) (hn : (okR (cluB P S W) (miL P S)).length = n) :
    Calls Try.prog 74 #[.agg #[p, s, q]] w (RvMC w n (okR (cluB P S W) (miL P S)) (okC (cluB P S W) 1)) :=
  (specInverse_c p s q P S W w hp hs hq).mono fun _ _ hh => rvMC_mc hh rfl hn rfl
theorem excess_ok (p s q : Value) (P S W E : List Int) (m : Nat) (w : World) (hp : Rd w p P) (hs : Rd w s S) (hq : Rd w q W) (hc : CluOk P S W) (hE : exTo (proxL P S) W P.length = E) (hm : E.length = m) :
    Calls Try.prog 81 #[.agg #[p, s, q]] w (RvC w m E 0) :=
  (implExcessesOf_c p s q P S W w hp hs hq).mono fun _ _ hh => rvC_ic hh (by rw [okL_true (cluB_iff.2 hc), hE]) hm (by rw [okC_true (cluB_iff.2 hc)])
theorem satel_ok (p s q : Value) (P S W T : List Int) (n : Nat) (w : World) (hp : Rd w p P) (hs : Rd w s S) (hq : Rd w q W) (hc : CluOk P S W) (hT : satTo S S.length = T) (hn : T.length = n) :
    Calls Try.prog 82 #[.agg #[p, s, q]] w (RvC w n T 0) :=
  (implSatellites_c p s q P S W w hp hs hq).mono fun _ _ hh => rvC_ic hh (by rw [okL_true (cluB_iff.2 hc), hT]) hn (by rw [okC_true (cluB_iff.2 hc)])
theorem implSim_ok (p s q : Value) (P S W : List Int) (n : Int) (m : Nat) (w : World) (hp : Rd w p P) (hs : Rd w s S) (hq : Rd w q W) (hb : ptB P S W n = true) (hm : P.length = m) :
    Calls Try.prog 84 #[.agg #[p, s, q], .int .i64 n] w (RvKC w m m m P S (mRow P S n.toNat) 0) :=
  (implSimple_c p s q P S W n w hp hs hq).mono fun _ _ hh => rvKC_cc hh (by rw [okL_true hb]) (by rw [okL_true hb]) (by rw [okL_true hb]) hm (by simp [ptB] at hb; have := (cluB_iff.1 hb.1).1; omega) (by simp [mRow, hm]) (by simp only [ptB, Bool.and_eq_true] at hb; simp [ptC, hb.1, hb.2])
theorem specSim_ok (p s q : Value) (P S W : List Int) (n : Int) (m : Nat) (w : World) (hp : Rd w p P) (hs : Rd w s S) (hq : Rd w q W) (hb : ptB P S W n = true) (hm : P.length = m) :
    Calls Try.prog 85 #[.agg #[p, s, q], .int .i64 n] w (RvKC w m m m P S (mRow P S n.toNat) 0) :=
  (specSimple_c p s q P S W n w hp hs hq).mono fun _ _ hh => rvKC_cc hh (by rw [okL_true hb]) (by rw [okL_true hb]) (by rw [okL_true hb]) hm (by simp [ptB] at hb; have := (cluB_iff.1 hb.1).1; omega) (by simp [mRow, hm]) (by simp only [ptB, Bool.and_eq_true] at hb; simp [ptC, hb.1, hb.2])
theorem implSim_no (p s q : Value) (P S W : List Int) (n : Int) (w : World) (hp : Rd w p P) (hs : Rd w s S) (hq : Rd w q W) (hb : ptB P S W n = false) :
    Calls Try.prog 84 #[.agg #[p, s, q], .int .i64 n] w (RvKC w 0 0 0 [] [] [] (ptC P S W n)) :=
  (implSimple_c p s q P S W n w hp hs hq).mono fun _ _ hh => rvKC_cc hh (by rw [okL_false hb]) (by rw [okL_false hb]) (by rw [okL_false hb]) rfl rfl rfl rfl
theorem specSim_no (p s q : Value) (P S W : List Int) (n : Int) (w : World) (hp : Rd w p P) (hs : Rd w s S) (hq : Rd w q W) (hb : ptB P S W n = false) :
    Calls Try.prog 85 #[.agg #[p, s, q], .int .i64 n] w (RvKC w 0 0 0 [] [] [] (ptC P S W n)) :=
  (specSimple_c p s q P S W n w hp hs hq).mono fun _ _ hh => rvKC_cc hh (by rw [okL_false hb]) (by rw [okL_false hb]) (by rw [okL_false hb]) rfl rfl rfl rfl
theorem ptC_ne {P S W : List Int} {n : Int} (h : ptB P S W n = false) : (ptC P S W n != 0) = true := by
  unfold ptC
  cases hc : cluB P S W
  · rfl
  · cases hi : inB n 0 ((P.length : Int) - 1)
    · rfl
    · rw [ptB, hc, hi] at h; exact absurd h (by decide)
theorem pt_parts {P S W : List Int} {n : Int} (h : ptB P S W n = true) : CluOk P S W ∧ 0 ≤ n ∧ n < (P.length : Int) := by
  simp only [ptB, Bool.and_eq_true, inB, decide_eq_true_eq] at h
  exact ⟨cluB_iff.1 h.1, by omega, by omega⟩
theorem mI_fib {P S W : List Int} (hc : CluOk P S W) (k : Nat) (i : Nat) : i < P.length → 0 ≤ mI P S i k ∧ mI P S i k ≤ fibI i := by
  induction i using Nat.strongRecOn with
  | _ i ih =>
    intro hi
    by_cases h0 : i = 0
    · subst h0; rw [mI_zero hc]; have := (fibI_pos 0).1
      split <;> omega
    · by_cases hk : i = k
      · subst hk; rw [mI_self hc hi]; have := (fibI_pos i).1; omega
      · obtain ⟨h1, h2, h3⟩ := clu_place hc hi (by omega)
        rw [mI_step hc k hi (by omega), if_neg hk]
        have a1 := ih (gI P i).toNat (by omega) (by omega)
        have a2 := fibI_mono (n := (gI P i).toNat) (m := i - 1) (by omega)
        split
        · rename_i hs
          have hz := clu_zero hc
          have hlt : gI S i < gI P i := by
            rcases (hc.2.2 i hi).1 with hp | ⟨_, _, _, hp⟩
            · omega
            · rcases hp with hp | ⟨_, hp⟩
              · omega
              · by_cases e0 : (gI P i).toNat = 0
                · rw [e0] at hp; omega
                · have := clu_place hc (k := (gI P i).toNat) (by omega) (by omega)
                  omega
          have b1 := ih (gI S i).toNat (by omega) (by omega)
          have b2 := fibI_mono (n := (gI S i).toNat) (m := i - 2) (by omega)
          have e : fibI i = fibI (i - 1) + fibI (i - 2) := by
            obtain ⟨x, rfl⟩ : ∃ x, i = x + 2 := ⟨i - 2, by omega⟩
            rfl
          omega
        · have := fibI_mono (n := i - 1) (m := i) (by omega)
          omega
theorem clu_mRow {P S W : List Int} (hc : CluOk P S W) {i : Nat} (hi : i < P.length) : CluOk P S (mRow P S i) := by
  refine cluB_iff.1 ?_
  rw [cluB_with hc (by simp [mRow])]
  refine allIn_iff.2 fun k hk => ?_
  have hk' : k < P.length := by simpa [mRow] using hk
  rw [gI_mRow hk']
  have h1 := mI_fib hc k i hi
  have h2 := fibI_mono (n := i) (m := 23) (by have := hc.1.2.1; omega)
  rw [fibI_23] at h2
  omega
/-- All of the first k numbers are not negative. -/
def gdB (E : List Int) (k : Nat) : Bool := decide (∀ x, x < k → 0 ≤ gI E x)
theorem gdB_yes {E : List Int} {k : Nat} (h : 0 ≤ gI E k) : gdB E (k + 1) = gdB E k := by
  simp only [gdB, decide_eq_decide]
  exact ⟨fun hh x hx => hh x (by omega), fun hh x hx => by
    by_cases e : x = k
    · subst e; exact h
    · exact hh x (by omega)⟩
theorem gdB_no {E : List Int} {k : Nat} (h : ¬ 0 ≤ gI E k) : gdB E (k + 1) = false := by
  simp only [gdB, decide_eq_false_iff_not]
  exact fun hh => h (hh k (by omega))
theorem gdB_all {E : List Int} {m : Nat} (h : E.length = m) : gdB E m = nonNeg E := by
  subst h; rfl
/-- What the law says of a cluster. -/
structure ClF (P S W E A : List Int) (R Q : List (List Int)) (m : Nat) : Prop where
  old : CluOk P S W
  lE : E.length = m
  lA : A.length = m
  lR : R.length = m
  lQ : Q.length = m
  rR : ∀ i, i < m → (gR R i).length = m
  rQ : ∀ i, i < m → (gR Q i).length = m
  bR : ∀ i, i < m → ∀ t, t < m → -1 ≤ gI (gR R i) t ∧ gI (gR R i) t ≤ 1
  bQ : ∀ i, i < m → ∀ t, t < m → -1677721500000 ≤ gI (gR Q i) t ∧ gI (gR Q i) t ≤ 1677721500000
  bA : ∀ i, i < m → -1677721500000 ≤ gI A i ∧ gI A i ≤ 1677721500000
  bW : ∀ i, i < m → -100000 ≤ gI W i ∧ gI W i ≤ 100000
  inv : mulR R Q m = unitR m
  col : ∀ i, i < m → sumTo (fun j => gI (gR R j) i * gI W j) m = gI E i
  dot : ∀ i, i < m → dotP (gR R i) A m = gI W i
theorem clF {P S W : List Int} {m : Nat} (hc : CluOk P S W) (hm : P.length = m) : ClF P S W (exTo (proxL P S) W P.length) (ordTo (fun j => gI W j) P S P.length) (pmL P S) (miL P S) m := by
  subst hm
  have hl : W.length = P.length := hc.1.2.2.2
  have gp : ∀ i, i < P.length → gR (pmL P S) i = pmRow P S P.length i := fun i hi => gR_map hi
  have gq : ∀ i, i < P.length → gR (miL P S) i = mRow P S i := fun i hi => gR_map hi
  refine ⟨hc, by rw [exTo_len]; exact hl, by rw [ordTo_len], by simp [pmL], by simp [miL], fun i hi => by rw [gp i hi]; simp, fun i hi => by rw [gq i hi]; simp [mRow], fun i hi t ht => ?_, fun i hi t ht => ?_, fun i hi => ?_, fun i hi => ?_, ?_, fun i hi => ?_, fun i hi => ?_⟩
  · rw [gp i hi, gI_pmRow ht]; split; · omega
    · split <;> omega
  · rw [gq i hi, gI_mRow ht]; exact mI_bd hc t hi
  · exact ord_small hc (fun j hj => hc.2.1 j (by omega)) hi hi
  · exact hc.2.1 i (by omega)
  · refine gR_ext (by simp [mulR, unitR]) fun i hi => ?_
    have hi' : i < P.length := by simpa [mulR] using hi
    rw [mulR, unitR, gR_map hi', gR_map hi']
    apply gI_ext (by simp)
    intro j hj
    have hj' : j < P.length := by simpa using hj
    rw [gI_rowT hj', gI_unit hi', if_neg (by omega), sumTo_congr (g := fun k => gI (pmRow P S P.length i) k * mI P S k j) (fun k hk => by rw [gp i hi', gq k hk, gI_mRow hj']), pm_inv hc hi']
    by_cases e : i = j
    · rw [if_pos e, if_pos e.symm]
    · rw [if_neg e, if_neg (fun h => e h.symm)]
  · rw [sumTo_congr (g := fun j => gI (pmRow P S P.length j) i * gI W j) (fun j hj => by rw [gp j hj]), pm_col hc hi (fun j => gI W j)]
    exact (exL_at hc hl hi).symm
  · unfold dotP
    rw [sumTo_congr (g := fun k => gI (pmRow P S P.length i) k * gI (ordTo (fun j => gI W j) P S P.length) k) (fun k _ => by rw [gp i hi]), pm_ord hc hi]
theorem sat_has {S : List Int} {n : Nat} : ∀ {m : Nat}, n < m → hasB (satTo S m) (n : Int) = decide (0 ≤ gI S n) := by
  intro m hm
  by_cases h : 0 ≤ gI S n
  · rw [decide_eq_true h, hasB_iff]
    have : (n : Int) ∈ satTo S m := by
      simp only [satTo, List.mem_map, List.mem_filter, List.mem_range, decide_eq_true_eq]
      exact ⟨n, ⟨hm, h⟩, rfl⟩
    obtain ⟨i, hi, he⟩ := List.getElem_of_mem this
    exact ⟨i, hi, by rw [gI_lt hi]; exact he⟩
  · rw [decide_eq_false h, hasB_no]
    intro i hi he
    have : (n : Int) ∈ satTo S m := by rw [← he, gI_lt hi]; exact List.getElem_mem hi
    simp only [satTo, List.mem_map, List.mem_filter, List.mem_range, decide_eq_true_eq] at this
    obtain ⟨x, ⟨_, hx⟩, hxe⟩ := this
    have : x = n := by omega
    subst this
    exact h hx
/-- A part of a column's sum is small. -/
theorem colT_bd {P S W E A : List Int} {R Q : List (List Int)} {m : Nat} (h : ClF P S W E A R Q m) {i k : Nat} (hi : i < m) (hk : k ≤ m) (h24 : m ≤ 24) : -2400000 ≤ sumTo (fun j => gI (gR R j) i * gI W j) k ∧ sumTo (fun j => gI (gR R j) i * gI W j) k ≤ 2400000 := by
  have := sumTo_bound (f := fun j => gI (gR R j) i * gI W j) (n := k) (-100000) 100000 (fun j hj => by
    have := mul_abs_le (B := 1) (C := 100000) (h.bR j (by omega) i hi) (h.bW j (by omega)); omega)
  omega
/-- The rows of a list of lists of known lengths, as they are read. -/
theorem RdR.atR {w : World} {a : Option Addr} {n m k : Nat} {R : List (List Int)} (h : RdR w (.slice a n k) R) (hn : R.length = n) (hp : 0 < n) (hr : ∀ i, i < n → (gR R i).length = m) : ∃ b off, a = some ⟨b, off, none⟩ ∧ b < w.heap.size ∧ ∀ i, i < n → ∃ ar kr, w.cell? ⟨b, off + i, none⟩ = some (.slice ar m kr) ∧ Rd w (.slice ar m kr) (gR R i) := by
  subst hn
  obtain ⟨b, off, cap, he, _, _, hb, hc⟩ := h.cells hp
  injection he with e1 _ _
  refine ⟨b, off, e1, hb, fun i hi => ?_⟩
  obtain ⟨u, hu, hrd⟩ := hc i hi
  obtain ⟨ar, kr, hv⟩ := hrd.len0
  rw [hr i hi] at hv
  subst hv
  exact ⟨ar, kr, hu, hrd⟩
/-- A part of a column's sum. -/
def colT (R : List (List Int)) (W : List Int) (i k : Nat) : Int := sumTo (fun j => gI (gR R j) i * gI W j) k
theorem colT_succ (R : List (List Int)) (W : List Int) (i k : Nat) : colT R W i (k + 1) = colT R W i k + gI (gR R k) i * gI W k := rfl
theorem colT_small {P S W E A : List Int} {R Q : List (List Int)} {m : Nat} (h : ClF P S W E A R Q m) {i k : Nat} (hi : i < m) (hk : k ≤ m) (h24 : m ≤ 24) : -2400000 ≤ colT R W i k ∧ colT R W i k ≤ 2400000 := colT_bd h hi hk h24
theorem colT_all {P S W E A : List Int} {R Q : List (List Int)} {m : Nat} (h : ClF P S W E A R Q m) {i : Nat} (hi : i < m) : colT R W i m = gI E i := h.col i hi
theorem dot_small {P S W E A : List Int} {R Q : List (List Int)} {m : Nat} (h : ClF P S W E A R Q m) {i : Nat} (hi : i < m) : ∀ t, t < m → -100000000000000000 ≤ gI (gR R i) t * gI A t ∧ gI (gR R i) t * gI A t ≤ 100000000000000000 := fun t ht => by
  have := mul_abs_le (B := 1) (C := 1677721500000) (h.bR i hi t ht) (h.bA t ht)
  omega
theorem Drew.to {w w' : World} (h : Drew w w') : Drew w w'.drew := h.trans (Drew.one _ _)
end Go.Proofs.Ytiinceflafigeaa
