/- Contracts: impl.exceptionalMatrix: the intersection matrix. -/
import Derived.Test.YthfdkigljbdogaaPMatL
import Derived.StillTailTactics
namespace Go.Proofs.Ythfdkigljbdogaa
open Go.RowKit

/-- The number at i, k after the first r rows. -/
def emI (P S : List Int) (i k r : Nat) : Int := -(sumTo (fun j => gI (pmRow P S P.length j) i * gI (pmRow P S P.length j) k) r)
theorem emI_succ (P S : List Int) (i k r : Nat) : emI P S i k (r + 1) = emI P S i k r - gI (pmRow P S P.length r) i * gI (pmRow P S P.length r) k := by unfold emI; rw [sumTo_succ]; omega
theorem pm_one (P S : List Int) (j i : Nat) : -1 ≤ gI (pmRow P S P.length j) i ∧ gI (pmRow P S P.length j) i ≤ 1 := by
  by_cases h : i < P.length
  · rw [gI_pmRow h]; split
    · omega
    · split <;> omega
  · simp [gI, List.getD, List.getElem?_eq_none (show (pmRow P S P.length j).length ≤ i by simp; omega)]
theorem emI_bd (P S : List Int) (i k r : Nat) : -(r : Int) ≤ emI P S i k r ∧ emI P S i k r ≤ r := by
  have := sumTo_bound (f := fun j => gI (pmRow P S P.length j) i * gI (pmRow P S P.length j) k) (n := r) (-1) 1 (fun j _ => mul_abs_le (B := 1) (C := 1) (pm_one P S j i) (pm_one P S j k))
  unfold emI
  omega
/-- The row i' while the row r of the proximity matrix is worked in: up to the place i, k. -/
def emS (P S : List Int) (r i k i' : Nat) : List Int := (List.range P.length).map fun c => emI P S i' c (if i' < i ∨ (i' = i ∧ c < k) then r + 1 else r)
@[simp] theorem emS_len (P S : List Int) (r i k i' : Nat) : (emS P S r i k i').length = P.length := by simp [emS]
theorem gI_emS {P S : List Int} {r i k i' c : Nat} (h : c < P.length) : gI (emS P S r i k i') c = emI P S i' c (if i' < i ∨ (i' = i ∧ c < k) then r + 1 else r) := by rw [gI_lt (by simpa using h)]; simp [emS]
theorem emS_zero (P S : List Int) (i' : Nat) : emS P S 0 0 0 i' = zeroL P.length := by
  apply gI_ext (by simp)
  intro c hc
  rw [gI_emS (by simpa using hc), gI_zeroL, if_neg (by omega)]
  simp [emI, sumTo]
theorem emS_step {P S : List Int} {r i k : Nat} (hk : k < P.length) : (emS P S r i k i).set k (emI P S i k r - gI (pmRow P S P.length r) i * gI (pmRow P S P.length r) k) = emS P S r i (k + 1) i := by
  apply gI_ext (by simp)
  intro c hc
  have hc' : c < P.length := by simpa using hc
  rw [gI_set, gI_emS hc', gI_emS hc', emS_len]
  by_cases e : k = c
  · subst e; rw [if_pos ⟨rfl, hk⟩, if_pos (by omega), emI_succ]
  · rw [if_neg (fun h => e h.1)]
    by_cases e2 : c < k
    · rw [if_pos (by omega), if_pos (by omega)]
    · rw [if_neg (by omega), if_neg (by omega)]
theorem emS_other {P S : List Int} {r i k i' : Nat} (h : i' ≠ i) : emS P S r i k i' = emS P S r i (k + 1) i' := by
  apply gI_ext (by simp)
  intro c hc
  have hc' : c < P.length := by simpa using hc
  rw [gI_emS hc', gI_emS hc']
  by_cases e2 : i' < i
  · rw [if_pos (by omega), if_pos (by omega)]
  · rw [if_neg (by omega), if_neg (by omega)]
theorem emS_row {P S : List Int} {r i : Nat} (i' : Nat) : emS P S r i P.length i' = emS P S r (i + 1) 0 i' := by
  apply gI_ext (by simp)
  intro c hc
  have hc' : c < P.length := by simpa using hc
  rw [gI_emS hc', gI_emS hc']
  by_cases e2 : i' < i + 1
  · rw [if_pos (by omega), if_pos (by omega)]
  · rw [if_neg (by omega), if_neg (by omega)]
theorem emS_all {P S : List Int} {r : Nat} {i' : Nat} (h : i' < P.length) : emS P S r P.length 0 i' = emS P S (r + 1) 0 0 i' := by
  apply gI_ext (by simp)
  intro c hc
  have hc' : c < P.length := by simpa using hc
  rw [gI_emS hc', gI_emS hc', if_pos (by omega), if_neg (by omega)]
def emRow (P S : List Int) (i : Nat) : List Int := (List.range P.length).map fun k => emI P S i k P.length
@[simp] theorem emRow_len (P S : List Int) (i : Nat) : (emRow P S i).length = P.length := by simp [emRow]
theorem gI_emRow {P S : List Int} {i k : Nat} (h : k < P.length) : gI (emRow P S i) k = emI P S i k P.length := by rw [gI_lt (by simpa using h)]; simp [emRow]
theorem emS_end {P S : List Int} (i' : Nat) : emS P S P.length 0 0 i' = emRow P S i' := by
  apply gI_ext (by simp)
  intro c hc
  have hc' : c < P.length := by simpa using hc
  rw [gI_emS hc', gI_emRow hc', if_neg (by omega)]

set_option maxRecDepth 100000 in
set_option maxHeartbeats 4000000 in
theorem exceptionalMatrix_c (p s q : Value) (P S W : List Int) (w : World) (hp : Rd w p P) (hs : Rd w s S) (hq : Rd w q W) (hc : CluOk P S W) :
    Calls Try.prog 121 #[.agg #[p, s, q]] w (RetR w P.length (emRow P S)) := by
  have hx := Boxed.start w 47 #[p, s, q]
  have h0 := hc.1.1
  have h24 := hc.1.2.1
  have HC := Lib.hid hc
  clear hc
  have c0 := hx.cell 0
  have c1 := hx.cell 1
  have c2 := hx.cell 2
  go_enter Try.func121, Try.ntmps121
  go_wp2_with fail
  refine (proximityMatrix_c _ _ _ P S W _ (hx.rd hp) (hx.rd hs) (hx.rd hq) HC.out).mono ?_
  rintro e w1 ⟨gp, Vp, rfl, hRp, hb1⟩
  have hx1 := hx.trans hb1
  have hs1 : w.heap.size + 1 ≤ w1.heap.size := hx1.size
  clear c0 c1 c2
  go_wp2_with fail
  refine (square_c P.length _ h0 (by omega)).mono ?_
  rintro e w2 ⟨g, V, rfl, hR, hb2⟩
  have hpos : ∀ i, i < P.length → ∃ gi cap, V i = .slice (some ⟨gi, 0, none⟩) P.length cap ∧ w1.heap.size ≤ gi := fun i hi => by
    obtain ⟨gi, cap, e1, e2, _⟩ := hR.pos hi (by simp; omega)
    exact ⟨gi, cap, by simpa using e1, e2⟩
  have hposp : ∀ i, i < P.length → ∃ gi cap, Vp i = .slice (some ⟨gi, 0, none⟩) P.length cap := fun i hi => by
    obtain ⟨gi, cap, e1, _⟩ := hRp.pos hi (by simp; omega)
    exact ⟨gi, cap, by simpa using e1⟩
  go_wp2_with fail
  go_loopw [6, 7, 8, 9, 10, 18, 24, 31] (fun _ _ _ _ _ i _ _ wr => ∃ r : Nat, r ≤ P.length ∧ i = .int .i64 r ∧ Rows 2 wr w1.heap.size g P.length V (emS P S r 0 0) ∧ Below w1.heap.size w1 wr) (fun _ _ _ _ _ i _ _ _ => P.length - (intOf i).toNat)
  case atStart => exact ⟨0, Nat.zero_le _, rfl, hR.congr (fun i _ => (emS_zero P S i).symm), hb2⟩
  case round =>
    obtain ⟨r, hr, rfl, hrow, hbl⟩ := hrel
    clear hR hb2
    obtain ⟨wo, rfl⟩ : ∃ wo : World, wo = wr := ⟨_, rfl⟩
    by_cases hlt : r < P.length
    · have hRo := hRp.below hbl
      have d16 := hRo.cell r hlt
      obtain ⟨gr, cr, hVr⟩ := hposp r hlt
      rw [hVr] at d16
      have hri : (r : Int) < (P.length : Int) := by omega
      clear hRo
      go_wp2_with fail
      go_loopw [7, 8, 9, 10, 24, 31] (fun _ _ _ _ i _ wr => ∃ i' : Nat, i' ≤ P.length ∧ i = .int .i64 i' ∧ Rows 2 wr w1.heap.size g P.length V (emS P S r i' 0) ∧ Below w1.heap.size w1 wr) (fun _ _ _ _ i _ _ => P.length - (intOf i).toNat)
      case atStart => exact ⟨0, Nat.zero_le _, rfl, hrow, hbl⟩
      case round =>
        obtain ⟨i, hi, rfl, hrow2, hbl2⟩ := hrel
        clear hrow hbl d16
        obtain ⟨wq, rfl⟩ : ∃ wq : World, wq = wr := ⟨_, rfl⟩
        by_cases hit : i < P.length
        · have hRo := (hRp.below hbl2).row r hlt
          rw [hVr] at hRo
          have hRo' : OwnI wq (w.heap.size + 1) (.slice (some ⟨gr, 0, none⟩) (pmRow P S P.length r).length cr) (pmRow P S P.length r) := by
            have := hRo
            rw [pmRow_len]; simpa using this
          have dx := hRo'.cell i (by simpa using hit)
          have hii : (i : Int) < (P.length : Int) := by omega
          have bx := pm_one P S r i
          clear hRo hRo'
          have HX := Lib.hid (rfl : gI (pmRow P S P.length r) i = gI (pmRow P S P.length r) i)
          generalize hxg : gI (pmRow P S P.length r) i = x at dx bx
          clear HX
          go_wp2_with fail
          go_loopw [9, 10, 31] (fun _ _ i0 wr => ∃ k : Nat, k ≤ P.length ∧ i0 = .int .i64 k ∧ Rows 2 wr w1.heap.size g P.length V (emS P S r i k) ∧ Below w1.heap.size w1 wr) (fun _ _ i0 _ => P.length - (intOf i0).toNat)
          case atStart => exact ⟨0, Nat.zero_le _, rfl, hrow2, hbl2⟩
          case round =>
            obtain ⟨k, hk, rfl, hrow3, hbl3⟩ := hrel
            clear hrow2 hbl2 dx
            obtain ⟨wt, rfl⟩ : ∃ wt : World, wt = wr := ⟨_, rfl⟩
            by_cases hkt : k < P.length
            · have hRo := (hRp.below hbl3).row r hlt
              rw [hVr] at hRo
              have hRo' : OwnI wt (w.heap.size + 1) (.slice (some ⟨gr, 0, none⟩) (pmRow P S P.length r).length cr) (pmRow P S P.length r) := by
                have := hRo
                rw [pmRow_len]; simpa using this
              have dy := hRo'.cell k (by simpa using hkt)
              have hki : (k : Int) < (P.length : Int) := by omega
              have bY := pm_one P S r k
              obtain ⟨gi, ci, hVi, hgi⟩ := hpos i hit
              have d4 := hrow3.cell i hit
              rw [hVi] at d4
              have hV' : V i = .slice (some ⟨gi, 0, none⟩) (emS P S r i k i).length ci := by simpa using hVi
              have hset := hrow3.setRow hit hV' k (emI P S i k r - gI (pmRow P S P.length r) i * gI (pmRow P S P.length r) k)
              have hrk := hrow3.row i hit
              rw [hVi] at hrk
              have hrk' : OwnI wt w1.heap.size (.slice (some ⟨gi, 0, none⟩) (emS P S r i k i).length ci) (emS P S r i k i) := by simpa using hrk
              have cz := hrk'.cell k (by simpa using hkt)
              rw [gI_emS hkt, if_neg (by omega)] at cz
              have fz := hrk'.free k
              have hin := hset.congr (R' := emS P S r i (k + 1)) (fun i' _ => by
                unfold upd
                split
                · rename_i e; rw [e]; exact emS_step hkt
                · rename_i e; exact emS_other e)
              have hbl4 := hbl3.setCell (p := ⟨gi, k, none⟩) hgi (.int .i64 (emI P S i k r - gI (pmRow P S P.length r) i * gI (pmRow P S P.length r) k))
              have HI := Lib.hid hin
              have HB := Lib.hid hbl4
              have bz := emI_bd P S i k r
              clear hRo hRo' hset hrk hrk' hin hbl4 hV' hrow3 hbl3
              rw [hxg] at HI HB
              generalize gI (pmRow P S P.length r) k = y at dy bY HI HB
              generalize emI P S i k r = z at cz bz HI HB
              have hm := mul_abs_le (B := 1) (C := 1) bx bY
              obtain ⟨m1, m2⟩ := hm
              have e2 : IntKind.i64.wrap (x * y) = x * y := IntWalk.i64_in _ (by omega)
              have e4 : IntKind.i64.wrap (z - x * y) = z - x * y := IntWalk.i64_in _ (by omega)
              go_wp2
              go_roundw
              case rel => exact ⟨k + 1, by omega, by go_num, HI.out, HB.out⟩
              case measure => simp [intOf]; omega
            · have hk' : k = P.length := by omega
              subst hk'
              have hfin := hrow3.congr (R' := emS P S r (i + 1) 0) (fun i' _ => emS_row i')
              go_wp2
              go_roundw
              case rel => exact ⟨i + 1, by omega, by go_num, hfin, hbl3⟩
              case measure => simp [intOf]; omega
        · have hi' : i = P.length := by omega
          subst hi'
          have hfin := hrow2.congr (R' := emS P S (r + 1) 0 0) (fun i' h' => emS_all h')
          go_wp2
          go_roundw
          case rel => exact ⟨r + 1, by omega, by go_num, hfin, hbl2⟩
          case measure => simp [intOf]; omega
    · go_wp2
      have hr' : r = P.length := by omega
      subst hr'
      go_ret
      exact ⟨_, _, rfl, (hrow.congr (fun i hi => emS_end i)).base_le (by omega), (hx1.below).trans (hbl.mono (by omega))⟩
end Go.Proofs.Ythfdkigljbdogaa
