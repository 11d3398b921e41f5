/- Contracts: impl.exceptionalMatrix: the intersection matrix. -/
import Derived.Test.YtglghdkjppcedaaGreatDoorPart7
import Derived.StillTailTactics
import Derived.Test.YtglghdkjppcedaaGreatDoorPart2
import Derived.Test.YtglghdkjppcedaaGreatDoorPart6
import Derived.Deep.RegionHeld3
import Derived.Test.YtglghdkjppcedaaGreatDoorPart3
namespace Go.Proofs.YtglghdkjppcedaaGreatDoor
open Go.RowKit

/-- The number at i, k after the first r rows. -/
def emI (P S : List Int) (i k r : Nat) : Int := -(sumTo (fun j => gI (pmRow P S P.length j) i * gI (pmRow P S P.length j) k) r)
theorem emI_succ (P S : List Int) (i k r : Nat) : emI P S i k (r + 1) = emI P S i k r - gI (pmRow P S P.length r) i * gI (pmRow P S P.length r) k := by unfold emI; rw [sumTo_succ]; omega
theorem pm_one (P S : List Int) (j i : Nat) : -1 ≤ gI (pmRow P S P.length j) i ∧ gI (pmRow P S P.length j) i ≤ 1 := by
  by_cases h : i < P.length
  · rw [gI_pmRow h]; split
    · omega
    · split <;> omega
  · simp [gI, List.getD, List.getElem?_eq_none (show (pmRow P S P.length j).length ≤ i by simp; omega)]
theorem emI_bd (P S : List Int) (i k r : Nat) : -(r : Int) ≤ emI P S i k r ∧ emI P S i k r ≤ r := by
  have := sumTo_bound (f := fun j => gI (pmRow P S P.length j) i * gI (pmRow P S P.length j) k) (n := r) (-1) 1 (fun j _ => mul_abs_le (B := 1) (C := 1) (pm_one P S j i) (pm_one P S j k))
  unfold emI
  omega
/-- The row i' while the row r of the proximity matrix is worked in: up to the place i, k. -/
def emS (P S : List Int) (r i k i' : Nat) : List Int := (List.range P.length).map fun c => emI P S i' c (if i' < i ∨ (i' = i ∧ c < k) then r + 1 else r)
@[simp] theorem emS_len (P S : List Int) (r i k i' : Nat) : (emS P S r i k i').length = P.length := by simp [emS]
theorem gI_emS {P S : List Int} {r i k i' c : Nat} (h : c < P.length) : gI (emS P S r i k i') c = emI P S i' c (if i' < i ∨ (i' = i ∧ c < k) then r + 1 else r) := by rw [gI_lt (by simpa using h)]; simp [emS]
theorem emS_zero (P S : List Int) (i' : Nat) : emS P S 0 0 0 i' = zeroL P.length := by
  apply gI_ext (by simp)
  intro c hc
  rw [gI_emS (by simpa using hc), gI_zeroL, if_neg (by omega)]
  simp [emI, sumTo]
theorem emS_step {P S : List Int} {r i k : Nat} (hk : k < P.length) : (emS P S r i k i).set k (emI P S i k r - gI (pmRow P S P.length r) i * gI (pmRow P S P.length r) k) = emS P S r i (k + 1) i := by
  apply gI_ext (by simp)
  intro c hc
  have hc' : c < P.length := by simpa using hc
  rw [gI_set, gI_emS hc', gI_emS hc', emS_len]
  by_cases e : k = c
  · subst e; rw [if_pos ⟨rfl, hk⟩, if_pos (by omega), emI_succ]
  · rw [if_neg (fun h => e h.1)]
    by_cases e2 : c < k
    · rw [if_pos (by omega), if_pos (by omega)]
    · rw [if_neg (by omega), if_neg (by omega)]
theorem emS_other {P S : List Int} {r i k i' : Nat} (h : i' ≠ i) : emS P S r i k i' = emS P S r i (k + 1) i' := by
  apply gI_ext (by simp)
  intro c hc
  have hc' : c < P.length := by simpa using hc
  rw [gI_emS hc', gI_emS hc']
  by_cases e2 : i' < i
  · rw [if_pos (by omega), if_pos (by omega)]
  · rw [if_neg (by omega), if_neg (by omega)]
theorem emS_row {P S : List Int} {r i : Nat} (i' : Nat) : emS P S r i P.length i' = emS P S r (i + 1) 0 i' := by
  apply gI_ext (by simp)
  intro c hc
  have hc' : c < P.length := by simpa using hc
  rw [gI_emS hc', gI_emS hc']
  by_cases e2 : i' < i + 1
  · rw [if_pos (by omega), if_pos (by omega)]
  · rw [if_neg (by omega), if_neg (by omega)]
theorem emS_all {P S : List Int} {r : Nat} {i' : Nat} (h : i' < P.length) : emS P S r P.length 0 i' = emS P S (r + 1) 0 0 i' := by
  apply gI_ext (by simp)
  intro c hc
  have hc' : c < P.length := by simpa using hc
  rw [gI_emS hc', gI_emS hc', if_pos (by omega), if_neg (by omega)]
def emRow (P S : List Int) (i : Nat) : List Int := (List.range P.length).map fun k => emI P S i k P.length
@[simp] theorem emRow_len (P S : List Int) (i : Nat) : (emRow P S i).length = P.length := by simp [emRow]
theorem gI_emRow {P S : List Int} {i k : Nat} (h : k < P.length) : gI (emRow P S i) k = emI P S i k P.length := by rw [gI_lt (by simpa using h)]; simp [emRow]
theorem emS_end {P S : List Int} (i' : Nat) : emS P S P.length 0 0 i' = emRow P S i' := by
  apply gI_ext (by simp)
  intro c hc
  have hc' : c < P.length := by simpa using hc
  rw [gI_emS hc', gI_emRow hc', if_neg (by omega)]

set_option maxRecDepth 100000 in
set_option maxHeartbeats 4000000 in
theorem exceptionalMatrix_c (p s q : Value) (P S W : List Int) (w : World) (hp : Rd w p P) (hs : Rd w s S) (hq : Rd w q W) (hc : CluOk P S W) :
    Calls Tryz.prog 44 #[.agg #[p, s, q]] w (RetR w P.length (emRow P S)) := by
  have hx := Boxed.start w 26 #[p, s, q]
  have h0 := hc.1.1
  have h24 := hc.1.2.1
  have HC := Lib.hid hc
  clear hc
  have c0 := hx.cell 0
  have c1 := hx.cell 1
  have c2 := hx.cell 2
  go_enter Tryz.func44, Tryz.ntmps44
  go_wp2_with fail
  refine (proximityMatrix_c _ _ _ P S W _ (hx.rd hp) (hx.rd hs) (hx.rd hq) HC.out).mono ?_
  rintro e w1 ⟨gp, Vp, rfl, hRp, hb1⟩
  have hx1 := hx.trans hb1
  have hs1 : w.heap.size + 1 ≤ w1.heap.size := hx1.size
  clear c0 c1 c2
  go_wp2_with fail
  refine (square_c P.length _ h0 (by omega)).mono ?_
  rintro e w2 ⟨g, V, rfl, hR, hb2⟩
  have hpos : ∀ i, i < P.length → ∃ gi cap, V i = .slice (some ⟨gi, 0, none⟩) P.length cap ∧ w1.heap.size ≤ gi := fun i hi => by
    obtain ⟨gi, cap, e1, e2, _⟩ := hR.pos hi (by simp; omega)
    exact ⟨gi, cap, by simpa using e1, e2⟩
  have hposp : ∀ i, i < P.length → ∃ gi cap, Vp i = .slice (some ⟨gi, 0, none⟩) P.length cap := fun i hi => by
    obtain ⟨gi, cap, e1, _⟩ := hRp.pos hi (by simp; omega)
    exact ⟨gi, cap, by simpa using e1⟩
  go_wp2_with fail
  go_loopw [6, 7, 8, 9, 10, 18, 24, 31] (fun _ _ _ _ _ i _ _ wr => ∃ r : Nat, r ≤ P.length ∧ i = .int .i64 r ∧ Rows 2 wr w1.heap.size g P.length V (emS P S r 0 0) ∧ Below w1.heap.size w1 wr) (fun _ _ _ _ _ i _ _ _ => P.length - (intOf i).toNat)
  case atStart => exact ⟨0, Nat.zero_le _, rfl, hR.congr (fun i _ => (emS_zero P S i).symm), hb2⟩
  case round =>
    obtain ⟨r, hr, rfl, hrow, hbl⟩ := hrel
    clear hR hb2
    obtain ⟨wo, rfl⟩ : ∃ wo : World, wo = wr := ⟨_, rfl⟩
    by_cases hlt : r < P.length
    · have hRo := hRp.below hbl
      have d16 := hRo.cell r hlt
      obtain ⟨gr, cr, hVr⟩ := hposp r hlt
      rw [hVr] at d16
      have hri : (r : Int) < (P.length : Int) := by omega
      clear hRo
      go_wp2_with fail
      go_loopw [7, 8, 9, 10, 24, 31] (fun _ _ _ _ i _ wr => ∃ i' : Nat, i' ≤ P.length ∧ i = .int .i64 i' ∧ Rows 2 wr w1.heap.size g P.length V (emS P S r i' 0) ∧ Below w1.heap.size w1 wr) (fun _ _ _ _ i _ _ => P.length - (intOf i).toNat)
      case atStart => exact ⟨0, Nat.zero_le _, rfl, hrow, hbl⟩
      case round =>
        obtain ⟨i, hi, rfl, hrow2, hbl2⟩ := hrel
        clear hrow hbl d16
        obtain ⟨wq, rfl⟩ : ∃ wq : World, wq = wr := ⟨_, rfl⟩
        by_cases hit : i < P.length
        · have hRo := (hRp.below hbl2).row r hlt
          rw [hVr] at hRo
          have hRo' : OwnI wq (w.heap.size + 1) (.slice (some ⟨gr, 0, none⟩) (pmRow P S P.length r).length cr) (pmRow P S P.length r) := by
            have := hRo
            rw [pmRow_len]; simpa using this
          have dx := hRo'.cell i (by simpa using hit)
          have hii : (i : Int) < (P.length : Int) := by omega
          have bx := pm_one P S r i
          clear hRo hRo'
          have HX := Lib.hid (rfl : gI (pmRow P S P.length r) i = gI (pmRow P S P.length r) i)
          generalize hxg : gI (pmRow P S P.length r) i = x at dx bx
          clear HX
          go_wp2_with fail
          go_loopw [9, 10, 31] (fun _ _ i0 wr => ∃ k : Nat, k ≤ P.length ∧ i0 = .int .i64 k ∧ Rows 2 wr w1.heap.size g P.length V (emS P S r i k) ∧ Below w1.heap.size w1 wr) (fun _ _ i0 _ => P.length - (intOf i0).toNat)
          case atStart => exact ⟨0, Nat.zero_le _, rfl, hrow2, hbl2⟩
          case round =>
            obtain ⟨k, hk, rfl, hrow3, hbl3⟩ := hrel
            clear hrow2 hbl2 dx
            obtain ⟨wt, rfl⟩ : ∃ wt : World, wt = wr := ⟨_, rfl⟩
            by_cases hkt : k < P.length
            · have hRo := (hRp.below hbl3).row r hlt
              rw [hVr] at hRo
              have hRo' : OwnI wt (w.heap.size + 1) (.slice (some ⟨gr, 0, none⟩) (pmRow P S P.length r).length cr) (pmRow P S P.length r) := by
                have := hRo
                rw [pmRow_len]; simpa using this
              have dy := hRo'.cell k (by simpa using hkt)
              have hki : (k : Int) < (P.length : Int) := by omega
              have bY := pm_one P S r k
              obtain ⟨gi, ci, hVi, hgi⟩ := hpos i hit
              have d4 := hrow3.cell i hit
              rw [hVi] at d4
              have hV' : V i = .slice (some ⟨gi, 0, none⟩) (emS P S r i k i).length ci := by simpa using hVi
              have hset := hrow3.setRow hit hV' k (emI P S i k r - gI (pmRow P S P.length r) i * gI (pmRow P S P.length r) k)
              have hrk := hrow3.row i hit
              rw [hVi] at hrk
              have hrk' : OwnI wt w1.heap.size (.slice (some ⟨gi, 0, none⟩) (emS P S r i k i).length ci) (emS P S r i k i) := by simpa using hrk
              have cz := hrk'.cell k (by simpa using hkt)
              rw [gI_emS hkt, if_neg (by omega)] at cz
              have fz := hrk'.free k
              have hin := hset.congr (R' := emS P S r i (k + 1)) (fun i' _ => by
                unfold upd
                split
                · rename_i e; rw [e]; exact emS_step hkt
                · rename_i e; exact emS_other e)
              have hbl4 := hbl3.setCell (p := ⟨gi, k, none⟩) hgi (.int .i64 (emI P S i k r - gI (pmRow P S P.length r) i * gI (pmRow P S P.length r) k))
              have HI := Lib.hid hin
              have HB := Lib.hid hbl4
              have bz := emI_bd P S i k r
              clear hRo hRo' hset hrk hrk' hin hbl4 hV' hrow3 hbl3
              rw [hxg] at HI HB
              generalize gI (pmRow P S P.length r) k = y at dy bY HI HB
              generalize emI P S i k r = z at cz bz HI HB
              have hm := mul_abs_le (B := 1) (C := 1) bx bY
              obtain ⟨m1, m2⟩ := hm
              have e2 : IntKind.i64.wrap (x * y) = x * y := IntWalk.i64_in _ (by omega)
              have e4 : IntKind.i64.wrap (z - x * y) = z - x * y := IntWalk.i64_in _ (by omega)
              go_wp2
              go_roundw
              case rel => exact ⟨k + 1, by omega, by go_num, HI.out, HB.out⟩
              case measure => simp [intOf]; omega
            · have hk' : k = P.length := by omega
              subst hk'
              have hfin := hrow3.congr (R' := emS P S r (i + 1) 0) (fun i' _ => emS_row i')
              go_wp2
              go_roundw
              case rel => exact ⟨i + 1, by omega, by go_num, hfin, hbl3⟩
              case measure => simp [intOf]; omega
        · have hi' : i = P.length := by omega
          subst hi'
          have hfin := hrow2.congr (R' := emS P S (r + 1) 0 0) (fun i' h' => emS_all h')
          go_wp2
          go_roundw
          case rel => exact ⟨r + 1, by omega, by go_num, hfin, hbl2⟩
          case measure => simp [intOf]; omega
    · go_wp2
      have hr' : r = P.length := by omega
      subst hr'
      go_ret
      exact ⟨_, _, rfl, (hrow.congr (fun i hi => emS_end i)).base_le (by omega), (hx1.below).trans (hbl.mono (by omega))⟩
end Go.Proofs.YtglghdkjppcedaaGreatDoor

/- Contracts: spec.l07Meet: the reference's intersection matrix. -/
namespace Go.Proofs.YtglghdkjppcedaaGreatDoor
open Go.RowKit

def emTo (P S : List Int) (i k : Nat) : List Int := (List.range k).map fun c => emI P S i c P.length
@[simp] theorem emTo_len (P S : List Int) (i k : Nat) : (emTo P S i k).length = k := by simp [emTo]
end Go.Proofs.YtglghdkjppcedaaGreatDoor

/- Contracts: ExceptionalMatrix. -/
namespace Go.Proofs.YtglghdkjppcedaaGreatDoor
open Go.RowKit

/-- The intersection matrix. -/
def emL (P S : List Int) : List (List Int) := (List.range P.length).map (emRow P S)
theorem emL_len (P S : List Int) : (emL P S).length = P.length := by simp [emL]
theorem emL_row {P S : List Int} {j : Nat} (h : j < (emL P S).length) : (gR (emL P S) j).length = P.length := by rw [emL_len] at h; unfold emL; rw [gR_map h, emRow_len]
theorem exceptionalMatrix_m (p s q : Value) (P S W : List Int) (w : World) (hp : Rd w p P) (hs : Rd w s S) (hq : Rd w q W) (hc : CluOk P S W) :
    Calls Tryz.prog 44 #[.agg #[p, s, q]] w (RetM 2 w (emL P S)) :=
  (exceptionalMatrix_c p s q P S W w hp hs hq hc).mono fun e w' h => retM_of_rows (by have := hc.1; omega) h

set_option maxHeartbeats 1000000 in
theorem implExceptionalMatrix_yes (p s q : Value) (P S W : List Int) (w : World) (hp : Rd w p P) (hs : Rd w s S) (hq : Rd w q W) (hc : cluB P S W = true) :
    Calls Tryz.prog 12 #[.agg #[p, s, q]] w (RetMC 2 w (emL P S) 0) := by
  have hx := Boxed.start w 26 #[p, s, q]
  have hcl := cluB_iff.1 hc
  obtain ⟨a1, k1, rfl⟩ := hp.len0
  obtain ⟨a2, k2, rfl⟩ := hs.len0
  obtain ⟨a3, k3, rfl⟩ := hq.len0
  have HC := Lib.hid hcl
  clear hcl
  go_enter Tryz.func12, Tryz.ntmps12
  go_wp2_with fail
  refine (implIsCluster_c _ _ _ P S W _ (hx.rd hp) (hx.rd hs) (hx.rd hq)).mono ?_
  rintro e w1 ⟨rfl, hb⟩
  have hx1 := hx.trans hb
  have c0 := hx1.cell 0
  have c1 := hx1.cell 1
  have c2 := hx1.cell 2
  go_wp2_with fail
  refine (exceptionalMatrix_m _ _ _ P S W _ (hx1.rd hp) (hx1.rd hs) (hx1.rd hq) HC.out).mono ?_
  rintro e w2 ⟨a, k, V, rfl, ho, hb2⟩
  go_wp2
  go_ret2
  exact retMC_mk (ho.base_le (Nat.le_of_lt hx1.size)) (hx1.trans hb2).below

end Go.Proofs.YtglghdkjppcedaaGreatDoor

/- Contract: impl.excessesOf. -/
namespace Go.Proofs.YtglghdkjppcedaaGreatDoor
open Go.RowKit

set_option maxRecDepth 100000 in
set_option maxHeartbeats 4000000 in
theorem excessesOf_c (v u : Value) (R : List (List Int)) (W : List Int) (w : World) (h : RdR w v R) (hu : Rd w u W) (hok : ExOk R W) (hp : 0 < W.length) :
    Calls Tryz.prog 68 #[v, u] w (RetI w (exTo R W R.length)) := by
  have hl1 := hok.len
  have hl2 := hok.lim
  obtain ⟨a, cap, rfl, hcap1, hcap2, hrd⟩ := h
  obtain ⟨bw, ow, cw, rfl, hw1, hw2, hwb, hwc⟩ := hu.cells hp
  go_enter Tryz.func68, Tryz.ntmps68
  go_wp2_with fail
  refine (clone_c _ W _ hu hp (by omega)).mono ?_
  rintro e w1 ⟨g, k, rfl, hown, hb⟩
  obtain ⟨g', gc, hge, hg0, hg1, hg2, hg3⟩ := Own.pos hown hp
  injection hge with hge1 hge2 hge3
  subst hge1 hge3
  have hg1' := hb.size
  clear hge2
  go_wp2_with fail
  go_loopw [6, 7, 9, 14, 21] (fun _ _ _ i _ wr => ∃ j : Nat, j ≤ R.length ∧ i = .int .i64 j ∧ OwnI wr w.heap.size (.slice (some ⟨g', 0, none⟩) W.length k) (exTo R W j) ∧ Below w.heap.size w wr) (fun _ _ _ i _ _ => R.length - (intOf i).toNat)
  case atStart => exact ⟨0, Nat.zero_le _, rfl, hown, hb⟩
  case round =>
    obtain ⟨j, hj, rfl, hown2, hbl⟩ := hrel
    clear hown hb
    by_cases hlt : j < R.length
    · obtain ⟨b, off, rfl, hrb, hcs⟩ := hrd (by intro e; simp [e] at hlt)
      obtain ⟨ur, hur, hru⟩ := hcs j hlt
      have hu' : wr.cell? ⟨b, off + j, none⟩ = some ur := by rw [hbl.cell (p := ⟨b, off + j, none⟩) hrb]; exact hur
      have hrow := hok.row j hlt
      have hrl := hok.rowlen j hlt
      have hWj := hwc j (by omega)
      have hnum := hok.num j
      have hjW : (j : Int) < (W.length : Int) := by omega
      obtain ⟨ar, kr, rfl, hr1, hr2, hrr⟩ := hru
      clear hcs hur
      go_wp2_with fail
      go_loopw [9, 21] (fun _ i wr => ∃ m : Nat, m ≤ (gR R j).length ∧ i = .int .i64 m ∧ OwnI wr w.heap.size (.slice (some ⟨g', 0, none⟩) W.length k) (decTo (gR R j) (gI W j) (exTo R W j) m) ∧ Below w.heap.size w wr) (fun _ i _ => (gR R j).length - (intOf i).toNat)
      case atStart => exact ⟨0, Nat.zero_le _, rfl, hown2, hbl⟩
      case round =>
        obtain ⟨m, hm, rfl, hown3, hbl3⟩ := hrel
        clear hown2 hbl hu'
        obtain ⟨wo, rfl⟩ : ∃ wo : World, wo = wr := ⟨_, rfl⟩
        by_cases hmt : m < (gR R j).length
        · obtain ⟨b2, off2, rfl, hb2, hcs2⟩ := hrr (ne_of_lt_len hmt)
          have hc2 : wo.cell? ⟨b2, off2 + m, none⟩ = some (.int .i64 (gI (gR R j) m)) := by rw [hbl3.cell (p := ⟨b2, off2 + m, none⟩) hb2]; exact hcs2 m hmt
          have hcW : wo.cell? ⟨bw, ow + j, none⟩ = some (.int .i64 (gI W j)) := by rw [hbl3.cell (p := ⟨bw, ow + j, none⟩) hwb]; exact hWj
          have hxr := hrow m hmt
          have hlen := decTo_len (gR R j) (gI W j) (exTo R W j) m
          rw [exTo_len] at hlen
          have hO : OwnI wo w.heap.size (.slice (some ⟨g', 0, none⟩) (decTo (gR R j) (gI W j) (exTo R W j) m).length k) (decTo (gR R j) (gI W j) (exTo R W j) m) := by rw [hlen]; exact hown3
          have hcell := hO.cell (gI (gR R j) m).toNat (by rw [hlen]; omega)
          have hfree := hO.free (gI (gR R j) m).toNat
          have hsm := ex_small hok hlt (Nat.le_of_lt hmt) (gI (gR R j) m).toNat
          have hset := hO.set (gI (gR R j) m).toNat (gI (decTo (gR R j) (gI W j) (exTo R W j) m) (gI (gR R j) m).toNat - gI W j)
          have hset2 : OwnI (wo.setCell ⟨g', (gI (gR R j) m).toNat, none⟩ (.int .i64 (gI (decTo (gR R j) (gI W j) (exTo R W j) m) (gI (gR R j) m).toNat - gI W j))) w.heap.size (.slice (some ⟨g', 0, none⟩) W.length k) (decTo (gR R j) (gI W j) (exTo R W j) (m + 1)) := by
            rw [hlen] at hset; exact hset
          have hbl4 := hbl3.setCell (p := ⟨g', (gI (gR R j) m).toNat, none⟩) hg0 (.int .i64 (gI (decTo (gR R j) (gI W j) (exTo R W j) m) (gI (gR R j) m).toNat - gI W j))
          clear hset hO hown3 hlen hcs2 hrr hrow
          have HS := Lib.hid hset2
          have HB := Lib.hid hbl4
          clear hset2 hbl4
          generalize gI (decTo (gR R j) (gI W j) (exTo R W j) m) (gI (gR R j) m).toNat = y at hcell hsm HS HB
          generalize gI W j = z at hcW hnum HS HB
          generalize gI (gR R j) m = x at hc2 hcell hfree hxr HS HB
          obtain ⟨hx0, hx1⟩ := hxr
          obtain ⟨hs0, hs1⟩ := hsm
          obtain ⟨hn0, hn1⟩ := hnum
          go_wp2_with fail
          go_still_tail 10, (by kernel_rfl)
          change wpList _ _ _ _ _ wo.drew
          go_wp2
          go_roundw
          case rel => exact ⟨m + 1, by omega, by go_num, HS.out, HB.out.drew⟩
          case measure => simp [intOf]; omega
        · have hm' : m = (gR R j).length := by omega
          subst hm'
          go_wp2
          go_roundw
          case rel => exact ⟨j + 1, by omega, by go_num, hown3, hbl3⟩
          case measure => simp [intOf]; omega
    · go_wp2
      have hj' : j = R.length := by omega
      subst hj'
      go_ret
      exact retI_mk hown2 hbl
end Go.Proofs.YtglghdkjppcedaaGreatDoor

/- Contracts: impl.excesses, slices.Min, impl.consistent. -/
namespace Go.Proofs.YtglghdkjppcedaaGreatDoor
open Go.RowKit

set_option maxHeartbeats 1000000 in
theorem excesses_c (p s q : Value) (P S W : List Int) (w : World) (hp : Rd w p P) (hs : Rd w s S) (hq : Rd w q W) (hc : CluOk P S W) :
    Calls Tryz.prog 42 #[.agg #[p, s, q]] w (RetI w (exTo (proxL P S) W P.length)) := by
  have hx := Boxed.start w 26 #[p, s, q]
  have hlW : W.length = P.length := by have := hc.1; omega
  have hok := exOk_clu hc hlW (fun i hi => by have := hc.2.1 i hi; omega)
  have hp0 : 0 < W.length := by have := hc.1; omega
  have hcl1 : S.length = P.length := hc.1.2.2.1
  have hcl2 : 0 < P.length := hc.1.1
  have hcl3 : P.length ≤ 24 := hc.1.2.1
  have hcl4 : P.length ≤ 9223372036854775807 := by omega
  go_enter Tryz.func42, Tryz.ntmps42
  have c0 := hx.cell 0
  have c1 := hx.cell 1
  have c2 := hx.cell 2
  go_wp2_with fail
  have hx0 := hx.trans (Below.refl _ _).drew
  have HC : (w.alloc (.cells #[p, s, q] 26)).drew.cell? ⟨w.heap.size, 0, none⟩ = some p ∧ (w.alloc (.cells #[p, s, q] 26)).drew.cell? ⟨w.heap.size, 1, none⟩ = some s ∧ (w.alloc (.cells #[p, s, q] 26)).drew.cell? ⟨w.heap.size, 2, none⟩ = some q := ⟨hx0.cell 0, hx0.cell 1, hx0.cell 2⟩
  clear c0 c1 c2
  go_region_held3 (fun w' => w'.cell? ⟨w.heap.size, 0, none⟩ = some p ∧ w'.cell? ⟨w.heap.size, 1, none⟩ = some s ∧ w'.cell? ⟨w.heap.size, 2, none⟩ = some q)
    (first | assumption | exact HC)
    (first
      | (go_at_call 36; (with_reducible refine (clusterProximates_c _ _ _ P S W _ (hx0.rd hp) (hx0.rd hs) (hx0.rd hq) hcl1 hcl2 hcl3).mono ?_); rintro e w1 ⟨g, V, rfl, hrow, hb⟩; have hx1 := hx0.trans hb; have hrd := hrow.rd (cap := P.length) (Nat.le_refl _) hcl4; have HC : w1.cell? ⟨w.heap.size, 0, none⟩ = some p ∧ w1.cell? ⟨w.heap.size, 1, none⟩ = some s ∧ w1.cell? ⟨w.heap.size, 2, none⟩ = some q := ⟨hx1.cell 0, hx1.cell 1, hx1.cell 2⟩)
      | (go_at_call 68; (with_reducible refine (excessesOf_c _ _ (proxL P S) W _ hrd (hx1.rd hq) hok hp0).mono ?_); rintro e w2 ⟨a, k, rfl, ho, hb2⟩; have hx2 := hx1.trans hb2; have HC : w2.cell? ⟨w.heap.size, 0, none⟩ = some p ∧ w2.cell? ⟨w.heap.size, 1, none⟩ = some s ∧ w2.cell? ⟨w.heap.size, 2, none⟩ = some q := ⟨hx2.cell 0, hx2.cell 1, hx2.cell 2⟩))
  go_wp2
  go_ret
  rw [prox_len] at ho ⊢
  exact retI_mk (ho.base_le (Nat.le_of_lt hx1.size)) hx2.below

end Go.Proofs.YtglghdkjppcedaaGreatDoor

/- Contracts: spec.l07Excess, spec.l07Consistent, IsConsistent. -/
namespace Go.Proofs.YtglghdkjppcedaaGreatDoor
open Go.RowKit

end Go.Proofs.YtglghdkjppcedaaGreatDoor

/- Contracts: consistent, IsConsistent. -/
namespace Go.Proofs.YtglghdkjppcedaaGreatDoor
open Go.RowKit

end Go.Proofs.YtglghdkjppcedaaGreatDoor

/- Contracts: impl.weightsOfOrders, spec.l08OfOrders: orders led back to weights. -/
namespace Go.Proofs.YtglghdkjppcedaaGreatDoor
open Go.RowKit

/-- The weights of orders: the first k places are done. -/
def woTo (R : List (List Int)) (O : List Int) (k : Nat) : List Int := (List.range O.length).map fun j => if j < k then gI O j - sumTo (fun x => gI O (gI (gR R j) x).toNat) (gR R j).length else gI O j
@[simp] theorem woTo_len (R : List (List Int)) (O : List Int) (k : Nat) : (woTo R O k).length = O.length := by simp [woTo]
/-- A row half done. -/
def woIn (R : List (List Int)) (O : List Int) (k m : Nat) : List Int := (woTo R O k).set k (gI O k - sumTo (fun x => gI O (gI (gR R k) x).toNat) m)
@[simp] theorem woIn_len (R : List (List Int)) (O : List Int) (k m : Nat) : (woIn R O k m).length = O.length := by simp [woIn]
end Go.Proofs.YtglghdkjppcedaaGreatDoor

/- Contracts: spec.l07Simple: the weights of the simple cluster of a point. -/
namespace Go.Proofs.YtglghdkjppcedaaGreatDoor
open Go.RowKit

/-- Parent and second are not the same. -/
theorem clu_ne0 {P S W : List Int} (hc : CluOk P S W) {i : Nat} (hi : i < P.length) (hs : 0 ≤ gI S i) : gI P i ≠ gI S i ∧ gI S i < gI P i ∧ 0 < i := by
  have h0 : 0 < i := by
    rcases Nat.eq_zero_or_pos i with e | e
    · subst e; have := clu_zero hc; omega
    · exact e
  have hp := clu_place hc hi h0
  rcases (hc.2.2 i hi).1 with h | h
  · omega
  · obtain ⟨_, h1, h2, h3⟩ := h
    have hpi : (gI P i).toNat < P.length := by omega
    by_cases hz : (gI P i).toNat = 0
    · have := clu_zero hc
      rw [hz] at h3; omega
    · have := clu_place hc hpi (by omega)
      rcases h3 with h3 | ⟨_, h3⟩
      · omega
      · omega
theorem pow3 (j : Nat) : (1 : Int) ≤ 3 ^ j := by
  induction j with
  | zero => decide
  | succ j ih => rw [Int.pow_succ]; omega
theorem pow3_mono {i j : Nat} (h : i ≤ j) : (3 : Int) ^ i ≤ 3 ^ j := by
  induction j with
  | zero => rw [show i = 0 by omega]; exact Int.le_refl _
  | succ j ih =>
    by_cases e : i = j + 1
    · rw [e]; exact Int.le_refl _
    · have := ih (by omega); have := pow3 j; rw [Int.pow_succ]; omega
/-- L is on the way to M: the points j, .., 1 are left to be handed on; and no number is too large. -/
structure BackAt (P S M L : List Int) (j : Nat) : Prop where
  len : L.length = P.length
  eq : backTo P S j L = M
  bd : ∃ A : Int, (∀ k, -A ≤ gI L k ∧ gI L k ≤ A) ∧ A * 3 ^ j ≤ 1000000000000000
theorem BackAt.small {P S M L : List Int} {j : Nat} (h : BackAt P S M L j) (k : Nat) : -1000000000000000 ≤ gI L k ∧ gI L k ≤ 1000000000000000 := by
  obtain ⟨A, h1, h2⟩ := h.bd
  have hA : 0 ≤ A := by have := h1 0; omega
  have h3 := Int.mul_le_mul_of_nonneg_left (pow3 j) hA
  have := h1 k
  omega
theorem BackAt.step {P S M L : List Int} {j : Nat} (h : BackAt P S M L (j + 1)) : BackAt P S M (bStep P S L (j + 1)) j := by
  obtain ⟨A, h1, h2⟩ := h.bd
  refine ⟨by rw [bStep_len]; exact h.len, h.eq, 3 * A, fun k => bStep_bd h1 k, ?_⟩
  rw [Int.pow_succ] at h2
  have : 3 * A * 3 ^ j = A * (3 ^ j * 3) := by rw [Int.mul_comm (3 ^ j) 3, ← Int.mul_assoc, Int.mul_comm A 3]
  omega
theorem backAt_unit {P S W : List Int} (hc : CluOk P S W) {i : Nat} (hi : i < P.length) : BackAt P S (mRow P S i) (unitL P.length i) i := by
  refine ⟨by simp, back_unit hc hi, 1, fun k => ?_, ?_⟩
  · rw [gI_unit hi]; split <;> omega
  · have h24 := hc.1.2.1
    have := pow3_mono (show i ≤ 23 by omega)
    have e : (3 : Int) ^ 23 = 94143178827 := by decide +kernel
    omega

set_option maxRecDepth 100000 in
set_option maxHeartbeats 4000000 in
theorem l07Simple_c (p s q : Value) (P S W : List Int) (i : Nat) (w : World) (hp : Rd w p P) (hs : Rd w s S) (hc : CluOk P S W) (hi : i < P.length) :
    Calls Tryz.prog 39 #[.agg #[p, s, q], .int .i64 (i : Int)] w (RetI w (mRow P S i)) := by
  obtain ⟨i0, hi0, hz0, hz1, hz2⟩ := info_parts Tryz.infoI
  have hx := Boxed.start w 26 #[p, s, q]
  obtain ⟨bp, op, kp, rfl, hpc1, hpc2, hpb, hpc⟩ := hp.cells hc.1.1
  obtain ⟨bs, os, ks, rfl, hsc1, hsc2, hsb, hsc⟩ := hs.cells (by have := hc.1; omega)
  have h24 := hc.1.2.1
  have hp0 := hc.1.1
  have hl1 : P.length ≤ S.length := by have := hc.1; omega
  have hl4 : S.length ≤ P.length := by have := hc.1; omega
  have HC := Lib.hid hc
  clear hc
  have c0 := hx.cell 0
  go_enter Tryz.func39, Tryz.ntmps39
  go_wp2_with (at_make; refine wpList_make_full _ rfl (.tmp 9) (.tmp 9) 24 rfl (w.heap.size + 1) 2 i0 (.int .i64 0) 1 Tryz.underlying24 hi0 hz0 hz1 _ _ _ _ P.length rfl rfl rfl rfl ?c1 ?c2 ?c3 ?_)
  case c1 => rw [hz2]; omega
  case c2 => unfold maxLen; omega
  case c3 => simp
  intro w1 hown hgrow
  have hx1 : Boxed w w1 26 #[.slice (some ⟨bp, op, none⟩) P.length kp, .slice (some ⟨bs, os, none⟩) S.length ks, q] :=
    hx.trans ((Below.refl _ _).grown hgrow (Nat.le_refl _) (by simp))
  rw [toList_madeCells_one] at hown
  have ho1 := own_made hown
  clear hown hgrow hx c0
  have ho2 : OwnI w1 (w.heap.size + 1) (.slice (some ⟨w.heap.size + 1, 0, none⟩) (zeroL P.length).length P.length) (zeroL P.length) := by simpa using ho1
  have cz := ho2.cell i (by simpa using hi)
  have fz := ho2.free i
  have hset := ho2.set i 1
  rw [zeroL_len, show (zeroL P.length).set i 1 = unitL P.length i from rfl] at hset
  have hx2 := hx1.wrote ((Keeps.refl (fun k => w.heap.size + 1 ≤ k) w1).setCell (p := ⟨w.heap.size + 1, i, none⟩) (Nat.le_refl _) (.int .i64 1))
  have hii : (i : Int) < (P.length : Int) := by omega
  have HS := Lib.hid hset
  have HX := Lib.hid hx2
  clear ho1 ho2 hset hx1 hx2
  generalize gI (zeroL P.length) i = z0 at cz
  go_wp2
  go_loopw [6] (fun i' wr => ∃ j : Nat, ∃ L, j ≤ i ∧ i' = .int .i64 j ∧ BackAt P S (mRow P S i) L j ∧ OwnI wr (w.heap.size + 1) (.slice (some ⟨w.heap.size + 1, 0, none⟩) P.length P.length) L ∧ Boxed w wr 26 #[.slice (some ⟨bp, op, none⟩) P.length kp, .slice (some ⟨bs, os, none⟩) S.length ks, q]) (fun i' _ => (intOf i').toNat)
  case atStart => exact ⟨i, _, Nat.le_refl _, rfl, backAt_unit HC.out hi, HS.out, HX.out⟩
  case round =>
    obtain ⟨j, L, hj, rfl, hback, hown2, hbx⟩ := hrel
    clear HS HX
    obtain ⟨wo, rfl⟩ : ∃ wo : World, wo = wr := ⟨_, rfl⟩
    cases j with
    | zero =>
      go_wp2
      go_ret
      have : L = mRow P S i := hback.eq
      rw [← this]
      have hle := hback.len
      have hres : RetI w L (.returned (.slice (some ⟨w.heap.size + 1, 0, none⟩) P.length P.length)) wo := by
        refine ⟨_, P.length, by rw [hle], ?_, hbx.below⟩
        rw [hle]
        exact hown2.base_le (by omega)
      exact hres
    | succ j =>
      have hlt : j + 1 < P.length := by omega
      have hjL : ((j + 1 : Nat) : Int) < (P.length : Int) := by omega
      have hjS : ((j + 1 : Nat) : Int) < (S.length : Int) := by omega
      have hj0 : (0 : Int) ≤ ((j + 1 : Nat) : Int) := Int.natCast_nonneg _
      have hjp : (0 : Int) < ((j + 1 : Nat) : Int) := by omega
      have hst := hback.step
      have hsmall := hback.small
      have hlen := hback.len
      obtain ⟨hp1, hp2, hp3⟩ := clu_place HC.out hlt (by omega)
      generalize hjj : j + 1 = t at hlt hjL hjS hj0 hjp hst hp1 hp2 hp3
      have htj : t - 1 = j := by omega
      have c0 := hbx.cell 0
      have c1 := hbx.cell 1
      have dS : wo.cell? ⟨bs, os + t, none⟩ = some (.int .i64 (gI S t)) := by rw [hbx.below.cell (p := ⟨bs, os + t, none⟩) hsb]; exact hsc t (by omega)
      have dP : wo.cell? ⟨bp, op + t, none⟩ = some (.int .i64 (gI P t)) := by rw [hbx.below.cell (p := ⟨bp, op + t, none⟩) hpb]; exact hpc t hlt
      have hO : OwnI wo (w.heap.size + 1) (.slice (some ⟨w.heap.size + 1, 0, none⟩) L.length P.length) L := by rw [hlen]; exact hown2
      have hcell := hO.cell (gI P t).toNat (by rw [hlen]; omega)
      have hcellj := hO.cell t (by rw [hlen]; omega)
      have hfree := hO.free (gI P t).toNat
      have hs1 := hsmall (gI P t).toNat
      have hs2 := hsmall t
      have hset := hO.set (gI P t).toNat (gI L (gI P t).toNat + gI L t)
      have hbx4 := hbx.wrote ((Keeps.refl (fun k => w.heap.size + 1 ≤ k) wo).setCell (p := ⟨w.heap.size + 1, (gI P t).toNat, none⟩) (Nat.le_refl _) (.int .i64 (gI L (gI P t).toNat + gI L t)))
      by_cases hs : 0 ≤ gI S t
      · have hne := clu_ne0 HC.out hlt hs
        have hO2 : OwnI (wo.setCell ⟨w.heap.size + 1, (gI P t).toNat, none⟩ (.int .i64 (gI L (gI P t).toNat + gI L t))) (w.heap.size + 1) (.slice (some ⟨w.heap.size + 1, 0, none⟩) (inc L (gI P t) (gI L t)).length P.length) (inc L (gI P t) (gI L t)) := by rw [inc_len]; exact hset
        have hcell2 := hO2.cell (gI S t).toNat (by rw [inc_len, hlen]; omega)
        have hcellj2 := hO2.cell t (by rw [inc_len, hlen]; omega)
        rw [gI_inc, if_neg (by omega)] at hcell2 hcellj2
        have hfree2 := hO2.free (gI S t).toNat
        have hset2 := hO2.set (gI S t).toNat (gI L (gI S t).toNat + gI L t)
        have e2 : (inc L (gI P t) (gI L t)).set (gI S t).toNat (gI L (gI S t).toNat + gI L t) = bStep P S L t := by
          unfold bStep
          rw [if_pos hs]
          show _ = (inc L (gI P t) (gI L t)).set (gI S t).toNat (gI (inc L (gI P t) (gI L t)) (gI S t).toNat + gI L t)
          rw [gI_inc, if_neg (by omega)]
        rw [e2, inc_len, hlen] at hset2
        have hbx5 := hbx4.wrote ((Keeps.refl (fun k => w.heap.size + 1 ≤ k) _).setCell (p := ⟨w.heap.size + 1, (gI S t).toNat, none⟩) (Nat.le_refl _) (.int .i64 (gI L (gI S t).toNat + gI L t)))
        have hs3 := hsmall (gI S t).toNat
        have f1 := hbx4.cell 1
        have e1 : (wo.setCell ⟨w.heap.size + 1, (gI P t).toNat, none⟩ (.int .i64 (gI L (gI P t).toNat + gI L t))).cell? ⟨bs, os + t, none⟩ = some (.int .i64 (gI S t)) := by rw [hbx4.below.cell (p := ⟨bs, os + t, none⟩) hsb]; exact hsc t (by omega)
        have hxP : gI P t < (P.length : Int) := by omega
        have hxS : gI S t < (P.length : Int) := by omega
        have HS := Lib.hid hset2
        have HB := Lib.hid hbx5
        have HT := Lib.hid hst
        clear hset hset2 hO hO2 hown2 hbx hbx4 hbx5 hst hback hsmall e2 hne hlen
        generalize gI L (gI S t).toNat = z2 at hcell2 hs3 HS HB
        generalize gI L (gI P t).toNat = y at hcell hs1 HS HB hcell2 hfree2 e1 f1 hcellj2
        generalize gI L t = x at hcellj hs2 HS HB hcell2 hfree2 e1 f1 hcellj2
        generalize gI P t = a at dP hcell hfree hxP hp1 hp2 HS HB hcell2 hfree2 e1 f1 hcellj2
        generalize gI S t = b at dS hs hxS hp3 hcell2 hfree2 HS HB e1
        obtain ⟨q1, q2⟩ := hs1
        obtain ⟨q3, q4⟩ := hs2
        obtain ⟨q5, q6⟩ := hs3
        go_wp2_with fail
        go_still_tail 20, (by kernel_rfl)
        change wpList _ _ _ _ _ wo.drew
        go_wp2_with fail
        clear c0 c1 dS dP hcell hcellj hfree
        obtain ⟨wq, hW⟩ : ∃ wq : World, wq = (wo.setCell ⟨w.heap.size + 1, a.toNat, none⟩ (.int .i64 (y + x))).drew := ⟨_, rfl⟩
        replace f1 : wq.cell? ⟨w.heap.size, 1, none⟩ = some (.slice (some ⟨bs, os, none⟩) S.length ks) := by rw [hW]; exact f1
        replace e1 : wq.cell? ⟨bs, os + t, none⟩ = some (.int .i64 b) := by rw [hW]; exact e1
        replace hcell2 : wq.cell? ⟨w.heap.size + 1, b.toNat, none⟩ = some (.int .i64 z2) := by rw [hW]; exact hcell2
        replace hcellj2 : wq.cell? ⟨w.heap.size + 1, t, none⟩ = some (.int .i64 x) := by rw [hW]; exact hcellj2
        replace hfree2 : wq.frozen? ⟨w.heap.size + 1, b.toNat, none⟩ = false := by rw [hW]; exact hfree2
        replace HS : Hid (OwnI (wq.setCell ⟨w.heap.size + 1, b.toNat, none⟩ (.int .i64 (z2 + x))) (w.heap.size + 1) (.slice (some ⟨w.heap.size + 1, 0, none⟩) P.length P.length) (bStep P S L t)) := by rw [hW]; exact HS
        replace HB : Hid (Boxed w (wq.setCell ⟨w.heap.size + 1, b.toNat, none⟩ (.int .i64 (z2 + x))) 26 #[.slice (some ⟨bp, op, none⟩) P.length kp, .slice (some ⟨bs, os, none⟩) S.length ks, q]) := by rw [hW]; exact Lib.hid (HB.out.trans (Below.refl _ _).drew)
        rw [← hW]
        clear hW
        go_still_tail 20, (by kernel_rfl)
        change wpList _ _ _ _ _ wq.drew
        go_wp2
        go_roundw
        case rel => exact ⟨j, _, by omega, by go_num, HT.out, HS.out, HB.out.trans (Below.refl _ _).drew⟩
        case measure => simp [intOf]; omega
      · have e2 : L.set (gI P t).toNat (gI L (gI P t).toNat + gI L t) = bStep P S L t := by
          unfold bStep
          rw [if_neg hs]; rfl
        rw [e2, hlen] at hset
        have e1 : (wo.setCell ⟨w.heap.size + 1, (gI P t).toNat, none⟩ (.int .i64 (gI L (gI P t).toNat + gI L t))).cell? ⟨bs, os + t, none⟩ = some (.int .i64 (gI S t)) := by rw [hbx4.below.cell (p := ⟨bs, os + t, none⟩) hsb]; exact hsc t (by omega)
        have f1 := hbx4.cell 1
        have hxP : gI P t < (P.length : Int) := by omega
        have HS := Lib.hid hset
        have HB := Lib.hid hbx4
        have HT := Lib.hid hst
        clear hset hO hown2 hbx hbx4 hst hback hsmall e2 hlen
        generalize gI L (gI P t).toNat = y at hcell hs1 HS HB e1 f1
        generalize gI L t = x at hcellj hs2 HS HB e1 f1
        generalize gI P t = a at dP hcell hfree hxP hp1 hp2 HS HB e1 f1
        generalize gI S t = b at dS hs e1 hp3
        obtain ⟨q1, q2⟩ := hs1
        obtain ⟨q3, q4⟩ := hs2
        go_wp2_with fail
        go_still_tail 20, (by kernel_rfl)
        change wpList _ _ _ _ _ wo.drew
        go_wp2
        go_roundw
        case rel => exact ⟨j, _, by omega, by go_num, HT.out, HS.out, HB.out.trans (Below.refl _ _).drew⟩
        case measure => simp [intOf]; omega
end Go.Proofs.YtglghdkjppcedaaGreatDoor
