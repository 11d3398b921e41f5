/- Contracts for drawn branches: l03Pairs, l03Newton, l01Same2 by what is needed of them. -/
import Derived.Test.YtglghdkjppcedaaDoorPart18
import Derived.Test.YtglghdkjppcedaaDoorPart6
import Derived.Test.YtglghdkjppcedaaDoorPart20
import Derived.Test.YtglghdkjppcedaaDoorPart14
import Derived.Deep.RegionHeld3
import Derived.BigRegion
import Derived.Test.YtglghdkjppcedaaDoorPart3
import Derived.Test.YtglghdkjppcedaaDoorPart19
namespace Go.Proofs.YtglghdkjppcedaaDoor
open Go.RowKit

/-- The product of the first k seconds. -/
def prTo (R : List (Int × Int)) : Nat → Int
  | 0 => 1
  | k + 1 => prTo R k * (R.getD k (0, 0)).2
theorem prTo_succ (R : List (Int × Int)) (k : Nat) : prTo R (k + 1) = prTo R k * (R.getD k (0, 0)).2 := rfl
/-- The pairs are small. -/
def PairOk (R : List (Int × Int)) : Prop := R.length ≤ 6 ∧ ∀ i, i < R.length → 1 ≤ (R.getD i (0, 0)).1 ∧ (R.getD i (0, 0)).1 ≤ 2000 ∧ 1 ≤ (R.getD i (0, 0)).2 ∧ (R.getD i (0, 0)).2 ≤ 2000
theorem rowsOf_cells {w : World} {v : Value} {R : List (Int × Int)} (h : RdR w v (rowsOf R)) {i : Nat} (hi : i < R.length) : ∃ (b off : Nat) (bu ou cu : Nat), (∃ cap, v = .slice (some ⟨b, off, none⟩) R.length cap) ∧ b < w.heap.size ∧ w.cell? ⟨b, off + i, none⟩ = some (.slice (some ⟨bu, ou, none⟩) 2 cu) ∧ bu < w.heap.size ∧ w.cell? ⟨bu, ou, none⟩ = some (.int .i64 (R.getD i (0, 0)).1) ∧ w.cell? ⟨bu, ou + 1, none⟩ = some (.int .i64 (R.getD i (0, 0)).2) := by
  obtain ⟨b, off, cap, rfl, h1, h2, hb, hc⟩ := h.cells (by rw [rowsOf_len]; omega)
  obtain ⟨u, hu, hr⟩ := hc i (by rw [rowsOf_len]; exact hi)
  have e : gR (rowsOf R) i = [(R.getD i (0, 0)).1, (R.getD i (0, 0)).2] := by
    rw [gR_lt (by simpa using hi)]
    simp [rowsOf, List.getD, hi]
  rw [e] at hr
  obtain ⟨bu, ou, cu, rfl, _, _, hbu, hcu⟩ := hr.cells (by simp)
  exact ⟨b, off, bu, ou, cu, ⟨cap, by rw [rowsOf_len]⟩, hb, hu, hbu, hcu 0 (by simp), hcu 1 (by simp)⟩

def RetPr (R : List (Int × Int)) (w : World) (e : Ending) (w' : World) : Prop := ∃ n : Int, e = .returned (.int .i64 n) ∧ 0 ≤ n ∧ n ≤ 64 ∧ (n ≠ 0 → n = prTo R R.length) ∧ Below w.heap.size w w'
set_option maxHeartbeats 4000000 in
theorem l03Pairs_c (v : Value) (R : List (Int × Int)) (w : World) (h : RdR w v (rowsOf R)) (hR : PairOk R) :
    Calls Tryd.prog 66 #[v] w (RetPr R w) := by
  obtain ⟨a0, c0, rfl⟩ := h.len0
  rw [rowsOf_len] at h ⊢
  have hl := hR.1
  have HB := Lib.hid hR.2
  have HH := Lib.hid h
  have g6 : ¬ (R.length : Int) > 6 := by omega
  clear h
  go_enter Tryd.func66, Tryd.ntmps66
  go_wp2_with fail
  go_loopw [3, 4] (fun nv iv wr => ∃ k : Nat, k ≤ R.length ∧ iv = .int .i64 (k : Int) ∧ nv = .int .i64 (prTo R k) ∧ 1 ≤ prTo R k ∧ prTo R k ≤ 64 ∧ w = wr) (fun _ iv _ => R.length - (intOf iv).toNat)
  case atStart => exact ⟨0, Nat.zero_le _, rfl, rfl, by show (1 : Int) ≤ 1; omega, by show (1 : Int) ≤ 64; omega, rfl⟩
  case round =>
    obtain ⟨k, hk, rfl, rfl, hn1, hn2, rfl⟩ := hrel
    by_cases hlt : k < R.length
    · obtain ⟨b, off, bu, ou, cu, ⟨cap, he⟩, hb, d0, hbu, d1, d2⟩ := rowsOf_cells HH.out hlt
      injection he with e1 e2 e3
      subst e1 e3
      have hbd := HB.out k hlt
      have HP := Lib.hid (prTo_succ R k)
      have hki : (k : Int) < (R.length : Int) := by omega
      have hk0 : (0 : Int) ≤ (k : Int) := by omega
      have i1 : inB (R.getD k (0, 0)).1 1 2000 = true := inB_iff.2 (by omega)
      have i2 : inB (R.getD k (0, 0)).2 1 2000 = true := inB_iff.2 (by omega)
      clear e2
      generalize (R.getD k (0, 0)).1 = x at *
      generalize (R.getD k (0, 0)).2 = y at *
      have hm0 : 0 ≤ prTo R k * y := Int.mul_nonneg (by omega) (by omega)
      have hm1 : prTo R k * y ≤ 64 * 2000 := Int.mul_le_mul hn2 (by omega) (by omega) (by omega)
      have hm2 : 1 ≤ prTo R k * y := by
        have := Int.mul_le_mul_of_nonneg_right hn1 (show 0 ≤ y by omega)
        omega
      generalize prTo R k = n at *
      generalize hp : n * y = p at *
      have hw : IntKind.i64.wrap p = p := IntWalk.i64_in _ (by omega)
      have HPP := Lib.hid hp
      go_wp2_with fail
      refine (l01In_c _ _ _ _).mono ?_
      rintro e w1 ⟨rfl, rfl⟩
      rw [i1]
      go_wp2_with fail
      refine (l01In_c _ _ _ _).mono ?_
      rintro e w1 ⟨rfl, rfl⟩
      rw [i2]
      by_cases hbig : 64 < p
      · go_wp2
        go_ret
        exact ⟨0, rfl, by omega, by omega, fun h => absurd rfl h, Below.refl _ _⟩
      · have hbig' : ¬ p > 64 := by omega
        go_wp2
        go_roundw
        case rel => exact ⟨k + 1, by omega, by go_num, by rw [HP.out], by rw [HP.out]; omega, by rw [HP.out]; omega, by first | rfl | trivial⟩
        case measure => simp [intOf]; omega
    · have hke : k = R.length := by omega
      subst hke
      have HF : Hid (RetPr R w (.returned (.int .i64 (prTo R R.length))) w) := Lib.hid ⟨_, rfl, by omega, hn2, fun _ => rfl, Below.refl _ _⟩
      go_wp2
      go_ret
      exact HF.out

/-- Some truth is handed back. -/
def RetBoD (w : World) (e : Ending) (w' : World) : Prop := ∃ b : Bool, e = .returned (.bool b) ∧ Below w.heap.size w w'
set_option maxHeartbeats 2000000 in
theorem l01Same2_w (v u : Value) (R R' : List (List Int)) (w : World) (h : RdR w v R) (h' : RdR w u R') :
    Calls Tryd.prog 67 #[v, u] w (RetBoD w) := by
  obtain ⟨a, cap, rfl, hcap1, hcap2, hrd⟩ := h
  obtain ⟨a', cap', rfl, hcap1', hcap2', hrd'⟩ := h'
  by_cases hl : R.length = R'.length
  · have HL := Lib.hid hl
    have hd : ((R.length : Int) != (R'.length : Int)) = false := by simp [hl]
    clear hl
    go_enter Tryd.func67, Tryd.ntmps67
    go_wp2
    go_loopw [5] (fun i wr => ∃ k : Nat, k ≤ R.length ∧ i = .int .i64 k ∧ Drew w wr) (fun i _ => R.length - (intOf i).toNat)
    case atStart => exact ⟨0, Nat.zero_le _, rfl, Drew.refl _⟩
    case round =>
      obtain ⟨k, hk, rfl, hdr⟩ := hrel
      obtain ⟨wo, rfl⟩ : ∃ wo : World, wo = wr := ⟨_, rfl⟩
      have hdb := hdr.below w.heap.size
      by_cases hlt : k < R.length
      · have hlt' : k < R'.length := by have := HL.out; omega
        obtain ⟨b, off, rfl, hbl, hcs⟩ := hrd (by intro e; simp [e] at hlt)
        obtain ⟨b', off', rfl, hbl', hcs'⟩ := hrd' (by intro e; simp [e] at hlt')
        obtain ⟨x, hx0, hrx0⟩ := hcs k hlt
        obtain ⟨y, hy0, hry0⟩ := hcs' k hlt'
        have hx : wo.cell? ⟨b, off + k, none⟩ = some x := by rw [hdb.cell (p := ⟨b, off + k, none⟩) hbl]; exact hx0
        have hy : wo.cell? ⟨b', off' + k, none⟩ = some y := by rw [hdb.cell (p := ⟨b', off' + k, none⟩) hbl']; exact hy0
        have hrx := hrx0.below hdb (Nat.le_refl _)
        have hry := hry0.below hdb (Nat.le_refl _)
        have HD := Lib.hid hdr
        have hki : (k : Int) < (R.length : Int) := by omega
        have hki' : (k : Int) < (R'.length : Int) := by omega
        have hk0 : (0 : Int) ≤ (k : Int) := by omega
        clear hcs hcs' hrd hrd' hdr hdb
        cases hb : eqB (gR R k) (gR R' k)
        · go_wp2
          go_quiet ((go_at_call 76; exact quiet_drew ((l01Same_c _ _ (gR R k) (gR R' k) _ (hrx.below (below_drewN (Below.refl _ _) _) (Nat.le_refl _)) (hry.below (below_drewN (Below.refl _ _) _) (Nat.le_refl _))).mono fun e w' ⟨he, hw'⟩ => ⟨by rw [he, hb], hw'⟩)))
          go_wp2
          go_ret
          exact ⟨_, rfl, below_drewN (HD.out.below _) _⟩
        · go_wp2
          go_quiet ((go_at_call 76; exact quiet_drew ((l01Same_c _ _ (gR R k) (gR R' k) _ (hrx.below (below_drewN (Below.refl _ _) _) (Nat.le_refl _)) (hry.below (below_drewN (Below.refl _ _) _) (Nat.le_refl _))).mono fun e w' ⟨he, hw'⟩ => ⟨by rw [he, hb], hw'⟩)))
          go_wp2
          go_roundw
          case rel => exact ⟨k + 1, by omega, by go_num, HD.out.trans (Drew.one _ _)⟩
          case measure => simp [intOf]; omega
      · go_wp2
        go_ret
        exact ⟨_, rfl, hdb⟩
  · have hd : ((R.length : Int) != (R'.length : Int)) = true := by simp; omega
    clear hl
    go_enter Tryd.func67, Tryd.ntmps67
    go_wp2
    go_ret
    exact ⟨_, rfl, Below.refl _ _⟩
end Go.Proofs.YtglghdkjppcedaaDoor

/- Contract: spec.l03Newton, by what is needed of it. -/
namespace Go.Proofs.YtglghdkjppcedaaDoor
open Go.RowKit

theorem step_pushR1 {P : Program} {w : World} {ops : Array Oper} {o : Oper} {a : Act} {K : Act → World → Prop} {Q : Exit → Act → World → Prop} {E : Prop} (hgd : o.guard = none) (s x : Operand) (t : TypeId)
    (ho : o.op = .call { callee := .builtin .append, args := #[s, x], argTypes := #[t, t] })
    (base : Nat) (e te : TypeId) (i : TypeInfo) (ht : P.underlying t = some (.slice te)) (hi : P.info? te = some i) (hz : i.zero = some (.slice none 0 0)) (hsize : i.size = 1) (hby : i.bytes = 24)
    (w0 : World) (v : Value) (vs : List Value) (R : List (List Int)) (h1 hx0 : Nat) (p1 q1 : Int) (hs : a.eval s = v) (hown : GrowM e te w0 base v vs R) (hb : Below w0.heap.size w0 w)
    (hx : a.eval x = .slice (some ⟨hx0, 0, none⟩) 1 1) (hblk : Blk w hx0 te #[Value.slice (some ⟨h1, 0, none⟩) 2 2])
    (b1 : Blk w h1 e #[.int .i64 p1, .int .i64 q1]) (l1 : w0.heap.size ≤ h1)
    (hlen : R.length ≤ 1000000) (hbase : base ≤ w0.heap.size)
    (hK : ∀ g cap w', GrowM e te w' base (.slice (some ⟨g, 0, none⟩) (R.length + 1) cap) (vs ++ [Value.slice (some ⟨h1, 0, none⟩) 2 2]) (R ++ [[p1, q1]]) → Keeps (fun k => v.ownBlock = some k) w w' → (v.ownBlock = some g ∨ w0.heap.size ≤ g) → K (a.put o.dst (.slice (some ⟨g, 0, none⟩) (R.length + 1) cap)) w') :
    if Region.wanted o (yielded ops a.tmps) = true then Oper.wp P o a w K Q else E := by
  have hl := hown.len
  have hsz := hb.size
  refine step_append_lies w hgd s x t ho base te i (.slice none 0 0) 1 24 ht hi hz hsize hby rfl (by decide) v vs.length vs hs (hown.below hb).out ⟨hx0, 0, none⟩ 1 1 [Value.slice (some ⟨h1, 0, none⟩) 2 2] hx rfl (World.news_of_block (cs := #[Value.slice (some ⟨h1, 0, none⟩) 2 2]) (t := te) (fr := (0, 0)) hblk) ?_ (by omega) ?_ ?_ (by omega) w.heap.size rfl ?_
  · intro u hu; simp at hu; subst hu; rfl
  · unfold maxLen; omega
  · omega
  · intro g cap w' k1 k2 k3 k4
    have hk : Keeps (fun k => v.ownBlock = some k) w w' := Keeps.of_grown k2
    have hm := fun k (hk : OwnM.mine v (fun i => vs.getD i (.slice none 0 0)) R k) => hown.own.block k hk
    have hp := (hown.below hb).push (own_blk2 b1 (by omega)) (fun k q1 q2 => by simp [Value.ownBlock] at q1; have := hm k (.inl q2); omega) (fun i hi k q1 q2 => by simp [Value.ownBlock] at q2; have := hm k (.inr ⟨i, hi, q1⟩); omega) k1 hk k3
    rw [hl] at hp ⊢
    exact hK g cap w' hp hk (k3.imp id (fun h => by omega))

/-- Some rows are handed back. -/
def RetRows (w : World) (e : Ending) (w' : World) : Prop := ∃ v R, e = .returned v ∧ RdR w' v R ∧ Below w.heap.size w w'
theorem below2N (w : World) (o1 o2 : Obj) : Below w.heap.size w ((w.alloc o1).alloc o2).drew := (((Below.refl _ _).alloc (Nat.le_refl _) o1).alloc (by simp) o2).drew
theorem below1N (w : World) (o1 : Obj) : Below w.heap.size w (w.alloc o1).drew := ((Below.refl _ _).alloc (Nat.le_refl _) o1).drew
theorem blk_aN (w : World) (t1 t2 : TypeId) (c1 c2 : Array Value) : Blk ((w.alloc (.cells c1 t1)).alloc (.cells c2 t2)).drew w.heap.size t1 c1 := ((Blk.new w t1 c1).alloc (.cells c2 t2)).drewN 1
theorem blk_bN (w : World) (t1 t2 : TypeId) (c1 c2 : Array Value) : Blk ((w.alloc (.cells c1 t1)).alloc (.cells c2 t2)).drew (w.heap.size + 1) t2 c2 := (Blk.new' (w := w.alloc (.cells c1 t1)) (t := t2) (cs := c2) (g := w.heap.size + 1) (by simp)).drewN 1
set_option maxRecDepth 100000 in
set_option maxHeartbeats 8000000 in
theorem l03Newton_w (v : Value) (T : List Int) (w : World) (h : Rd w v T) (hok : BraOk T) :
    Calls Tryd.prog 68 #[.agg #[v]] w (RetRows w) := by
  obtain ⟨j0, ji, jz0, jz1, jz2⟩ := info_parts Tryd.infoII
  obtain ⟨b, off, cap, rfl, hc1, hc2, hb, hc⟩ := h.cells hok.len
  have hx := Boxed.start w 26 #[.slice (some ⟨b, off, none⟩) T.length cap]
  have hl7 := bra_len hok
  have hTl := hok.len
  have HOK := Lib.hid hok
  have HC := Lib.hid hc
  have c0 := hx.cell 0
  clear hc
  go_enter Tryd.func68, Tryd.ntmps68
  go_wp2_with fail
  refine (l03Divisors_c _ T _ (hx.rd h) hTl (by omega) (fun i hi => by have := hok.num i hi; omega)).mono ?_
  rintro e w1 ⟨ae, ke, rfl, hOe, hb1⟩
  have hx1 := hx.trans hb1
  obtain ⟨ge, ce, he, hge1, hge2, _, _⟩ := Own.pos hOe (by simp; omega)
  injection he with e1 e2 e3
  subst e1 e3
  have hcE : ∀ i, i < T.length → w1.cell? ⟨ge, i, none⟩ = some (.int .i64 (eI T i)) := fun i hi => by have := hOe.cell i (by simpa using hi); rwa [gI_eTo hi] at this
  rw [eTo_len] at hOe ⊢
  have HCE := Lib.hid hcE
  have hE : GrowM 2 24 (w1.alloc (.cells #[] 24)) w1.heap.size (.slice (some ⟨w1.heap.size, 0, none⟩) 0 0) [] [] := GrowM.empty _ _ w1 w1.heap.size w1.heap.size rfl (Nat.le_refl _)
  have hal : Below w1.heap.size w1 (w1.alloc (.cells #[] 24)) := (Below.refl _ _).alloc (Nat.le_refl _) _
  have HX := Lib.hid hx1
  clear c0 hx e2 hcE hOe hx1
  go_wp2_with fail
  go_loopw [4, 5, 6] (fun lv iv _ wr => ∃ (j g c : Nat) (vs : List Value) (R : List (List Int)), j < T.length ∧ R.length = j ∧ iv = .int .i64 ((j : Int) + 1) ∧ lv = .slice (some ⟨g, 0, none⟩) j c ∧ GrowM 2 24 wr w1.heap.size (.slice (some ⟨g, 0, none⟩) j c) vs R ∧ Below w1.heap.size w1 wr) (fun _ iv _ _ => T.length - (intOf iv).toNat)
  case atStart => exact ⟨0, w1.heap.size, 0, [], [], hTl, rfl, by simp, rfl, hE, hal⟩
  case round =>
    obtain ⟨j, g, c, vs, R, hj, hR, rfl, rfl, hG, hbl⟩ := hrel
    clear hE hal
    obtain ⟨wo, rfl⟩ : ∃ wo : World, wo = wr := ⟨_, rfl⟩
    have hsl := hbl.size
    have hGl := hG.block g rfl
    have hxo := HX.out.trans hbl
    by_cases hlt : j + 1 < T.length
    · have dE1 : wo.cell? ⟨ge, j + 1, none⟩ = some (.int .i64 (eI T (j + 1))) := by rw [hbl.cell (p := ⟨ge, j + 1, none⟩) hge2]; exact HCE.out (j + 1) hlt
      have dE0 : wo.cell? ⟨ge, j, none⟩ = some (.int .i64 (eI T j)) := by rw [hbl.cell (p := ⟨ge, j, none⟩) hge2]; exact HCE.out j hj
      have b1 : 1 ≤ eI T (j + 1) ∧ eI T (j + 1) ≤ 64 := ⟨eI_pos hok.first.1 (j + 1), by have := eI_le0 hok.first.1 (j + 1); have := hok.first; omega⟩
      have b0 : 1 ≤ eI T j ∧ eI T j ≤ 64 := ⟨eI_pos hok.first.1 j, by have := eI_le0 hok.first.1 j; have := hok.first; omega⟩
      generalize eI T (j + 1) = r at dE1 b1
      generalize eI T j = y at dE0 b0
      have f1 : (j : Int) + 1 - 1 = (j : Int) := by omega
      have f2 : IntKind.i64.wrap (j : Int) = (j : Int) := IntWalk.i64_in _ (by omega)
      have f3 : (0 : Int) ≤ (j : Int) := by omega
      have f4 : (j : Int) < (T.length : Int) := by omega
      have f5 : (j : Int) + 1 < (T.length : Int) := by omega
      have f6 : (0 : Int) ≤ (j : Int) + 1 := by omega
      have f7 : ((j : Int) + 1).toNat = j + 1 := by omega
      have f8 : r ≠ 0 := by omega
      have hlr : R.length ≤ 1000000 := by omega
      have dT1 : wo.cell? ⟨b, off + (j + 1), none⟩ = some (.int .i64 (gI T (j + 1))) := by rw [hxo.below.cell (p := ⟨b, off + (j + 1), none⟩) hb]; exact HC.out (j + 1) hlt
      have dT0 : wo.cell? ⟨b, off + j, none⟩ = some (.int .i64 (gI T j)) := by rw [hxo.below.cell (p := ⟨b, off + j, none⟩) hb]; exact HC.out j hj
      have dX : wo.cell? ⟨w.heap.size, 0, none⟩ = some (.slice (some ⟨b, off, none⟩) T.length cap) := hxo.cell 0
      have SS : ∀ wr : World, Below wo.heap.size wo wr → wr.cell? ⟨ge, j + 1, none⟩ = some (.int .i64 r) ∧ wr.cell? ⟨ge, j, none⟩ = some (.int .i64 y) := fun wr hk => ⟨by rw [hk.cell (p := ⟨ge, j + 1, none⟩) (by show ge < wo.heap.size; omega)]; exact dE1, by rw [hk.cell (p := ⟨ge, j, none⟩) (by show ge < wo.heap.size; omega)]; exact dE0⟩
      have HKC : ∀ (W W' : World), Keeps (fun k => (Value.slice (some ⟨g, 0, none⟩) j c).ownBlock = some k) W W' → wo.heap.size ≤ W.heap.size → W'.cell? ⟨ge, j + 1, none⟩ = W.cell? ⟨ge, j + 1, none⟩ ∧ W'.cell? ⟨ge, j, none⟩ = W.cell? ⟨ge, j, none⟩ := fun W W' hk hs => ⟨hk.cell (p := ⟨ge, j + 1, none⟩) (show ge < W.heap.size by omega) (fun e => by simp [Value.ownBlock] at e; omega), hk.cell (p := ⟨ge, j, none⟩) (show ge < W.heap.size by omega) (fun e => by simp [Value.ownBlock] at e; omega)⟩
      have b9 := hok.num j hj
      have b8 := hok.num (j + 1) hlt
      go_upto_if 22 with fail
      go_cut [6] from 10 to 50 (fun z wc => (∃ q : Int, z = .int .i64 q) ∧ wo = wc)
      case first =>
        by_cases hj0 : j = 0
        · subst hj0
          go_wp2
          go_meet
          exact ⟨⟨_, rfl⟩, rfl⟩
        · have f9 : (1 : Int) < (j : Int) + 1 := by omega
          have w9 : IntKind.i64.wrap (gI T (j + 1) - gI T j) = gI T (j + 1) - gI T j := IntWalk.i64_in _ (by omega)
          have f10 : 0 < j := by omega
          have f11 : (0 : Int) < (j : Int) := by omega
          go_wp2
          go_meet
          exact ⟨⟨_, rfl⟩, rfl⟩
      case rest =>
        obtain ⟨⟨z, rfl⟩, rfl⟩ := hcut
        clear dT1 dT0 dX dE0 dE1
        have HRl := Lib.hid hR
        subst hR
        go_wp2_with fail
        go_region_held3 (fun w' => w'.cell? ⟨ge, R.length + 1, none⟩ = some (.int .i64 r) ∧ w'.cell? ⟨ge, R.length, none⟩ = some (.int .i64 y))
          (first | assumption | exact HS2 | exact SS _ (by first | exact (Below.refl _ _).drew | exact below1N _ _ | exact below2N _ _ _))
          (first | (refine step_pushR1 rfl (.tmp 31) (.tmp 49) 80 rfl w1.heap.size 2 24 j0 Tryd.underlying80 ji jz0 jz1 jz2 wo (.slice (some ⟨g, 0, none⟩) R.length c) vs R _ _ _ _ rfl hG (below2N _ _ _) rfl (blk_bN _ _ _ _ _) (blk_aN _ _ _ _ _) (by omega) hlr hsl ?_; intro g3 c3 w2 hG3 hkp _; have HS2 : w2.cell? ⟨ge, R.length + 1, none⟩ = some (.int .i64 r) ∧ w2.cell? ⟨ge, R.length, none⟩ = some (.int .i64 y) := ⟨(HKC _ _ hkp (below2N _ _ _).size).1.trans (SS _ (below2N _ _ _)).1, (HKC _ _ hkp (below2N _ _ _).size).2.trans (SS _ (below2N _ _ _)).2⟩))
        all_goals
          have hbl3 := (hbl.trans ((below2N wo _ _).mono hsl)).trans (hkp.below (Nat.le_trans hsl (below2N wo _ _).size) (fun k hk => by simp [Value.ownBlock] at hk; omega))
          clear hkp HS2 SS
          go_wp2
          go_roundw
          case rel => exact ⟨R.length + 1, g3, c3, _, _, hlt, by simp, by go_num, rfl, hG3, hbl3⟩
          case measure => simp [intOf]; omega
    · have HF : Hid (RetRows w (.returned (.slice (some ⟨g, 0, none⟩) j c)) wo) := Lib.hid ⟨_, R, rfl, hG.own.rd, hxo.below⟩
      have f1 : ¬ (j : Int) + 1 < (T.length : Int) := by omega
      clear hG hR
      go_wp2
      go_ret
      exact HF.out
end Go.Proofs.YtglghdkjppcedaaDoor

/- Contract: spec.BranchOfNewton, by what is needed of it. -/
namespace Go.Proofs.YtglghdkjppcedaaDoor
open Go.RowKit

theorem own_blkN {w : World} {g base : Nat} {x : Int} (h : Blk w g 2 #[.int .i64 x]) (hb : base ≤ g) : OwnI w base (.slice (some ⟨g, 0, none⟩) 1 1) [x] := by
  exact ⟨rfl, .inr ⟨g, 1, #[.int .i64 x], rfl, hb, h, Nat.le_refl _, by unfold maxLen; omega, rfl, rfl⟩⟩
/-- A branch is handed back, or none. -/
def RetBn (w : World) (e : Ending) (w' : World) : Prop := ∃ xs c, RetBC w xs c e w' ∧ 0 ≤ c ∧ c ≤ 5 ∧ (c = 0 → BraOk xs)
set_option maxRecDepth 100000 in
set_option maxHeartbeats 8000000 in
theorem bon_w (v : Value) (R : List (Int × Int)) (w : World) (h : RdR w v (rowsOf R)) (hR : PairOk R) :
    Calls Tryd.prog 59 #[v] w (RetBn w) := by
  obtain ⟨i0, hi, hz0, hz1, hz2⟩ := info_parts Tryd.infoI
  have D := Blk.new w 26 #[.slice none 0 0]
  have fr : Below w.heap.size w (w.alloc (.cells #[.slice none 0 0] 26)) := (Below.refl _ _).alloc (Nat.le_refl _) _
  have hl := hR.1
  have hlr : (rowsOf R).length = R.length := rowsOf_len R
  obtain ⟨a0, c0, rfl⟩ := h.len0
  rw [rowsOf_len] at h ⊢
  have HB := Lib.hid hR.2
  have HH := Lib.hid h
  have HR := Lib.hid hR
  go_enter Tryd.func59, Tryd.ntmps59
  go_wp2_with fail
  refine (l03Pairs_c _ R _ (h.below fr (Nat.le_refl _)) hR).mono ?_
  rintro e w1 ⟨n, rfl, hn1, hn2, hn3, hb1⟩
  have D1 := D.stays hb1
  have fr1 := below_step fr hb1
  clear hn3 h hR hlr D fr hb1
  have f0 := D1.free 0
  have e0 := D1.cell 0
  by_cases hn0 : n = 0
  · subst hn0
    have q0 := (D1.set 0 (.slice none 0 0)).cell 0
    go_wp2
    refine bodyPost_ret (v := .tuple #[.agg #[.slice none 0 0], .int .i64 2]) (by simp [results, Tryd.results59, go_sem, q0]) rfl ?_
    exact ⟨[], 2, ⟨none, 0, rfl, own_nil _ _ _, fr1.setCell (p := ⟨w.heap.size, 0, none⟩) (Nat.le_refl _) _⟩, by omega, by omega, by omega⟩
  · clear f0 e0
    have hnb : (n == 0) = false := by simp [hn0]
    have hD0 := D1.lt
    have hD2 : Below w1.heap.size w1 ((w1.alloc (.cells #[.int .i64 n] 2)).alloc (.cells #[.slice (some ⟨w1.heap.size, 0, none⟩) 1 1] 26)) := ((Below.refl _ _).alloc (Nat.le_refl _) _).alloc (by simp) _
    have D2 := D1.stays hD2
    have fr2 := below_step fr1 hD2
    have B2 : Blk ((w1.alloc (.cells #[.int .i64 n] 2)).alloc (.cells #[.slice (some ⟨w1.heap.size, 0, none⟩) 1 1] 26)) (w1.heap.size + 1) 26 #[.slice (some ⟨w1.heap.size, 0, none⟩) 1 1] := Blk.new' (w := w1.alloc (.cells #[.int .i64 n] 2)) (by simp)
    have hO2 : OwnI ((w1.alloc (.cells #[.int .i64 n] 2)).alloc (.cells #[.slice (some ⟨w1.heap.size, 0, none⟩) 1 1] 26)) (w.heap.size + 1) (.slice (some ⟨w1.heap.size, 0, none⟩) 1 1) [n] := own_blkN ((Blk.new w1 2 #[.int .i64 n]).alloc _) (by omega)
    go_wp2_with fail
    go_loopw [6, 7, 8] (fun ev lv iv wr => ∃ (k g c : Nat) (xs : List Int) (x y : Int), k ≤ R.length ∧ iv = .int .i64 k ∧ xs.length = k + 1 ∧ ev = .int .i64 x ∧ 0 ≤ x ∧ x ≤ 64 ∧ lv = .int .i64 y ∧ 0 ≤ y ∧ y ≤ 128000 * k ∧ Blk wr (w1.heap.size + 1) 26 #[.slice (some ⟨g, 0, none⟩) (k + 1) c] ∧ OwnI wr (w.heap.size + 1) (.slice (some ⟨g, 0, none⟩) (k + 1) c) xs ∧ g ≠ w1.heap.size + 1 ∧ Blk wr w.heap.size 26 #[.slice none 0 0] ∧ Below w.heap.size w wr) (fun _ _ iv _ => R.length - (intOf iv).toNat)
    case atStart => exact ⟨0, w1.heap.size, 1, [n], n, 0, Nat.zero_le _, rfl, rfl, rfl, hn1, hn2, rfl, by omega, by omega, B2, hO2, by omega, D2, fr2⟩
    case round =>
      obtain ⟨k, g, c, xs, x, y, hk, rfl, hxl, rfl, hx0, hx1, rfl, hy0, hy1, B4, hoT, hgb, D4, fr4⟩ := hrel
      clear D1 fr1 hD2 D2 fr2 B2 hO2
      obtain ⟨wo, rfl⟩ : ∃ wo : World, wo = wr := ⟨_, rfl⟩
      by_cases hlt : k < R.length
      · obtain ⟨b, off, bu, ou, cu, ⟨cap, he⟩, hb, d0, hbu, d1, d2⟩ := rowsOf_cells HH.out hlt
        injection he with e1 e2 e3
        subst e1 e3
        clear e2
        have hbd := HB.out k hlt
        have hki : (k : Int) < (R.length : Int) := by omega
        have hk0 : (0 : Int) ≤ (k : Int) := by omega
        rw [← fr4.cell (p := ⟨b, off + k, none⟩) hb] at d0
        rw [← fr4.cell (p := ⟨bu, ou, none⟩) hbu] at d1
        rw [← fr4.cell (p := ⟨bu, ou + 1, none⟩) hbu] at d2
        generalize (R.getD k (0, 0)).1 = p at *
        generalize (R.getD k (0, 0)).2 = q at *
        have hq0 : ¬ q = 0 := by omega
        have ht : Int.tdiv x q = x / q := Int.tdiv_eq_ediv_of_nonneg hx0
        have hdl : x / q ≤ x := Int.ediv_le_self q hx0
        have hd0 : 0 ≤ x / q := Int.ediv_nonneg hx0 (by omega)
        have w4 : IntKind.i64.wrap (x / q) = x / q := IntWalk.i64_in _ (by omega)
        have hm0 : 0 ≤ p * (x / q) := Int.mul_nonneg (by omega) hd0
        have hm1 : p * (x / q) ≤ 2000 * 64 := Int.mul_le_mul (by omega) (by omega) hd0 (by omega)
        have w5 : IntKind.i64.wrap (p * (x / q)) = p * (x / q) := IntWalk.i64_in _ (by omega)
        have w6 : IntKind.i64.wrap (y + p * (x / q)) = y + p * (x / q) := IntWalk.i64_in _ (by omega)
        have HY1 := Lib.hid (show y + p * (x / q) ≤ 128000 * ((k + 1 : Nat) : Int) by omega)
        have HY0 := Lib.hid (show 0 ≤ y + p * (x / q) by omega)
        have dB := B4.cell 0
        have fB := B4.free 0
        have hlB := B4.lt
        have hgs := (hoT.block g rfl).1
        have hgl := (hoT.block g rfl).2
        have hsz5 : w.heap.size + 1 ≤ wo.heap.size := by omega
        generalize hz : x / q = z at *
        clear hz
        go_wp2_with (at_builtin; refine wpList_pushL rfl (.tmp 43) (.tmp 45) 24 rfl (w.heap.size + 1) 2 i0 Tryd.underlying24 hi hz0 hz1 hz2 (.slice (some ⟨g, 0, none⟩) (k + 1) c) xs (y + p * z) rfl hoT rfl (by omega) hsz5 ?_; intro g2 c2 w6 hown' hkp hlies; have d3 : w6.cell? ⟨w1.heap.size + 1, 0, none⟩ = some (.slice (some ⟨g, 0, none⟩) (k + 1) c) := (hkp.cell (p := ⟨w1.heap.size + 1, 0, none⟩) hlB (by simp [Value.ownBlock]; omega)).trans dB; have f3 : w6.frozen? ⟨w1.heap.size + 1, 0, none⟩ = false := (hkp.frozen (p := ⟨w1.heap.size + 1, 0, none⟩) hlB (by simp [Value.ownBlock]; omega)).trans fB)
        have hown' : OwnI w6 (w.heap.size + 1) (.slice (some ⟨g2, 0, none⟩) (k + 1 + 1) c2) (xs ++ [y + p * z]) := by rw [← hxl]; exact hown'
        have hlies' : g = g2 ∨ wo.heap.size ≤ g2 := hlies.imp (fun h => by simpa [Value.ownBlock] using h) id
        have hkg : Keeps (fun q => q = g) wo w6 := hkp.mono (fun q hq => by simp [Value.ownBlock] at hq; exact hq.symm)
        have B7 := (B4.keeps hkg (fun h => hgb h.symm)).set 0 (.slice (some ⟨g2, 0, none⟩) (k + 1 + 1) c2)
        have hgD : ¬ w.heap.size = g := by omega
        have D7 := (D4.keeps hkg hgD).other (g' := w1.heap.size + 1) (by omega) 0 (.slice (some ⟨g2, 0, none⟩) (k + 1 + 1) c2)
        have hoT7 := hown'.other (g := w1.heap.size + 1) (fun q hq => by simp [Value.ownBlock] at hq; omega) 0 (.slice (some ⟨g2, 0, none⟩) (k + 1 + 1) c2)
        have hszD : w.heap.size ≤ w1.heap.size + 1 := by omega
        have fr7 := (fr4.trans (hkg.below (by omega) (fun q hq => by omega))).setCell (p := ⟨w1.heap.size + 1, 0, none⟩) hszD (.slice (some ⟨g2, 0, none⟩) (k + 1 + 1) c2)
        have hle : (xs ++ [y + p * z]).length = k + 1 + 1 := by simp [hxl]
        clear hkp hlies hkg B4 D4 hown' fr4
        go_roundw
        case rel => exact ⟨k + 1, g2, c2, _, z, y + p * z, by omega, by go_num, hle, rfl, by omega, by omega, rfl, HY0.out, HY1.out, B7, hoT7, by omega, D7, fr7⟩
        case measure => simp [intOf]; omega
      · have hk' : k = R.length := by omega
        subst hk'
        have hki : ¬ (R.length : Int) < (R.length : Int) := by omega
        have dB := B4.cell 0
        go_wp2_with fail
        refine (l03Is_c _ xs _ hoT.rd).mono ?_
        rintro e w5 ⟨rfl, hb5⟩
        have B5 := B4.stays hb5
        have D5 := D4.stays hb5
        have fr5 := below_step fr4 hb5
        have hoT5 := hoT.below hb5 (Nat.le_refl _)
        have hs5 := hb5.size
        have f0 := D5.free 0
        have e0 := D5.cell 0
        have dB := B5.cell 0
        clear B4 D4 fr4 hoT hb5
        cases hfb : braB xs
        · have q0 := (D5.set 0 (.slice none 0 0)).cell 0
          go_wp2
          refine bodyPost_ret (v := .tuple #[.agg #[.slice none 0 0], .int .i64 5]) (by simp [results, Tryd.results59, go_sem, q0]) rfl ?_
          exact ⟨[], 5, ⟨none, 0, rfl, own_nil _ _ _, fr5.setCell (p := ⟨w.heap.size, 0, none⟩) (Nat.le_refl _) _⟩, by omega, by omega, by omega⟩
        · have HOK := Lib.hid (braB_iff.1 hfb)
          clear f0 e0
          have hr5 := hoT5.rd
          rw [← hxl] at hr5
          go_wp2_with fail
          refine (l03Newton_w _ xs _ hoT5.rd HOK.out).mono ?_
          rintro e w6 ⟨u, R2, rfl, hR2, hb6⟩
          have fr6 := below_step fr5 hb6
          have D6 := D5.stays hb6
          have B6 := B5.stays hb6
          have hoT6 := hoT5.below hb6 (Nat.le_refl _)
          have hgl := hoT6.block g rfl
          clear D5 B5 hoT5 fr5 hb6 dB
          go_wp2_with fail
          refine (l01Same2_w _ _ R2 (rowsOf R) _ hR2 (HH.out.below fr6 (Nat.le_refl _))).mono ?_
          rintro e w7 ⟨b, rfl, hb7⟩
          have B7 := B6.stays hb7
          have D7 := D6.stays hb7
          have fr7 := below_step fr6 hb7
          have hoT7 := hoT6.below hb7 (Nat.le_refl _)
          have f0 := D7.free 0
          have e0 := D7.cell 0
          have dB := B7.cell 0
          clear B6 D6 fr6 hoT6 hb7
          cases b
          · have q0 := (D7.set 0 (.slice none 0 0)).cell 0
            go_wp2
            refine bodyPost_ret (v := .tuple #[.agg #[.slice none 0 0], .int .i64 5]) (by simp [results, Tryd.results59, go_sem, q0]) rfl ?_
            exact ⟨[], 5, ⟨none, 0, rfl, own_nil _ _ _, fr7.setCell (p := ⟨w.heap.size, 0, none⟩) (Nat.le_refl _) _⟩, by omega, by omega, by omega⟩
          · have q0 := (D7.set 0 (.slice (some ⟨g, 0, none⟩) (R.length + 1) c)).cell 0
            have hoT8 := hoT7.other (g := w.heap.size) (fun q hq => by simp [Value.ownBlock] at hq; omega) 0 (.slice (some ⟨g, 0, none⟩) (R.length + 1) c)
            have fr8 := fr7.setCell (p := ⟨w.heap.size, 0, none⟩) (Nat.le_refl _) (.slice (some ⟨g, 0, none⟩) (R.length + 1) c)
            go_wp2
            refine bodyPost_ret (v := .tuple #[.agg #[.slice (some ⟨g, 0, none⟩) (R.length + 1) c], .int .i64 0]) (by simp [results, Tryd.results59, go_sem, q0]) rfl ?_
            exact ⟨xs, 0, ⟨_, c, by rw [hxl], by rw [hxl]; exact hoT8.base_le (base' := w.heap.size) (by omega), fr8⟩, by omega, by omega, fun _ => HOK.out⟩
end Go.Proofs.YtglghdkjppcedaaDoor

/- Contract: spec.l03Small, by what is needed of it. -/
namespace Go.Proofs.YtglghdkjppcedaaDoor
open Go.RowKit

theorem rd_news (w : World) (t : TypeId) (xs : List Int) (hl : xs.length ≤ 1000) : Rd (w.alloc (.cells (xs.map (Value.int .i64)).toArray t)) (.slice (some ⟨w.heap.size, 0, none⟩) xs.length xs.length) xs := by
  refine ⟨_, _, rfl, Nat.le_refl _, by omega, fun _ => ⟨_, _, rfl, by simp, fun i hi => ?_⟩⟩
  have B := (Blk.new w t (xs.map (Value.int .i64)).toArray).cell i
  rw [Nat.zero_add]
  rw [B]
  simp [gI, List.getD, hi]
/-- Picked from three or four. -/
theorem pick3 {P : Int → Prop} {a b c : Int} {j : Nat} (hj : j < [a, b, c].length) (h1 : P a) (h2 : P b) (h3 : P c) : P (gI [a, b, c] j) := by
  match j, hj with
  | 0, _ => exact h1
  | 1, _ => exact h2
  | 2, _ => exact h3
theorem pick4 {P : Int → Prop} {a b c d : Int} {j : Nat} (hj : j < [a, b, c, d].length) (h1 : P a) (h2 : P b) (h3 : P c) (h4 : P d) : P (gI [a, b, c, d] j) := by
  match j, hj with
  | 0, _ => exact h1
  | 1, _ => exact h2
  | 2, _ => exact h3
  | 3, _ => exact h4
/-- How far the next number is that is 1 mod o. -/
def dz (x o : Int) : Int := (1 - x) % o
theorem dz_bd {x o : Int} (ho : 0 < o) : 0 ≤ dz x o ∧ dz x o < o := ⟨Int.emod_nonneg _ (by omega), Int.emod_lt_of_pos _ ho⟩
theorem dz_step {x o : Int} (ho : 0 < o) (h : 1 < gcdI x o) : 0 < dz x o ∧ dz (x + 1) o = dz x o - 1 := by
  have hb := dz_bd (x := x) ho
  have h0 : 0 < dz x o := by
    rcases Int.lt_or_eq_of_le hb.1 with h1 | h1
    · exact h1
    · have h2 : o ∣ 1 - x := Int.dvd_of_emod_eq_zero h1.symm
      have h3 := Int.dvd_trans (gcdI_dvd_right x o) h2
      have h4 := Int.dvd_add h3 (gcdI_dvd_left x o)
      have h5 : (1 : Int) - x + x = 1 := by omega
      rw [h5] at h4
      have := Int.le_of_dvd (by omega) h4
      omega
  refine ⟨h0, ?_⟩
  have e : 1 - (x + 1) = (dz x o - 1) + o * ((1 - x) / o) := by
    have := Int.emod_add_mul_ediv (1 - x) o
    unfold dz at *; omega
  show (1 - (x + 1)) % o = _
  rw [e, Int.add_mul_emod_self_left]
  exact Int.emod_eq_of_lt (by omega) (by omega)
/-- A branch is drawn. -/
def RetDr (P : List Int → Prop) (w : World) (g : Nat) (e : Ending) (w' : World) : Prop :=
  ∃ xs a k, e = .returned (.agg #[.slice a xs.length k]) ∧ OwnI w' w.heap.size (.slice a xs.length k) xs ∧ P xs ∧ Src w' g ∧ Keeps (fun q => q = g) w w'
/-- What is drawn first: a branch or one number. -/
def SmlOk (xs : List Int) : Prop := BraOk xs ∨ ∃ z, 1 ≤ z ∧ z ≤ 3 ∧ xs = [z]
set_option maxRecDepth 100000 in
set_option maxHeartbeats 8000000 in
theorem small_w (gs : Nat) (most term : Int) (w : World) (s : Src w gs) (h1 : 1 ≤ most) (h2 : most ≤ 64) :
    Calls Tryd.prog 52 #[.pointer (some ⟨gs, 0, none⟩), .int .i64 most, .int .i64 term] w (RetDr SmlOk w gs) := by
  obtain ⟨j0, ji, jz0, jz1, jz2⟩ := info_parts Tryd.infoII
  have hgs := s.lt
  have D := (Blk.new w 26 #[.slice none 0 0]).alloc (.cells #[] 24)
  have hbl0 : Below w.heap.size w ((w.alloc (.cells #[.slice none 0 0] 26)).alloc (.cells #[] 24)) := ((Below.refl _ _).alloc (Nat.le_refl _) _).alloc (by simp) _
  have hK : Keeps (fun q => q = gs) w ((w.alloc (.cells #[.slice none 0 0] 26)).alloc (.cells #[] 24)) := Keeps.of_below hbl0
  have s1 := s.below hbl0
  have hE : GrowM 2 24 ((w.alloc (.cells #[.slice none 0 0] 26)).alloc (.cells #[] 24)) (w.heap.size + 1) (.slice (some ⟨w.heap.size + 1, 0, none⟩) 0 0) [] (rowsOf []) := GrowM.empty _ _ (w.alloc (.cells #[.slice none 0 0] 26)) (w.heap.size + 1) (w.heap.size + 1) (by simp) (Nat.le_refl _)
  have hsz0 : ((w.alloc (.cells #[.slice none 0 0] 26)).alloc (.cells #[] 24)).heap.size = w.heap.size + 2 := by simp
  have HS0 := Lib.hid hsz0
  clear hsz0 hbl0
  go_enter Tryd.func52, Tryd.ntmps52
  go_wp2_with fail
  generalize (w.alloc (.cells #[.slice none 0 0] 26)).alloc (.cells #[] 24) = w0 at *
  refine (next_w gs 3 _ s1 (by omega) (by omega)).mono ?_
  rintro e w1 ⟨x, rfl, hx0, hx1, s2, hk1⟩
  have hsz1 := hk1.size
  have hs0 := HS0.out
  have D1 := D.keeps hk1 (by omega)
  have hE1 := hE.keeps hk1 (fun q hq => by have := (hE.own.block q hq).1; omega)
  have hK1 := hK.trans hk1
  have hs1 : w.heap.size + 2 ≤ w1.heap.size := by omega
  clear s s1 D hK hE hk1 hsz1 hs0 HS0
  go_wp2_with fail
  go_loopw [7, 8, 9] (fun lv nv kv wr => ∃ (k : Nat) (g c : Nat) (vs : List Value) (R : List (Int × Int)) (n : Int), kv = .int .i64 (k : Int) ∧ R.length + k ≤ 3 ∧ PairOk R ∧ nv = .int .i64 n ∧ 1 ≤ n ∧ n ≤ 64 ∧ lv = .slice (some ⟨g, 0, none⟩) R.length c ∧ GrowM 2 24 wr (w.heap.size + 1) (.slice (some ⟨g, 0, none⟩) R.length c) vs (rowsOf R) ∧ Src wr gs ∧ Blk wr w.heap.size 26 #[.slice none 0 0] ∧ w.heap.size + 2 ≤ wr.heap.size ∧ Keeps (fun q => q = gs) w wr) (fun _ _ kv _ => (intOf kv).toNat)
  case atStart => exact ⟨(1 + x).toNat, w.heap.size + 1, 0, [], [], 1, by go_num, by simp; omega, ⟨by simp, fun i hi => by simp at hi⟩, rfl, by omega, by omega, rfl, hE1, s2, D1, hs1, hK1⟩
  case round =>
    obtain ⟨k, g, c, vs, R, n, rfl, hRk, hOK, rfl, hn1, hn2, rfl, hG, s3, D3, hs3, hK3⟩ := hrel
    clear s2 D1 hE1 hK1 hs1
    obtain ⟨wo, rfl⟩ : ∃ wo : World, wo = wr := ⟨_, rfl⟩
    have hgg := hG.block g rfl
    by_cases hk0 : 0 < k
    · have hki : (0 : Int) < (k : Int) := by omega
      go_wp2_with fail
      refine (next_w gs 4 _ s3 (by omega) (by omega)).mono ?_
      rintro e w4 ⟨y, rfl, hy0, hy1, s4, hk4⟩
      have hsz4 := hk4.size
      have D4 := D3.keeps hk4 (by omega)
      have hG4 := hG.keeps hk4 (fun q hq => by have := (hG.own.block q hq).1; omega)
      have hK4 := hK3.trans hk4
      clear s3 D3 hK3 hG hk4
      have ho1 : 2 ≤ 2 + y := by omega
      have ho2 : 2 + y ≤ 5 := by omega
      have hm0 : 0 ≤ n * (2 + y) := Int.mul_nonneg (by omega) (by omega)
      have hm1 : n * (2 + y) ≤ 64 * 5 := Int.mul_le_mul hn2 (by omega) (by omega) (by omega)
      by_cases hbig : n * (2 + y) > most
      · go_wp2
        go_roundw
        case rel => exact ⟨k - 1, g, c, vs, R, n, by go_num, by omega, hOK, rfl, hn1, hn2, rfl, hG4, s4, D4, by omega, hK4⟩
        case measure => simp [intOf]; omega
      · have s5 := s4.below ((Below.refl _ _).alloc (Nat.le_refl _) (.cells #[.int .i64 4, .int .i64 8, .int .i64 12] 2))
        have D5 := D4.alloc (.cells #[.int .i64 4, .int .i64 8, .int .i64 12] 2)
        have hG5 := hG4.below ((Below.refl _ _).alloc (Nat.le_refl _) (.cells #[.int .i64 4, .int .i64 8, .int .i64 12] 2))
        have hK5 := hK4.alloc (.cells #[.int .i64 4, .int .i64 8, .int .i64 12] 2)
        have hr5 := rd_news w4 2 [4, 8, 12] (by simp)
        have hs5 : w.heap.size + 3 ≤ (w4.alloc (.cells #[.int .i64 4, .int .i64 8, .int .i64 12] 2)).heap.size := by simp; omega
        clear s4 D4 hG4 hK4
        go_wp2_with fail
        refine (pick_w gs _ [4, 8, 12] _ s5 hr5 (by simp) (by simp) (fun b off e => by injection e with e; injection e with e; injection e; omega) ⟨_, rfl⟩).mono ?_
        rintro e w6 ⟨j, hj, rfl, s6, hk6⟩
        have hp := pick3 (P := fun z => 1 ≤ z ∧ z ≤ 12) hj (by omega) (by omega) (by omega)
        generalize gI [4, 8, 12] j = z at *
        have D6 := D5.keeps hk6 (by omega)
        have hG6 := hG5.keeps hk6 (fun q hq => by have := (hG5.own.block q hq).1; omega)
        have hK6 := hK5.trans hk6
        have hs6 : w.heap.size + 3 ≤ w6.heap.size := by have := hk6.size; omega
        clear s5 D5 hG5 hK5 hr5 hk6 hs5
        go_wp2_with fail
        refine (next_w gs z _ s6 hp.1 (by omega)).mono ?_
        rintro e w7 ⟨u, rfl, hu0, hu1, s7, hk7⟩
        have D7 := D6.keeps hk7 (by omega)
        have hG7 := hG6.keeps hk7 (fun q hq => by have := (hG6.own.block q hq).1; omega)
        have hK7 := hK6.trans hk7
        have hs7 : w.heap.size + 3 ≤ w7.heap.size := by have := hk7.size; omega
        clear s6 D6 hG6 hK6 hk7 hs6
        generalize 2 + y = o at *
        go_wp2_with fail
        go_loop [11] (fun cv => ∃ x : Int, cv = .int .i64 x ∧ 1 ≤ x ∧ x + dz x o ≤ 16) (fun cv => (dz (intOf cv) o).toNat)
        case atStart => exact ⟨_, rfl, by omega, by have := dz_bd (x := 1 + u) (o := o) (by omega); omega⟩
        case round =>
          obtain ⟨x, rfl, hx1, hx2⟩ := hrel
          have hdb := dz_bd (x := x) (o := o) (by omega)
          by_cases hgc : 1 < gcdI x o
          · have hdz := dz_step (by omega) hgc
            have HDZ := Lib.hid hdz
            clear hdz
            go_wp2_with fail
            refine (l01Gcd_c _ _ _ (by omega) (by omega) (by omega) (by omega)).mono ?_
            rintro e w8 ⟨rfl, rfl⟩
            go_wp2
            go_round
            case rel => exact ⟨x + 1, by go_num, by omega, by have := HDZ.out; omega⟩
            case measure => have := HDZ.out; simp [intOf]; omega
          · have hgc' : ¬ gcdI x o > 1 := hgc
            go_wp2_with fail
            refine (l01Gcd_c _ _ _ (by omega) (by omega) (by omega) (by omega)).mono ?_
            rintro e w8 ⟨rfl, rfl⟩
            go_upto_if 44 with fail
            go_cut [11] from 18 to 62 (fun z wc => (∃ x : Int, z = .int .i64 x ∧ 1 ≤ x ∧ x ≤ 40) ∧ w7 = wc)
            case first =>
              clear hG7 s7 D7 hK7 hs7 hOK
              by_cases hR0 : R.length = 0
              · have hR1 : ((R.length : Int) == 0) = true := by rw [hR0]; rfl
                clear hR0
                go_wp2_with fail
                rw [hR1]
                go_loop [11] (fun cv => ∃ x : Int, cv = .int .i64 x ∧ 1 ≤ x ∧ x + dz x o ≤ 40) (fun cv => (dz (intOf cv) o).toNat)
                case atStart => exact ⟨_, rfl, by omega, by have := dz_bd (x := x + o) (o := o) (by omega); omega⟩
                case round =>
                  obtain ⟨x', rfl, hx1', hx2'⟩ := hrel
                  have hdb' := dz_bd (x := x') (o := o) (by omega)
                  by_cases hgd : 1 < gcdI x' o
                  · have hdz := dz_step (by omega) hgd
                    have HDZ := Lib.hid hdz
                    clear hdz
                    go_wp2_with fail
                    refine (l01Gcd_c _ _ _ (by omega) (by omega) (by omega) (by omega)).mono ?_
                    rintro e w8 ⟨rfl, rfl⟩
                    go_wp2
                    go_round
                    case rel => exact ⟨x' + 1, by go_num, by omega, by have := HDZ.out; omega⟩
                    case measure => have := HDZ.out; simp [intOf]; omega
                  · have hgd' : ¬ gcdI x' o > 1 := hgd
                    go_wp2_with fail
                    refine (l01Gcd_c _ _ _ (by omega) (by omega) (by omega) (by omega)).mono ?_
                    rintro e w8 ⟨rfl, rfl⟩
                    go_wp2
                    go_meet
                    exact ⟨⟨x', rfl, by omega, by omega⟩, rfl⟩
              · have hR1 : ((R.length : Int) == 0) = false := beq_eq_false_iff_ne.2 (by omega)
                clear hR0
                go_wp2
                go_meet
                exact ⟨⟨x, rfl, by omega, by omega⟩, rfl⟩
            case rest =>
              obtain ⟨⟨cc, rfl, hcc1, hcc2⟩, rfl⟩ := hcut
              clear hgc hgc' hx1 hx2 hdb
              have hgg7 := hG7.block g rfl
              have hal2 : Below w7.heap.size w7 (w7.alloc (.cells #[.int .i64 cc, .int .i64 o] 2)) := (Below.refl _ _).alloc (Nat.le_refl _) _
              have hG2 := hG7.below hal2
              have hu : Own 2 (w7.alloc (.cells #[.int .i64 cc, .int .i64 o] 2)) (w.heap.size + 1) (.slice (some ⟨w7.heap.size, 0, none⟩) 2 2) [cc, o] := own_blk2 (Blk.new w7 _ _) (by omega)
              have hua : Apart (.slice (some ⟨w7.heap.size, 0, none⟩) 2 2) (.slice (some ⟨g, 0, none⟩) R.length c) := fun x h1 h2 => by simp [Value.ownBlock] at h1 h2; omega
              have hur : ∀ i, i < (rowsOf R).length → Apart (vs.getD i (.slice none 0 0)) (.slice (some ⟨w7.heap.size, 0, none⟩) 2 2) := fun i hi x h1 h2 => by simp [Value.ownBlock] at h2; have := ((hG7.row i hi).block x h1).2; omega
              have HY := Lib.hid (rowsOf_snoc R (cc, o))
              go_wp2_with (at_builtin; refine wpList_pushR rfl (.tmp 54) (.tmp 58) 80 rfl (w.heap.size + 1) 2 24 j0 Tryd.underlying80 ji jz0 jz1 jz2 (.slice (some ⟨g, 0, none⟩) R.length c) vs (rowsOf R) (.slice (some ⟨w7.heap.size, 0, none⟩) 2 2) [cc, o] (by simp [go_sem]) hG2 (w7.heap.size + 1) (by simp) rfl hu hua hur (by simp; omega) (by simp; omega) ?_; intro g3 c3 w2 hG3 hkp hlt3)
              have hkq : Keeps (fun q => q = g) (w7.alloc (.cells #[.int .i64 cc, .int .i64 o] 2)) w2 := hkp.mono (fun q hq => by simp [Value.ownBlock] at hq; exact hq.symm)
              have s8 := (s7.below hal2).keeps hkq (fun q hq e => by omega)
              have D8 := (D7.alloc (.cells #[.int .i64 cc, .int .i64 o] 2)).keeps hkq (by omega)
              have hK8 := (hK7.alloc (.cells #[.int .i64 cc, .int .i64 o] 2)).join hkq (fun q hq e => by omega)
              have hs8 : w.heap.size + 2 ≤ w2.heap.size := by have := hkq.size; simp at this; omega
              rw [rowsOf_len] at hG3
              rw [← HY.out] at hG3
              have hl3 : (R ++ [(cc, o)]).length = R.length + 1 := by simp
              rw [← hl3] at hG3
              have hOK3 : PairOk (R ++ [(cc, o)]) := by
                refine ⟨by omega, fun i hi => ?_⟩
                rcases Nat.lt_or_ge i R.length with hi2 | hi2
                · have e : (R ++ [(cc, o)]).getD i (0, 0) = R.getD i (0, 0) := by simp [List.getD, List.getElem?_append_left hi2]
                  rw [e]; exact hOK.2 i hi2
                · have hi3 : i = R.length := by omega
                  have e : (R ++ [(cc, o)]).getD i (0, 0) = (cc, o) := by rw [hi3]; simp [List.getD]
                  rw [e]; exact ⟨by show 1 ≤ cc; omega, by show cc ≤ 2000; omega, by show 1 ≤ o; omega, by show o ≤ 2000; omega⟩
              have HL3 := Lib.hid hl3
              have hn7 : 1 ≤ n * o := by have := Int.mul_le_mul_of_nonneg_right hn1 (show 0 ≤ o by omega); omega
              clear hkp hkq hG2 hG7 hl3 hu hua hur s7 D7 hK7 hal2 hOK
              go_wp2
              go_roundw
              case rel => exact ⟨k - 1, g3, c3, _, R ++ [(cc, o)], n * o, by go_num, by have := HL3.out; omega, hOK3, rfl, hn7, by omega, by rw [HL3.out], hG3, s8, D8, hs8, hK8⟩
              case measure => simp [intOf]; omega
    · have hkn : ¬ (0 : Int) < (k : Int) := by omega
      go_wp2_with fail
      refine (bon_w _ R _ hG.own.rd hOK).mono ?_
      rintro e w4 ⟨xs, cd, ⟨a, kk, rfl, hO, hb4⟩, hcd0, hcd5, hbr⟩
      have s4 := s3.below hb4
      have D4 := D3.stays hb4
      have hK4 := hK3.trans (Keeps.of_below hb4)
      clear s3 D3 hK3 hG hOK hRk
      have hal : Below w4.heap.size w4 (w4.alloc (.cells #[.slice a xs.length kk] 26)) := (Below.refl _ _).alloc (Nat.le_refl _) _
      have s5 := s4.below hal
      have D5 := D4.stays hal
      have hK5 := hK4.trans (Keeps.of_below hal)
      have hO5 := hO.below hal (Nat.le_refl _)
      have B5 := Blk.new w4 26 #[.slice a xs.length kk]
      have hs5 : w.heap.size + 2 ≤ w4.heap.size := by have := hb4.size; omega
      have HBR := Lib.hid hbr
      clear s4 D4 hK4 hO hal hb4 hbr
      go_upto_region 17 with fail
      generalize w4.alloc (.cells #[.slice a xs.length kk] 26) = w5 at *
      go_cut [86] from 68 to 86 (fun bv wc => ∃ b : Bool, bv = .bool b ∧ (b = false → BraOk xs) ∧ Src wc gs ∧ Blk wc w.heap.size 26 #[.slice none 0 0] ∧ Blk wc w4.heap.size 26 #[.slice a xs.length kk] ∧ OwnI wc wo.heap.size (.slice a xs.length kk) xs ∧ Keeps (fun q => q = gs) w wc)
      case first =>
        by_cases hcd : cd = 0
        · have hcb : (cd != 0) = false := by simp [hcd]
          have hok := HBR.out hcd
          clear hcd HBR
          have hl7 := bra_len hok
          have hlp := hok.len
          obtain ⟨g9, c9, he9, hg1, hg2, hc1, hc2⟩ := Own.pos hO5 hlp
          injection he9 with q1 q2 q3
          subst q1 q3
          have dB := B5.cell 0
          have dl := hO5.cell (xs.length - 1) (by omega)
          have hlt1 : (xs.length : Int) - 1 < (xs.length : Int) := by omega
          have hge1 : (0 : Int) ≤ (xs.length : Int) - 1 := by omega
          have hge2 : (1 : Int) ≤ (xs.length : Int) := by omega
          have HOK := Lib.hid hok
          clear q2 hok
          generalize gI xs (xs.length - 1) = z at *
          by_cases hz : z > term
          · go_wp2
            go_meet
            exact ⟨true, rfl, fun _ => HOK.out, s5, D5, B5, hO5, hK5⟩
          · have hz' : ¬ term < z := hz
            have hzd : decide (z > term) = false := by simpa using hz
            go_wp2_with fail
            refine (next_w gs 12 _ s5 (by omega) (by omega)).mono ?_
            rintro e w6 ⟨y, rfl, hy0, hy1, s6, hk6⟩
            have hsz6 := hk6.size
            have D6 := D5.keeps hk6 (by omega)
            have B6 := B5.keeps hk6 (by omega)
            have hO6 := hO5.keeps hk6 (fun q hq => by have := (hO5.block q hq).1; omega)
            have hK6 := hK5.trans hk6
            clear s5 D5 B5 hO5 hK5 dB dl
            by_cases hy : y = 0
            · have hyb : (y == 0) = true := by simp [hy]
              clear hy
              go_wp2
              go_meet
              exact ⟨true, rfl, fun _ => HOK.out, s6, D6, B6, hO6, hK6⟩
            · have hyb : (y == 0) = false := by simp [hy]
              clear hy
              go_wp2
              go_meet
              exact ⟨false, rfl, fun _ => HOK.out, s6, D6, B6, hO6, hK6⟩
        · have hcb : (cd != 0) = true := by simp [hcd]
          clear hcd HBR
          go_wp2
          go_meet
          exact ⟨true, rfl, by simp, s5, D5, B5, hO5, hK5⟩
      case rest =>
        obtain ⟨b, rfl, hb, s6, D6, B6, hO6, hK6⟩ := hcut
        clear s5 D5 hK5 hO5 B5 HBR
        have f0 := D6.free 0
        have e0 := D6.cell 0
        have hs6 := hK6.size
        cases b
        · have hok := hb rfl
          have dB := B6.cell 0
          have q0 := (D6.set 0 (.slice a xs.length kk)).cell 0
          have hset : Keeps (fun q => q = w.heap.size) wc (wc.setCell ⟨w.heap.size, 0, none⟩ (.slice a xs.length kk)) := (Keeps.refl (fun q => q = w.heap.size) wc).setCell (p := ⟨w.heap.size, 0, none⟩) rfl _
          have hO7 := hO6.other (g := w.heap.size) (fun q hq => by have := (hO6.block q hq).1; omega) 0 (.slice a xs.length kk)
          go_wp2
          refine bodyPost_ret (v := .agg #[.slice a xs.length kk]) (by simp [results, Tryd.results52, go_sem, q0]) rfl ?_
          exact ⟨xs, a, kk, rfl, hO7.base_le (by omega), .inl hok, s6.keeps hset (fun q hq e => by omega), hK6.join hset (fun q hq e => by omega)⟩
        · clear hb
          have s7 := s6.below ((Below.refl _ _).alloc (Nat.le_refl _) (.cells #[.int .i64 1, .int .i64 2, .int .i64 3] 2))
          have D7 := D6.alloc (.cells #[.int .i64 1, .int .i64 2, .int .i64 3] 2)
          have hK7 := hK6.alloc (.cells #[.int .i64 1, .int .i64 2, .int .i64 3] 2)
          have hr7 := rd_news wc 2 [1, 2, 3] (by simp)
          clear s6 D6 B6 hO6 hK6 f0 e0
          go_wp2_with fail
          refine (pick_w gs _ [1, 2, 3] _ s7 hr7 (by simp) (by simp) (fun b off e => by injection e with e; injection e with e; injection e; omega) ⟨_, rfl⟩).mono ?_
          rintro e w8 ⟨j, hj, rfl, s8, hk8⟩
          have hp := pick3 (P := fun z => 1 ≤ z ∧ z ≤ 3) hj (by omega) (by omega) (by omega)
          have hp0 : gI [1, 2, 3] j = 1 ∨ True := .inr trivial
          generalize gI [1, 2, 3] j = z at *
          have D8 := D7.keeps hk8 (by omega)
          have hK8 := hK7.trans hk8
          have hs8 := hk8.size
          have D9 := D8.alloc (.cells #[.int .i64 z] 2)
          have f0 := D9.free 0
          have e0 := D9.cell 0
          have hlt9 : w.heap.size < w8.heap.size := D8.lt
          have hset : Keeps (fun q => q = w.heap.size) w8 (w8.setCell ⟨w.heap.size, 0, none⟩ (.slice (some ⟨w8.heap.size, 0, none⟩) 1 1)) := (Keeps.refl (fun q => q = w.heap.size) w8).setCell (p := ⟨w.heap.size, 0, none⟩) rfl _
          have q0 := ((D8.set 0 (.slice (some ⟨w8.heap.size, 0, none⟩) 1 1)).alloc (.cells #[.int .i64 z] 2)).cell 0
          have hz8 : (w8.setCell ⟨w.heap.size, 0, none⟩ (.slice (some ⟨w8.heap.size, 0, none⟩) 1 1)).heap.size = w8.heap.size := by simp
          have hB9 : Blk ((w8.setCell ⟨w.heap.size, 0, none⟩ (.slice (some ⟨w8.heap.size, 0, none⟩) 1 1)).alloc (.cells #[.int .i64 z] 2)) w8.heap.size 2 #[.int .i64 z] := Blk.new' hz8.symm
          have hO9 := own_blkN (base := w.heap.size) hB9 (by omega)
          have hS9 := (s8.keeps hset (fun q hq e => by omega)).below ((Below.refl _ _).alloc (Nat.le_refl _) (.cells #[.int .i64 z] 2))
          have hK9 := (hK8.join hset (fun q hq e => by omega)).alloc (.cells #[.int .i64 z] 2)
          clear hz8
          go_wp2
          refine bodyPost_ret (v := .agg #[.slice (some ⟨w8.heap.size, 0, none⟩) 1 1]) (by simp [results, Tryd.results52, go_sem, q0]) rfl ?_
          exact ⟨[z], _, 1, rfl, hO9, .inr ⟨z, hp.1, hp.2, rfl⟩, hS9, hK9⟩
end Go.Proofs.YtglghdkjppcedaaDoor
