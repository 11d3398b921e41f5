/- Contracts: ClusterOfExcesses, the reference. -/
import Derived.Test.YtglghdkjppcedaaGreatDoorPart11
import Derived.Test.YtglghdkjppcedaaGreatDoorPart10
import Derived.Test.YtglghdkjppcedaaGreatDoorPart0
namespace Go.Proofs.YtglghdkjppcedaaGreatDoor
open Go.RowKit

/-- The weights while the point i is worked in: up to the place j. -/
def liTo (P S E : List Int) (i j : Nat) : List Int := (List.range P.length).map fun k => sumTo (fun x => gI E x * mI P S x k) (if k < j then i + 1 else i)
@[simp] theorem liTo_len (P S E : List Int) (i j : Nat) : (liTo P S E i j).length = P.length := by simp [liTo]
theorem gI_liTo {P S E : List Int} {i j k : Nat} (h : k < P.length) : gI (liTo P S E i j) k = sumTo (fun x => gI E x * mI P S x k) (if k < j then i + 1 else i) := by rw [gI_lt (by simpa using h)]; simp [liTo]
theorem liTo_zero (P S E : List Int) (i : Nat) : liTo P S E i 0 = linTo P S E i := by
  apply gI_ext (by simp)
  intro k hk
  have hk' : k < P.length := by simpa using hk
  rw [gI_liTo hk', gI_linTo hk', if_neg (by omega)]
theorem liTo_all (P S E : List Int) (i : Nat) : liTo P S E i P.length = linTo P S E (i + 1) := by
  apply gI_ext (by simp)
  intro k hk
  have hk' : k < P.length := by simpa using hk
  rw [gI_liTo hk', gI_linTo hk', if_pos hk']
theorem linTo_zero (P S E : List Int) : linTo P S E 0 = zeroL P.length := by
  apply gI_ext (by simp)
  intro k hk
  have hk' : k < P.length := by simpa using hk
  rw [gI_linTo hk', gI_zeroL]; rfl
theorem liTo_step {P S E : List Int} {i j : Nat} (_ : j < P.length) : (liTo P S E i j).set j (sumTo (fun x => gI E x * mI P S x j) i + gI E i * mI P S i j) = liTo P S E i (j + 1) := by
  apply gI_ext (by simp)
  intro k hk
  have hk' : k < P.length := by simpa using hk
  rw [gI_set, gI_liTo hk', gI_liTo hk', liTo_len]
  by_cases e : j = k
  · subst e; rw [if_pos ⟨rfl, hk'⟩, if_pos (by omega), sumTo_succ]
  · rw [if_neg (fun h => e h.1)]
    by_cases e2 : k < j
    · rw [if_pos e2, if_pos (by omega)]
    · rw [if_neg e2, if_neg (by omega)]
theorem li_bd {P S W E : List Int} (hc : CluOk P S W) (hE : ∀ i, i < P.length → -1000 ≤ gI E i ∧ gI E i ≤ 1000) {i k : Nat} (hi : i ≤ P.length) : -60000000000000000 ≤ sumTo (fun x => gI E x * mI P S x k) i ∧ sumTo (fun x => gI E x * mI P S x k) i ≤ 60000000000000000 := by
  have := sumTo_bound (f := fun x => gI E x * mI P S x k) (n := i) (-1677721500000000) 1677721500000000 (fun x hx => mul_abs_le (B := 1000) (C := 1677721500000) (hE x (by omega)) (mI_bd hc k (by omega)))
  have := hc.1.2.1
  omega

set_option maxRecDepth 100000 in
set_option maxHeartbeats 4000000 in
theorem specOfExc_3 (p s q v : Value) (P S W O : List Int) (w : World) (hp : Rd w p P) (hs : Rd w s S) (hq : Rd w q W) (hv : Rd w v O) (fb : Bool) (hc : cluB P S W = true) (hd : ((O.length : Int) != (P.length : Int)) = false) (hl0 : O.length = P.length) (ha0 : allIn O (-1000) 1000 = true) (hO0 : 0 < O.length) (hw0 : cluB P S (linTo P S O P.length) = fb) :
    Calls Tryz.prog 7 #[.agg #[p, s, q], v] w (RetCC w (okL fb P) (okL fb S) (okL fb (linTo P S O P.length)) (okC fb 3)) := by
  obtain ⟨a1, k1, rfl⟩ := hp.len0
  obtain ⟨a2, k2, rfl⟩ := hs.len0
  obtain ⟨a3, k3, rfl⟩ := hq.len0
  obtain ⟨bv, ov, k4, rfl, hv1, hv2, hvb, hvc⟩ := hv.cells hO0
  have HA0 := Lib.hid ha0
  have hcl := cluB_iff.1 hc
  have HCL := Lib.hid hcl
  have hl := Lib.hid hl0
  have hwy := Lib.hid hw0
  have h24 := hcl.1.2.1
  have hEb := Lib.hid (show ∀ i, i < P.length → -1000 ≤ gI O i ∧ gI O i ≤ 1000 from fun i hi => allIn_iff.1 ha0 i (by omega))
  clear ha0 hcl hl0 hw0
  have hx := Boxed.start w 26 #[.slice a1 P.length k1, .slice a2 S.length k2, .slice a3 W.length k3]
  have hxa := hx.alloc (.cells #[.slice none 0 0, .slice none 0 0, .slice none 0 0] 26)
  have D := Blk.new' (w := w.alloc (.cells #[.slice a1 P.length k1, .slice a2 S.length k2, .slice a3 W.length k3] 26)) (t := 26) (cs := #[.slice none 0 0, .slice none 0 0, .slice none 0 0]) (g := w.heap.size + 1) (by simp)
  have c0 := hxa.cell 0
  have c1 := hxa.cell 1
  have c2 := hxa.cell 2
  go_enter Tryz.func7, Tryz.ntmps7
  go_wp2_with fail
  refine (l07Is_c _ _ _ P S W _ (hxa.rd hp) (hxa.rd hs) (hxa.rd hq)).mono ?_
  rintro e w1 ⟨rfl, hb⟩
  rw [hc]
  have D1 := D.stays hb
  have hx1 := hxa.trans hb
  clear c0 c1 c2
  have c0 := hx1.cell 0
  have c1 := hx1.cell 1
  have c2 := hx1.cell 2
  go_wp2_with fail
  go_loop [6] (fun i => ∃ k : Nat, k ≤ O.length ∧ i = .int .i64 k ∧ (∀ j, j < k → -1000 ≤ gI O j ∧ gI O j ≤ 1000)) (fun i => O.length - (intOf i).toNat)
  case atStart => exact ⟨0, Nat.zero_le _, rfl, fun j hj => absurd hj (by omega)⟩
  case round =>
    obtain ⟨k, hk, rfl, hg⟩ := hrel
    by_cases hlt : k < O.length
    · have hck := hvc k hlt
      have hck' : w1.cell? ⟨bv, ov + k, none⟩ = some (.int .i64 (gI O k)) := by rw [hx1.below.cell (p := ⟨bv, ov + k, none⟩) hvb]; exact hck
      have HG : Hid (inB (gI O k) (-1000) 1000 = true → ∀ j, j < k + 1 → -1000 ≤ gI O j ∧ gI O j ≤ 1000) := Lib.hid (by
        intro hb j hj
        by_cases e : j = k
        · rw [e]; exact inB_iff.1 hb
        · exact hg j (by omega))
      have HB := Lib.hid (@allIn_no O (-1000) 1000 k hlt)
      clear hck hvc hg
      generalize gI O k = y at hck' HG HB
      cases hin : inB y (-1000) 1000
      · have hfalse := Lib.hid (HB.out hin)
        exact absurd (hfalse.out.symm.trans HA0.out) (by simp)
      · have HG' := Lib.hid (HG.out hin)
        clear HG HB
        go_wp2_with fail
        refine (l01In_c _ _ _ _).mono ?_
        rintro e w' ⟨rfl, rfl⟩
        rw [hin]
        go_wp2
        go_round
        case rel => exact ⟨k + 1, by omega, by go_num, HG'.out⟩
        case measure => simp [intOf]; omega
    · have hk' : k = O.length := by omega
      subst hk'
      clear hg c0 c1 c2
      have hz1 : w.heap.size + 2 ≤ w1.heap.size := Nat.le_trans (by simp) hb.size
      obtain ⟨i0, hi0, hz0, hz2, hz3⟩ := info_parts Tryz.infoI
      go_wp2_with (at_make; refine wpList_make_full _ rfl (.tmp 38) (.tmp 38) 24 rfl w1.heap.size 2 i0 (.int .i64 0) 1 Tryz.underlying24 hi0 hz0 hz2 _ _ _ _ O.length rfl rfl rfl rfl ?c1 ?c2 ?c3 ?_)
      case c1 => have := hl.out; omega
      case c2 => unfold maxLen; have := hl.out; omega
      intro w2 hown2 hgrow2
      have hb2 : Below w1.heap.size w1 w2 := (Below.refl _ _).grown hgrow2 (Nat.le_refl _) (by simp)
      rw [toList_madeCells_one] at hown2
      have ho2 := own_made hown2
      rw [show zeroL O.length = linTo P S O 0 by rw [linTo_zero, hl.out]] at ho2
      have D2 := D1.stays hb2
      have hx2 := hx1.trans hb2
      have hs2 : w1.heap.size < w2.heap.size := (ho2.block _ rfl).2
      clear hown2 hgrow2
      go_wp2
      go_loopw [8, 9, 10] (fun ii _ _ wr => ∃ i : Nat, i ≤ O.length ∧ ii = .int .i64 i ∧ OwnI wr w1.heap.size (.slice (some ⟨w1.heap.size, 0, none⟩) O.length O.length) (linTo P S O i) ∧ Boxed w wr 26 #[.slice a1 P.length k1, .slice a2 S.length k2, .slice a3 W.length k3] ∧ Blk wr (w.heap.size + 1) 26 #[.slice none 0 0, .slice none 0 0, .slice none 0 0]) (fun ii _ _ _ => O.length - (intOf ii).toNat)
      case atStart => exact ⟨0, Nat.zero_le _, rfl, ho2, hx2, D2⟩
      case round =>
        obtain ⟨i, hi, rfl, ho, hbx, hD⟩ := hrel
        clear ho2 hx2 D2
        obtain ⟨wo, rfl⟩ : ∃ wo : World, wo = wr := ⟨_, rfl⟩
        have hso : w1.heap.size < wo.heap.size := (ho.block _ rfl).2
        by_cases hit : i < O.length
        · have hiP : i < P.length := by have := hl.out; omega
          have hii : (i : Int) < (O.length : Int) := by omega
          have c0 := hbx.cell 0
          have c1 := hbx.cell 1
          have c2 := hbx.cell 2
          go_wp2_with fail
          refine (l07Simple_l _ _ _ P S W i _ (hbx.rd hp) (hbx.rd hs) HCL.out hiP).mono ?_
          rintro e w3 ⟨a, k, rfl, hr, hb3⟩
          have ho3 := ho.below hb3 (Nat.le_refl _)
          have hbx3 := hbx.trans hb3
          have hD3 := hD.stays hb3
          have hs3 := hb3.size
          rw [← liTo_zero] at ho3
          have hrb := hr.block
          clear ho hbx hD c0 c1 c2
          go_wp2
          go_loopw [10] (fun jj wr => ∃ j : Nat, j ≤ P.length ∧ jj = .int .i64 j ∧ OwnI wr w1.heap.size (.slice (some ⟨w1.heap.size, 0, none⟩) O.length O.length) (liTo P S O i j) ∧ OwnI wr wo.heap.size (.slice a P.length k) (mRow P S i) ∧ Boxed w wr 26 #[.slice a1 P.length k1, .slice a2 S.length k2, .slice a3 W.length k3] ∧ Blk wr (w.heap.size + 1) 26 #[.slice none 0 0, .slice none 0 0, .slice none 0 0]) (fun jj _ => P.length - (intOf jj).toNat)
          case atStart => exact ⟨0, Nat.zero_le _, rfl, ho3, hr, hbx3, hD3⟩
          case round =>
            obtain ⟨j, hj, rfl, ho4, hr4, hbx4, hD4⟩ := hrel
            clear ho3 hr hbx3 hD3
            obtain ⟨wq, rfl⟩ : ∃ wq : World, wq = wr := ⟨_, rfl⟩
            by_cases hjt : j < P.length
            · obtain ⟨ga, ca, hge, hga0, hga1, _, _⟩ := Own.pos hr4 (by simp; omega)
              injection hge with hge1 hge2 hge3
              subst hge1 hge3
              clear hge2
              have hjO : (j : Int) < (O.length : Int) := by have := hl.out; omega
              have hjP : (j : Int) < (P.length : Int) := by omega
              have hil : (liTo P S O i j).length = O.length := by rw [liTo_len]; exact hl.out.symm
              have hO5 : OwnI wq w1.heap.size (.slice (some ⟨w1.heap.size, 0, none⟩) (liTo P S O i j).length O.length) (liTo P S O i j) := by rw [hil]; exact ho4
              have hcz := hO5.cell j (by rw [hil]; omega)
              rw [gI_liTo hjt, if_neg (by omega)] at hcz
              have hfz := hO5.free j
              have hR5 : OwnI wq wo.heap.size (.slice (some ⟨ga, 0, none⟩) (mRow P S i).length k) (mRow P S i) := by rw [mRow_len]; exact hr4
              have hcr := hR5.cell j (by rw [mRow_len]; exact hjt)
              rw [gI_mRow hjt] at hcr
              have hcv : wq.cell? ⟨bv, ov + i, none⟩ = some (.int .i64 (gI O i)) := by rw [hbx4.below.cell (p := ⟨bv, ov + i, none⟩) hvb]; exact hvc i hit
              have b1 := hEb.out i hiP
              have b2 := mI_bd HCL.out (k := j) hiP
              have b3 := li_bd HCL.out hEb.out (i := i) (k := j) (by omega)
              have b4 := mul_abs_le (B := 1000) (C := 1677721500000) b1 b2
              have hset := hO5.set j (sumTo (fun x => gI O x * mI P S x j) i + gI O i * mI P S i j)
              rw [liTo_step hjt, hil] at hset
              have hk5 : Keeps (fun b => b = w1.heap.size) wq (wq.setCell ⟨w1.heap.size, j, none⟩ (.int .i64 (sumTo (fun x => gI O x * mI P S x j) i + gI O i * mI P S i j))) := (Keeps.refl (fun b => b = w1.heap.size) _).setCell (p := ⟨w1.heap.size, j, none⟩) rfl _
              have hr5 := hr4.keeps hk5 (fun b hb e => by simp [Value.ownBlock] at hb; omega)
              have hbx5 := hbx4.wrote (hk5.mono (fun b hb => by omega))
              have hD5 := hD4.keeps hk5 (fun e => by omega)
              have HS := Lib.hid hset
              have HR := Lib.hid hr5
              have HX := Lib.hid hbx5
              have HD := Lib.hid hD5
              clear hset hr5 hbx5 hD5 hk5 hO5 hR5 ho4 hr4 hbx4 hD4 hil
              generalize sumTo (fun x => gI O x * mI P S x j) i = z at hcz b3 HS HR HX HD
              generalize gI O i = x at hcv b1 b4 HS HR HX HD
              generalize mI P S i j = y at hcr b2 b4 HS HR HX HD
              obtain ⟨m1, m2⟩ := b4
              obtain ⟨m3, m4⟩ := b3
              have e2 : IntKind.i64.wrap (x * y) = x * y := IntWalk.i64_in _ (by omega)
              have e4 : IntKind.i64.wrap (z + x * y) = z + x * y := IntWalk.i64_in _ (by omega)
              go_wp2_with fail
              go_still_tail 17, (by kernel_rfl)
              change wpList _ _ _ _ _ wq.drew
              go_wp2
              go_roundw
              case rel => exact ⟨j + 1, by omega, by go_num, HS.out.below (Below.refl _ _).drew (Nat.le_refl _), HR.out.below (Below.refl _ _).drew (Nat.le_refl _), HX.out.trans (Below.refl _ _).drew, HD.out.stays (Below.refl _ _).drew⟩
              case measure => simp [intOf]; omega
            · have hj' : j = P.length := by omega
              subst hj'
              rw [liTo_all] at ho4
              go_wp2
              go_roundw
              case rel => exact ⟨i + 1, by omega, by go_num, ho4, hbx4, hD4⟩
              case measure => simp [intOf]; omega
        · have hi' : i = O.length := by omega
          subst hi'
          rw [hl.out] at ho ⊢
          have c0 := hbx.cell 0
          have c1 := hbx.cell 1
          have c2 := hbx.cell 2
          go_wp2_with fail
          refine (l07With_c _ _ _ _ _ _ P S W _ (hbx.rd hp) (hbx.rd hs) HCL.out).mono ?_
          rintro e v2 ⟨b1, j1, b2, j2, rfl, o1, o2, ap, hq2⟩
          have hy2 := hbx.trans hq2
          have G2 := hD.stays hq2
          have hz3 := hq2.size
          have pP := o1.block
          have pS := o2.block
          have pL := ho.block
          have o3 := ho.below hq2 (Nat.le_refl _)
          clear c0 c1 c2
          go_wp2_with fail
          refine (l07Fit_v fb _ _ _ _ _ _ _ P S (linTo P S O P.length) _ o1.rd o2.rd o3.rd (linTo_len _ _ _ _) hwy.out).mono ?_
          rintro e v3 ⟨rfl, hq3⟩
          have hy3 := hy2.trans hq3
          have G3 := G2.stays hq3
          have hz4 := hq3.size
          have o4 := o1.below hq3 (Nat.le_refl _)
          have o5 := o2.below hq3 (Nat.le_refl _)
          have o6 := o3.below hq3 (Nat.le_refl _)
          have hdr : w1.drew.heap.size = w1.heap.size := rfl
          have E5 := Blk.new v3 26 #[.slice (oA fb b1) (oN fb P.length) (oN fb j1), .slice (oA fb b2) (oN fb S.length) (oN fb j2), .slice (oA fb (some ⟨w1.heap.size, 0, none⟩)) (oN fb P.length) (oN fb P.length)]
          have D5 := G3.alloc (.cells #[.slice (oA fb b1) (oN fb P.length) (oN fb j1), .slice (oA fb b2) (oN fb S.length) (oN fb j2), .slice (oA fb (some ⟨w1.heap.size, 0, none⟩)) (oN fb P.length) (oN fb P.length)] 26)
          have hx5 := hy3.alloc (.cells #[.slice (oA fb b1) (oN fb P.length) (oN fb j1), .slice (oA fb b2) (oN fb S.length) (oN fb j2), .slice (oA fb (some ⟨w1.heap.size, 0, none⟩)) (oN fb P.length) (oN fb P.length)] 26)
          have hk5 : Keeps (fun k => k = v3.heap.size) v3 (v3.alloc (.cells #[.slice (oA fb b1) (oN fb P.length) (oN fb j1), .slice (oA fb b2) (oN fb S.length) (oN fb j2), .slice (oA fb (some ⟨w1.heap.size, 0, none⟩)) (oN fb P.length) (oN fb P.length)] 26)) := Keeps.of_below ((Below.refl _ _).alloc (Nat.le_refl _) _)
          have o7 := o4.below (show Below v3.heap.size v3 (v3.alloc (.cells #[.slice (oA fb b1) (oN fb P.length) (oN fb j1), .slice (oA fb b2) (oN fb S.length) (oN fb j2), .slice (oA fb (some ⟨w1.heap.size, 0, none⟩)) (oN fb P.length) (oN fb P.length)] 26)) from (Below.refl _ _).alloc (Nat.le_refl _) _) (Nat.le_refl _)
          have o8 := o5.below (show Below v3.heap.size v3 (v3.alloc (.cells #[.slice (oA fb b1) (oN fb P.length) (oN fb j1), .slice (oA fb b2) (oN fb S.length) (oN fb j2), .slice (oA fb (some ⟨w1.heap.size, 0, none⟩)) (oN fb P.length) (oN fb P.length)] 26)) from (Below.refl _ _).alloc (Nat.le_refl _) _) (Nat.le_refl _)
          have o9 := o6.below (show Below v3.heap.size v3 (v3.alloc (.cells #[.slice (oA fb b1) (oN fb P.length) (oN fb j1), .slice (oA fb b2) (oN fb S.length) (oN fb j2), .slice (oA fb (some ⟨w1.heap.size, 0, none⟩)) (oN fb P.length) (oN fb P.length)] 26)) from (Below.refl _ _).alloc (Nat.le_refl _) _) (Nat.le_refl _)
          have ho5 : Own3 2 (v3.alloc (.cells #[.slice (oA fb b1) (oN fb P.length) (oN fb j1), .slice (oA fb b2) (oN fb S.length) (oN fb j2), .slice (oA fb (some ⟨w1.heap.size, 0, none⟩)) (oN fb P.length) (oN fb P.length)] 26)) w1.heap.size (.slice (oA fb b1) (oN fb P.length) (oN fb j1)) (.slice (oA fb b2) (oN fb S.length) (oN fb j2)) (.slice (oA fb (some ⟨w1.heap.size, 0, none⟩)) (oN fb P.length) (oN fb P.length)) (okL fb P) (okL fb S) (okL fb (linTo P S O P.length)) := own3_fit fb ⟨o7.base_le (by omega), o8.base_le (by omega), o9.base_le (by omega), ap, fun k h1 h2 => by have := pP k h1; have := pL k h2; omega, fun k h1 h2 => by have := pS k h1; have := pL k h2; omega⟩
          have g0 : (v3.alloc (.cells #[.slice (oA fb b1) (oN fb P.length) (oN fb j1), .slice (oA fb b2) (oN fb S.length) (oN fb j2), .slice (oA fb (some ⟨w1.heap.size, 0, none⟩)) (oN fb P.length) (oN fb P.length)] 26)).cell? ⟨v3.heap.size, 0, none⟩ = some (.slice (oA fb b1) (oN fb P.length) (oN fb j1)) := E5.cell 0
          have g1 : (v3.alloc (.cells #[.slice (oA fb b1) (oN fb P.length) (oN fb j1), .slice (oA fb b2) (oN fb S.length) (oN fb j2), .slice (oA fb (some ⟨w1.heap.size, 0, none⟩)) (oN fb P.length) (oN fb P.length)] 26)).cell? ⟨v3.heap.size, 1, none⟩ = some (.slice (oA fb b2) (oN fb S.length) (oN fb j2)) := E5.cell 1
          have g2 : (v3.alloc (.cells #[.slice (oA fb b1) (oN fb P.length) (oN fb j1), .slice (oA fb b2) (oN fb S.length) (oN fb j2), .slice (oA fb (some ⟨w1.heap.size, 0, none⟩)) (oN fb P.length) (oN fb P.length)] 26)).cell? ⟨v3.heap.size, 2, none⟩ = some (.slice (oA fb (some ⟨w1.heap.size, 0, none⟩)) (oN fb P.length) (oN fb P.length)) := E5.cell 2
          have f0 := D5.free 0
          have f1 := D5.free 1
          have f2 := D5.free 2
          have e0 := D5.cell 0
          have e1 := D5.cell 1
          have e2 := D5.cell 2
          go_wp2
          have F := ((D5.set 0 (.slice (oA fb b1) (oN fb P.length) (oN fb j1))).set 1 (.slice (oA fb b2) (oN fb S.length) (oN fb j2))).set 2 (.slice (oA fb (some ⟨w1.heap.size, 0, none⟩)) (oN fb P.length) (oN fb P.length))
          have q0 := F.cell 0
          have q1 := F.cell 1
          have q2 := F.cell 2
          have hK : Keeps (fun k => k = w.heap.size + 1) (v3.alloc (.cells #[.slice (oA fb b1) (oN fb P.length) (oN fb j1), .slice (oA fb b2) (oN fb S.length) (oN fb j2), .slice (oA fb (some ⟨w1.heap.size, 0, none⟩)) (oN fb P.length) (oN fb P.length)] 26)) ((((v3.alloc (.cells #[.slice (oA fb b1) (oN fb P.length) (oN fb j1), .slice (oA fb b2) (oN fb S.length) (oN fb j2), .slice (oA fb (some ⟨w1.heap.size, 0, none⟩)) (oN fb P.length) (oN fb P.length)] 26)).setCell ⟨w.heap.size + 1, 0, none⟩ (.slice (oA fb b1) (oN fb P.length) (oN fb j1))).setCell ⟨w.heap.size + 1, 1, none⟩ (.slice (oA fb b2) (oN fb S.length) (oN fb j2))).setCell ⟨w.heap.size + 1, 2, none⟩ (.slice (oA fb (some ⟨w1.heap.size, 0, none⟩)) (oN fb P.length) (oN fb P.length))) := ((((Keeps.refl (fun k => k = w.heap.size + 1) (v3.alloc (.cells #[.slice (oA fb b1) (oN fb P.length) (oN fb j1), .slice (oA fb b2) (oN fb S.length) (oN fb j2), .slice (oA fb (some ⟨w1.heap.size, 0, none⟩)) (oN fb P.length) (oN fb P.length)] 26))).setCell (p := ⟨w.heap.size + 1, 0, none⟩) rfl _).setCell (p := ⟨w.heap.size + 1, 1, none⟩) rfl _).setCell (p := ⟨w.heap.size + 1, 2, none⟩) rfl _)
          refine bodyPost_ret (v := .tuple #[.agg #[.slice (oA fb b1) (oN fb P.length) (oN fb j1), .slice (oA fb b2) (oN fb S.length) (oN fb j2), .slice (oA fb (some ⟨w1.heap.size, 0, none⟩)) (oN fb P.length) (oN fb P.length)], .int .i64 (okC fb 3)]) (by simp [results, Tryz.results7, go_sem, q0, q1, q2]) rfl (retCC_fit (linTo_len _ _ _ _) ?_ ?_)
          · exact (ho5.keeps hK (fun k hk e => by have := (ho5.block k hk).1; omega)).base_le (by omega)
          · exact hx5.below.trans (hK.below (by have := hx5.size; omega) (fun k hk => by omega))

end Go.Proofs.YtglghdkjppcedaaGreatDoor

/- Contracts: ClusterOfExcesses, the program and the reference. -/
namespace Go.Proofs.YtglghdkjppcedaaGreatDoor
open Go.RowKit

theorem implOfExc_c (p s q v : Value) (P S W O : List Int) (w : World) (hp : Rd w p P) (hs : Rd w s S) (hq : Rd w q W) (hv : Rd w v O) :
    Calls Tryz.prog 6 #[.agg #[p, s, q], v] w (RetCC w (okL (oxB P S W O) P) (okL (oxB P S W O) S) (okL (oxB P S W O) (linTo P S O P.length)) (oxC P S W O)) := by
  cases hc : cluB P S W
  · obtain ⟨e1, e2⟩ := oxB_1 (O := O) hc
    rw [e1, e2]
    exact implOfExc_1 p s q v P S W O w hp hs hq hv hc
  · cases ho : excB P O
    · obtain ⟨e1, e2⟩ := oxB_2 hc ho
      rw [e1, e2]
      exact implOfExc_2 p s q v P S W O w hp hs hq hv hc ho
    · obtain ⟨e1, e2⟩ := oxB_3 hc ho
      rw [e1, e2]
      exact implOfExc_3 p s q v P S W O w hp hs hq hv hc ho
theorem specOfExc_c (p s q v : Value) (P S W O : List Int) (w : World) (hp : Rd w p P) (hs : Rd w s S) (hq : Rd w q W) (hv : Rd w v O) :
    Calls Tryz.prog 7 #[.agg #[p, s, q], v] w (RetCC w (okL (oxB P S W O) P) (okL (oxB P S W O) S) (okL (oxB P S W O) (linTo P S O P.length)) (oxC P S W O)) := by
  cases hc : cluB P S W
  · obtain ⟨e1, e2⟩ := oxB_1 (O := O) hc
    rw [e1, e2]
    exact specOfExc_1 p s q v P S W O w hp hs hq hv hc
  · have hcl := cluB_iff.1 hc
    by_cases hl : O.length = P.length
    · have hd : ((O.length : Int) != (P.length : Int)) = false := by simp [hl]
      have h0 : 0 < O.length := by have := hcl.1; omega
      cases ha : allIn O (-1000) 1000
      · obtain ⟨e1, e2⟩ := oxB_2 hc (show excB P O = false by simp [excB, ha])
        rw [e1, e2]
        exact specOfExc_2b p s q v P S W O w hp hs hq hv hc hd ha h0
      · obtain ⟨e1, e2⟩ := oxB_3 hc (show excB P O = true by simp [excB, ha, hl])
        rw [e1, e2]
        exact specOfExc_3 p s q v P S W O w hp hs hq hv _ hc hd hl ha h0 (cluB_with hcl (by rw [linTo_len]))
    · have hd : ((O.length : Int) != (P.length : Int)) = true := by simp; omega
      obtain ⟨e1, e2⟩ := oxB_2 hc (show excB P O = false by simp [excB, hl])
      rw [e1, e2]
      exact specOfExc_2a p s q v P S W O w hp hs hq hv hc hd
end Go.Proofs.YtglghdkjppcedaaGreatDoor

/- Contracts: spec.l01Same and slices.Equal on slices of integers. -/
namespace Go.Proofs.YtglghdkjppcedaaGreatDoor
open Go.RowKit

set_option maxHeartbeats 400000 in
theorem l01Same_c (v u : Value) (xs ys : List Int) (w : World) (h : Rd w v xs) (h' : Rd w u ys) :
    Calls Tryz.prog 74 #[v, u] w fun e w' => e = .returned (.bool (eqB xs ys)) ∧ Drew w w' := by
  obtain ⟨a, cap, rfl, hcap1, hcap2, hrd⟩ := h
  obtain ⟨a', cap', rfl, hcap1', hcap2', hrd'⟩ := h'
  by_cases hl : xs.length = ys.length
  · have HL := Lib.hid hl
    have hd : ((xs.length : Int) != (ys.length : Int)) = false := by simp [hl]
    clear hl
    go_enter Tryz.func74, Tryz.ntmps74
    go_wp2
    go_loopw [5] (fun i wr => ∃ k : Nat, k ≤ xs.length ∧ i = .int .i64 k ∧ xs.take k = ys.take k ∧ Drew w wr) (fun i _ => xs.length - (intOf i).toNat)
    case atStart => exact ⟨0, Nat.zero_le _, rfl, rfl, Drew.refl _⟩
    case round =>
      obtain ⟨k, hk, rfl, ht, n, rfl⟩ := hrel
      by_cases hlt : k < xs.length
      · have hlt' : k < ys.length := by have := HL.out; omega
        obtain ⟨b, off, rfl, hbl, hcs⟩ := hrd (ne_of_lt_len hlt)
        obtain ⟨b', off', rfl, hbl', hcs'⟩ := hrd' (ne_of_lt_len hlt')
        have hc := hcs k hlt
        have hc' := hcs' k hlt'
        have HT := Lib.hid (take_eq_step ht hlt hlt')
        have HN : Hid (gI xs k ≠ gI ys k → eqB xs ys = false) := Lib.hid (by
          intro hne; simp only [eqB, decide_eq_false_iff_not]; intro e; exact hne (by rw [e]))
        clear ht hcs hcs' hrd hrd'
        generalize gI xs k = x at hc HT HN
        generalize gI ys k = y at hc' HT HN
        by_cases hxy : x = y
        · subst hxy
          have HT' := Lib.hid (HT.out rfl)
          clear HT HN
          go_wp2
          go_quiet (fail)
          go_wp2
          go_roundw
          case rel => exact ⟨k + 1, by omega, by go_num, HT'.out, by first | exact Drew.one _ _ | exact Drew.two _ _ _ | exact Drew.refl _⟩
          case measure => simp [intOf]; omega
        · have hf := Lib.hid (HN.out hxy)
          have hxb : (x != y) = true := by simp [hxy]
          clear HT HN hxy
          go_wp2
          go_quiet (fail)
          go_wp2
          go_ret
          exact ⟨ret_bool hf.out.symm, by first | exact Drew.one _ _ | exact Drew.two _ _ _ | exact Drew.refl _⟩
      · go_wp2
        go_ret
        refine ⟨ret_bool ?_, Drew.one _ _⟩
        have hl := HL.out
        rw [List.take_of_length_le (by omega), List.take_of_length_le (by omega)] at ht
        simp [eqB, ht]
  · have HE : Hid (eqB xs ys = false) := Lib.hid (by simp only [eqB, decide_eq_false_iff_not]; intro e; exact hl (by rw [e]))
    have hd : ((xs.length : Int) != (ys.length : Int)) = true := by simp; omega
    clear hl
    go_enter Tryz.func74, Tryz.ntmps74
    go_wp2
    go_ret
    exact ⟨ret_bool HE.out.symm, Drew.refl _⟩

set_option maxHeartbeats 400000 in
theorem slicesEqual_c (v u : Value) (xs ys : List Int) (w : World) (h : Rd w v xs) (h' : Rd w u ys) :
    Calls Tryz.prog 73 #[v, u] w fun e w' => e = .returned (.bool (eqB xs ys)) ∧ Drew w w' := by
  obtain ⟨a, cap, rfl, hcap1, hcap2, hrd⟩ := h
  obtain ⟨a', cap', rfl, hcap1', hcap2', hrd'⟩ := h'
  by_cases hl : xs.length = ys.length
  · have HL := Lib.hid hl
    have hd : ((xs.length : Int) != (ys.length : Int)) = false := by simp [hl]
    clear hl
    go_enter Tryz.func73, Tryz.ntmps73
    go_wp2
    go_loopw [5, 13] (fun _ i wr => ∃ k : Nat, k ≤ xs.length ∧ i = .int .i64 k ∧ xs.take k = ys.take k ∧ Drew w wr) (fun _ i _ => xs.length - (intOf i).toNat)
    case atStart => exact ⟨0, Nat.zero_le _, rfl, rfl, Drew.refl _⟩
    case round =>
      obtain ⟨k, hk, rfl, ht, n, rfl⟩ := hrel
      by_cases hlt : k < xs.length
      · have hlt' : k < ys.length := by have := HL.out; omega
        obtain ⟨b, off, rfl, hbl, hcs⟩ := hrd (ne_of_lt_len hlt)
        obtain ⟨b', off', rfl, hbl', hcs'⟩ := hrd' (ne_of_lt_len hlt')
        have hc := hcs k hlt
        have hc' := hcs' k hlt'
        have HT := Lib.hid (take_eq_step ht hlt hlt')
        have HN : Hid (gI xs k ≠ gI ys k → eqB xs ys = false) := Lib.hid (by
          intro hne; simp only [eqB, decide_eq_false_iff_not]; intro e; exact hne (by rw [e]))
        clear ht hcs hcs' hrd hrd'
        generalize gI xs k = x at hc HT HN
        generalize gI ys k = y at hc' HT HN
        by_cases hxy : x = y
        · subst hxy
          have HT' := Lib.hid (HT.out rfl)
          clear HT HN
          go_wp2
          go_quiet (fail)
          go_wp2
          go_roundw
          case rel => exact ⟨k + 1, by omega, by go_num, HT'.out, by first | exact Drew.one _ _ | exact Drew.two _ _ _ | exact Drew.refl _⟩
          case measure => simp [intOf]; omega
        · have hf := Lib.hid (HN.out hxy)
          have hxb : (x != y) = true := by simp [hxy]
          clear HT HN hxy
          go_wp2
          go_quiet (fail)
          go_wp2
          go_ret
          exact ⟨ret_bool hf.out.symm, by first | exact Drew.one _ _ | exact Drew.two _ _ _ | exact Drew.refl _⟩
      · go_wp2
        go_ret
        refine ⟨ret_bool ?_, Drew.one _ _⟩
        have hl := HL.out
        rw [List.take_of_length_le (by omega), List.take_of_length_le (by omega)] at ht
        simp [eqB, ht]
  · have HE : Hid (eqB xs ys = false) := Lib.hid (by simp only [eqB, decide_eq_false_iff_not]; intro e; exact hl (by rw [e]))
    have hd : ((xs.length : Int) != (ys.length : Int)) = true := by simp; omega
    clear hl
    go_enter Tryz.func73, Tryz.ntmps73
    go_wp2
    go_ret
    exact ⟨ret_bool HE.out.symm, Drew.refl _⟩

end Go.Proofs.YtglghdkjppcedaaGreatDoor

/- Contract: impl.begins, where a list begins with another one. -/
namespace Go.Proofs.YtglghdkjppcedaaGreatDoor
open Go.RowKit

end Go.Proofs.YtglghdkjppcedaaGreatDoor
