/- Contract: DrawBranchOfExponents. -/
import Derived.Test.YtglghdkjppcedaaDoorPart22
import Derived.Test.YtglghdkjppcedaaDoorPart3
import Derived.Deep.DeepCutAuto
namespace Go.Proofs.YtglghdkjppcedaaDoor
open Go.RowKit

/-- A number and a list are drawn. -/
def RetNL (w : World) (e : Ending) (w' : World) : Prop := ∃ (n : Int) (a : Option Addr) (m k : Nat) (L : List Int), e = .returned (.tuple #[.int .i64 n, .slice a m k]) ∧ (0 ≤ n ∧ n ≤ 65) ∧ Rd w' (.slice a m k) L ∧ L.length = m ∧ m ≤ 8 ∧ Below w.heap.size w w'
/-- What holds all along: the list, the source. -/
structure EInv (w wr : World) (g B : Nat) (v : Value) (L : List Int) : Prop where
  o : OwnI wr B v L
  s : Src wr g
  b : Below w.heap.size w wr
  lt : w.heap.size ≤ g ∧ g < B ∧ B ≤ wr.heap.size
theorem EInv.next {w wr wz : World} {g B : Nat} {v : Value} {L : List Int} (h : EInv w wr g B v L) (s : Src wz g) (hk : Keeps (fun q => q = g) wr wz) : EInv w wz g B v L := by
  have hl := h.lt
  exact ⟨h.o.keeps hk (fun q hq e => by have := (h.o.block q hq).1; omega), s, h.b.trans (hk.below h.b.size (fun q e => by omega)), by have := hk.size; omega⟩
theorem EInv.below {w wr wz : World} {g B : Nat} {v : Value} {L : List Int} (h : EInv w wr g B v L) (hb : Below wr.heap.size wr wz) : EInv w wz g B v L :=
  ⟨h.o.below hb (Nat.le_refl _), h.s.below hb, below_step h.b hb, by have := h.lt; have := hb.size; omega⟩
theorem EInv.push {w wr wz : World} {g B : Nat} {v v' : Value} {L L' : List Int} (h : EInv w wr g B v L) (o : OwnI wz B v' L') (hk : Keeps (fun q => v.ownBlock = some q) wr wz) : EInv w wz g B v' L' := by
  have hl := h.lt
  exact ⟨o, h.s.keeps hk (fun q hq e => by have := (h.o.block q e).1; omega), h.b.trans (hk.below h.b.size (fun q e => by have := (h.o.block q e).1; omega)), by have := hk.size; omega⟩
set_option maxRecDepth 100000 in
set_option maxHeartbeats 4000000 in
theorem drawBranchOfExponents_w (v : Value) (C : List Int) (w : World) (h : Rd8 w v C) :
    Calls Tryd.prog 12 #[v] w (RetNL w) := by
  obtain ⟨i0, hi, hz0, hz1, hz2⟩ := info_parts Tryd.infoI
  go_enter Tryd.func12, Tryd.ntmps12
  go_wp2_with fail
  refine (from_w v C _ h).mono ?_
  rintro e w1 ⟨g, rfl, hg, s1, hb1⟩
  clear h
  go_wp2_with fail
  refine (next_w g 12 _ s1 (by omega) (by omega)).mono ?_
  rintro e w2 ⟨y, rfl, hy0, hy1, s2, hk2⟩
  have hb2 := hb1.trans (hk2.below hb1.size (fun q e => by omega))
  have hw2 : IntKind.i64.wrap (1 + y) = 1 + y := IntWalk.i64_in _ (by omega)
  have hlit : Below w2.heap.size w2 (w2.alloc (.cells #[.int .i64 (1 + y), .int .i64 4, .int .i64 6, .int .i64 8, .int .i64 12, .int .i64 0, .int .i64 65] 2)) := (Below.refl _ _).alloc (Nat.le_refl _) _
  have hg2 := s2.lt
  have con := pick_w g _ [1 + y, 4, 6, 8, 12, 0, 65] _ (s2.below hlit) (rd_news' (w := w2) rfl 2 [1 + y, 4, 6, 8, 12, 0, 65] (by simp)) (by simp) (by simp) (fun b off e => by injection e with e; injection e with e; injection e; omega) ⟨_, rfl⟩
  have hb3 := below_step hb2 hlit
  clear s1 hb1 hk2 hb2 hlit s2
  go_wp2_with fail
  refine con.mono ?_
  rintro e w3 ⟨i3, hi3, rfl, s3, hk3⟩
  have hn := pick_all (P := fun x => 0 ≤ x ∧ x ≤ 65) hi3 (fun x hx => by simp at hx; omega)
  have hb4 := hb3.trans (hk3.below hb3.size (fun q e => by omega))
  clear con hb3 hk3 hi3
  generalize gI [1 + y, 4, 6, 8, 12, 0, 65] i3 = n at *
  clear hy0 hy1 hw2 hg2
  have hg3 := s3.lt
  have E4 := (show EInv w (w3.alloc (.cells #[] 2)) g w3.heap.size (.slice (some ⟨w3.heap.size, 0, none⟩) 0 0) [] from
    ⟨own_empty w3 w3.heap.size (Nat.le_refl _), s3.below ((Below.refl _ _).alloc (Nat.le_refl _) _), below_step hb4 ((Below.refl _ _).alloc (Nat.le_refl _) _), hg, hg3, by simp⟩)
  clear s3 hb4
  go_upto_region 4 with fail
  generalize w3.alloc (.cells #[] 2) = w4 at *
  go_wp2_with fail
  refine (next_w g 8 _ E4.s (by omega) (by omega)).mono ?_
  rintro e w5 ⟨z, rfl, hz0', hz1', s5, hk5⟩
  have E5 := E4.next s5 hk5
  clear E4 s5 hk5
  go_wp2_with fail
  go_loopw [6, 7, 8] (fun lv av kv wr => ∃ (r m k : Nat) (a : Option Addr) (x : Int) (L : List Int), r + m ≤ 7 ∧ kv = .int .i64 (r : Int) ∧ av = .int .i64 x ∧ lv = .slice a m k ∧ L.length = m ∧ EInv w wr g w3.heap.size (.slice a m k) L) (fun _ _ kv _ => (intOf kv).toNat)
  case atStart => exact ⟨z.toNat, 0, 0, _, 0, [], by omega, by rw [Int.toNat_of_nonneg hz0'], rfl, rfl, rfl, E5⟩
  case round =>
    obtain ⟨r, m, k, a, x, L, hrm, rfl, rfl, rfl, hl, E6⟩ := hrel
    clear E5
    obtain ⟨wo, rfl⟩ : ∃ wo : World, wo = wr := ⟨_, rfl⟩
    have HL := Lib.hid hl
    clear hl
    by_cases hr : 0 < r
    · have hrg : (r : Int) > 0 := by omega
      have hwn : IntKind.i64.wrap (n + 1) = n + 1 := IntWalk.i64_in _ (by omega)
      have hlit : Below wo.heap.size wo (wo.alloc (.cells #[.int .i64 3, .int .i64 (n + 1), .int .i64 6] 2)) := (Below.refl _ _).alloc (Nat.le_refl _) _
      have hg6 := E6.s.lt
      have E7 := E6.below hlit
      have con := pick_w g _ [3, n + 1, 6] _ E7.s (rd_news' (w := wo) rfl 2 [3, n + 1, 6] (by simp)) (by simp) (by simp) (fun b off e => by injection e with e; injection e with e; injection e; omega) ⟨_, rfl⟩
      clear hlit
      go_wp2_with fail
      refine con.mono ?_
      rintro e w8 ⟨i8, hi8, rfl, s8, hk8⟩
      have hp := pick_all (P := fun x => 1 ≤ x ∧ x ≤ 66) hi8 (fun x hx => by simp at hx; omega)
      have E8 := E7.next s8 hk8
      clear con s8 hk8 hi8 E6 E7 hg6
      generalize gI [3, n + 1, 6] i8 = p at *
      go_wp2_with fail
      refine (next_w g p _ E8.s (by omega) (by omega)).mono ?_
      rintro e w9 ⟨y9, rfl, hy9, hy9', s9, hk9⟩
      have E9 := E8.next s9 hk9
      clear E8 s9 hk9 hy9 hy9'
      go_upto_region 8 with fail
      generalize wrap64 (wrap64 (x + 1) + y9) = x9 at *
      go_cut [40] from 34 to 40 (fun s40 wd => ∃ (b : Bool), s40 = .bool b ∧ (b = true → ¬ n = 0) ∧ EInv w wd g w3.heap.size (.slice a m k) L)
      case first =>
        go_wp2_with fail
        refine (next_w g 3 _ E9.s (by omega) (by omega)).mono ?_
        rintro e w10 ⟨y10, rfl, hy10, hy10', s10, hk10⟩
        have E10 := E9.next s10 hk10
        clear E9 s10 hk10
        by_cases hy : y10 > 0
        · by_cases hn0 : n > 0
          · have HE := Lib.hid E10
            clear E10
            go_wp2
            go_meet
            exact ⟨true, rfl, (fun _ => by omega), HE.out⟩
          · have HE := Lib.hid E10
            clear E10
            go_wp2
            go_meet
            exact ⟨false, by rw [decide_eq_false (by omega)], (fun h => by cases h), HE.out⟩
        · have HE := Lib.hid E10
          clear E10
          go_wp2
          go_meet
          exact ⟨false, rfl, (fun h => by cases h), HE.out⟩
      case rest =>
        obtain ⟨b, rfl, hbn, E10⟩ := hcut
        clear E9
        obtain ⟨wd, rfl⟩ : ∃ wd : World, wd = wc := ⟨_, rfl⟩
        cases b
        · clear hbn
          go_wp2_with fail
          refine (next_w g 3 _ E10.s (by omega) (by omega)).mono ?_
          rintro e w11 ⟨y11, rfl, hy11, hy11', s11, hk11⟩
          have EX := E10.next s11 hk11
          clear E10 s11 hk11
          by_cases hy : y11 = 0
          · have hyb : (y11 == 0) = true := by rw [hy]; rfl
            clear hy hy11 hy11'
            go_upto_region 12 with fail
            generalize wrap64 (x9 + n) = x12 at *
            have HX := Lib.hid EX
            clear EX
            go_upto_region 6 with (at_builtin; refine wpList_pushL rfl (.tmp 53) (.tmp 55) 24 rfl w3.heap.size 2 i0 Tryd.underlying24 hi hz0 hz1 hz2 (.slice a m k) L x12 rfl HX.out.o rfl (by rw [HL.out]; omega) HX.out.lt.2.2 ?_; intro g2 kg2 w12 ho hk12 hl12; rw [HL.out] at ho ⊢)
            have HF := Lib.hid (show (L ++ [x12]).length = m + 1 ∧ EInv w w12 g w3.heap.size (.slice (some ⟨g2, 0, none⟩) (m + 1) kg2) (L ++ [x12]) from ⟨by rw [List.length_append, HL.out]; rfl, HX.out.push ho hk12⟩)
            clear ho hk12 hl12 HX
            go_wp2
            go_roundw
            case rel => exact ⟨r - 1, m + 1, kg2, some ⟨g2, 0, none⟩, x12, L ++ [x12], by omega, by go_num, rfl, rfl, HF.out⟩
            case measure => simp [intOf]; omega
          · have hyb : (y11 == 0) = false := beq_eq_false_iff_ne.2 hy
            clear hy hy11 hy11'
            have HX := Lib.hid EX
            clear EX
            go_upto_region 6 with (at_builtin; refine wpList_pushL rfl (.tmp 53) (.tmp 55) 24 rfl w3.heap.size 2 i0 Tryd.underlying24 hi hz0 hz1 hz2 (.slice a m k) L x9 rfl HX.out.o rfl (by rw [HL.out]; omega) HX.out.lt.2.2 ?_; intro g2 kg2 w12 ho hk12 hl12; rw [HL.out] at ho ⊢)
            have HF := Lib.hid (show (L ++ [x9]).length = m + 1 ∧ EInv w w12 g w3.heap.size (.slice (some ⟨g2, 0, none⟩) (m + 1) kg2) (L ++ [x9]) from ⟨by rw [List.length_append, HL.out]; rfl, HX.out.push ho hk12⟩)
            clear ho hk12 hl12 HX
            go_wp2
            go_roundw
            case rel => exact ⟨r - 1, m + 1, kg2, some ⟨g2, 0, none⟩, x9, L ++ [x9], by omega, by go_num, rfl, rfl, HF.out⟩
            case measure => simp [intOf]; omega
        · have hnz := hbn rfl
          clear hbn
          go_upto_region 10 with fail
          generalize wrap64 (wrap64 (wrap64 (x9.tdiv n) + 1) * n) = x10 at *
          go_wp2_with fail
          refine (next_w g 3 _ E10.s (by omega) (by omega)).mono ?_
          rintro e w11 ⟨y11, rfl, hy11, hy11', s11, hk11⟩
          have EX := E10.next s11 hk11
          clear E10 s11 hk11
          by_cases hy : y11 = 0
          · have hyb : (y11 == 0) = true := by rw [hy]; rfl
            clear hy hy11 hy11'
            go_upto_region 12 with fail
            generalize wrap64 (x10 + n) = x12 at *
            have HX := Lib.hid EX
            clear EX
            go_upto_region 6 with (at_builtin; refine wpList_pushL rfl (.tmp 53) (.tmp 55) 24 rfl w3.heap.size 2 i0 Tryd.underlying24 hi hz0 hz1 hz2 (.slice a m k) L x12 rfl HX.out.o rfl (by rw [HL.out]; omega) HX.out.lt.2.2 ?_; intro g2 kg2 w12 ho hk12 hl12; rw [HL.out] at ho ⊢)
            have HF := Lib.hid (show (L ++ [x12]).length = m + 1 ∧ EInv w w12 g w3.heap.size (.slice (some ⟨g2, 0, none⟩) (m + 1) kg2) (L ++ [x12]) from ⟨by rw [List.length_append, HL.out]; rfl, HX.out.push ho hk12⟩)
            clear ho hk12 hl12 HX
            go_wp2
            go_roundw
            case rel => exact ⟨r - 1, m + 1, kg2, some ⟨g2, 0, none⟩, x12, L ++ [x12], by omega, by go_num, rfl, rfl, HF.out⟩
            case measure => simp [intOf]; omega
          · have hyb : (y11 == 0) = false := beq_eq_false_iff_ne.2 hy
            clear hy hy11 hy11'
            have HX := Lib.hid EX
            clear EX
            go_upto_region 6 with (at_builtin; refine wpList_pushL rfl (.tmp 53) (.tmp 55) 24 rfl w3.heap.size 2 i0 Tryd.underlying24 hi hz0 hz1 hz2 (.slice a m k) L x10 rfl HX.out.o rfl (by rw [HL.out]; omega) HX.out.lt.2.2 ?_; intro g2 kg2 w12 ho hk12 hl12; rw [HL.out] at ho ⊢)
            have HF := Lib.hid (show (L ++ [x10]).length = m + 1 ∧ EInv w w12 g w3.heap.size (.slice (some ⟨g2, 0, none⟩) (m + 1) kg2) (L ++ [x10]) from ⟨by rw [List.length_append, HL.out]; rfl, HX.out.push ho hk12⟩)
            clear ho hk12 hl12 HX
            go_wp2
            go_roundw
            case rel => exact ⟨r - 1, m + 1, kg2, some ⟨g2, 0, none⟩, x10, L ++ [x10], by omega, by go_num, rfl, rfl, HF.out⟩
            case measure => simp [intOf]; omega
    · have hr0 : r = 0 := by omega
      subst hr0
      have hrg : ¬ ((0 : Nat) : Int) > 0 := by omega
      by_cases hm : m = 0
      · have hmg : ¬ (m : Int) > 0 := by omega
        have HF : Hid (RetNL w (.returned (.tuple #[.int .i64 n, .slice a m k])) wo) := Lib.hid ⟨n, a, m, k, L, rfl, hn, E6.o.rd, HL.out, by omega, E6.b⟩
        clear E6 hm
        go_wp2
        go_ret2
        exact HF.out
      · have hmg : (m : Int) > 0 := by omega
        go_wp2_with fail
        refine (next_w g 20 _ E6.s (by omega) (by omega)).mono ?_
        rintro e w8 ⟨y8, rfl, hy8, hy8', s8, hk8⟩
        have E8 := E6.next s8 hk8
        clear E6 s8 hk8
        by_cases hy : y8 = 0
        · have hyb : (y8 == 0) = true := by rw [hy]; rfl
          clear hy hy8 hy8'
          obtain ⟨c, rfl⟩ : ∃ c, m = c + 1 := ⟨m - 1, by omega⟩
          have hlit : Below w8.heap.size w8 (w8.alloc (.cells #[.int .i64 0, .int .i64 2001, .int .i64 1] 2)) := (Below.refl _ _).alloc (Nat.le_refl _) _
          have hg8 := E8.s.lt
          have E9 := E8.below hlit
          have con := pick_w g _ [0, 2001, 1] _ E9.s (rd_news' (w := w8) rfl 2 [0, 2001, 1] (by simp)) (by simp) (by simp) (fun b off e => by injection e with e; injection e with e; injection e; omega) ⟨_, rfl⟩
          clear hlit E8 hm
          have hci : ((c + 1 : Nat) : Int) = (c : Int) + 1 := by omega
          have hwc : IntKind.i64.wrap ((c : Int) + 1 - 1) = (c : Int) := IntWalk.i64_in _ (by omega) |>.trans (by omega)
          have hwc2 : (c : Int) + 1 - 1 = (c : Int) := by omega
          have hwc3 : IntKind.i64.wrap (c : Int) = (c : Int) := IntWalk.i64_in _ (by omega)
          have hcl : (c : Int) < (c : Int) + 1 := by omega
          have hc0 : (0 : Int) ≤ (c : Int) := by omega
          go_wp2_with fail
          refine con.mono ?_
          rintro e w10 ⟨i10, hi10, rfl, s10, hk10⟩
          have E10 := E9.next s10 hk10
          clear con s10 hk10 hi10 E9 hg8
          generalize gI [0, 2001, 1] i10 = p at *
          have hoC := E10.o
          rw [← HL.out] at hoC
          obtain ⟨gx, kx, he, hgx, hgx2, _, _⟩ := Own.pos hoC (by rw [HL.out]; omega)
          injection he with e1 e2 e3
          subst e1 e3
          have c10 := hoC.cell c (by rw [HL.out]; omega)
          have f10 := hoC.free c
          have oS := hoC.set c p
          rw [HL.out] at oS
          have hl10 := E10.lt
          have HF : Hid (RetNL w (.returned (.tuple #[.int .i64 n, .slice (some ⟨gx, 0, none⟩) (c + 1) k])) (w10.setCell ⟨gx, c, none⟩ (.int .i64 p))) := Lib.hid ⟨n, _, c + 1, k, L.set c p, rfl, hn, oS.rd, by rw [List.length_set]; exact HL.out, by omega, E10.b.setCell (p := ⟨gx, c, none⟩) (by simp; omega) _⟩
          clear E10 hoC oS e2
          go_wp2
          go_ret2
          exact HF.out
        · have hyb : (y8 == 0) = false := beq_eq_false_iff_ne.2 hy
          have HF : Hid (RetNL w (.returned (.tuple #[.int .i64 n, .slice a m k])) w8) := Lib.hid ⟨n, a, m, k, L, rfl, hn, E8.o.rd, HL.out, by omega, E8.b⟩
          clear E8 hm hy
          go_wp2
          go_ret2
          exact HF.out
end Go.Proofs.YtglghdkjppcedaaDoor
