/- Contract: DrawTurnCharacteristic (under work). -/
import Derived.Test.YtglghdkjppcedaaDoorPart24
import Derived.Test.YtglghdkjppcedaaDoorPart3
import Derived.Test.YtglghdkjppcedaaDoorPart10
import Derived.Test.YtglghdkjppcedaaDoorPart12
import Derived.Test.YtglghdkjppcedaaDoorPart14
import Derived.Test.YtglghdkjppcedaaDoorPart20
import Derived.Test.YtglghdkjppcedaaDoorPart22
import Derived.Test.YtglghdkjppcedaaDoorPart23
import Derived.Test.YtglghdkjppcedaaDoorPart19
namespace Go.Proofs.YtglghdkjppcedaaDoor
open Go.RowKit

/-- Small numbers. -/
def SmL (L : List Int) : Prop := ∀ i, i < L.length → -10000 ≤ gI L i ∧ gI L i ≤ 10000
theorem SmL.set {L : List Int} (h : SmL L) (j : Nat) {x : Int} (hx : -10000 ≤ x ∧ x ≤ 10000) : SmL (L.set j x) := by
  intro i hi
  rw [List.length_set] at hi
  rw [gI_set]
  split
  · exact hx
  · exact h i hi
theorem SmL.push {L : List Int} (h : SmL L) {x : Int} (hx : -10000 ≤ x ∧ x ≤ 10000) : SmL (L ++ [x]) := by
  intro i hi
  rw [List.length_append] at hi
  simp at hi
  by_cases hl : i < L.length
  · rw [gI_app_lt hl]; exact h i hl
  · have e : i = L.length := by omega
    rw [e, gI_app_at rfl]; exact hx
theorem SmL.one {x : Int} (hx : -10000 ≤ x ∧ x ≤ 10000) : SmL [x] := by
  intro i hi
  have e : i = 0 := by simpa using hi
  subst e; exact hx
theorem SmL.of_bra {L : List Int} (h : BraOk L) : SmL L := fun i hi => by have := h.num i hi; omega
theorem EInv.setN {w wr : World} {g B q m k : Nat} {L : List Int} (h : EInv w wr g B (.slice (some ⟨q, 0, none⟩) m k) L) (hl : L.length = m) (j : Nat) (x : Int) : EInv w (wr.setCell ⟨q, j, none⟩ (.int .i64 x)) g B (.slice (some ⟨q, 0, none⟩) m k) (L.set j x) := by
  subst hl
  have hlt := h.lt
  have hq := (h.o.block q rfl).1
  have hk := (Keeps.refl (fun p => p = q) wr).setCell (p := ⟨q, j, none⟩) rfl (.int .i64 x)
  exact ⟨h.o.set j x, h.s.keeps hk (fun p hp e => by omega), h.b.trans (hk.below h.b.size (fun p e => by omega)), by have := hk.size; omega⟩
theorem EInv.cellN {w wr : World} {g B q m k : Nat} {L : List Int} (h : EInv w wr g B (.slice (some ⟨q, 0, none⟩) m k) L) (hl : L.length = m) {j : Nat} (hj : j < m) : wr.cell? ⟨q, j, none⟩ = some (.int .i64 (gI L j)) := by
  subst hl; exact h.o.cell j hj
theorem EInv.freeN {w wr : World} {g B q m k : Nat} {L : List Int} (h : EInv w wr g B (.slice (some ⟨q, 0, none⟩) m k) L) (hl : L.length = m) (j : Nat) : wr.frozen? ⟨q, j, none⟩ = false := by
  subst hl; exact h.o.free j

theorem EInv.keepO {w wr wz : World} {g B : Nat} {v : Value} {L : List Int} {M : Nat → Prop} (h : EInv w wr g B v L) (hk : Keeps M wr wz) (hv : ∀ q, v.ownBlock = some q → ¬ M q) (hg : ∀ q, q ≤ g → ¬ M q) (hw : ∀ q, M q → w.heap.size ≤ q) : EInv w wz g B v L :=
  ⟨h.o.keeps hk hv, h.s.keeps hk hg, h.b.trans (hk.below h.b.size hw), by have := h.lt; have := hk.size; omega⟩
/-- A list that grows beside the first. -/
def GrowU (w wr : World) (g B G gx m k : Nat) (xs : List Int) (gl n kl : Nat) (X : List Int) : Prop :=
  EInv w wr g B (.slice (some ⟨gx, 0, none⟩) m k) xs ∧ OwnI wr G (.slice (some ⟨gl, 0, none⟩) n kl) X ∧ X.length = n ∧ SmL X ∧ G ≤ wr.heap.size ∧ gx < G ∧ g < G ∧ B ≤ G
theorem GrowU.push {w wr wz : World} {g B G gx m k gl n kl g2 kg2 : Nat} {xs X : List Int} {x : Int} {M : Nat → Prop} (h : GrowU w wr g B G gx m k xs gl n kl X) (ho : OwnI wz G (.slice (some ⟨g2, 0, none⟩) (n + 1) kg2) (X ++ [x])) (hk : Keeps M wr wz) (hM : ∀ q, M q → q = gl) (hx : -10000 ≤ x ∧ x ≤ 10000) : GrowU w wz g B G gx m k xs g2 (n + 1) kg2 (X ++ [x]) := by
  obtain ⟨hE, hO, hl, hs, hsz, h1, h2, h3⟩ := h
  have hgl := (hO.block gl rfl).1
  have hlt := hE.lt
  refine ⟨hE.keepO hk (fun q hq hm => ?_) (fun q hq hm => by have := hM q hm; omega) (fun q hm => by have := hM q hm; omega), ho, by rw [List.length_append, hl]; rfl, hs.push hx, by have := hk.size; omega, h1, h2, h3⟩
  have e : gx = q := by injection hq
  have := hM q hm
  omega
theorem GrowU.done {w wr : World} {g B G gx m k gl n kl : Nat} {xs X : List Int} (h : GrowU w wr g B G gx m k xs gl n kl X) : EInv w wr g B (.slice (some ⟨gl, 0, none⟩) n kl) X := by
  obtain ⟨hE, hO, hl, hs, hsz, h1, h2, h3⟩ := h
  exact ⟨hO.base_le h3, hE.s, hE.b, hE.lt⟩
theorem GrowU.start {w wr : World} {g B gx m k : Nat} {xs : List Int} {x : Int} (h : EInv w wr g B (.slice (some ⟨gx, 0, none⟩) m k) xs) (hx : -10000 ≤ x ∧ x ≤ 10000) : GrowU w (wr.alloc (.cells #[.int .i64 x] 2)) g B wr.heap.size gx m k xs wr.heap.size 1 1 [x] := by
  have hal : Below wr.heap.size wr (wr.alloc (.cells #[.int .i64 x] 2)) := (Below.refl _ _).alloc (Nat.le_refl _) _
  have hq := (h.o.block gx rfl).2
  have hs := h.s.lt
  have hlt := h.lt
  exact ⟨h.below hal, own_one wr wr.heap.size (Nat.le_refl _) x, rfl, SmL.one hx, hal.size, hq, hs, hlt.2.2⟩

theorem GrowU.below {w wr wz : World} {g B G gx m k gl n kl : Nat} {xs X : List Int} (h : GrowU w wr g B G gx m k xs gl n kl X) (hb : Below wr.heap.size wr wz) : GrowU w wz g B G gx m k xs gl n kl X := by
  obtain ⟨hE, hO, hl, hs, hsz, h1, h2, h3⟩ := h
  exact ⟨hE.below hb, hO.below hb (Nat.le_refl _), hl, hs, by have := hb.size; omega, h1, h2, h3⟩
/-- The two cells that are read. -/
theorem GrowU.two {w wr : World} {g B G gx m k gl n kl i : Nat} {xs X : List Int} {x t : Int} (h : GrowU w wr g B G gx m k xs gl n kl X) (hm : xs.length = m) (h0 : 0 < m) (hx : gI xs 0 = x) (hi : i < m) (ht : gI xs i = t) :
    wr.cell? ⟨gx, 0, none⟩ = some (.int .i64 x) ∧ wr.cell? ⟨gx, i, none⟩ = some (.int .i64 t) := by
  subst hx ht
  exact ⟨h.1.cellN hm h0, h.1.cellN hm hi⟩

/-- A short list of small numbers is drawn. -/
def RetLs (w : World) (e : Ending) (w' : World) : Prop := ∃ (a : Option Addr) (m k : Nat) (L : List Int), e = .returned (.slice a m k) ∧ Rd w' (.slice a m k) L ∧ L.length = m ∧ 1 ≤ m ∧ m ≤ 8 ∧ (∀ i, i < m → -1000000 ≤ gI L i ∧ gI L i ≤ 1000000) ∧ Below w.heap.size w w'
set_option maxRecDepth 100000 in
set_option maxHeartbeats 4000000 in
theorem drawTurnCharacteristic_w (v : Value) (C : List Int) (w : World) (h : Rd8 w v C) :
    Calls Tryd.prog 16 #[v] w (RetLs w) := by
  obtain ⟨i0, hi, hz0, hz1, hz2⟩ := info_parts Tryd.infoI
  go_enter Tryd.func16, Tryd.ntmps16
  go_wp2_with fail
  refine (from_w v C _ h).mono ?_
  rintro e w1 ⟨g, rfl, hg, s1, hb1⟩
  clear h
  go_wp2_with fail
  refine (draw_w g _ s1).mono ?_
  rintro e w2 ⟨xs, a, k, rfl, ho, hok, s2, hk2⟩
  have hb2 := hb1.trans (hk2.below hb1.size (fun q e => by omega))
  have hl7 := bra_len hok
  have hlp := hok.len
  have hnum := hok.num
  have hal : Below w2.heap.size w2 (w2.alloc (.cells #[.slice a xs.length k] 26)) := (Below.refl _ _).alloc (Nat.le_refl _) _
  have BX := Blk.new w2 26 #[.slice a xs.length k]
  have hr := ho.rd.below hal (Nat.le_refl _)
  have s3 := s2.below hal
  have hb3 := below_step hb2 hal
  have c3 := BX.cell 0
  have hg3 : g < (w2.alloc (.cells #[.slice a xs.length k] 26)).heap.size := s3.lt
  clear s1 hb1 hk2 hb2 hal ho s2
  go_upto_region 3 with fail
  generalize w2.alloc (.cells #[.slice a xs.length k] 26) = w3 at *
  go_wp2_with fail
  refine (l01Own_c _ xs _ hr hlp (by omega)).mono ?_
  rintro e w4 ⟨a4, k4, rfl, o4, hb4⟩
  have E4 := (show EInv w w4 g w3.heap.size (.slice a4 xs.length k4) xs from ⟨o4, s3.below hb4, below_step hb3 hb4, hg, hg3, hb4.size⟩)
  obtain ⟨m, hm⟩ : ∃ m, xs.length = m := ⟨_, rfl⟩
  rw [hm] at E4 hl7 hlp hnum ⊢
  have HM := Lib.hid hm
  have HOK := Lib.hid hok
  clear o4 s3 hb4 hb3 hr BX c3 hg3 hm hok
  go_upto_region 4 with fail
  go_cut [26] from 19 to 26 (fun s26 wd => ∃ (b : Bool), s26 = .bool b ∧ (b = true → 1 < m) ∧ EInv w wd g w3.heap.size (.slice a4 m k4) xs)
  case first =>
    by_cases hm1 : 1 < m
    · have hmg : (m : Int) > 1 := by omega
      go_wp2_with fail
      refine (next_w g 6 _ E4.s (by omega) (by omega)).mono ?_
      rintro e w5 ⟨z, rfl, hz0', hz1', s5, hk5⟩
      have E5 := Lib.hid (E4.next s5 hk5)
      clear E4 s5 hk5
      go_wp2
      go_meet
      exact ⟨_, rfl, fun _ => hm1, E5.out⟩
    · have hmg : ¬ (m : Int) > 1 := by omega
      go_wp2
      go_meet
      exact ⟨false, rfl, (fun h => by cases h), E4⟩
  case rest =>
    obtain ⟨b, rfl, hb1, E5⟩ := hcut
    clear E4
    obtain ⟨wd, rfl⟩ : ∃ wd : World, wd = wc := ⟨_, rfl⟩
    have hoC := E5.o
    rw [← HM.out] at hoC
    obtain ⟨gx, kx, he, hgx, hgx2, _, _⟩ := Own.pos hoC (by rw [HM.out]; omega)
    rw [HM.out] at he
    injection he with e1 e2 e3
    subst e1 e3
    clear hoC e2
    go_upto_if 26 with fail
    go_cut [5] from 6 to 100 (fun s5 we => ∃ (a : Option Addr) (n k : Nat) (L : List Int), s5 = .slice a n k ∧ L.length = n ∧ 1 ≤ n ∧ n ≤ 8 ∧ SmL L ∧ EInv w we g w3.heap.size (.slice a n k) L)
    case first =>
      cases b
      · clear hb1
        have hx := hnum 0 (by omega)
        have hx64 := HOK.out.first
        have c0 := E5.cellN HM.out (j := 0) (by omega)
        have f0 := E5.freeN HM.out 0
        have hmj : (0 : Int) < (m : Int) := by omega
        have hmz : 0 < m := hlp
        have HE := Lib.hid E5
        clear E5
        obtain ⟨x, hxx⟩ : ∃ x, gI xs 0 = x := ⟨_, rfl⟩
        rw [hxx] at hx hx64 c0
        have HXX := Lib.hid hxx
        have HNUM := Lib.hid hnum
        clear hxx hnum
        by_cases hx1 : x > 1
        · go_wp2_with fail
          refine (next_w g 4 _ HE.out.s (by omega) (by omega)).mono ?_
          rintro e w9 ⟨z, rfl, hz0', hz1', s9, hk9⟩
          have E9 := HE.out.next s9 hk9
          have hwz : IntKind.i64.wrap (2 + z) = 2 + z := IntWalk.i64_in _ (by omega)
          clear HE s9 hk9 c0 f0
          have hq : 2 ≤ 2 + z ∧ 2 + z ≤ 5 := by omega
          have hp0 : 0 ≤ x * (2 + z) := Int.mul_nonneg (by omega) (by omega)
          have hp1 : x * (2 + z) ≤ 64 * 5 := Int.mul_le_mul (by omega) hq.2 (by omega) (by omega)
          obtain ⟨p, hp⟩ : ∃ p, x * (2 + z) = p := ⟨_, rfl⟩
          rw [hp] at hp0 hp1
          have ep : IntKind.i64.wrap (x * (2 + z)) = p := by rw [hp]; exact IntWalk.i64_in _ (by omega)
          clear hp hz0' hz1' hq
          have c0 := E9.cellN HM.out (j := 0) (by omega)
          rw [HXX.out] at c0
          have G9 := GrowU.start (x := p) E9 (by omega)
          have HG := Lib.hid G9
          clear E9 G9
          go_wp2_with fail
          generalize w9.alloc (.cells #[.int .i64 p] 2) = w10 at *
          clear c0
          go_loopw [10, 11] (fun lv iv wr => ∃ (i gl kl : Nat) (X : List Int), i ≤ m ∧ iv = .int .i64 (i : Int) ∧ lv = .slice (some ⟨gl, 0, none⟩) (i + 1) kl ∧ GrowU w wr g w3.heap.size w9.heap.size gx m k4 xs gl (i + 1) kl X) (fun _ iv _ => m - (intOf iv).toNat)
          case atStart => exact ⟨0, w9.heap.size, 1, [p], by omega, rfl, rfl, HG.out⟩
          case round =>
            obtain ⟨i, gl, kl, X, him, rfl, rfl, hG⟩ := hrel
            clear HG
            obtain ⟨wo, rfl⟩ : ∃ wo : World, wo = wr := ⟨_, rfl⟩
            have HG := Lib.hid hG
            by_cases hlt : i < m
            · have hki : (i : Int) < (m : Int) := by omega
              have hk0 : (0 : Int) ≤ (i : Int) := by omega
              have ht := HNUM.out i hlt
              have c0 := hG.1.cellN HM.out hmz
              rw [HXX.out] at c0
              have ci := hG.1.cellN HM.out hlt
              obtain ⟨t, htt⟩ : ∃ t, gI xs i = t := ⟨_, rfl⟩
              rw [htt] at ht ci
              have HT := Lib.hid htt
              clear htt
              by_cases hi0 : i = 0
              · subst hi0
                clear hG ci
                go_upto_region 17 with (at_builtin; refine wpList_pushL rfl (.tmp 77) (.tmp 81) 24 rfl w9.heap.size 2 i0 Tryd.underlying24 hi hz0 hz1 hz2 (.slice (some ⟨gl, 0, none⟩) 1 kl) X x rfl HG.out.2.1 rfl (by rw [HG.out.2.2.1]; omega) HG.out.2.2.2.2.1 ?_; intro g2 kg2 w12 ho hk12 hl12; rw [HG.out.2.2.1] at ho ⊢)
                have HF := Lib.hid (HG.out.push ho hk12 (fun q hq => by injection hq with e; exact e.symm) (by omega))
                clear ho hk12 hl12 HG
                go_wp2
                go_roundw
                case rel => exact ⟨1, g2, kg2, X ++ [x], by omega, by go_num, rfl, HF.out⟩
                case measure => simp [intOf]; omega
              · have hi0n : ¬ (i : Int) = 0 := by omega
                have e2 : IntKind.i64.wrap (t - p) = t - p := IntWalk.i64_in _ (by omega)
                have e3 : IntKind.i64.wrap (t - p + x) = t - p + x := IntWalk.i64_in _ (by omega)
                have hvb : -10000 ≤ t - p + x ∧ t - p + x ≤ 10000 := by omega
                have hal : Below wo.heap.size wo ((wo.alloc (.cells #[.int .i64 (t - p + x)] 2)).drew) := ((Below.refl _ _).alloc (Nat.le_refl _) _).drew
                have HGA := Lib.hid (hG.below hal)
                have HS0 : wo.drew.cell? ⟨gx, 0, none⟩ = some (.int .i64 x) ∧ wo.drew.cell? ⟨gx, i, none⟩ = some (.int .i64 t) := (hG.below (Below.refl _ _).drew).two HM.out hmz HXX.out hlt HT.out
                have HS1 : ((wo.alloc (.cells #[.int .i64 (t - p + x)] 2)).drew).cell? ⟨gx, 0, none⟩ = some (.int .i64 x) ∧ ((wo.alloc (.cells #[.int .i64 (t - p + x)] 2)).drew).cell? ⟨gx, i, none⟩ = some (.int .i64 t) := HGA.out.two HM.out hmz HXX.out hlt HT.out
                have hO := HGA.out.2.1
                have hsz := HG.out.2.2.2.2.1
                clear hG c0 ci hal HG
                go_wp2_with fail
                go_region_held3 (fun w' => w'.cell? ⟨gx, 0, none⟩ = some (.int .i64 x) ∧ w'.cell? ⟨gx, i, none⟩ = some (.int .i64 t))
                  (first | assumption | exact HS2 | exact HS1 | exact HS0)
                  (first | (refine step_pushS rfl (.tmp 83) (.tmp 98) 24 rfl w9.heap.size 2 i0 Tryd.underlying24 hi hz0 hz1 hz2 gl (i + 1) kl X (t - p + x) wo.heap.size HGA.out.2.2.1 rfl hO rfl (Blk.new wo _ _) (by omega) (by simp; omega) ?_; intro g2 kg2 w12 h1 h2 h3 h4 h5; have HF := Lib.hid (HGA.out.push h1 h2 (fun q hq => hq) hvb); have HS2 : w12.cell? ⟨gx, 0, none⟩ = some (.int .i64 x) ∧ w12.cell? ⟨gx, i, none⟩ = some (.int .i64 t) := HF.out.two HM.out hmz HXX.out hlt HT.out))
                all_goals
                  clear h1 h2 h3 h4 h5 hO HS0 HS1 HS2 HGA
                  go_wp2
                  go_roundw
                  case rel => exact ⟨i + 1, g2, kg2, X ++ [t - p + x], by omega, by go_num, rfl, HF.out⟩
                  case measure => simp [intOf]; omega
            · have hki : ¬ (i : Int) < (m : Int) := by omega
              have him2 : i = m := by omega
              subst him2
              clear hG
              go_wp2
              go_meet
              exact ⟨some ⟨gl, 0, none⟩, i + 1, kl, X, rfl, HG.out.2.2.1, by omega, by omega, HG.out.2.2.2.1, HG.out.done⟩
        · clear f0
          go_wp2
          go_meet
          exact ⟨some ⟨gx, 0, none⟩, m, k4, xs, rfl, HM.out, by omega, by omega, SmL.of_bra HOK.out, HE.out⟩
      · have hm1 := hb1 rfl
        clear hb1
        have hx := hnum 0 (by omega)
        have hy := hnum 1 (by omega)
        have c0 := E5.cellN HM.out (j := 0) (by omega)
        have c1 := E5.cellN HM.out (j := 1) (by omega)
        have f0 := E5.freeN HM.out 0
        have f1 := E5.freeN HM.out 1
        have hmi : (1 : Int) < (m : Int) := by omega
        have hmj : (0 : Int) < (m : Int) := by omega
        go_wp2_with fail
        go_region
        have E6 := E5.setN HM.out 0 (gI xs 1)
        have E7 := E6.setN (by rw [List.length_set]; exact HM.out) 1 (gI xs 0)
        have hsm := ((SmL.of_bra HOK.out).set 0 (x := gI xs 1) (by omega)).set 1 (x := gI xs 0) (by omega)
        have hre : ∀ j, 2 ≤ j → j < m → 1 ≤ gI ((xs.set 0 (gI xs 1)).set 1 (gI xs 0)) j ∧ gI ((xs.set 0 (gI xs 1)).set 1 (gI xs 0)) j ≤ 2000 := fun j h1 h2 => by
          rw [gI_set_ne (by omega), gI_set_ne (by omega)]; exact hnum j h2
        have hlx : ((xs.set 0 (gI xs 1)).set 1 (gI xs 0)).length = m := by rw [List.length_set, List.length_set]; exact HM.out
        generalize (xs.set 0 (gI xs 1)).set 1 (gI xs 0) = X at *
        generalize gI xs 0 = x at *
        generalize gI xs 1 = y at *
        have HX := Lib.hid E7
        have HLX := Lib.hid hlx
        clear E6 E7 hlx E5
        go_wp2_with fail
        have E8 := HX.out.below (Below.refl _ _).drew
        clear HX c0 c1 f0 f1
        generalize ((wd.setCell ⟨gx, 0, none⟩ (.int .i64 y)).setCell ⟨gx, 1, none⟩ (.int .i64 x)).drew = w8 at *
        go_loopw [8] (fun iv wr => ∃ (i : Nat) (L : List Int), 2 ≤ i ∧ i ≤ m ∧ iv = .int .i64 (i : Int) ∧ L.length = m ∧ EInv w wr g w3.heap.size (.slice (some ⟨gx, 0, none⟩) m k4) L ∧ SmL L ∧ (∀ j, i ≤ j → j < m → 1 ≤ gI L j ∧ gI L j ≤ 2000)) (fun iv _ => m - (intOf iv).toNat)
        case atStart => exact ⟨2, X, Nat.le_refl _, by omega, rfl, HLX.out, E8, hsm, hre⟩
        case round =>
          obtain ⟨i, L, hi2, him, rfl, hl, E9, hs9, hr9⟩ := hrel
          clear E8 hsm hre
          obtain ⟨wo, rfl⟩ : ∃ wo : World, wo = wr := ⟨_, rfl⟩
          have HL := Lib.hid hl
          have HS := Lib.hid hs9
          clear hs9
          by_cases hlt : i < m
          · have hki : (i : Int) < (m : Int) := by omega
            have hk0 : (0 : Int) ≤ (i : Int) := by omega
            have ht := hr9 i (Nat.le_refl _) hlt
            have ci := E9.cellN hl hlt
            have fi := E9.freeN hl i
            have e1 : IntKind.i64.wrap (gI L i - y) = gI L i - y := IntWalk.i64_in _ (by omega)
            have e2 : IntKind.i64.wrap (gI L i - y + x) = gI L i - y + x := IntWalk.i64_in _ (by omega)
            have E10 := E9.setN hl i (gI L i - y + x)
            have hs10 := HS.out.set i (x := gI L i - y + x) (by omega)
            have hr10 : ∀ j, i + 1 ≤ j → j < m → 1 ≤ gI (L.set i (gI L i - y + x)) j ∧ gI (L.set i (gI L i - y + x)) j ≤ 2000 := fun j h1 h2 => by
              rw [gI_set_ne (by omega)]; exact hr9 j (by omega) h2
            have hl10 : (L.set i (gI L i - y + x)).length = m := by rw [List.length_set]; exact hl
            generalize L.set i (gI L i - y + x) = L' at *
            generalize gI L i = t at *
            have HE := Lib.hid E10
            have HF := Lib.hid (And.intro hl10 (And.intro hs10 hr10))
            clear E10 hl10 hs10 hr10 hl hr9 E9
            go_wp2
            go_roundw
            case rel => exact ⟨i + 1, L', by omega, by omega, by go_num, HF.out.1, HE.out, HF.out.2.1, HF.out.2.2⟩
            case measure => simp [intOf]; omega
          · have hki : ¬ (i : Int) < (m : Int) := by omega
            clear hr9
            have HE := Lib.hid E9
            clear E9 hl
            go_wp2
            go_meet
            exact ⟨some ⟨gx, 0, none⟩, m, k4, L, rfl, HL.out, by omega, by omega, HS.out, HE.out⟩
    case rest =>
      obtain ⟨at', n, k', L, rfl, hl, hn1, hn8, hs, E6⟩ := hcut
      clear E5 hgx2 hb1 hnum hlp hl7
      obtain ⟨we, rfl⟩ : ∃ we : World, we = wc := ⟨_, rfl⟩
      have HL := Lib.hid hl
      have HS := Lib.hid hs
      clear hl hs
      go_wp2_with fail
      refine (next_w g 16 _ E6.s (by omega) (by omega)).mono ?_
      rintro e w7 ⟨y, rfl, hy0, hy1, s7, hk7⟩
      have E7 := E6.next s7 hk7
      clear E6 s7 hk7
      by_cases hy : y = 0
      · have hyb : (y == 0) = true := by rw [hy]; rfl
        clear hy hy0 hy1
        go_wp2_with fail
        refine (next_w g n _ E7.s (by omega) (by omega)).mono ?_
        rintro e w8 ⟨j, rfl, hj0, hj1, s8, hk8⟩
        have E8 := E7.next s8 hk8
        clear E7 s8 hk8
        obtain ⟨c, rfl⟩ : ∃ c : Nat, j = (c : Int) := ⟨j.toNat, by omega⟩
        have hcn : c < n := by omega
        have hlit : Below w8.heap.size w8 (w8.alloc (.cells #[.int .i64 0, .int .i64 1, .int .i64 65, .int .i64 2001] 2)) := (Below.refl _ _).alloc (Nat.le_refl _) _
        have hg8 := E8.s.lt
        have E9 := E8.below hlit
        have con := pick_w g _ [0, 1, 65, 2001] _ E9.s (rd_news' (w := w8) rfl 2 [0, 1, 65, 2001] (by simp)) (by simp) (by simp) (fun b off e => by injection e with e; injection e with e; injection e; omega) ⟨_, rfl⟩
        clear hlit E8
        go_wp2_with fail
        refine con.mono ?_
        rintro e w10 ⟨i10, hi10, rfl, s10, hk10⟩
        have E10 := E9.next s10 hk10
        have hp := pick_all (P := fun x => 0 ≤ x ∧ x ≤ 2001) hi10 (fun x hx => by simp at hx; omega)
        clear con s10 hk10 hi10 E9 hg8
        generalize gI [0, 1, 65, 2001] i10 = p at *
        have hoC := E10.o
        rw [← HL.out] at hoC
        obtain ⟨gy, ky, he, hgy, hgy2, _, _⟩ := Own.pos hoC (by rw [HL.out]; omega)
        injection he with e1 e2 e3
        subst e1 e3
        clear hoC e2
        have cc := E10.cellN HL.out hcn
        have fc := E10.freeN HL.out c
        have ES := E10.setN HL.out c p
        have hss := HS.out.set c (x := p) (by omega)
        have hls : (L.set c p).length = n := by rw [List.length_set]; exact HL.out
        have HF : Hid (RetLs w (.returned (.slice (some ⟨gy, 0, none⟩) n k')) (w10.setCell ⟨gy, c, none⟩ (.int .i64 p))) := Lib.hid ⟨_, n, k', L.set c p, rfl, ES.o.rd, hls, hn1, hn8, (fun i hi => by have := hss i (by rw [hls]; exact hi); omega), ES.b⟩
        clear E10 ES hss hls
        go_wp2
        go_ret
        exact HF.out
      · have hyb : (y == 0) = false := beq_eq_false_iff_ne.2 hy
        have HF : Hid (RetLs w (.returned (.slice at' n k')) w7) := Lib.hid ⟨_, n, k', L, rfl, E7.o.rd, HL.out, hn1, hn8, (fun i hi => by have := HS.out i (by rw [HL.out]; exact hi); omega), E7.b⟩
        clear E7 hy
        go_wp2
        go_ret
        exact HF.out
end Go.Proofs.YtglghdkjppcedaaDoor

/- Contracts and plain facts as the law on texts of branches needs them. -/
namespace Go.Proofs.YtglghdkjppcedaaDoor
open Go.RowKit

/-- Where a list lies that is not empty. -/
theorem Rd.atB {w : World} {a : Option Addr} {n k : Nat} {xs : List Int} (h : Rd w (.slice a n k) xs) (hn : xs.length = n) (hp : 0 < n) : ∃ b off, a = some ⟨b, off, none⟩ ∧ b < w.heap.size ∧ ∀ i, i < n → w.cell? ⟨b, off + i, none⟩ = some (.int .i64 (gI xs i)) := by
  subst hn
  obtain ⟨b, off, cap, he, _, _, hb, hc⟩ := h.cells hp
  injection he with e1 _ _
  exact ⟨b, off, e1, hb, hc⟩
theorem implBT_v (v : Value) (T : List Int) (t : ByteArray) (c : Int) (w : World) (h : Rd w v T) (ht : Tab w) (hx : btS T = t) (hc : okC (braB T) 1 = c) :
    Calls Tryd.prog 6 #[.agg #[v]] w fun e w' => e = .returned (.tuple #[.string t, .int .i64 c]) ∧ Below w.heap.size w w' := by
  subst hx hc
  exact implBT_c v T w h ht
theorem specBT_v (v : Value) (T : List Int) (t : ByteArray) (c : Int) (w : World) (h : Rd w v T) (hx : btS T = t) (hc : okC (braB T) 1 = c) :
    Calls Tryd.prog 7 #[.agg #[v]] w fun e w' => e = .returned (.tuple #[.string t, .int .i64 c]) ∧ Below w.heap.size w w' := by
  subst hx hc
  exact specBT_c v T w h
theorem implPB_v (s : ByteArray) (T : List Int) (n : Nat) (c : Int) (w : World) (hs : s.size ≤ 137438953472) (hR : PbR (lB s) T c) (hn : T.length = n) :
    Calls Tryd.prog 8 #[.string s] w (RvBC w n T c) :=
  (implPB_c s T c w hs hR).mono fun _ _ hh => rvBC_bc hh rfl hn rfl
theorem specPB_v (s : ByteArray) (T : List Int) (n : Nat) (c : Int) (w : World) (hs : s.size ≤ 137438953472) (hR : PbR (lB s) T c) (hn : T.length = n) :
    Calls Tryd.prog 11 #[.string s] w (RvBC w n T c) :=
  (specPB_c s T c w hs hR).mono fun _ _ hh => rvBC_bc hh rfl hn rfl
theorem implBoe_v (x : Int) (v : Value) (L T : List Int) (n : Nat) (c : Int) (w : World) (h : Rd w v L) (hx : 0 ≤ x ∧ x ≤ 65) (hl : L.length ≤ 8) (hT : okL (boB x L) (boF x L) = T) (hc : boC x L = c) (hn : T.length = n) :
    Calls Tryd.prog 13 #[.int .i64 x, v] w (RvBC w n T c) :=
  (implBoe_c x v L w h (by omega) (by omega)).mono fun _ _ hh => rvBC_bc hh hT hn hc
theorem specBoe_v (x : Int) (v : Value) (L T : List Int) (n : Nat) (c : Int) (w : World) (h : Rd w v L) (hx : 0 ≤ x ∧ x ≤ 65) (hl : L.length ≤ 8) (hT : okL (boB x L) (boF x L) = T) (hc : boC x L = c) (hn : T.length = n) :
    Calls Tryd.prog 14 #[.int .i64 x, v] w (RvBC w n T c) :=
  (specBoe_c x v L w h (by omega) (by omega)).mono fun _ _ hh => rvBC_bc hh hT hn hc
theorem implTur_v (v : Value) (L T : List Int) (n : Nat) (c : Int) (w : World) (h : Rd w v L) (hl : L.length ≤ 8) (hT : okL (tuB L) (tuF L) = T) (hc : tuC L = c) (hn : T.length = n) :
    Calls Tryd.prog 17 #[v] w (RvBC w n T c) :=
  (implTur_c v L w h (by omega)).mono fun _ _ hh => rvBC_bc hh hT hn hc
theorem specTur_v (v : Value) (L T : List Int) (n : Nat) (c : Int) (w : World) (h : Rd w v L) (hl : L.length ≤ 8) (hb : ∀ i, i < L.length → -1000000 ≤ gI L i ∧ gI L i ≤ 1000000) (hT : okL (tuB L) (tuF L) = T) (hc : tuC L = c) (hn : T.length = n) :
    Calls Tryd.prog 18 #[v] w (RvBC w n T c) :=
  (specTur_c v L w h (by omega) (fun i hi => by have := hb i hi; omega)).mono fun _ _ hh => rvBC_bc hh hT hn hc
theorem milnor_v (v : Value) (T : List Int) (x : Int) (w : World) (h : Rd w v T) (hok : BraOk T) (hx : conI T = x) :
    Calls Tryd.prog 20 #[.agg #[v]] w fun e w' => e = .returned (.tuple #[.int .i64 x, .int .i64 0]) ∧ Below w.heap.size w w' := by
  subst hx
  exact milnor_c v T w h hok
theorem btS_bytes {T : List Int} (hok : BraOk T) : lB (btS T) = btL T ∧ (btS T).size ≤ 1000 := by
  have h : lB (btS T) = btL T := by unfold btS lB; rw [if_pos (braB_iff.2 hok)]
  exact ⟨h, by rw [← lB_len, h]; exact btL_bd hok⟩
theorem pbR_yes {t : ByteArray} {T : List Int} {c : Int} (h : PbR (lB t) T c) (hc : c = 0) : BraOk T ∧ btS T = t := by
  rcases h with ⟨h1, h2, _⟩ | ⟨_, _, h3⟩
  · exact ⟨h1, lB_inj ((btS_bytes h1).1.trans h2)⟩
  · rw [hc] at h3; exact absurd h3 (by decide)
/-- The terms behind the first lie on the list. -/
theorem boe_has {n : Int} {L T : List Int} {c : Int} (hT : okL (boB n L) (boF n L) = T) (hc : boC n L = c) (h0 : c = 0) : 0 < T.length ∧ T.length ≤ 7 ∧ ∀ i, 1 ≤ i → i < T.length → hasB L (gI T i) = true := by
  have hr : boR n L = true := by
    cases h : boR n L
    · have := (boC_no h).1; omega
    · rfl
  have hf : braB (boF n L) = true := by
    cases h : braB (boF n L)
    · have := (boC_bad hr h).1; omega
    · rfl
  rw [okL_true (boC_ok hr hf).2] at hT
  subst hT
  refine ⟨(braB_iff.1 hf).len, bra_len (braB_iff.1 hf), fun i h1 hi => ?_⟩
  obtain ⟨j, hj, he⟩ := List.mem_iff_getElem.1 (boe_mem hr h1 hi)
  exact hasB_iff.2 ⟨j, hj, by rw [gI_lt hj, he]⟩
theorem bt_yes {T : List Int} {t : ByteArray} {c : Int} (hx : btS T = t) (hc : okC (braB T) 1 = c) (h0 : c = 0) : BraOk T ∧ PbR (lB t) T 0 ∧ t.size ≤ 137438953472 := by
  have hb : braB T = true := by
    cases h : braB T
    · rw [h] at hc; simp [okC] at hc; omega
    · rfl
  have hok := braB_iff.1 hb
  subst hx
  have := btS_bytes hok
  exact ⟨hok, .inl ⟨hok, this.1.symm, rfl⟩, by omega⟩
/-- What a turned characteristic of a branch is. -/
theorem tur_yes {L T : List Int} {c : Int} (hT : okL (tuB L) (tuF L) = T) (hc : tuC L = c) (h0 : c = 0) : TuOk L ∧ BraOk T ∧ conI T = mS L (L.length - 1) := by
  have hr : tuR L = true := by
    cases h : tuR L
    · have := (tuC_no h).1; omega
    · rfl
  have hf : braB (tuF L) = true := by
    cases h : braB (tuF L)
    · have := (tuC_bad hr h).1; omega
    · rfl
  rw [okL_true (tuC_ok hr hf).2] at hT
  subst hT
  have h1 := tuR_iff.1 hr
  have h2 := braB_iff.1 hf
  exact ⟨h1, h2, by rw [con_mS h2, mS_both h1]⟩
/-- What a round of the sum adds. -/
theorem tur_step {L : List Int} {m i j : Nat} (h : TuOk L) (hm : L.length = m) (h8 : L.length ≤ 8) (hij : i = j + 1) (hi : i < m) :
    (1 ≤ eI L j ∧ eI L j ≤ 64) ∧ (1 ≤ eI L i ∧ eI L i ≤ 64) ∧ (1 ≤ gI L i ∧ gI L i ≤ 2000) ∧ gcdI (eI L j) (gI L i) = eI L i ∧ mS L i = mS L j + (eI L j - eI L i) * (gI L i - 1) ∧
    (0 ≤ mS L j ∧ mS L j ≤ 2000000 ∧ -2000000 ≤ (eI L j - eI L i) * (gI L i - 1) ∧ (eI L j - eI L i) * (gI L i - 1) ≤ 2000000) := by
  subst hm hij
  have h0 : 0 < gI L 0 := by have := h.zero; omega
  have hz := h.zero
  have p1 := eI_pos h0 j
  have p2 := eI_le0 h0 j
  have q1 := eI_pos h0 (j + 1)
  have q2 := eI_le0 h0 (j + 1)
  have hn := h.num (j + 1) hi
  have hd := h.fall j hi
  have hb := mS_bd h j (by omega)
  have h6 : 0 ≤ (eI L j - eI L (j + 1)) * (gI L (j + 1) - 1) := Int.mul_nonneg (by omega) (by omega)
  have h7 : (eI L j - eI L (j + 1)) * (gI L (j + 1) - 1) ≤ 64 * 2000 := Int.mul_le_mul (by omega) (by omega) (by omega) (by omega)
  exact ⟨by omega, by omega, hn, rfl, rfl, by omega, by omega, by omega, by omega⟩
end Go.Proofs.YtglghdkjppcedaaDoor
