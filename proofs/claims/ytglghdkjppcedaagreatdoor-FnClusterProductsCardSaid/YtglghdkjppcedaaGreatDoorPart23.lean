/- Contract: spec.l07Spoil, by what is needed of it. -/
import Derived.Test.YtglghdkjppcedaaGreatDoorPart22
import Derived.Deep.RegionHeld3
import Derived.Deep.CutBlock
namespace Go.Proofs.YtglghdkjppcedaaGreatDoor
open Go.RowKit

/-- One number of the first slice is stored; of the second. -/
theorem ClB.set0 {w : World} {gb base g n c : Nat} {s q : Value} {P S W : List Int} (h : ClB w gb base (.slice (some ⟨g, 0, none⟩) n c) s q P S W) (hn : P.length = n) (j : Nat) (x : Int) : ClB (w.setCell ⟨g, j, none⟩ (.int .i64 x)) gb base (.slice (some ⟨g, 0, none⟩) n c) s q (P.set j x) S W := by
  have hg : g ≠ gb := h.ne g (.inl rfl)
  refine ⟨h.blk.other (fun e => hg e.symm) j _, ⟨?_, ?_, ?_, h.own.ab, h.own.ac, h.own.bc⟩, h.ne⟩
  · have := h.own.a
    rw [← hn] at this ⊢
    have h2 := this.set j x
    exact h2
  · exact h.own.b.other (g := g) (fun k e e2 => h.own.ab g rfl (by rw [← e2]; exact e)) j _
  · exact h.own.c.other (g := g) (fun k e e2 => h.own.ac g rfl (by rw [← e2]; exact e)) j _
theorem ClB.set1 {w : World} {gb base g n c : Nat} {p q : Value} {P S W : List Int} (h : ClB w gb base p (.slice (some ⟨g, 0, none⟩) n c) q P S W) (hn : S.length = n) (j : Nat) (x : Int) : ClB (w.setCell ⟨g, j, none⟩ (.int .i64 x)) gb base p (.slice (some ⟨g, 0, none⟩) n c) q P (S.set j x) W := by
  have hg : g ≠ gb := h.ne g (.inr (.inl rfl))
  refine ⟨h.blk.other (fun e => hg e.symm) j _, ⟨?_, ?_, ?_, h.own.ab, h.own.ac, h.own.bc⟩, h.ne⟩
  · exact h.own.a.other (g := g) (fun k e e2 => h.own.ab k e (by rw [e2]; rfl)) j _
  · have := h.own.b
    rw [← hn] at this ⊢
    have h2 := this.set j x
    exact h2
  · exact h.own.c.other (g := g) (fun k e e2 => h.own.bc g rfl (by rw [← e2]; exact e)) j _
/-- What the variable holds when the draw is spoilt, or not. -/
structure SpkB (w wc : World) (gs gb m : Nat) (a b d : Option Addr) (ca cb cd n3 : Nat) (P S W : List Int) : Prop where
  blk : Blk wc gb 26 #[.slice a m ca, .slice b m cb, .slice d n3 cd]
  oa : OwnI wc (w.heap.size + 1) (.slice a m ca) P
  ob : OwnI wc (w.heap.size + 1) (.slice b m cb) S
  rc : Rd wc (.slice d n3 cd) W
  newc : ∀ g, (Value.slice d n3 cd).ownBlock = some g → w.heap.size + 1 ≤ g ∧ g < wc.heap.size
  lp : P.length = m
  ls : S.length = m
  lw : W.length = n3
  len3 : n3 = m ∨ n3 + 1 = m
  whole : n3 = m → Own3 2 wc (w.heap.size + 1) (.slice a m ca) (.slice b m cb) (.slice d n3 cd) P S W
  res : Blk wc w.heap.size 26 #[.slice none 0 0, .slice none 0 0, .slice none 0 0]
  src : Src wc gs
  kp : Keeps (fun q => q = gs) w wc
theorem SpkB.of {w wc : World} {gs gb m : Nat} {a b d : Option Addr} {ca cb cd : Nat} {P S W : List Int} (h : ClB wc gb (w.heap.size + 1) (.slice a m ca) (.slice b m cb) (.slice d m cd) P S W) (h1 : P.length = m) (h2 : S.length = m) (h3 : W.length = m) (hD : Blk wc w.heap.size 26 #[.slice none 0 0, .slice none 0 0, .slice none 0 0]) (s : Src wc gs) (hK : Keeps (fun q => q = gs) w wc) : SpkB w wc gs gb m a b d ca cb cd m P S W :=
  ⟨h.blk, h.own.a, h.own.b, h.own.c.rd, h.own.c.block, h1, h2, h3, .inl rfl, fun _ => h.own, hD, s, hK⟩
/-- Three lists are drawn: a cluster, or something that is none. -/
def RetSk (w : World) (g : Nat) (e : Ending) (w' : World) : Prop :=
  ∃ (m n3 : Nat) (a b d : Option Addr) (ca cb cd : Nat) (P S W : List Int), e = .returned (.agg #[.slice a m ca, .slice b m cb, .slice d n3 cd]) ∧ Rd w' (.slice a m ca) P ∧ Rd w' (.slice b m cb) S ∧ Rd w' (.slice d n3 cd) W ∧ (∀ k, Own3.mine (.slice a m ca) (.slice b m cb) (.slice d n3 cd) k → w.heap.size ≤ k ∧ k < w'.heap.size) ∧ P.length = m ∧ S.length = m ∧ W.length = n3 ∧ 1 ≤ m ∧ m ≤ 24 ∧ (n3 = m ∨ n3 + 1 = m) ∧ (n3 = m → Own3 2 w' w.heap.size (.slice a m ca) (.slice b m cb) (.slice d n3 cd) P S W) ∧ Src w' g ∧ Keeps (fun q => q = g) w w'
theorem retSk_mk {w wo : World} {gs gb m n3 : Nat} {a b d : Option Addr} {ca cb cd : Nat} {P S W : List Int} (h : SpkB w wo gs gb m a b d ca cb cd n3 P S W) (h4 : 1 ≤ m) (h5 : m ≤ 24) (hgs : gs < w.heap.size) :
    RetSk w gs (.returned (.agg #[.slice a m ca, .slice b m cb, .slice d n3 cd])) (((wo.setCell ⟨w.heap.size, 0, none⟩ (.slice a m ca)).setCell ⟨w.heap.size, 1, none⟩ (.slice b m cb)).setCell ⟨w.heap.size, 2, none⟩ (.slice d n3 cd)) := by
  have hk := keeps_D (w := wo) w.heap.size (.slice a m ca) (.slice b m cb) (.slice d n3 cd)
  have hsz := hk.size
  refine ⟨m, n3, a, b, d, ca, cb, cd, P, S, W, rfl, (h.oa.keeps hk (fun g hg e => by have := (h.oa.block g hg).1; omega)).rd, (h.ob.keeps hk (fun g hg e => by have := (h.ob.block g hg).1; omega)).rd, ?_, ?_, h.lp, h.ls, h.lw, h4, h5, h.len3, fun e => ((h.whole e).keeps hk (fun g hg e2 => by have := ((h.whole e).block g hg).1; omega)).base_le (by omega), h.src.keeps hk (fun q hq e => by omega), h.kp.joinK hk (fun q hq e => by omega)⟩
  · obtain ⟨x, cap, h1, h2, h3, hx⟩ := h.rc
    refine ⟨x, cap, h1, h2, h3, fun hne => ?_⟩
    obtain ⟨bb, off, e1, e2, e3⟩ := hx hne
    have hn := h.newc bb (by rw [h1, e1]; rfl)
    exact ⟨bb, off, e1, Nat.lt_of_lt_of_le e2 hsz, fun i hi => (hk.cell (p := ⟨bb, off + i, none⟩) e2 (by show ¬ bb = w.heap.size; omega)).trans (e3 i hi)⟩
  · rintro k (e | e | e)
    · have := h.oa.block k e; omega
    · have := h.ob.block k e; omega
    · have := h.newc k e; omega
/-- A slice without its first number. -/
theorem rd_tail {w : World} {g n c : Nat} {xs : List Int} (h : Rd w (.slice (some ⟨g, 0, none⟩) n c) xs) (hn : xs.length = n) (hp : 0 < n) (hg : g < w.heap.size) (hcl : ∀ i, i < n → w.cell? ⟨g, i, none⟩ = some (.int .i64 (gI xs i))) : Rd w (.slice (some ⟨g, 1, none⟩) (n - 1) (c - 1)) (xs.drop 1) ∧ (c = 1 → Rd w (.slice (some ⟨g, 0, none⟩) (n - 1) (c - 1)) (xs.drop 1)) := by
  obtain ⟨x, cap, h1, h2, h3, _⟩ := h
  injection h1 with e1 e2 e3
  subst e3
  refine ⟨⟨_, c - 1, by rw [List.length_drop, hn], by rw [List.length_drop]; omega, by omega, fun _ => ⟨g, 1, rfl, hg, fun i hi => ?_⟩⟩, fun hc => ⟨_, c - 1, by rw [List.length_drop, hn], by rw [List.length_drop]; omega, by omega, fun hx => ?_⟩⟩
  · rw [List.length_drop] at hi
    rw [gI_drop]
    exact hcl (1 + i) (by omega)
  · exact absurd (List.drop_eq_nil_of_le (by omega)) hx

theorem Rd.keepsK {w w' : World} {v : Value} {xs : List Int} {M : Nat → Prop} (h : Rd w v xs) (hk : Keeps M w w') (hn : ∀ b, v.ownBlock = some b → ¬ M b) : Rd w' v xs := by
  obtain ⟨a, cap, h1, h2, h3, h4⟩ := h
  refine ⟨a, cap, h1, h2, h3, fun hx => ?_⟩
  obtain ⟨b, off, e1, e2, e3⟩ := h4 hx
  refine ⟨b, off, e1, Nat.lt_of_lt_of_le e2 hk.size, fun i hi => ?_⟩
  rw [hk.cell (p := ⟨b, off + i, none⟩) e2 (hn b (by rw [h1, e1]; rfl))]
  exact e3 i hi
set_option maxRecDepth 100000 in
set_option maxHeartbeats 8000000 in
theorem spoilK_w (gs : Nat) (w : World) (s : Src w gs) :
    Calls Tryz.prog 29 #[.pointer (some ⟨gs, 0, none⟩)] w (RetSk w gs) := by
  have hgs := s.lt
  have D := Blk.new w 26 #[.slice none 0 0, .slice none 0 0, .slice none 0 0]
  have hbl0 : Below w.heap.size w ((w.alloc (.cells #[.slice none 0 0, .slice none 0 0, .slice none 0 0] 26)).alloc (.cells #[.int .i64 4, .int .i64 8, .int .i64 12, .int .i64 24] 2)) := ((Below.refl _ _).alloc (Nat.le_refl _) _).alloc (by simp) _
  have hK := Keeps.of_below (M := fun q => q = gs) hbl0
  have s1 := s.below hbl0
  have D1 := D.alloc (.cells #[.int .i64 4, .int .i64 8, .int .i64 12, .int .i64 24] 2)
  have hr := rd_newsK (w := w.alloc (.cells #[.slice none 0 0, .slice none 0 0, .slice none 0 0] 26)) (g := w.heap.size + 1) (by simp) 2 [4, 8, 12, 24] (by simp)
  clear hbl0 s D
  go_enter Tryz.func29, Tryz.ntmps29
  go_wp2_with fail
  refine (pick_w gs _ [4, 8, 12, 24] _ s1 hr (by simp) (by simp) (fun b off e => by injection e with e; injection e with e; injection e; omega) ⟨_, rfl⟩).mono ?_
  rintro e w1 ⟨j, hj, rfl, s2, hk1⟩
  have hp := pickK (P := fun z => 1 ≤ z ∧ z ≤ 24) hj (fun z hz => by simp at hz; omega)
  generalize gI [4, 8, 12, 24] j = z at *
  obtain ⟨n, rfl⟩ := Int.eq_ofNat_of_zero_le (show 0 ≤ z by omega)
  have D2 := D1.keeps hk1 (by omega)
  have hK2 := hK.trans hk1
  have hzz := hK2.size
  clear D1 hK s1 hk1 hr hj
  go_wp2_with fail
  refine (drawK_w gs n _ s2 (by omega) (by omega)).mono ?_
  rintro e w3 ⟨m, a, b, d, ca, cb, cd, P, S, W, rfl, ho, hlp, hls, hlw, hm1, hm24, s3, hk3, _⟩
  have hlt1 := D2.lt
  have ho := ho.base_le (base' := w.heap.size + 1) (by omega)
  have D3 := D2.keeps hk3 (by omega)
  have hK3 := hK2.trans hk3
  have hC1 := clB_new ho
  have hal : Below w3.heap.size w3 (w3.alloc (.cells #[.slice a m ca, .slice b m cb, .slice d m cd] 26)) := (Below.refl _ _).alloc (Nat.le_refl _) _
  have D4 := D3.stays hal
  have s4 := s3.below hal
  have hK4 := hK3.trans (Keeps.of_below hal)
  have hgb : w.heap.size + 1 ≤ w3.heap.size := by have := D3.lt; omega
  have HLP := Lib.hid hlp
  have HLS := Lib.hid hls
  have HLW := Lib.hid hlw
  clear D2 D3 hK2 hK3 hk3 s2 s3 ho hal hlp hls hlw hlt1
  have c0 := hC1.blk.cell 0
  go_wp2_with fail
  generalize hgbe : w3.heap.size = gb at *
  generalize w3.alloc (.cells #[.slice a m ca, .slice b m cb, .slice d m cd] 26) = w4 at *
  clear hgbe
  refine (next_w gs 30 _ s4 (by omega) (by omega)).mono ?_
  rintro e w5 ⟨x, rfl, hx0, hx1, s5, hk5⟩
  have hC := hC1.keeps hk5 (by omega) (fun g hg => by omega)
  have hD := D4.keeps hk5 (by omega)
  have hK := hK4.trans hk5
  clear hC1 D4 s4 hK4 hk5 c0
  have hzo : w.heap.size < w5.heap.size := hD.lt
  go_upto_block 0 with fail
  go_cut [] from 15 to 55 (fun wc => ∃ (d' : Option Addr) (cd' n3 : Nat) (P' S' W' : List Int), SpkB w wc gs gb m a b d' ca cb cd' n3 P' S' W')
  case first =>
    by_cases h0 : x = 0
    · have hb0 : (x == 0) = true := by simp [h0]
      clear h0
      have hoX := hC.own.a
      rw [← HLP.out] at hoX
      obtain ⟨gx, kx, he, hgx, hgx2, _, _⟩ := Own.pos hoX (by rw [HLP.out]; omega)
      injection he with e1 e2 e3
      subst e1 e3
      clear e2 hoX
      have hbd := (Below.refl w5.heap.size w5).drew
      have hba : Below w5.heap.size w5 (w5.alloc (.cells #[.int .i64 (-1), .int .i64 0, .int .i64 ((m : Int))] 2)).drew := ((Below.refl _ _).alloc (Nat.le_refl _) _).drew
      have hCd := hC.below hbd
      have hCa := hC.below hba
      have sd := s5.below hbd
      have sa := s5.below hba
      have hDd := hD.stays hbd
      have hDa := hD.stays hba
      have hKd := hK.trans (Keeps.of_below hbd)
      have hKa := hK.trans (Keeps.of_below hba)
      have hra : Rd (w5.alloc (.cells #[.int .i64 (-1), .int .i64 0, .int .i64 ((m : Int))] 2)).drew (.slice (some ⟨w5.heap.size, 0, none⟩) 3 3) [-1, 0, (m : Int)] := (rd_newsK (w := w5) rfl 2 [-1, 0, (m : Int)] (by simp)).below (B := (w5.alloc (.cells (List.map (Value.int .i64) [-1, 0, (m : Int)]).toArray 2)).heap.size) (Below.refl _ _).drew (Nat.le_refl _)
      have HC : w5.cell? ⟨gb, 0, none⟩ = some (.slice (some ⟨gx, 0, none⟩) m ca) := hC.blk.cell 0
      have HCA : ∀ o, (w5.alloc o).cell? ⟨gb, 0, none⟩ = some (.slice (some ⟨gx, 0, none⟩) m ca) := fun o => (hC.blk.alloc o).cell 0
      have hgxb : gx ≠ gb := hC.ne gx (.inl rfl)
      clear hD hK s5 hC hbd hba
      go_upto_region 5 with fail
      go_region_held3 (fun X => X.cell? ⟨gb, 0, none⟩ = some (.slice (some ⟨gx, 0, none⟩) m ca))
        (first | assumption | exact HC | exact HCA _ | exact HC6 | exact HC6A _ | exact HC8 | exact HC9 _)
        (first
          | (go_at_call 31; (with_reducible refine (next_w gs (m : Int) _ sd (by omega) (by omega)).mono ?_); rintro e w6 ⟨y, rfl, hy0, hy1, s6, hk6⟩; have hC6 := hCd.keeps hk6 (by omega) (fun g hg => by omega); have HC6 := hC6.blk.cell 0; have HC6A : ∀ o, (w6.alloc o).cell? ⟨gb, 0, none⟩ = some (.slice (some ⟨gx, 0, none⟩) m ca) := (fun o => (hC6.blk.alloc o).cell 0); have hD6 := hDd.keeps hk6 (by omega); have hK6 := hKd.trans hk6; have hal6 : Below w6.heap.size w6 (w6.alloc (.cells #[.int .i64 (-1), .int .i64 0, .int .i64 ((m : Int))] 2)) := (Below.refl _ _).alloc (Nat.le_refl _) _; have s7 := s6.below hal6; have hz6 : w5.heap.size ≤ w6.heap.size := hk6.size; have hr7 : Rd (w6.alloc (.cells #[.int .i64 (-1), .int .i64 0, .int .i64 ((m : Int))] 2)) (.slice (some ⟨w6.heap.size, 0, none⟩) 3 3) [-1, 0, (m : Int)] := rd_newsK (w := w6) rfl 2 [-1, 0, (m : Int)] (by simp); have hC7 := hC6.below hal6; have hD7 := hD6.stays hal6; have hK7 := hK6.trans (Keeps.of_below hal6))
          | (go_at_call 31; (with_reducible refine (next_w gs (m : Int) _ sa (by omega) (by omega)).mono ?_); rintro e w6 ⟨y, rfl, hy0, hy1, s7, hk6⟩; have hC7 := hCa.keeps hk6 (by omega) (fun g hg => by omega); have HC6 := hC7.blk.cell 0; have hD7 := hDa.keeps hk6 (by omega); have hK7 := hKa.trans hk6; have hz6 : w5.heap.size ≤ w6.heap.size := Nat.le_trans (by simp) hk6.size; have hr7 := Rd.keepsK hra hk6 (fun q hq e => by simp [Value.ownBlock] at hq; omega))
          | (go_at_call 30; (with_reducible refine (pick_w gs _ [-1, 0, (m : Int)] _ s7 hr7 (by simp) (by simp) (fun b off e => by injection e with e; injection e with e; injection e; omega) ⟨_, rfl⟩).mono ?_); rintro e w8 ⟨i8, hi8, rfl, s8, hk8⟩; have hC8 := hC7.keeps hk8 (by omega) (fun g hg => by omega); have HC8 := hC8.blk.cell 0; have HC9 : ∀ v, (w8.setCell ⟨gx, y.toNat, none⟩ v).cell? ⟨gb, 0, none⟩ = some (.slice (some ⟨gx, 0, none⟩) m ca) := (fun v => (hC8.blk.other (g' := gx) (by omega) y.toNat v).cell 0); have hD8 := hD7.keeps hk8 (by omega); have hK8 := hK7.trans hk8; have hoX := hC8.own.a; rw [← HLP.out] at hoX; have cz := hoX.cell y.toNat (by rw [HLP.out]; omega); have fz := hoX.free y.toNat; clear hoX)
          | fail)
      all_goals
        generalize gI [-1, 0, (m : Int)] i8 = u at *
        have hkk : Keeps (fun q => q = gx) w8 (w8.setCell ⟨gx, y.toNat, none⟩ (.int .i64 u)) := (Keeps.refl (fun q => q = gx) w8).setCell (p := ⟨gx, y.toNat, none⟩) rfl _
        have hC9 := hC8.set0 HLP.out y.toNat u
        have HF := Lib.hid (SpkB.of hC9 (by rw [List.length_set]; exact HLP.out) HLS.out HLW.out (hD8.keeps hkk (by omega)) (s8.keeps hkk (fun q hq => by omega)) (hK8.joinK hkk (fun q hq e => by omega)))
        clear hkk hC9 hD8 s8 hK8 hC8 HC8 HC9 hk8 hC7 hD7 hK7 s7 hr7 HC6 HC HCA hCd hCa sd sa hDd hDa hKd hKa hra cz fz
        go_wp2
        go_meet
        exact ⟨_, _, _, _, _, _, HF.out⟩
    · have hb0 : (x == 0) = false := by simp [h0]
      clear h0
      by_cases h1 : x = 1
      · have hb1 : (x == 1) = true := by simp [h1]
        clear h1
        have hoX := hC.own.b
        rw [← HLS.out] at hoX
        obtain ⟨gx, kx, he, hgx, hgx2, _, _⟩ := Own.pos hoX (by rw [HLS.out]; omega)
        injection he with e1 e2 e3
        subst e1 e3
        clear e2 hoX
        have hbd := (Below.refl w5.heap.size w5).drew
        have hba : Below w5.heap.size w5 (w5.alloc (.cells #[.int .i64 (-2), .int .i64 0, .int .i64 1, .int .i64 ((m : Int))] 2)).drew := ((Below.refl _ _).alloc (Nat.le_refl _) _).drew
        have hCd := hC.below hbd
        have hCa := hC.below hba
        have sd := s5.below hbd
        have sa := s5.below hba
        have hDd := hD.stays hbd
        have hDa := hD.stays hba
        have hKd := hK.trans (Keeps.of_below hbd)
        have hKa := hK.trans (Keeps.of_below hba)
        have hra : Rd (w5.alloc (.cells #[.int .i64 (-2), .int .i64 0, .int .i64 1, .int .i64 ((m : Int))] 2)).drew (.slice (some ⟨w5.heap.size, 0, none⟩) 4 4) [-2, 0, 1, (m : Int)] := (rd_newsK (w := w5) rfl 2 [-2, 0, 1, (m : Int)] (by simp)).below (B := (w5.alloc (.cells (List.map (Value.int .i64) [-2, 0, 1, (m : Int)]).toArray 2)).heap.size) (Below.refl _ _).drew (Nat.le_refl _)
        have HC : w5.cell? ⟨gb, 1, none⟩ = some (.slice (some ⟨gx, 0, none⟩) m cb) := hC.blk.cell 1
        have HCA : ∀ o, (w5.alloc o).cell? ⟨gb, 1, none⟩ = some (.slice (some ⟨gx, 0, none⟩) m cb) := fun o => (hC.blk.alloc o).cell 1
        have hgxb : gx ≠ gb := hC.ne gx (.inr (.inl rfl))
        clear hD hK s5 hC hbd hba
        go_upto_region 7 with fail
        go_region_held3 (fun X => X.cell? ⟨gb, 1, none⟩ = some (.slice (some ⟨gx, 0, none⟩) m cb))
          (first | assumption | exact HC | exact HCA _ | exact HC6 | exact HC6A _ | exact HC8 | exact HC9 _)
          (first
            | (go_at_call 31; (with_reducible refine (next_w gs (m : Int) _ sd (by omega) (by omega)).mono ?_); rintro e w6 ⟨y, rfl, hy0, hy1, s6, hk6⟩; have hC6 := hCd.keeps hk6 (by omega) (fun g hg => by omega); have HC6 := hC6.blk.cell 1; have HC6A : ∀ o, (w6.alloc o).cell? ⟨gb, 1, none⟩ = some (.slice (some ⟨gx, 0, none⟩) m cb) := (fun o => (hC6.blk.alloc o).cell 1); have hD6 := hDd.keeps hk6 (by omega); have hK6 := hKd.trans hk6; have hal6 : Below w6.heap.size w6 (w6.alloc (.cells #[.int .i64 (-2), .int .i64 0, .int .i64 1, .int .i64 ((m : Int))] 2)) := (Below.refl _ _).alloc (Nat.le_refl _) _; have s7 := s6.below hal6; have hz6 : w5.heap.size ≤ w6.heap.size := hk6.size; have hr7 : Rd (w6.alloc (.cells #[.int .i64 (-2), .int .i64 0, .int .i64 1, .int .i64 ((m : Int))] 2)) (.slice (some ⟨w6.heap.size, 0, none⟩) 4 4) [-2, 0, 1, (m : Int)] := rd_newsK (w := w6) rfl 2 [-2, 0, 1, (m : Int)] (by simp); have hC7 := hC6.below hal6; have hD7 := hD6.stays hal6; have hK7 := hK6.trans (Keeps.of_below hal6))
            | (go_at_call 31; (with_reducible refine (next_w gs (m : Int) _ sa (by omega) (by omega)).mono ?_); rintro e w6 ⟨y, rfl, hy0, hy1, s7, hk6⟩; have hC7 := hCa.keeps hk6 (by omega) (fun g hg => by omega); have HC6 := hC7.blk.cell 1; have hD7 := hDa.keeps hk6 (by omega); have hK7 := hKa.trans hk6; have hz6 : w5.heap.size ≤ w6.heap.size := Nat.le_trans (by simp) hk6.size; have hr7 := Rd.keepsK hra hk6 (fun q hq e => by simp [Value.ownBlock] at hq; omega))
            | (go_at_call 30; (with_reducible refine (pick_w gs _ [-2, 0, 1, (m : Int)] _ s7 hr7 (by simp) (by simp) (fun b off e => by injection e with e; injection e with e; injection e; omega) ⟨_, rfl⟩).mono ?_); rintro e w8 ⟨i8, hi8, rfl, s8, hk8⟩; have hC8 := hC7.keeps hk8 (by omega) (fun g hg => by omega); have HC8 := hC8.blk.cell 1; have HC9 : ∀ v, (w8.setCell ⟨gx, y.toNat, none⟩ v).cell? ⟨gb, 1, none⟩ = some (.slice (some ⟨gx, 0, none⟩) m cb) := (fun v => (hC8.blk.other (g' := gx) (by omega) y.toNat v).cell 1); have hD8 := hD7.keeps hk8 (by omega); have hK8 := hK7.trans hk8; have hoX := hC8.own.b; rw [← HLS.out] at hoX; have cz := hoX.cell y.toNat (by rw [HLS.out]; omega); have fz := hoX.free y.toNat; clear hoX)
            | fail)
        all_goals
          generalize gI [-2, 0, 1, (m : Int)] i8 = u at *
          have hkk : Keeps (fun q => q = gx) w8 (w8.setCell ⟨gx, y.toNat, none⟩ (.int .i64 u)) := (Keeps.refl (fun q => q = gx) w8).setCell (p := ⟨gx, y.toNat, none⟩) rfl _
          have hC9 := hC8.set1 HLS.out y.toNat u
          have HF := Lib.hid (SpkB.of hC9 HLP.out (by rw [List.length_set]; exact HLS.out) HLW.out (hD8.keeps hkk (by omega)) (s8.keeps hkk (fun q hq => by omega)) (hK8.joinK hkk (fun q hq e => by omega)))
          clear hkk hC9 hD8 s8 hK8 hC8 HC8 HC9 hk8 hC7 hD7 hK7 s7 hr7 HC6 HC HCA hCd hCa sd sa hDd hDa hKd hKa hra cz fz
          go_wp2
          go_meet
          exact ⟨_, _, _, _, _, _, HF.out⟩
      · have hb1 : (x == 1) = false := by simp [h1]
        clear h1
        by_cases h2 : x = 2
        · have hb2 : (x == 2) = true := by simp [h2]
          clear h2
          have hoX := hC.own.c
          rw [← HLW.out] at hoX
          obtain ⟨gx, kx, he, hgx, hgx2, _, _⟩ := Own.pos hoX (by rw [HLW.out]; omega)
          injection he with e1 e2 e3
          subst e1 e3
          clear e2 hoX
          have hbd := (Below.refl w5.heap.size w5).drew
          have hba : Below w5.heap.size w5 (w5.alloc (.cells #[.int .i64 100000, .int .i64 (-100000), .int .i64 100001, .int .i64 (-4611686018427387904)] 2)).drew := ((Below.refl _ _).alloc (Nat.le_refl _) _).drew
          have hCd := hC.below hbd
          have hCa := hC.below hba
          have sd := s5.below hbd
          have sa := s5.below hba
          have hDd := hD.stays hbd
          have hDa := hD.stays hba
          have hKd := hK.trans (Keeps.of_below hbd)
          have hKa := hK.trans (Keeps.of_below hba)
          have hra : Rd (w5.alloc (.cells #[.int .i64 100000, .int .i64 (-100000), .int .i64 100001, .int .i64 (-4611686018427387904)] 2)).drew (.slice (some ⟨w5.heap.size, 0, none⟩) 4 4) [100000, -100000, 100001, -4611686018427387904] := (rd_newsK (w := w5) rfl 2 [100000, -100000, 100001, -4611686018427387904] (by simp)).below (B := (w5.alloc (.cells (List.map (Value.int .i64) [100000, -100000, 100001, -4611686018427387904]).toArray 2)).heap.size) (Below.refl _ _).drew (Nat.le_refl _)
          have HC : w5.cell? ⟨gb, 2, none⟩ = some (.slice (some ⟨gx, 0, none⟩) m cd) := hC.blk.cell 2
          have HCA : ∀ o, (w5.alloc o).cell? ⟨gb, 2, none⟩ = some (.slice (some ⟨gx, 0, none⟩) m cd) := fun o => (hC.blk.alloc o).cell 2
          have hgxb : gx ≠ gb := hC.ne gx (.inr (.inr rfl))
          clear hD hK s5 hC hbd hba
          go_upto_region 9 with fail
          go_region_held3 (fun X => X.cell? ⟨gb, 2, none⟩ = some (.slice (some ⟨gx, 0, none⟩) m cd))
            (first | assumption | exact HC | exact HCA _ | exact HC6 | exact HC6A _ | exact HC8 | exact HC9 _)
            (first
              | (go_at_call 31; (with_reducible refine (next_w gs (m : Int) _ sd (by omega) (by omega)).mono ?_); rintro e w6 ⟨y, rfl, hy0, hy1, s6, hk6⟩; have hC6 := hCd.keeps hk6 (by omega) (fun g hg => by omega); have HC6 := hC6.blk.cell 2; have HC6A : ∀ o, (w6.alloc o).cell? ⟨gb, 2, none⟩ = some (.slice (some ⟨gx, 0, none⟩) m cd) := (fun o => (hC6.blk.alloc o).cell 2); have hD6 := hDd.keeps hk6 (by omega); have hK6 := hKd.trans hk6; have hal6 : Below w6.heap.size w6 (w6.alloc (.cells #[.int .i64 100000, .int .i64 (-100000), .int .i64 100001, .int .i64 (-4611686018427387904)] 2)) := (Below.refl _ _).alloc (Nat.le_refl _) _; have s7 := s6.below hal6; have hz6 : w5.heap.size ≤ w6.heap.size := hk6.size; have hr7 : Rd (w6.alloc (.cells #[.int .i64 100000, .int .i64 (-100000), .int .i64 100001, .int .i64 (-4611686018427387904)] 2)) (.slice (some ⟨w6.heap.size, 0, none⟩) 4 4) [100000, -100000, 100001, -4611686018427387904] := rd_newsK (w := w6) rfl 2 [100000, -100000, 100001, -4611686018427387904] (by simp); have hC7 := hC6.below hal6; have hD7 := hD6.stays hal6; have hK7 := hK6.trans (Keeps.of_below hal6))
              | (go_at_call 31; (with_reducible refine (next_w gs (m : Int) _ sa (by omega) (by omega)).mono ?_); rintro e w6 ⟨y, rfl, hy0, hy1, s7, hk6⟩; have hC7 := hCa.keeps hk6 (by omega) (fun g hg => by omega); have HC6 := hC7.blk.cell 2; have hD7 := hDa.keeps hk6 (by omega); have hK7 := hKa.trans hk6; have hz6 : w5.heap.size ≤ w6.heap.size := Nat.le_trans (by simp) hk6.size; have hr7 := Rd.keepsK hra hk6 (fun q hq e => by simp [Value.ownBlock] at hq; omega))
              | (go_at_call 30; (with_reducible refine (pick_w gs _ [100000, -100000, 100001, -4611686018427387904] _ s7 hr7 (by simp) (by simp) (fun b off e => by injection e with e; injection e with e; injection e; omega) ⟨_, rfl⟩).mono ?_); rintro e w8 ⟨i8, hi8, rfl, s8, hk8⟩; have hC8 := hC7.keeps hk8 (by omega) (fun g hg => by omega); have HC8 := hC8.blk.cell 2; have HC9 : ∀ v, (w8.setCell ⟨gx, y.toNat, none⟩ v).cell? ⟨gb, 2, none⟩ = some (.slice (some ⟨gx, 0, none⟩) m cd) := (fun v => (hC8.blk.other (g' := gx) (by omega) y.toNat v).cell 2); have hD8 := hD7.keeps hk8 (by omega); have hK8 := hK7.trans hk8; have hoX := hC8.own.c; rw [← HLW.out] at hoX; have cz := hoX.cell y.toNat (by rw [HLW.out]; omega); have fz := hoX.free y.toNat; clear hoX)
              | fail)
          all_goals
            generalize gI [100000, -100000, 100001, -4611686018427387904] i8 = u at *
            have hkk : Keeps (fun q => q = gx) w8 (w8.setCell ⟨gx, y.toNat, none⟩ (.int .i64 u)) := (Keeps.refl (fun q => q = gx) w8).setCell (p := ⟨gx, y.toNat, none⟩) rfl _
            have hC9 := hC8.set2 HLW.out y.toNat u
            have HF := Lib.hid (SpkB.of hC9 HLP.out HLS.out (by rw [List.length_set]; exact HLW.out) (hD8.keeps hkk (by omega)) (s8.keeps hkk (fun q hq => by omega)) (hK8.joinK hkk (fun q hq e => by omega)))
            clear hkk hC9 hD8 s8 hK8 hC8 HC8 HC9 hk8 hC7 hD7 hK7 s7 hr7 HC6 HC HCA hCd hCa sd sa hDd hDa hKd hKa hra cz fz
            go_wp2
            go_meet
            exact ⟨_, _, _, _, _, _, HF.out⟩
        · have hb2 : (x == 2) = false := by simp [h2]
          clear h2
          by_cases h3 : x = 3
          · have hb3 : (x == 3) = true := by simp [h3]
            clear h3
            have hoX := hC.own.c
            rw [← HLW.out] at hoX
            obtain ⟨gx, kx, he, hgx, hgx2, hcp1, hcp2⟩ := Own.pos hoX (by rw [HLW.out]; omega)
            injection he with e1 e2 e3
            subst e1 e3
            clear e2
            have hcl : ∀ i, i < m → w5.cell? ⟨gx, i, none⟩ = some (.int .i64 (gI W i)) := fun i hi => hoX.cell i (by rw [HLW.out]; exact hi)
            have hcdm : m ≤ cd := by have h9 := hcp1; rw [HLW.out] at h9; exact h9
            have hgxb : gx ≠ gb := hC.ne gx (.inr (.inr rfl))
            have hnba : ∀ k, (Value.slice a m ca).ownBlock = some k → k ≠ gb := fun k e => hC.ne k (.inl e)
            have hnbb : ∀ k, (Value.slice b m cb).ownBlock = some k → k ≠ gb := fun k e => hC.ne k (.inr (.inl e))
            have c2 := hC.blk.cell 2
            have f2 := hC.blk.free 2
            have hm0 : (0 : Int) < (m : Int) := by omega
            have hm1' : (1 : Int) ≤ (m : Int) := by omega
            have hwl : (W.drop 1).length = m - 1 := by rw [List.length_drop, HLW.out]
            have hkk : ∀ v, Keeps (fun q => q = gb) w5 (w5.setCell ⟨gb, 2, none⟩ v) := fun v => (Keeps.refl (fun q => q = gb) w5).setCell (p := ⟨gb, 2, none⟩) rfl v
            have hrt := rd_tail hC.own.c.rd HLW.out (by omega) hgx2 hcl
            have fin : ∀ off, Rd w5 (.slice (some ⟨gx, off, none⟩) (m - 1) (cd - 1)) (W.drop 1) → SpkB w (w5.setCell ⟨gb, 2, none⟩ (.slice (some ⟨gx, off, none⟩) (m - 1) (cd - 1))) gs gb m a b (some ⟨gx, off, none⟩) ca cb (cd - 1) (m - 1) P S (W.drop 1) := fun off hrd =>
              ⟨hC.blk.set 2 _, hC.own.a.other (g := gb) hnba 2 _, hC.own.b.other (g := gb) hnbb 2 _, hrd.keepsK (hkk _) (fun k e => by simp [Value.ownBlock] at e; omega), fun k e => by (simp [Value.ownBlock] at e; subst e; exact ⟨hgx, Nat.lt_of_lt_of_le hgx2 (hkk _).size⟩), HLP.out, HLS.out, hwl, .inr (by omega), fun e => by omega, hD.keeps (hkk _) (by omega), s5.keeps (hkk _) (fun q hq => by omega), hK.joinK (hkk _) (fun q hq e => by omega)⟩
            by_cases hcd : cd = 1
            · subst hcd
              obtain rfl : m = 1 := by omega
              have HF := Lib.hid (fin 0 (hrt.2 rfl))
              clear fin hrt hkk hcl hoX hC hD hK s5 hnba hnbb hwl
              go_wp2
              go_meet
              exact ⟨_, _, _, _, _, _, HF.out⟩
            · have HF := Lib.hid (fin 1 hrt.1)
              clear fin hrt hkk hcl hoX hC hD hK s5 hnba hnbb hwl
              have hcd' : ¬ (1 : Nat) = cd := fun e => hcd e.symm
              have hcd2 : (1 : Int) < (cd : Int) := by omega
              go_wp2
              go_meet
              exact ⟨_, _, _, _, _, _, HF.out⟩
          · have hb3 : (x == 3) = false := by simp [h3]
            clear h3
            have HF := Lib.hid (SpkB.of hC HLP.out HLS.out HLW.out hD s5 hK)
            clear hC hD s5 hK
            go_wp2
            go_meet
            exact ⟨_, _, _, _, _, _, HF.out⟩
  case rest =>
    obtain ⟨d', cd', n3, P', S', W', hB⟩ := hcut
    clear hC hD s5 hK HLP HLS HLW
    have c0 := hB.blk.cell 0
    have c1 := hB.blk.cell 1
    have c2 := hB.blk.cell 2
    have e0 := hB.res.cell 0
    have e1 := hB.res.cell 1
    have e2 := hB.res.cell 2
    have f0 := hB.res.free 0
    have f1 := hB.res.free 1
    have f2 := hB.res.free 2
    have F := ((hB.res.set 0 (.slice a m ca)).set 1 (.slice b m cb)).set 2 (.slice d' n3 cd')
    have q0 := F.cell 0
    have q1 := F.cell 1
    have q2 := F.cell 2
    have HF := Lib.hid (retSk_mk hB hm1 hm24 hgs)
    clear hB F
    go_wp2
    exact bodyPost_ret (v := .agg #[.slice a m ca, .slice b m cb, .slice d' n3 cd']) (by simp [results, Tryz.results29, go_sem, q0, q1, q2]) rfl HF.out
end Go.Proofs.YtglghdkjppcedaaGreatDoor

/- Contracts: spec.l01Count; the draws of chapters 7 and 8, by what is needed of them. -/
namespace Go.Proofs.YtglghdkjppcedaaGreatDoor
open Go.RowKit

/-- Some number is drawn. -/
def RetNo (w : World) (g : Nat) (e : Ending) (w' : World) : Prop := ∃ x : Int, e = .returned (.int .i64 x) ∧ Src w' g ∧ Keeps (fun q => q = g) w w'
/-- Three lists are drawn from a code. -/
def RetKl (w : World) (e : Ending) (w' : World) : Prop :=
  ∃ (m n3 : Nat) (a b d : Option Addr) (ca cb cd : Nat) (P S W : List Int), e = .returned (.agg #[.slice a m ca, .slice b m cb, .slice d n3 cd]) ∧ Rd w' (.slice a m ca) P ∧ Rd w' (.slice b m cb) S ∧ Rd w' (.slice d n3 cd) W ∧ P.length = m ∧ S.length = m ∧ W.length = n3 ∧ 1 ≤ m ∧ m ≤ 24 ∧ n3 ≤ 24 ∧ Below w.heap.size w w'
theorem keeps_from {w w1 w2 : World} {g : Nat} (hb : Below w.heap.size w w1) (hg : w.heap.size ≤ g) (hk : Keeps (fun q => q = g) w1 w2) : Below w.heap.size w w2 :=
  hb.trans (hk.below hb.size (fun k e => by omega))
/-- Three lists and a number are drawn from a code. -/
def RetKn (w : World) (e : Ending) (w' : World) : Prop :=
  ∃ (m n3 : Nat) (a b d : Option Addr) (ca cb cd : Nat) (P S W : List Int) (n : Int), e = .returned (.tuple #[.agg #[.slice a m ca, .slice b m cb, .slice d n3 cd], .int .i64 n]) ∧ Rd w' (.slice a m ca) P ∧ Rd w' (.slice b m cb) S ∧ Rd w' (.slice d n3 cd) W ∧ P.length = m ∧ S.length = m ∧ W.length = n3 ∧ 1 ≤ m ∧ m ≤ 24 ∧ n3 ≤ 24 ∧ Below w.heap.size w w'
end Go.Proofs.YtglghdkjppcedaaGreatDoor
