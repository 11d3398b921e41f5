/- Contract: spec.l07Spoil, by what is needed of it. -/
import Derived.Test.YtiinceflafigeaaDrwL
import Derived.Deep.RegionHeld3
import Derived.Deep.CutBlock
namespace Go.Proofs.Ytiinceflafigeaa
open Go.RowKit

/-- One number of the first slice is stored; of the second. -/
theorem ClB.set0 {w : World} {gb base g n c : Nat} {s q : Value} {P S W : List Int} (h : ClB w gb base (.slice (some ⟨g, 0, none⟩) n c) s q P S W) (hn : P.length = n) (j : Nat) (x : Int) : ClB (w.setCell ⟨g, j, none⟩ (.int .i64 x)) gb base (.slice (some ⟨g, 0, none⟩) n c) s q (P.set j x) S W := by
  have hg : g ≠ gb := h.ne g (.inl rfl)
  refine ⟨h.blk.other (fun e => hg e.symm) j _, ⟨?_, ?_, ?_, h.own.ab, h.own.ac, h.own.bc⟩, h.ne⟩
  · have := h.own.a
    rw [← hn] at this ⊢
    have h2 := this.set j x
    exact h2
  · exact h.own.b.other (g := g) (fun k e e2 => h.own.ab g rfl (by rw [← e2]; exact e)) j _
  · exact h.own.c.other (g := g) (fun k e e2 => h.own.ac g rfl (by rw [← e2]; exact e)) j _
theorem ClB.set1 {w : World} {gb base g n c : Nat} {p q : Value} {P S W : List Int} (h : ClB w gb base p (.slice (some ⟨g, 0, none⟩) n c) q P S W) (hn : S.length = n) (j : Nat) (x : Int) : ClB (w.setCell ⟨g, j, none⟩ (.int .i64 x)) gb base p (.slice (some ⟨g, 0, none⟩) n c) q P (S.set j x) W := by
  have hg : g ≠ gb := h.ne g (.inr (.inl rfl))
  refine ⟨h.blk.other (fun e => hg e.symm) j _, ⟨?_, ?_, ?_, h.own.ab, h.own.ac, h.own.bc⟩, h.ne⟩
  · exact h.own.a.other (g := g) (fun k e e2 => h.own.ab k e (by rw [e2]; rfl)) j _
  · have := h.own.b
    rw [← hn] at this ⊢
    have h2 := this.set j x
    exact h2
  · exact h.own.c.other (g := g) (fun k e e2 => h.own.bc g rfl (by rw [← e2]; exact e)) j _
/-- What the variable holds when the draw is spoilt, or not. -/
structure SpkB (w wc : World) (gs gb m : Nat) (a b d : Option Addr) (ca cb cd n3 : Nat) (P S W : List Int) : Prop where
  blk : Blk wc gb 40 #[.slice a m ca, .slice b m cb, .slice d n3 cd]
  oa : OwnI wc (w.heap.size + 1) (.slice a m ca) P
  ob : OwnI wc (w.heap.size + 1) (.slice b m cb) S
  rc : Rd wc (.slice d n3 cd) W
  newc : ∀ g, (Value.slice d n3 cd).ownBlock = some g → w.heap.size + 1 ≤ g ∧ g < wc.heap.size
  lp : P.length = m
  ls : S.length = m
  lw : W.length = n3
  len3 : n3 = m ∨ n3 + 1 = m
  whole : n3 = m → Own3 2 wc (w.heap.size + 1) (.slice a m ca) (.slice b m cb) (.slice d n3 cd) P S W
  res : Blk wc w.heap.size 40 #[.slice none 0 0, .slice none 0 0, .slice none 0 0]
  src : Src wc gs
  kp : Keeps (fun q => q = gs) w wc
theorem SpkB.of {w wc : World} {gs gb m : Nat} {a b d : Option Addr} {ca cb cd : Nat} {P S W : List Int} (h : ClB wc gb (w.heap.size + 1) (.slice a m ca) (.slice b m cb) (.slice d m cd) P S W) (h1 : P.length = m) (h2 : S.length = m) (h3 : W.length = m) (hD : Blk wc w.heap.size 40 #[.slice none 0 0, .slice none 0 0, .slice none 0 0]) (s : Src wc gs) (hK : Keeps (fun q => q = gs) w wc) : SpkB w wc gs gb m a b d ca cb cd m P S W :=
  ⟨h.blk, h.own.a, h.own.b, h.own.c.rd, h.own.c.block, h1, h2, h3, .inl rfl, fun _ => h.own, hD, s, hK⟩
/-- Three lists are drawn: a cluster, or something that is none. -/
def RetSk (w : World) (g : Nat) (e : Ending) (w' : World) : Prop :=
  ∃ (m n3 : Nat) (a b d : Option Addr) (ca cb cd : Nat) (P S W : List Int), e = .returned (.agg #[.slice a m ca, .slice b m cb, .slice d n3 cd]) ∧ Rd w' (.slice a m ca) P ∧ Rd w' (.slice b m cb) S ∧ Rd w' (.slice d n3 cd) W ∧ (∀ k, Own3.mine (.slice a m ca) (.slice b m cb) (.slice d n3 cd) k → w.heap.size ≤ k ∧ k < w'.heap.size) ∧ P.length = m ∧ S.length = m ∧ W.length = n3 ∧ 1 ≤ m ∧ m ≤ 24 ∧ (n3 = m ∨ n3 + 1 = m) ∧ (n3 = m → Own3 2 w' w.heap.size (.slice a m ca) (.slice b m cb) (.slice d n3 cd) P S W) ∧ Src w' g ∧ Keeps (fun q => q = g) w w'
theorem retSk_mk {w wo : World} {gs gb m n3 : Nat} {a b d : Option Addr} {ca cb cd : Nat} {P S W : List Int} (h : SpkB w wo gs gb m a b d ca cb cd n3 P S W) (h4 : 1 ≤ m) (h5 : m ≤ 24) (hgs : gs < w.heap.size) :
    RetSk w gs (.returned (.agg #[.slice a m ca, .slice b m cb, .slice d n3 cd])) (((wo.setCell ⟨w.heap.size, 0, none⟩ (.slice a m ca)).setCell ⟨w.heap.size, 1, none⟩ (.slice b m cb)).setCell ⟨w.heap.size, 2, none⟩ (.slice d n3 cd)) := by
  have hk := keeps_D (w := wo) w.heap.size (.slice a m ca) (.slice b m cb) (.slice d n3 cd)
  have hsz := hk.size
  refine ⟨m, n3, a, b, d, ca, cb, cd, P, S, W, rfl, (h.oa.keeps hk (fun g hg e => by have := (h.oa.block g hg).1; omega)).rd, (h.ob.keeps hk (fun g hg e => by have := (h.ob.block g hg).1; omega)).rd, ?_, ?_, h.lp, h.ls, h.lw, h4, h5, h.len3, fun e => ((h.whole e).keeps hk (fun g hg e2 => by have := ((h.whole e).block g hg).1; omega)).base_le (by omega), h.src.keeps hk (fun q hq e => by omega), h.kp.joinK hk (fun q hq e => by omega)⟩
  · obtain ⟨x, cap, h1, h2, h3, hx⟩ := h.rc
    refine ⟨x, cap, h1, h2, h3, fun hne => ?_⟩
    obtain ⟨bb, off, e1, e2, e3⟩ := hx hne
    have hn := h.newc bb (by rw [h1, e1]; rfl)
    exact ⟨bb, off, e1, Nat.lt_of_lt_of_le e2 hsz, fun i hi => (hk.cell (p := ⟨bb, off + i, none⟩) e2 (by show ¬ bb = w.heap.size; omega)).trans (e3 i hi)⟩
  · rintro k (e | e | e)
    · have := h.oa.block k e; omega
    · have := h.ob.block k e; omega
    · have := h.newc k e; omega
/-- A slice without its first number. -/
theorem rd_tail {w : World} {g n c : Nat} {xs : List Int} (h : Rd w (.slice (some ⟨g, 0, none⟩) n c) xs) (hn : xs.length = n) (hp : 0 < n) (hg : g < w.heap.size) (hcl : ∀ i, i < n → w.cell? ⟨g, i, none⟩ = some (.int .i64 (gI xs i))) : Rd w (.slice (some ⟨g, 1, none⟩) (n - 1) (c - 1)) (xs.drop 1) ∧ (c = 1 → Rd w (.slice (some ⟨g, 0, none⟩) (n - 1) (c - 1)) (xs.drop 1)) := by
  obtain ⟨x, cap, h1, h2, h3, _⟩ := h
  injection h1 with e1 e2 e3
  subst e3
  refine ⟨⟨_, c - 1, by rw [List.length_drop, hn], by rw [List.length_drop]; omega, by omega, fun _ => ⟨g, 1, rfl, hg, fun i hi => ?_⟩⟩, fun hc => ⟨_, c - 1, by rw [List.length_drop, hn], by rw [List.length_drop]; omega, by omega, fun hx => ?_⟩⟩
  · rw [List.length_drop] at hi
    rw [gI_drop]
    exact hcl (1 + i) (by omega)
  · exact absurd (List.drop_eq_nil_of_le (by omega)) hx

theorem Rd.keepsK {w w' : World} {v : Value} {xs : List Int} {M : Nat → Prop} (h : Rd w v xs) (hk : Keeps M w w') (hn : ∀ b, v.ownBlock = some b → ¬ M b) : Rd w' v xs := by
  obtain ⟨a, cap, h1, h2, h3, h4⟩ := h
  refine ⟨a, cap, h1, h2, h3, fun hx => ?_⟩
  obtain ⟨b, off, e1, e2, e3⟩ := h4 hx
  refine ⟨b, off, e1, Nat.lt_of_lt_of_le e2 hk.size, fun i hi => ?_⟩
  rw [hk.cell (p := ⟨b, off + i, none⟩) e2 (hn b (by rw [h1, e1]; rfl))]
  exact e3 i hi
set_option maxRecDepth 100000 in
set_option maxHeartbeats 8000000 in
theorem spoilK_w (gs : Nat) (w : World) (s : Src w gs) :
    Calls Try.prog 160 #[.pointer (some ⟨gs, 0, none⟩)] w (RetSk w gs) := by
  have hgs := s.lt
  have D := Blk.new w 40 #[.slice none 0 0, .slice none 0 0, .slice none 0 0]
  have hbl0 : Below w.heap.size w ((w.alloc (.cells #[.slice none 0 0, .slice none 0 0, .slice none 0 0] 40)).alloc (.cells #[.int .i64 4, .int .i64 8, .int .i64 12, .int .i64 24] 2)) := ((Below.refl _ _).alloc (Nat.le_refl _) _).alloc (by simp) _
  have hK := Keeps.of_below (M := fun q => q = gs) hbl0
  have s1 := s.below hbl0
  have D1 := D.alloc (.cells #[.int .i64 4, .int .i64 8, .int .i64 12, .int .i64 24] 2)
  have hr := rd_newsK (w := w.alloc (.cells #[.slice none 0 0, .slice none 0 0, .slice none 0 0] 40)) (g := w.heap.size + 1) (by simp) 2 [4, 8, 12, 24] (by simp)
  clear hbl0 s D
  go_enter Try.func160, Try.ntmps160
  go_wp2_with fail
  refine (pick_w gs _ [4, 8, 12, 24] _ s1 hr (by simp) (by simp) (fun b off e => by injection e with e; injection e with e; injection e; omega) ⟨_, rfl⟩).mono ?_
  rintro e w1 ⟨j, hj, rfl, s2, hk1⟩
  have hp := pickK (P := fun z => 1 ≤ z ∧ z ≤ 24) hj (fun z hz => by simp at hz; omega)
  generalize gI [4, 8, 12, 24] j = z at *
  obtain ⟨n, rfl⟩ := Int.eq_ofNat_of_zero_le (show 0 ≤ z by omega)
  have D2 := D1.keeps hk1 (by omega)
  have hK2 := hK.trans hk1
  have hzz := hK2.size
  clear D1 hK s1 hk1 hr hj
  go_wp2_with fail
  refine (drawK_w gs n _ s2 (by omega) (by omega)).mono ?_
  rintro e w3 ⟨m, a, b, d, ca, cb, cd, P, S, W, rfl, ho, hlp, hls, hlw, hm1, hm24, s3, hk3⟩
  have hlt1 := D2.lt
  have ho := ho.base_le (base' := w.heap.size + 1) (by omega)
  have D3 := D2.keeps hk3 (by omega)
  have hK3 := hK2.trans hk3
  have hC1 := clB_new ho
  have hal : Below w3.heap.size w3 (w3.alloc (.cells #[.slice a m ca, .slice b m cb, .slice d m cd] 40)) := (Below.refl _ _).alloc (Nat.le_refl _) _
  have D4 := D3.stays hal
  have s4 := s3.below hal
  have hK4 := hK3.trans (Keeps.of_below hal)
  have hgb : w.heap.size + 1 ≤ w3.heap.size := by have := D3.lt; omega
  have HLP := Lib.hid hlp
  have HLS := Lib.hid hls
  have HLW := Lib.hid hlw
  clear D2 D3 hK2 hK3 hk3 s2 s3 ho hal hlp hls hlw hlt1
  have c0 := hC1.blk.cell 0
  go_wp2_with fail
  generalize hgbe : w3.heap.size = gb at *
  generalize w3.alloc (.cells #[.slice a m ca, .slice b m cb, .slice d m cd] 40) = w4 at *
  clear hgbe
  refine (next_w gs 30 _ s4 (by omega) (by omega)).mono ?_
  rintro e w5 ⟨x, rfl, hx0, hx1, s5, hk5⟩
  have hC := hC1.keeps hk5 (by omega) (fun g hg => by omega)
  have hD := D4.keeps hk5 (by omega)
  have hK := hK4.trans hk5
  clear hC1 D4 s4 hK4 hk5 c0
  have hzo : w.heap.size < w5.heap.size := hD.lt
  go_upto_block 0 with fail
  go_cut [] from 15 to 55 (fun wc => ∃ (d' : Option Addr) (cd' n3 : Nat) (P' S' W' : List Int), SpkB w wc gs gb m a b d' ca cb cd' n3 P' S' W')
  case first =>
    by_cases h0 : x = 0
    · have hb0 : (x == 0) = true := by simp [h0]
      clear h0
      have hoX := hC.own.a
      rw [← HLP.out] at hoX
      obtain ⟨gx, kx, he, hgx, hgx2, _, _⟩ := Own.pos hoX (by rw [HLP.out]; omega)
      injection he with e1 e2 e3
      subst e1 e3
      clear e2 hoX
      have hbd := (Below.refl w5.heap.size w5).drew
      have hba : Below w5.heap.size w5 (w5.alloc (.cells #[.int .i64 (-1), .int .i64 0, .int .i64 ((m : Int))] 2)).drew := ((Below.refl _ _).alloc (Nat.le_refl _) _).drew
      have hCd := hC.below hbd
      have hCa := hC.below hba
      have sd := s5.below hbd
      have sa := s5.below hba
      have hDd := hD.stays hbd
      have hDa := hD.stays hba
      have hKd := hK.trans (Keeps.of_below hbd)
      have hKa := hK.trans (Keeps.of_below hba)
      have hra : Rd (w5.alloc (.cells #[.int .i64 (-1), .int .i64 0, .int .i64 ((m : Int))] 2)).drew (.slice (some ⟨w5.heap.size, 0, none⟩) 3 3) [-1, 0, (m : Int)] := (rd_newsK (w := w5) rfl 2 [-1, 0, (m : Int)] (by simp)).below (B := (w5.alloc (.cells (List.map (Value.int .i64) [-1, 0, (m : Int)]).toArray 2)).heap.size) (Below.refl _ _).drew (Nat.le_refl _)
      have HC : w5.cell? ⟨gb, 0, none⟩ = some (.slice (some ⟨gx, 0, none⟩) m ca) := hC.blk.cell 0
      have HCA : ∀ o, (w5.alloc o).cell? ⟨gb, 0, none⟩ = some (.slice (some ⟨gx, 0, none⟩) m ca) := fun o => (hC.blk.alloc o).cell 0
      have hgxb : gx ≠ gb := hC.ne gx (.inl rfl)
      clear hD hK s5 hC hbd hba
      go_upto_region 5 with fail
      go_region_held3 (fun X => X.cell? ⟨gb, 0, none⟩ = some (.slice (some ⟨gx, 0, none⟩) m ca))
        (first | assumption | exact HC | exact HCA _ | exact HC6 | exact HC6A _ | exact HC8 | exact HC9 _)
        (first
          | (go_at_call 151; (with_reducible refine (next_w gs (m : Int) _ sd (by omega) (by omega)).mono ?_); rintro e w6 ⟨y, rfl, hy0, hy1, s6, hk6⟩; have hC6 := hCd.keeps hk6 (by omega) (fun g hg => by omega); have HC6 := hC6.blk.cell 0; have HC6A : ∀ o, (w6.alloc o).cell? ⟨gb, 0, none⟩ = some (.slice (some ⟨gx, 0, none⟩) m ca) := (fun o => (hC6.blk.alloc o).cell 0); have hD6 := hDd.keeps hk6 (by omega); have hK6 := hKd.trans hk6; have hal6 : Below w6.heap.size w6 (w6.alloc (.cells #[.int .i64 (-1), .int .i64 0, .int .i64 ((m : Int))] 2)) := (Below.refl _ _).alloc (Nat.le_refl _) _; have s7 := s6.below hal6; have hz6 : w5.heap.size ≤ w6.heap.size := hk6.size; have hr7 : Rd (w6.alloc (.cells #[.int .i64 (-1), .int .i64 0, .int .i64 ((m : Int))] 2)) (.slice (some ⟨w6.heap.size, 0, none⟩) 3 3) [-1, 0, (m : Int)] := rd_newsK (w := w6) rfl 2 [-1, 0, (m : Int)] (by simp); have hC7 := hC6.below hal6; have hD7 := hD6.stays hal6; have hK7 := hK6.trans (Keeps.of_below hal6))
          | (go_at_call 151; (with_reducible refine (next_w gs (m : Int) _ sa (by omega) (by omega)).mono ?_); rintro e w6 ⟨y, rfl, hy0, hy1, s7, hk6⟩; have hC7 := hCa.keeps hk6 (by omega) (fun g hg => by omega); have HC6 := hC7.blk.cell 0; have hD7 := hDa.keeps hk6 (by omega); have hK7 := hKa.trans hk6; have hz6 : w5.heap.size ≤ w6.heap.size := Nat.le_trans (by simp) hk6.size; have hr7 := Rd.keepsK hra hk6 (fun q hq e => by simp [Value.ownBlock] at hq; omega))
          | (go_at_call 158; (with_reducible refine (pick_w gs _ [-1, 0, (m : Int)] _ s7 hr7 (by simp) (by simp) (fun b off e => by injection e with e; injection e with e; injection e; omega) ⟨_, rfl⟩).mono ?_); rintro e w8 ⟨i8, hi8, rfl, s8, hk8⟩; have hC8 := hC7.keeps hk8 (by omega) (fun g hg => by omega); have HC8 := hC8.blk.cell 0; have HC9 : ∀ v, (w8.setCell ⟨gx, y.toNat, none⟩ v).cell? ⟨gb, 0, none⟩ = some (.slice (some ⟨gx, 0, none⟩) m ca) := (fun v => (hC8.blk.other (g' := gx) (by omega) y.toNat v).cell 0); have hD8 := hD7.keeps hk8 (by omega); have hK8 := hK7.trans hk8; have hoX := hC8.own.a; rw [← HLP.out] at hoX; have cz := hoX.cell y.toNat (by rw [HLP.out]; omega); have fz := hoX.free y.toNat; clear hoX)
          | fail)
      all_goals
        generalize gI [-1, 0, (m : Int)] i8 = u at *
        have hkk : Keeps (fun q => q = gx) w8 (w8.setCell ⟨gx, y.toNat, none⟩ (.int .i64 u)) := (Keeps.refl (fun q => q = gx) w8).setCell (p := ⟨gx, y.toNat, none⟩) rfl _
        have hC9 := hC8.set0 HLP.out y.toNat u
        have HF := Lib.hid (SpkB.of hC9 (by rw [List.length_set]; exact HLP.out) HLS.out HLW.out (hD8.keeps hkk (by omega)) (s8.keeps hkk (fun q hq => by omega)) (hK8.joinK hkk (fun q hq e => by omega)))
        clear hkk hC9 hD8 s8 hK8 hC8 HC8 HC9 hk8 hC7 hD7 hK7 s7 hr7 HC6 HC HCA hCd hCa sd sa hDd hDa hKd hKa hra cz fz
        go_wp2
        go_meet
        exact ⟨_, _, _, _, _, _, HF.out⟩
    · have hb0 : (x == 0) = false := by simp [h0]
      clear h0
      by_cases h1 : x = 1
      · have hb1 : (x == 1) = true := by simp [h1]
        clear h1
        have hoX := hC.own.b
        rw [← HLS.out] at hoX
        obtain ⟨gx, kx, he, hgx, hgx2, _, _⟩ := Own.pos hoX (by rw [HLS.out]; omega)
        injection he with e1 e2 e3
        subst e1 e3
        clear e2 hoX
        have hbd := (Below.refl w5.heap.size w5).drew
        have hba : Below w5.heap.size w5 (w5.alloc (.cells #[.int .i64 (-2), .int .i64 0, .int .i64 1, .int .i64 ((m : Int))] 2)).drew := ((Below.refl _ _).alloc (Nat.le_refl _) _).drew
        have hCd := hC.below hbd
        have hCa := hC.below hba
        have sd := s5.below hbd
        have sa := s5.below hba
        have hDd := hD.stays hbd
        have hDa := hD.stays hba
        have hKd := hK.trans (Keeps.of_below hbd)
        have hKa := hK.trans (Keeps.of_below hba)
        have hra : Rd (w5.alloc (.cells #[.int .i64 (-2), .int .i64 0, .int .i64 1, .int .i64 ((m : Int))] 2)).drew (.slice (some ⟨w5.heap.size, 0, none⟩) 4 4) [-2, 0, 1, (m : Int)] := (rd_newsK (w := w5) rfl 2 [-2, 0, 1, (m : Int)] (by simp)).below (B := (w5.alloc (.cells (List.map (Value.int .i64) [-2, 0, 1, (m : Int)]).toArray 2)).heap.size) (Below.refl _ _).drew (Nat.le_refl _)
        have HC : w5.cell? ⟨gb, 1, none⟩ = some (.slice (some ⟨gx, 0, none⟩) m cb) := hC.blk.cell 1
        have HCA : ∀ o, (w5.alloc o).cell? ⟨gb, 1, none⟩ = some (.slice (some ⟨gx, 0, none⟩) m cb) := fun o => (hC.blk.alloc o).cell 1
        have hgxb : gx ≠ gb := hC.ne gx (.inr (.inl rfl))
        clear hD hK s5 hC hbd hba
        go_upto_region 7 with fail
        go_region_held3 (fun X => X.cell? ⟨gb, 1, none⟩ = some (.slice (some ⟨gx, 0, none⟩) m cb))
          (first | assumption | exact HC | exact HCA _ | exact HC6 | exact HC6A _ | exact HC8 | exact HC9 _)
          (first
            | (go_at_call 151; (with_reducible refine (next_w gs (m : Int) _ sd (by omega) (by omega)).mono ?_); rintro e w6 ⟨y, rfl, hy0, hy1, s6, hk6⟩; have hC6 := hCd.keeps hk6 (by omega) (fun g hg => by omega); have HC6 := hC6.blk.cell 1; have HC6A : ∀ o, (w6.alloc o).cell? ⟨gb, 1, none⟩ = some (.slice (some ⟨gx, 0, none⟩) m cb) := (fun o => (hC6.blk.alloc o).cell 1); have hD6 := hDd.keeps hk6 (by omega); have hK6 := hKd.trans hk6; have hal6 : Below w6.heap.size w6 (w6.alloc (.cells #[.int .i64 (-2), .int .i64 0, .int .i64 1, .int .i64 ((m : Int))] 2)) := (Below.refl _ _).alloc (Nat.le_refl _) _; have s7 := s6.below hal6; have hz6 : w5.heap.size ≤ w6.heap.size := hk6.size; have hr7 : Rd (w6.alloc (.cells #[.int .i64 (-2), .int .i64 0, .int .i64 1, .int .i64 ((m : Int))] 2)) (.slice (some ⟨w6.heap.size, 0, none⟩) 4 4) [-2, 0, 1, (m : Int)] := rd_newsK (w := w6) rfl 2 [-2, 0, 1, (m : Int)] (by simp); have hC7 := hC6.below hal6; have hD7 := hD6.stays hal6; have hK7 := hK6.trans (Keeps.of_below hal6))
            | (go_at_call 151; (with_reducible refine (next_w gs (m : Int) _ sa (by omega) (by omega)).mono ?_); rintro e w6 ⟨y, rfl, hy0, hy1, s7, hk6⟩; have hC7 := hCa.keeps hk6 (by omega) (fun g hg => by omega); have HC6 := hC7.blk.cell 1; have hD7 := hDa.keeps hk6 (by omega); have hK7 := hKa.trans hk6; have hz6 : w5.heap.size ≤ w6.heap.size := Nat.le_trans (by simp) hk6.size; have hr7 := Rd.keepsK hra hk6 (fun q hq e => by simp [Value.ownBlock] at hq; omega))
            | (go_at_call 158; (with_reducible refine (pick_w gs _ [-2, 0, 1, (m : Int)] _ s7 hr7 (by simp) (by simp) (fun b off e => by injection e with e; injection e with e; injection e; omega) ⟨_, rfl⟩).mono ?_); rintro e w8 ⟨i8, hi8, rfl, s8, hk8⟩; have hC8 := hC7.keeps hk8 (by omega) (fun g hg => by omega); have HC8 := hC8.blk.cell 1; have HC9 : ∀ v, (w8.setCell ⟨gx, y.toNat, none⟩ v).cell? ⟨gb, 1, none⟩ = some (.slice (some ⟨gx, 0, none⟩) m cb) := (fun v => (hC8.blk.other (g' := gx) (by omega) y.toNat v).cell 1); have hD8 := hD7.keeps hk8 (by omega); have hK8 := hK7.trans hk8; have hoX := hC8.own.b; rw [← HLS.out] at hoX; have cz := hoX.cell y.toNat (by rw [HLS.out]; omega); have fz := hoX.free y.toNat; clear hoX)
            | fail)
        all_goals
          generalize gI [-2, 0, 1, (m : Int)] i8 = u at *
          have hkk : Keeps (fun q => q = gx) w8 (w8.setCell ⟨gx, y.toNat, none⟩ (.int .i64 u)) := (Keeps.refl (fun q => q = gx) w8).setCell (p := ⟨gx, y.toNat, none⟩) rfl _
          have hC9 := hC8.set1 HLS.out y.toNat u
          have HF := Lib.hid (SpkB.of hC9 HLP.out (by rw [List.length_set]; exact HLS.out) HLW.out (hD8.keeps hkk (by omega)) (s8.keeps hkk (fun q hq => by omega)) (hK8.joinK hkk (fun q hq e => by omega)))
          clear hkk hC9 hD8 s8 hK8 hC8 HC8 HC9 hk8 hC7 hD7 hK7 s7 hr7 HC6 HC HCA hCd hCa sd sa hDd hDa hKd hKa hra cz fz
          go_wp2
          go_meet
          exact ⟨_, _, _, _, _, _, HF.out⟩
      · have hb1 : (x == 1) = false := by simp [h1]
        clear h1
        by_cases h2 : x = 2
        · have hb2 : (x == 2) = true := by simp [h2]
          clear h2
          have hoX := hC.own.c
          rw [← HLW.out] at hoX
          obtain ⟨gx, kx, he, hgx, hgx2, _, _⟩ := Own.pos hoX (by rw [HLW.out]; omega)
          injection he with e1 e2 e3
          subst e1 e3
          clear e2 hoX
          have hbd := (Below.refl w5.heap.size w5).drew
          have hba : Below w5.heap.size w5 (w5.alloc (.cells #[.int .i64 100000, .int .i64 (-100000), .int .i64 100001, .int .i64 (-4611686018427387904)] 2)).drew := ((Below.refl _ _).alloc (Nat.le_refl _) _).drew
          have hCd := hC.below hbd
          have hCa := hC.below hba
          have sd := s5.below hbd
          have sa := s5.below hba
          have hDd := hD.stays hbd
          have hDa := hD.stays hba
          have hKd := hK.trans (Keeps.of_below hbd)
          have hKa := hK.trans (Keeps.of_below hba)
          have hra : Rd (w5.alloc (.cells #[.int .i64 100000, .int .i64 (-100000), .int .i64 100001, .int .i64 (-4611686018427387904)] 2)).drew (.slice (some ⟨w5.heap.size, 0, none⟩) 4 4) [100000, -100000, 100001, -4611686018427387904] := (rd_newsK (w := w5) rfl 2 [100000, -100000, 100001, -4611686018427387904] (by simp)).below (B := (w5.alloc (.cells (List.map (Value.int .i64) [100000, -100000, 100001, -4611686018427387904]).toArray 2)).heap.size) (Below.refl _ _).drew (Nat.le_refl _)
          have HC : w5.cell? ⟨gb, 2, none⟩ = some (.slice (some ⟨gx, 0, none⟩) m cd) := hC.blk.cell 2
          have HCA : ∀ o, (w5.alloc o).cell? ⟨gb, 2, none⟩ = some (.slice (some ⟨gx, 0, none⟩) m cd) := fun o => (hC.blk.alloc o).cell 2
          have hgxb : gx ≠ gb := hC.ne gx (.inr (.inr rfl))
          clear hD hK s5 hC hbd hba
          go_upto_region 9 with fail
          go_region_held3 (fun X => X.cell? ⟨gb, 2, none⟩ = some (.slice (some ⟨gx, 0, none⟩) m cd))
            (first | assumption | exact HC | exact HCA _ | exact HC6 | exact HC6A _ | exact HC8 | exact HC9 _)
            (first
              | (go_at_call 151; (with_reducible refine (next_w gs (m : Int) _ sd (by omega) (by omega)).mono ?_); rintro e w6 ⟨y, rfl, hy0, hy1, s6, hk6⟩; have hC6 := hCd.keeps hk6 (by omega) (fun g hg => by omega); have HC6 := hC6.blk.cell 2; have HC6A : ∀ o, (w6.alloc o).cell? ⟨gb, 2, none⟩ = some (.slice (some ⟨gx, 0, none⟩) m cd) := (fun o => (hC6.blk.alloc o).cell 2); have hD6 := hDd.keeps hk6 (by omega); have hK6 := hKd.trans hk6; have hal6 : Below w6.heap.size w6 (w6.alloc (.cells #[.int .i64 100000, .int .i64 (-100000), .int .i64 100001, .int .i64 (-4611686018427387904)] 2)) := (Below.refl _ _).alloc (Nat.le_refl _) _; have s7 := s6.below hal6; have hz6 : w5.heap.size ≤ w6.heap.size := hk6.size; have hr7 : Rd (w6.alloc (.cells #[.int .i64 100000, .int .i64 (-100000), .int .i64 100001, .int .i64 (-4611686018427387904)] 2)) (.slice (some ⟨w6.heap.size, 0, none⟩) 4 4) [100000, -100000, 100001, -4611686018427387904] := rd_newsK (w := w6) rfl 2 [100000, -100000, 100001, -4611686018427387904] (by simp); have hC7 := hC6.below hal6; have hD7 := hD6.stays hal6; have hK7 := hK6.trans (Keeps.of_below hal6))
              | (go_at_call 151; (with_reducible refine (next_w gs (m : Int) _ sa (by omega) (by omega)).mono ?_); rintro e w6 ⟨y, rfl, hy0, hy1, s7, hk6⟩; have hC7 := hCa.keeps hk6 (by omega) (fun g hg => by omega); have HC6 := hC7.blk.cell 2; have hD7 := hDa.keeps hk6 (by omega); have hK7 := hKa.trans hk6; have hz6 : w5.heap.size ≤ w6.heap.size := Nat.le_trans (by simp) hk6.size; have hr7 := Rd.keepsK hra hk6 (fun q hq e => by simp [Value.ownBlock] at hq; omega))
              | (go_at_call 158; (with_reducible refine (pick_w gs _ [100000, -100000, 100001, -4611686018427387904] _ s7 hr7 (by simp) (by simp) (fun b off e => by injection e with e; injection e with e; injection e; omega) ⟨_, rfl⟩).mono ?_); rintro e w8 ⟨i8, hi8, rfl, s8, hk8⟩; have hC8 := hC7.keeps hk8 (by omega) (fun g hg => by omega); have HC8 := hC8.blk.cell 2; have HC9 : ∀ v, (w8.setCell ⟨gx, y.toNat, none⟩ v).cell? ⟨gb, 2, none⟩ = some (.slice (some ⟨gx, 0, none⟩) m cd) := (fun v => (hC8.blk.other (g' := gx) (by omega) y.toNat v).cell 2); have hD8 := hD7.keeps hk8 (by omega); have hK8 := hK7.trans hk8; have hoX := hC8.own.c; rw [← HLW.out] at hoX; have cz := hoX.cell y.toNat (by rw [HLW.out]; omega); have fz := hoX.free y.toNat; clear hoX)
              | fail)
          all_goals
            generalize gI [100000, -100000, 100001, -4611686018427387904] i8 = u at *
            have hkk : Keeps (fun q => q = gx) w8 (w8.setCell ⟨gx, y.toNat, none⟩ (.int .i64 u)) := (Keeps.refl (fun q => q = gx) w8).setCell (p := ⟨gx, y.toNat, none⟩) rfl _
            have hC9 := hC8.set2 HLW.out y.toNat u
            have HF := Lib.hid (SpkB.of hC9 HLP.out HLS.out (by rw [List.length_set]; exact HLW.out) (hD8.keeps hkk (by omega)) (s8.keeps hkk (fun q hq => by omega)) (hK8.joinK hkk (fun q hq e => by omega)))
            clear hkk hC9 hD8 s8 hK8 hC8 HC8 HC9 hk8 hC7 hD7 hK7 s7 hr7 HC6 HC HCA hCd hCa sd sa hDd hDa hKd hKa hra cz fz
            go_wp2
            go_meet
            exact ⟨_, _, _, _, _, _, HF.out⟩
        · have hb2 : (x == 2) = false := by simp [h2]
          clear h2
          by_cases h3 : x = 3
          · have hb3 : (x == 3) = true := by simp [h3]
            clear h3
            have hoX := hC.own.c
            rw [← HLW.out] at hoX
            obtain ⟨gx, kx, he, hgx, hgx2, hcp1, hcp2⟩ := Own.pos hoX (by rw [HLW.out]; omega)
            injection he with e1 e2 e3
            subst e1 e3
            clear e2
            have hcl : ∀ i, i < m → w5.cell? ⟨gx, i, none⟩ = some (.int .i64 (gI W i)) := fun i hi => hoX.cell i (by rw [HLW.out]; exact hi)
            have hcdm : m ≤ cd := by have h9 := hcp1; rw [HLW.out] at h9; exact h9
            have hgxb : gx ≠ gb := hC.ne gx (.inr (.inr rfl))
            have hnba : ∀ k, (Value.slice a m ca).ownBlock = some k → k ≠ gb := fun k e => hC.ne k (.inl e)
            have hnbb : ∀ k, (Value.slice b m cb).ownBlock = some k → k ≠ gb := fun k e => hC.ne k (.inr (.inl e))
            have c2 := hC.blk.cell 2
            have f2 := hC.blk.free 2
            have hm0 : (0 : Int) < (m : Int) := by omega
            have hm1' : (1 : Int) ≤ (m : Int) := by omega
            have hwl : (W.drop 1).length = m - 1 := by rw [List.length_drop, HLW.out]
            have hkk : ∀ v, Keeps (fun q => q = gb) w5 (w5.setCell ⟨gb, 2, none⟩ v) := fun v => (Keeps.refl (fun q => q = gb) w5).setCell (p := ⟨gb, 2, none⟩) rfl v
            have hrt := rd_tail hC.own.c.rd HLW.out (by omega) hgx2 hcl
            have fin : ∀ off, Rd w5 (.slice (some ⟨gx, off, none⟩) (m - 1) (cd - 1)) (W.drop 1) → SpkB w (w5.setCell ⟨gb, 2, none⟩ (.slice (some ⟨gx, off, none⟩) (m - 1) (cd - 1))) gs gb m a b (some ⟨gx, off, none⟩) ca cb (cd - 1) (m - 1) P S (W.drop 1) := fun off hrd =>
              ⟨hC.blk.set 2 _, hC.own.a.other (g := gb) hnba 2 _, hC.own.b.other (g := gb) hnbb 2 _, hrd.keepsK (hkk _) (fun k e => by simp [Value.ownBlock] at e; omega), fun k e => by (simp [Value.ownBlock] at e; subst e; exact ⟨hgx, Nat.lt_of_lt_of_le hgx2 (hkk _).size⟩), HLP.out, HLS.out, hwl, .inr (by omega), fun e => by omega, hD.keeps (hkk _) (by omega), s5.keeps (hkk _) (fun q hq => by omega), hK.joinK (hkk _) (fun q hq e => by omega)⟩
            by_cases hcd : cd = 1
            · subst hcd
              obtain rfl : m = 1 := by omega
              have HF := Lib.hid (fin 0 (hrt.2 rfl))
              clear fin hrt hkk hcl hoX hC hD hK s5 hnba hnbb hwl
              go_wp2
              go_meet
              exact ⟨_, _, _, _, _, _, HF.out⟩
            · have HF := Lib.hid (fin 1 hrt.1)
              clear fin hrt hkk hcl hoX hC hD hK s5 hnba hnbb hwl
              have hcd' : ¬ (1 : Nat) = cd := fun e => hcd e.symm
              have hcd2 : (1 : Int) < (cd : Int) := by omega
              go_wp2
              go_meet
              exact ⟨_, _, _, _, _, _, HF.out⟩
          · have hb3 : (x == 3) = false := by simp [h3]
            clear h3
            have HF := Lib.hid (SpkB.of hC HLP.out HLS.out HLW.out hD s5 hK)
            clear hC hD s5 hK
            go_wp2
            go_meet
            exact ⟨_, _, _, _, _, _, HF.out⟩
  case rest =>
    obtain ⟨d', cd', n3, P', S', W', hB⟩ := hcut
    clear hC hD s5 hK HLP HLS HLW
    have c0 := hB.blk.cell 0
    have c1 := hB.blk.cell 1
    have c2 := hB.blk.cell 2
    have e0 := hB.res.cell 0
    have e1 := hB.res.cell 1
    have e2 := hB.res.cell 2
    have f0 := hB.res.free 0
    have f1 := hB.res.free 1
    have f2 := hB.res.free 2
    have F := ((hB.res.set 0 (.slice a m ca)).set 1 (.slice b m cb)).set 2 (.slice d' n3 cd')
    have q0 := F.cell 0
    have q1 := F.cell 1
    have q2 := F.cell 2
    have HF := Lib.hid (retSk_mk hB hm1 hm24 hgs)
    clear hB F
    go_wp2
    exact bodyPost_ret (v := .agg #[.slice a m ca, .slice b m cb, .slice d' n3 cd']) (by simp [results, Try.results160, go_sem, q0, q1, q2]) rfl HF.out
end Go.Proofs.Ytiinceflafigeaa

/- Contracts: spec.l01Count; the draws of chapters 7 and 8, by what is needed of them. -/
namespace Go.Proofs.Ytiinceflafigeaa
open Go.RowKit

/-- Some number is drawn. -/
def RetNo (w : World) (g : Nat) (e : Ending) (w' : World) : Prop := ∃ x : Int, e = .returned (.int .i64 x) ∧ Src w' g ∧ Keeps (fun q => q = g) w w'
set_option maxHeartbeats 4000000 in
theorem count_w (gs k : Nat) (w : World) (s : Src w gs) (hk : k ≤ 1000000) :
    Calls Try.prog 182 #[.pointer (some ⟨gs, 0, none⟩), .int .i64 (k : Int)] w (RetNo w gs) := by
  have hgs := s.lt
  go_enter Try.func182, Try.ntmps182
  go_wp2_with fail
  refine (next_w gs 14 _ s (by omega) (by omega)).mono ?_
  rintro e w1 ⟨x, rfl, hx0, hx1, s1, hk1⟩
  have w1e : IntKind.i64.wrap ((k : Int) + 1) = (k : Int) + 1 := IntWalk.i64_in _ (by omega)
  by_cases hx : x = 0
  · have hxb : (x == 0) = true := by simp [hx]
    clear hx
    have hal : Below w1.heap.size w1 (w1.alloc (.cells #[.int .i64 (-1), .int .i64 ((k : Int) + 1), .int .i64 1099511627776, .int .i64 (-4611686018427387904)] 2)) := (Below.refl _ _).alloc (Nat.le_refl _) _
    have hr : Rd (w1.alloc (.cells #[.int .i64 (-1), .int .i64 ((k : Int) + 1), .int .i64 1099511627776, .int .i64 (-4611686018427387904)] 2)) (.slice (some ⟨w1.heap.size, 0, none⟩) 4 4) [-1, (k : Int) + 1, 1099511627776, -4611686018427387904] := rd_newsK (w := w1) rfl 2 [-1, (k : Int) + 1, 1099511627776, -4611686018427387904] (by simp)
    have s2 := s1.below hal
    have hK2 := hk1.trans (Keeps.of_below hal)
    have hsz := hk1.size
    clear s s1 hal hk1
    go_wp2_with fail
    refine (pick_w gs _ [-1, (k : Int) + 1, 1099511627776, -4611686018427387904] _ s2 hr (by simp) (by simp) (fun b off e => by injection e with e; injection e with e; injection e; omega) ⟨_, rfl⟩).mono ?_
    rintro e w3 ⟨j, hj, rfl, s3, hk3⟩
    generalize gI [-1, (k : Int) + 1, 1099511627776, -4611686018427387904] j = z at *
    have HF : Hid (RetNo w gs (.returned (.int .i64 z)) w3) := Lib.hid ⟨z, rfl, s3, hK2.trans hk3⟩
    clear s3 hk3 hK2 hr s2
    go_wp2
    go_ret
    exact HF.out
  · have hxb : (x == 0) = false := by simp [hx]
    clear hx
    go_wp2_with fail
    refine (next_w gs ((k : Int) + 1) _ s1 (by omega) (by omega)).mono ?_
    rintro e w3 ⟨z, rfl, hz0, hz1, s3, hk3⟩
    have HF : Hid (RetNo w gs (.returned (.int .i64 z)) w3) := Lib.hid ⟨z, rfl, s3, hk1.trans hk3⟩
    clear s3 hk3 hk1 s1 s
    go_wp2
    go_ret
    exact HF.out

/-- Three lists are drawn from a code. -/
def RetKl (w : World) (e : Ending) (w' : World) : Prop :=
  ∃ (m n3 : Nat) (a b d : Option Addr) (ca cb cd : Nat) (P S W : List Int), e = .returned (.agg #[.slice a m ca, .slice b m cb, .slice d n3 cd]) ∧ Rd w' (.slice a m ca) P ∧ Rd w' (.slice b m cb) S ∧ Rd w' (.slice d n3 cd) W ∧ P.length = m ∧ S.length = m ∧ W.length = n3 ∧ 1 ≤ m ∧ m ≤ 24 ∧ n3 ≤ 24 ∧ Below w.heap.size w w'
theorem keeps_from {w w1 w2 : World} {g : Nat} (hb : Below w.heap.size w w1) (hg : w.heap.size ≤ g) (hk : Keeps (fun q => q = g) w1 w2) : Below w.heap.size w w2 :=
  hb.trans (hk.below hb.size (fun k e => by omega))
set_option maxRecDepth 100000 in
set_option maxHeartbeats 4000000 in
theorem drawProximityMatrix_w (v : Value) (C : List Int) (w : World) (h : Rd8 w v C) :
    Calls Try.prog 70 #[v] w (RetKl w) := by
  have D := Blk.new w 40 #[.slice none 0 0, .slice none 0 0, .slice none 0 0]
  have hal : Below w.heap.size w (w.alloc (.cells #[.slice none 0 0, .slice none 0 0, .slice none 0 0] 40)) := (Below.refl _ _).alloc (Nat.le_refl _) _
  have h1 := h.below hal (Nat.le_refl _)
  go_enter Try.func70, Try.ntmps70
  go_wp2_with fail
  generalize w.alloc (.cells #[.slice none 0 0, .slice none 0 0, .slice none 0 0] 40) = w0 at *
  refine (from_w v C _ h1).mono ?_
  rintro e w1 ⟨g, rfl, hg, s1, hb1⟩
  have hs0 : w.heap.size < w0.heap.size := D.lt
  have D1 := D.stays hb1
  have hB1 := hal.trans (hb1.mono hal.size)
  clear h h1 hal hb1 D
  go_wp2_with fail
  refine (spoilK_w g _ s1).mono ?_
  rintro e w2 ⟨m, n3, a, b, d, ca, cb, cd, P, S, W, rfl, hrp, hrs, hrq, hnew, lp, ls, lw, hm1, hm2, hn3, _, s2, hk2⟩
  have D2 := D1.keeps hk2 (by omega)
  have hB2 := keeps_from hB1 (by omega) hk2
  have hg1 : g < w1.heap.size := s1.lt
  have hkd := keeps_D (w := w2) w.heap.size (.slice a m ca) (.slice b m cb) (.slice d n3 cd)
  have hl1 := hB1.size
  have HF : Hid (RetKl w (.returned (.agg #[.slice a m ca, .slice b m cb, .slice d n3 cd])) (((w2.setCell ⟨w.heap.size, 0, none⟩ (.slice a m ca)).setCell ⟨w.heap.size, 1, none⟩ (.slice b m cb)).setCell ⟨w.heap.size, 2, none⟩ (.slice d n3 cd))) := Lib.hid ⟨m, n3, a, b, d, ca, cb, cd, P, S, W, rfl, hrp.keepsK hkd (fun k e => by have := hnew k (.inl e); have := D1.lt; omega), hrs.keepsK hkd (fun k e => by have := hnew k (.inr (.inl e)); have := D1.lt; omega), hrq.keepsK hkd (fun k e => by have := hnew k (.inr (.inr e)); have := D1.lt; omega), lp, ls, lw, hm1, hm2, by omega, hB2.trans (hkd.below hB2.size (fun k e => by omega))⟩
  have e0 := D2.cell 0
  have e1 := D2.cell 1
  have e2 := D2.cell 2
  have f0 := D2.free 0
  have f1 := D2.free 1
  have f2 := D2.free 2
  have F := ((D2.set 0 (.slice a m ca)).set 1 (.slice b m cb)).set 2 (.slice d n3 cd)
  have q0 := F.cell 0
  have q1 := F.cell 1
  have q2 := F.cell 2
  clear s2 D2 D1 hB1 hB2 hkd hrp hrs hrq hnew lp ls lw hk2 s1 F
  go_wp2
  exact bodyPost_ret (v := .agg #[.slice a m ca, .slice b m cb, .slice d n3 cd]) (by simp [results, Try.results70, go_sem, q0, q1, q2]) rfl HF.out
set_option maxRecDepth 100000 in
set_option maxHeartbeats 4000000 in
theorem drawUnloadStep_w (v : Value) (C : List Int) (w : World) (h : Rd8 w v C) :
    Calls Try.prog 67 #[v] w (RetKl w) := by
  have D := Blk.new w 40 #[.slice none 0 0, .slice none 0 0, .slice none 0 0]
  have hal : Below w.heap.size w (w.alloc (.cells #[.slice none 0 0, .slice none 0 0, .slice none 0 0] 40)) := (Below.refl _ _).alloc (Nat.le_refl _) _
  have h1 := h.below hal (Nat.le_refl _)
  go_enter Try.func67, Try.ntmps67
  go_wp2_with fail
  generalize w.alloc (.cells #[.slice none 0 0, .slice none 0 0, .slice none 0 0] 40) = w0 at *
  refine (from_w v C _ h1).mono ?_
  rintro e w1 ⟨g, rfl, hg, s1, hb1⟩
  have hs0 : w.heap.size < w0.heap.size := D.lt
  have D1 := D.stays hb1
  have hB1 := hal.trans (hb1.mono hal.size)
  clear h h1 hal hb1 D
  go_wp2_with fail
  refine (spoilK_w g _ s1).mono ?_
  rintro e w2 ⟨m, n3, a, b, d, ca, cb, cd, P, S, W, rfl, hrp, hrs, hrq, hnew, lp, ls, lw, hm1, hm2, hn3, _, s2, hk2⟩
  have D2 := D1.keeps hk2 (by omega)
  have hB2 := keeps_from hB1 (by omega) hk2
  have hg1 : g < w1.heap.size := s1.lt
  have hkd := keeps_D (w := w2) w.heap.size (.slice a m ca) (.slice b m cb) (.slice d n3 cd)
  have hl1 := hB1.size
  have HF : Hid (RetKl w (.returned (.agg #[.slice a m ca, .slice b m cb, .slice d n3 cd])) (((w2.setCell ⟨w.heap.size, 0, none⟩ (.slice a m ca)).setCell ⟨w.heap.size, 1, none⟩ (.slice b m cb)).setCell ⟨w.heap.size, 2, none⟩ (.slice d n3 cd))) := Lib.hid ⟨m, n3, a, b, d, ca, cb, cd, P, S, W, rfl, hrp.keepsK hkd (fun k e => by have := hnew k (.inl e); have := D1.lt; omega), hrs.keepsK hkd (fun k e => by have := hnew k (.inr (.inl e)); have := D1.lt; omega), hrq.keepsK hkd (fun k e => by have := hnew k (.inr (.inr e)); have := D1.lt; omega), lp, ls, lw, hm1, hm2, by omega, hB2.trans (hkd.below hB2.size (fun k e => by omega))⟩
  have e0 := D2.cell 0
  have e1 := D2.cell 1
  have e2 := D2.cell 2
  have f0 := D2.free 0
  have f1 := D2.free 1
  have f2 := D2.free 2
  have F := ((D2.set 0 (.slice a m ca)).set 1 (.slice b m cb)).set 2 (.slice d n3 cd)
  have q0 := F.cell 0
  have q1 := F.cell 1
  have q2 := F.cell 2
  clear s2 D2 D1 hB1 hB2 hkd hrp hrs hrq hnew lp ls lw hk2 s1 F
  go_wp2
  exact bodyPost_ret (v := .agg #[.slice a m ca, .slice b m cb, .slice d n3 cd]) (by simp [results, Try.results67, go_sem, q0, q1, q2]) rfl HF.out
/-- Three lists and a number are drawn from a code. -/
def RetKn (w : World) (e : Ending) (w' : World) : Prop :=
  ∃ (m n3 : Nat) (a b d : Option Addr) (ca cb cd : Nat) (P S W : List Int) (n : Int), e = .returned (.tuple #[.agg #[.slice a m ca, .slice b m cb, .slice d n3 cd], .int .i64 n]) ∧ Rd w' (.slice a m ca) P ∧ Rd w' (.slice b m cb) S ∧ Rd w' (.slice d n3 cd) W ∧ P.length = m ∧ S.length = m ∧ W.length = n3 ∧ 1 ≤ m ∧ m ≤ 24 ∧ n3 ≤ 24 ∧ Below w.heap.size w w'
set_option maxRecDepth 100000 in
set_option maxHeartbeats 4000000 in
theorem drawSimpleCluster_w (v : Value) (C : List Int) (w : World) (h : Rd8 w v C) :
    Calls Try.prog 83 #[v] w (RetKn w) := by
  have D := Blk.new w 40 #[.slice none 0 0, .slice none 0 0, .slice none 0 0]
  have hal : Below w.heap.size w (w.alloc (.cells #[.slice none 0 0, .slice none 0 0, .slice none 0 0] 40)) := (Below.refl _ _).alloc (Nat.le_refl _) _
  have h1 := h.below hal (Nat.le_refl _)
  go_enter Try.func83, Try.ntmps83
  go_wp2_with fail
  generalize w.alloc (.cells #[.slice none 0 0, .slice none 0 0, .slice none 0 0] 40) = w0 at *
  refine (from_w v C _ h1).mono ?_
  rintro e w1 ⟨g, rfl, hg, s1, hb1⟩
  have hs0 : w.heap.size < w0.heap.size := D.lt
  have D1 := D.stays hb1
  have hB1 := hal.trans (hb1.mono hal.size)
  clear h h1 hal hb1 D
  go_wp2_with fail
  refine (spoilK_w g _ s1).mono ?_
  rintro e w2 ⟨m, n3, a, b, d, ca, cb, cd, P, S, W, rfl, hrp, hrs, hrq, hnew, lp, ls, lw, hm1, hm2, hn3, _, s2, hk2⟩
  have D2 := D1.keeps hk2 (by omega)
  have hl1 := D1.lt
  have hB2 := keeps_from hB1 (by omega) hk2
  have hg1 : g < w1.heap.size := s1.lt
  have hsz2 := hk2.size
  clear s1 D1 hB1 hk2
  have hal : Below w2.heap.size w2 (w2.alloc (.cells #[.slice a m ca, .slice b m cb, .slice d n3 cd] 40)).drew := ((Below.refl _ _).alloc (Nat.le_refl _) _).drew
  have B3 := (Blk.new w2 40 #[.slice a m ca, .slice b m cb, .slice d n3 cd]).drewN 1
  have D3 := D2.stays hal
  have s3 := s2.below hal
  have hB3 := hB2.trans (hal.mono hB2.size)
  have hrp3 := hrp.below hal (Nat.le_refl _)
  have hrs3 := hrs.below hal (Nat.le_refl _)
  have hrq3 := hrq.below hal (Nat.le_refl _)
  have w1e : IntKind.i64.wrap ((m : Int) - 1) = ((m - 1 : Nat) : Int) := by rw [IntWalk.i64_in _ (by omega)]; omega
  go_upto_region 3 with fail
  have HC : (w2.alloc (.cells #[.slice a m ca, .slice b m cb, .slice d n3 cd] 40)).cell? ⟨w2.heap.size, 0, none⟩ = some (.slice a m ca) ∧ (w2.alloc (.cells #[.slice a m ca, .slice b m cb, .slice d n3 cd] 40)).cell? ⟨w2.heap.size, 1, none⟩ = some (.slice b m cb) ∧ (w2.alloc (.cells #[.slice a m ca, .slice b m cb, .slice d n3 cd] 40)).cell? ⟨w2.heap.size, 2, none⟩ = some (.slice d n3 cd) := ⟨B3.cell 0, B3.cell 1, B3.cell 2⟩
  have HW := Lib.hid w1e
  clear w1e
  go_region_held3 (fun X => X.cell? ⟨w2.heap.size, 0, none⟩ = some (.slice a m ca) ∧ X.cell? ⟨w2.heap.size, 1, none⟩ = some (.slice b m cb) ∧ X.cell? ⟨w2.heap.size, 2, none⟩ = some (.slice d n3 cd))
    (first | assumption | exact HC | exact HC4 | exact HC5 _ _ _)
    (first
      | (go_at_call 182; (try rw [HW.out]); (with_reducible refine (count_w g (m - 1) _ s3 (by omega)).mono ?_); rintro e w4 ⟨x, rfl, s4, hk4⟩; have B4 := B3.keeps hk4 (by omega); have D4 := D3.keeps hk4 (by omega); have HC4 : w4.cell? ⟨w2.heap.size, 0, none⟩ = some (.slice a m ca) ∧ w4.cell? ⟨w2.heap.size, 1, none⟩ = some (.slice b m cb) ∧ w4.cell? ⟨w2.heap.size, 2, none⟩ = some (.slice d n3 cd) := ⟨B4.cell 0, B4.cell 1, B4.cell 2⟩; have HC5 : ∀ x y z, (((w4.setCell ⟨w.heap.size, 0, none⟩ x).setCell ⟨w.heap.size, 1, none⟩ y).setCell ⟨w.heap.size, 2, none⟩ z).cell? ⟨w2.heap.size, 0, none⟩ = some (.slice a m ca) ∧ (((w4.setCell ⟨w.heap.size, 0, none⟩ x).setCell ⟨w.heap.size, 1, none⟩ y).setCell ⟨w.heap.size, 2, none⟩ z).cell? ⟨w2.heap.size, 1, none⟩ = some (.slice b m cb) ∧ (((w4.setCell ⟨w.heap.size, 0, none⟩ x).setCell ⟨w.heap.size, 1, none⟩ y).setCell ⟨w.heap.size, 2, none⟩ z).cell? ⟨w2.heap.size, 2, none⟩ = some (.slice d n3 cd) := (fun x y z => have hb := B4.keeps (keeps_D (w := w4) w.heap.size x y z) (by omega); ⟨hb.cell 0, hb.cell 1, hb.cell 2⟩); have e0 := D4.cell 0; have e1 := D4.cell 1; have e2 := D4.cell 2; have f0 := D4.free 0; have f1 := D4.free 1; have f2 := D4.free 2)
      | fail)
  all_goals
    have hkd := keeps_D (w := w4) w.heap.size (.slice a m ca) (.slice b m cb) (.slice d n3 cd)
    have hB4 := keeps_from hB3 (by omega) hk4
    have hz2 := hB3.size
    have HF : Hid (RetKn w (.returned (.tuple #[.agg #[.slice a m ca, .slice b m cb, .slice d n3 cd], .int .i64 x])) (((w4.setCell ⟨w.heap.size, 0, none⟩ (.slice a m ca)).setCell ⟨w.heap.size, 1, none⟩ (.slice b m cb)).setCell ⟨w.heap.size, 2, none⟩ (.slice d n3 cd))) := Lib.hid ⟨m, n3, a, b, d, ca, cb, cd, P, S, W, x, rfl, (hrp3.keepsK hk4 (fun k e => by have := hnew k (.inl e); omega)).keepsK hkd (fun k e => by have := hnew k (.inl e); omega), (hrs3.keepsK hk4 (fun k e => by have := hnew k (.inr (.inl e)); omega)).keepsK hkd (fun k e => by have := hnew k (.inr (.inl e)); omega), (hrq3.keepsK hk4 (fun k e => by have := hnew k (.inr (.inr e)); omega)).keepsK hkd (fun k e => by have := hnew k (.inr (.inr e)); omega), lp, ls, lw, hm1, hm2, by omega, hB4.trans (hkd.below hB4.size (fun k e => by omega))⟩
    have F := ((D4.set 0 (.slice a m ca)).set 1 (.slice b m cb)).set 2 (.slice d n3 cd)
    have q0 := F.cell 0
    have q1 := F.cell 1
    have q2 := F.cell 2
    clear HC HC4 HC5 F hkd hB4 D4 B4 hk4 s4
    go_wp2
    exact bodyPost_ret (v := .tuple #[.agg #[.slice a m ca, .slice b m cb, .slice d n3 cd], .int .i64 x]) (by simp [results, Try.results83, go_sem, q0, q1, q2]) rfl HF.out

set_option maxRecDepth 100000 in
set_option maxHeartbeats 8000000 in
theorem drawUnloadCluster_w (v : Value) (C : List Int) (w : World) (h : Rd8 w v C) :
    Calls Try.prog 61 #[v] w (RetKl w) := by
  have D := Blk.new w 40 #[.slice none 0 0, .slice none 0 0, .slice none 0 0]
  have hal : Below w.heap.size w (w.alloc (.cells #[.slice none 0 0, .slice none 0 0, .slice none 0 0] 40)) := (Below.refl _ _).alloc (Nat.le_refl _) _
  have h1 := h.below hal (Nat.le_refl _)
  go_enter Try.func61, Try.ntmps61
  go_wp2_with fail
  generalize w.alloc (.cells #[.slice none 0 0, .slice none 0 0, .slice none 0 0] 40) = w0 at *
  refine (from_w v C _ h1).mono ?_
  rintro e w1 ⟨g, rfl, hg, s1, hb1⟩
  have hs0 : w.heap.size < w0.heap.size := D.lt
  have D1 := D.stays hb1
  have hB1 := hal.trans (hb1.mono hal.size)
  clear h h1 hal hb1 D
  go_wp2_with fail
  refine (spoilK_w g _ s1).mono ?_
  rintro e w2 ⟨m, n3, a, b, d, ca, cb, cd, P, S, W, rfl, hrp, hrs, hrq, hnew, lp, ls, lw, hm1, hm2, hn3, hwh, s2, hk2⟩
  have D2 := D1.keeps hk2 (by omega)
  have hl1 := D1.lt
  have hB2 := keeps_from hB1 (by omega) hk2
  have hg1 : g < w1.heap.size := s1.lt
  have hsz2 := hk2.size
  clear s1 D1 hB1 hk2
  have hal : Below w2.heap.size w2 (w2.alloc (.cells #[.slice a m ca, .slice b m cb, .slice d n3 cd] 40)) := (Below.refl _ _).alloc (Nat.le_refl _) _
  have B3 := Blk.new w2 40 #[.slice a m ca, .slice b m cb, .slice d n3 cd]
  have hwh3 : n3 = m → ClB (w2.alloc (.cells #[.slice a m ca, .slice b m cb, .slice d n3 cd] 40)) w2.heap.size w1.heap.size (.slice a m ca) (.slice b m cb) (.slice d n3 cd) P S W := fun e => clB_new (hwh e)
  have D3 := D2.stays hal
  have s3 := s2.below hal
  have hB3 := hB2.trans (hal.mono hB2.size)
  have hrp3 := hrp.below hal (Nat.le_refl _)
  have hrs3 := hrs.below hal (Nat.le_refl _)
  have hrq3 := hrq.below hal (Nat.le_refl _)
  have c0 := B3.cell 0
  have c1 := B3.cell 1
  have c2 := B3.cell 2
  clear s2 D2 hB2 hrp hrs hrq hal hwh
  go_wp2_with fail
  generalize hgbe : w2.heap.size = gb at *
  generalize w2.alloc (.cells #[.slice a m ca, .slice b m cb, .slice d n3 cd] 40) = w3 at *
  refine (l07Is_c _ _ _ P S W _ hrp3 hrs3 hrq3).mono ?_
  rintro e w4 ⟨rfl, hb4⟩
  have B4 := B3.stays hb4
  have hwh4 : n3 = m → ClB w4 gb w1.heap.size (.slice a m ca) (.slice b m cb) (.slice d n3 cd) P S W := fun e => (hwh3 e).below hb4
  have D4 := D3.stays hb4
  have s4 := s3.below hb4
  have hB4 := hB3.trans (hb4.mono hB3.size)
  have hrp4 := hrp3.below hb4 (Nat.le_refl _)
  have hrs4 := hrs3.below hb4 (Nat.le_refl _)
  have hrq4 := hrq3.below hb4 (Nat.le_refl _)
  clear B3 hwh3 D3 s3 hB3 hrp3 hrs3 hrq3 hb4 c0 c1 c2 hgbe
  have fin : ∀ (wo : World) (W' : List Int), Rd wo (.slice a m ca) P → Rd wo (.slice b m cb) S → Rd wo (.slice d n3 cd) W' → W'.length = n3 → Below w.heap.size w wo → w4.heap.size ≤ wo.heap.size → RetKl w (.returned (.agg #[.slice a m ca, .slice b m cb, .slice d n3 cd])) (((wo.setCell ⟨w.heap.size, 0, none⟩ (.slice a m ca)).setCell ⟨w.heap.size, 1, none⟩ (.slice b m cb)).setCell ⟨w.heap.size, 2, none⟩ (.slice d n3 cd)) := fun wo W' h1 h2 h3 h4 hB hsz =>
    have hkd := keeps_D (w := wo) w.heap.size (.slice a m ca) (.slice b m cb) (.slice d n3 cd)
    ⟨m, n3, a, b, d, ca, cb, cd, P, S, W', rfl, h1.keepsK hkd (fun k e => by have := hnew k (.inl e); omega), h2.keepsK hkd (fun k e => by have := hnew k (.inr (.inl e)); omega), h3.keepsK hkd (fun k e => by have := hnew k (.inr (.inr e)); omega), lp, ls, h4, hm1, hm2, by omega, hB.trans (hkd.below hB.size (fun k e => by omega))⟩
  have FIN := Lib.hid fin
  clear fin
  have HLP := Lib.hid lp
  have HLS := Lib.hid ls
  have HLW := Lib.hid lw
  have HNEW := Lib.hid hnew
  clear lp ls lw hnew
  cases hcl : cluB P S W
  · have HF := Lib.hid (FIN.out w4 W hrp4 hrs4 hrq4 HLW.out hB4 (Nat.le_refl _))
    have c0 := B4.cell 0
    have c1 := B4.cell 1
    have c2 := B4.cell 2
    have e0 := D4.cell 0
    have e1 := D4.cell 1
    have e2 := D4.cell 2
    have f0 := D4.free 0
    have f1 := D4.free 1
    have f2 := D4.free 2
    have F := ((D4.set 0 (.slice a m ca)).set 1 (.slice b m cb)).set 2 (.slice d n3 cd)
    have q0 := F.cell 0
    have q1 := F.cell 1
    have q2 := F.cell 2
    clear FIN D4 B4 F hwh4 s4 hB4 hrp4 hrs4 hrq4 hcl hn3
    go_wp2
    exact bodyPost_ret (v := .agg #[.slice a m ca, .slice b m cb, .slice d n3 cd]) (by simp [results, Try.results61, go_sem, q0, q1, q2]) rfl HF.out
  · obtain rfl : n3 = m := by have := (cluB_iff.1 hcl).1.2.2.2; rw [HLP.out, HLW.out] at this; exact this
    have hC4 := hwh4 rfl
    clear hwh4 hcl B4 hn3 hrq4
    go_wp2_with fail
    refine (next_w g 3 _ s4 (by omega) (by omega)).mono ?_
    rintro e w5 ⟨y, rfl, hy0, hy1, s5, hk5⟩
    have hl4 := D4.lt
    have hC5 := hC4.keeps hk5 (by have := hC4.blk.lt; omega) (fun k hk => by omega)
    have hD5 := D4.keeps hk5 (by omega)
    have hB5 := keeps_from hB4 (by omega) hk5
    have hz5 := hk5.size
    clear hC4 D4 hB4 hk5 s4 hrp4 hrs4
    have hend : ∀ (wo : World) (W' : List Int), ClB wo gb w1.heap.size (.slice a n3 ca) (.slice b n3 cb) (.slice d n3 cd) P S W' → W'.length = n3 → Below w.heap.size w wo → w4.heap.size ≤ wo.heap.size → RetKl w (.returned (.agg #[.slice a n3 ca, .slice b n3 cb, .slice d n3 cd])) (((wo.setCell ⟨w.heap.size, 0, none⟩ (.slice a n3 ca)).setCell ⟨w.heap.size, 1, none⟩ (.slice b n3 cb)).setCell ⟨w.heap.size, 2, none⟩ (.slice d n3 cd)) := fun wo W' hC hl hB hz => FIN.out wo W' hC.own.a.rd hC.own.b.rd hC.own.c.rd hl hB hz
    have HEND := Lib.hid hend
    clear hend FIN
    by_cases hy : y = 0
    · have hyb : (y == 0) = true := by simp [hy]
      clear hy
      go_wp2_with fail
      go_loopw [5] (fun iv wr => ∃ (k : Nat) (W' : List Int), k ≤ n3 ∧ iv = .int .i64 (k : Int) ∧ W'.length = n3 ∧ ClB wr gb w1.heap.size (.slice a n3 ca) (.slice b n3 cb) (.slice d n3 cd) P S W' ∧ Blk wr w.heap.size 40 #[.slice none 0 0, .slice none 0 0, .slice none 0 0] ∧ Src wr g ∧ Below w.heap.size w wr ∧ w4.heap.size ≤ wr.heap.size) (fun iv _ => n3 - (intOf iv).toNat)
      case atStart => exact ⟨0, W, Nat.zero_le _, rfl, HLW.out, hC5, hD5, s5, hB5, hz5⟩
      case round =>
        obtain ⟨k, W', hk, rfl, hlw, hC, hD, s6, hB, hz6⟩ := hrel
        clear hC5 hD5 s5 hB5
        obtain ⟨wo, rfl⟩ : ∃ wo : World, wo = wr := ⟨_, rfl⟩
        have HLW' := Lib.hid hlw
        have c2 := hC.blk.cell 2
        have hgbl := hC.blk.lt
        by_cases hlt : k < n3
        · have hoC := hC.own.c
          rw [← hlw] at hoC
          clear hlw
          obtain ⟨gq, kq, he, hgq, hgq2, _, _⟩ := Own.pos hoC (by rw [HLW'.out]; omega)
          injection he with e1 e2 e3
          subst e1 e3
          clear e2 hoC
          have hki : (k : Int) < (n3 : Int) := by omega
          have hk0 : (0 : Int) ≤ (k : Int) := by omega
          have hgqb : gq ≠ gb := hC.ne gq (.inr (.inr rfl))
          have hbd := (Below.refl wo.heap.size wo).drew
          have hCd := hC.below hbd
          have sd := s6.below hbd
          have hDd := hD.stays hbd
          have hBd := hB.trans (hbd.mono hB.size)
          have HC : wo.cell? ⟨gb, 2, none⟩ = some (.slice (some ⟨gq, 0, none⟩) n3 cd) := c2
          clear c2
          go_wp2_with fail
          go_region_held3 (fun X => X.cell? ⟨gb, 2, none⟩ = some (.slice (some ⟨gq, 0, none⟩) n3 cd))
            (first | assumption | exact HC6 | exact HC7 _ | exact HC)
            (first
              | (go_at_call 151; (with_reducible refine (next_w g 21 _ sd (by omega) (by omega)).mono ?_); rintro e w6 ⟨x, rfl, hx0, hx1, s7, hk6⟩; have hC6 := hCd.keeps hk6 (by omega) (fun q hq => by omega); have HC6 := hC6.blk.cell 2; have HC7 : ∀ v, (w6.setCell ⟨gq, k, none⟩ v).cell? ⟨gb, 2, none⟩ = some (.slice (some ⟨gq, 0, none⟩) n3 cd) := (fun v => (hC6.blk.other (g' := gq) (by omega) k v).cell 2); have hoC6 := hC6.own.c; rw [← HLW'.out] at hoC6; have cz := hoC6.cell k (by rw [HLW'.out]; exact hlt); have fz := hoC6.free k; rw [HLW'.out] at hoC6)
              | fail)
          all_goals
            have w1e : IntKind.i64.wrap (x - 10) = x - 10 := IntWalk.i64_in _ (by omega)
            have hkk : Keeps (fun q => q = gq) w6 (w6.setCell ⟨gq, k, none⟩ (.int .i64 (x - 10))) := (Keeps.refl (fun q => q = gq) w6).setCell (p := ⟨gq, k, none⟩) rfl _
            have hC7 := hC6.set2 HLW'.out k (x - 10)
            have hD7 := (hDd.keeps hk6 (by omega)).keeps hkk (by omega)
            have s8 := s7.keeps hkk (fun q hq => by omega)
            have hB6 := keeps_from hBd (by omega) hk6
            have hB7 := keeps_from hB6 (by omega) hkk
            have hz7 : wo.heap.size ≤ w6.heap.size := hk6.size
            have hz8 : w4.heap.size ≤ (w6.setCell ⟨gq, k, none⟩ (.int .i64 (x - 10))).heap.size := Nat.le_trans (Nat.le_trans hz6 hz7) hkk.size
            rw [w1e]
            clear hC6 hCd hDd hBd hk6 s7 hkk cz fz hoC6 HC6 HC7 HC hC hD hB s6 sd hB6 hz7
            go_wp2
            go_roundw
            case rel => exact ⟨k + 1, W'.set k (x - 10), by omega, by go_num, by rw [List.length_set]; exact HLW'.out, hC7, hD7, s8, hB7, hz8⟩
            case measure => simp [intOf]; omega
        · have c0 := hC.blk.cell 0
          have c1 := hC.blk.cell 1
          have HF := Lib.hid (HEND.out wo W' hC hlw hB hz6)
          have e0 := hD.cell 0
          have e1 := hD.cell 1
          have e2 := hD.cell 2
          have f0 := hD.free 0
          have f1 := hD.free 1
          have f2 := hD.free 2
          have F := ((hD.set 0 (.slice a n3 ca)).set 1 (.slice b n3 cb)).set 2 (.slice d n3 cd)
          have q0 := F.cell 0
          have q1 := F.cell 1
          have q2 := F.cell 2
          clear hC hD s6 hB F hlw HEND
          go_wp2
          exact bodyPost_ret (v := .agg #[.slice a n3 ca, .slice b n3 cb, .slice d n3 cd]) (by simp [results, Try.results61, go_sem, q0, q1, q2]) rfl HF.out
    · have hyb : (y == 0) = false := by simp [hy]
      clear hy
      have HF := Lib.hid (HEND.out w5 W hC5 HLW.out hB5 hz5)
      have c0 := hC5.blk.cell 0
      have c1 := hC5.blk.cell 1
      have c2 := hC5.blk.cell 2
      have e0 := hD5.cell 0
      have e1 := hD5.cell 1
      have e2 := hD5.cell 2
      have f0 := hD5.free 0
      have f1 := hD5.free 1
      have f2 := hD5.free 2
      have F := ((hD5.set 0 (.slice a n3 ca)).set 1 (.slice b n3 cb)).set 2 (.slice d n3 cd)
      have q0 := F.cell 0
      have q1 := F.cell 1
      have q2 := F.cell 2
      clear hC5 hD5 s5 hB5 F HEND
      go_wp2
      exact bodyPost_ret (v := .agg #[.slice a n3 ca, .slice b n3 cb, .slice d n3 cd]) (by simp [results, Try.results61, go_sem, q0, q1, q2]) rfl HF.out
end Go.Proofs.Ytiinceflafigeaa
