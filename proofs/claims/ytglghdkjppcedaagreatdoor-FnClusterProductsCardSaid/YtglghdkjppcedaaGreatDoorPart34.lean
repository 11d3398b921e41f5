/- Contract: spec.l07Two: two clusters are drawn. -/
import Derived.Test.YtglghdkjppcedaaGreatDoorPart33
import Derived.Test.YtglghdkjppcedaaGreatDoorPart9
import Derived.Deep.RegionHeld3
namespace Go.Proofs.YtglghdkjppcedaaGreatDoor
open Go.RowKit

/-- Two clusters. -/
def RetTwo (w : World) (e : Ending) (w' : World) : Prop :=
  ∃ (m n3 m' n' : Nat) (a b d a' b' d' : Option Addr) (ca cb cd ca' cb' cd' : Nat) (P S W P' S' W' : List Int), e = .returned (.tuple #[.agg #[.slice a m ca, .slice b m cb, .slice d n3 cd], .agg #[.slice a' m' ca', .slice b' m' cb', .slice d' n' cd']]) ∧ Rd w' (.slice a m ca) P ∧ Rd w' (.slice b m cb) S ∧ Rd w' (.slice d n3 cd) W ∧ Rd w' (.slice a' m' ca') P' ∧ Rd w' (.slice b' m' cb') S' ∧ Rd w' (.slice d' n' cd') W' ∧ (P.length = m ∧ S.length = m ∧ W.length = n3 ∧ P'.length = m' ∧ S'.length = m' ∧ W'.length = n') ∧ (m ≤ 24 ∧ n3 ≤ 24 ∧ m' ≤ 24 ∧ n' ≤ 24) ∧ ((∀ q, Own3.mine (.slice a m ca) (.slice b m cb) (.slice d n3 cd) q → w.heap.size ≤ q) ∧ ∀ q, Own3.mine (.slice a' m' ca') (.slice b' m' cb') (.slice d' n' cd') q → w.heap.size ≤ q) ∧ Below w.heap.size w w'
/-- The cut behind region 5: the box with the turned cluster. -/
def CutY (w4 wc : World) (m : Nat) (P S W : List Int) (s6 : Value) : Prop :=
  ∃ (N6 B : Nat) (x6 y6 ao : Option Addr) (i6 j6 ko : Nat), s6 = .pointer (some ⟨N6, 0, none⟩) ∧ Blk wc N6 26 #[.slice x6 m i6, .slice y6 m j6, .slice ao m ko] ∧ OwnI wc w4.heap.size (.slice ao m ko) W ∧ Rd wc (.slice x6 m i6) P ∧ Rd wc (.slice y6 m j6) S ∧ (∀ q, (Value.slice ao m ko).ownBlock = some q → q < B ∧ q ≠ N6) ∧ (∀ q, (Value.slice x6 m i6).ownBlock = some q → B ≤ q ∧ w4.heap.size ≤ q) ∧ (∀ q, (Value.slice y6 m j6).ownBlock = some q → B ≤ q ∧ w4.heap.size ≤ q) ∧ w4.heap.size ≤ N6 ∧ Below w4.heap.size w4 wc
theorem cutY_alloc {w4 w5 w6 : World} {b m : Nat} {x6 y6 ao : Option Addr} {i6 j6 ko : Nat} {P S W : List Int} (oO : OwnI w5 b (.slice ao m ko) W) (hb : w4.heap.size ≤ b) (oP6 : OwnI w6 w5.heap.size (.slice x6 m i6) P) (oS6 : OwnI w6 w5.heap.size (.slice y6 m j6) S) (hb6 : Below w5.heap.size w5 w6) (hzO : w4.heap.size ≤ w5.heap.size) (hbb : Below w4.heap.size w4 w6) :
    CutY w4 (w6.alloc (.cells #[.slice x6 m i6, .slice y6 m j6, .slice ao m ko] 26)) m P S W (.pointer (some ⟨w6.heap.size, 0, none⟩)) := by
  have hz6 : w5.heap.size ≤ w6.heap.size := hb6.size
  have hal6 : Below w6.heap.size w6 (w6.alloc (.cells #[.slice x6 m i6, .slice y6 m j6, .slice ao m ko] 26)) := (Below.refl _ _).alloc (Nat.le_refl _) _
  exact ⟨w6.heap.size, w5.heap.size, x6, y6, ao, i6, j6, ko, rfl, Blk.new w6 _ _, ((oO.below hb6 (Nat.le_refl _)).below hal6 (Nat.le_refl _)).base_le hb, (oP6.below hal6 (Nat.le_refl _)).rd, (oS6.below hal6 (Nat.le_refl _)).rd, fun q hq => by have := oO.block q hq; omega, fun q hq => (fun h => ⟨h, Nat.le_trans hzO h⟩) (oP6.block q hq).1, fun q hq => (fun h => ⟨h, Nat.le_trans hzO h⟩) (oS6.block q hq).1, by omega, below_step hbb hal6⟩
theorem cutY_set {w4 w6 : World} {b B N m : Nat} {x6 y6 ao : Option Addr} {i6 j6 ko : Nat} {P S W : List Int} {u0 u1 u2 : Value} (BZ : Blk w6 N 26 #[u0, u1, u2]) (oO : OwnI w6 b (.slice ao m ko) W) (hb : w4.heap.size ≤ b) (hq : ∀ q, (Value.slice ao m ko).ownBlock = some q → q < B ∧ q ≠ N) (oP6 : OwnI w6 B (.slice x6 m i6) P) (oS6 : OwnI w6 B (.slice y6 m j6) S) (hN : w4.heap.size ≤ N) (hNB : N < B) (hbb : Below w4.heap.size w4 w6) :
    CutY w4 (((w6.setCell ⟨N, 0, none⟩ (.slice x6 m i6)).setCell ⟨N, 1, none⟩ (.slice y6 m j6)).setCell ⟨N, 2, none⟩ (.slice ao m ko)) m P S W (.pointer (some ⟨N, 0, none⟩)) := by
  have hk := keeps_D (w := w6) N (.slice x6 m i6) (.slice y6 m j6) (.slice ao m ko)
  exact ⟨N, B, x6, y6, ao, i6, j6, ko, rfl, ((BZ.set 0 _).set 1 _).set 2 _, (oO.keeps hk (fun q h e => by have := hq q h; omega)).base_le hb, (oP6.keeps hk (fun q h e => by have := (oP6.block q h).1; omega)).rd, (oS6.keeps hk (fun q h e => by have := (oS6.block q h).1; omega)).rd, hq, fun q h => (fun h => ⟨h, by omega⟩) (oP6.block q h).1, fun q h => (fun h => ⟨h, by omega⟩) (oS6.block q h).1, hN, hbb.trans (hk.below hbb.size (fun q e => by omega))⟩
theorem RetTwo.drew {w w' : World} {e : Ending} (h : RetTwo w e w') : RetTwo w e w'.drew := by
  have hb := (Below.refl w'.heap.size w').drew
  obtain ⟨m, n3, m', n', a, b, d, a', b', d', ca, cb, cd, ca', cb', cd', P, S, W, P', S', W', he, h1, h2, h3, h4, h5, h6, hl, hm, hn, hB⟩ := h
  exact ⟨m, n3, m', n', a, b, d, a', b', d', ca, cb, cd, ca', cb', cd', P, S, W, P', S', W', he, h1.below hb (Nat.le_refl _), h2.below hb (Nat.le_refl _), h3.below hb (Nat.le_refl _), h4.below hb (Nat.le_refl _), h5.below hb (Nat.le_refl _), h6.below hb (Nat.le_refl _), hl, hm, hn, below_step hB hb⟩
/-- What holds in every round over the second cluster's weights. -/
structure InvY (w wr : World) (g n1 n2 n4 N6 m : Nat) (a b d x6 y6 ao : Option Addr) (ca cb cd i6 j6 ko : Nat) (P S W W' : List Int) : Prop where
  E : Blk wr n2 26 #[.slice a m ca, .slice b m cb, .slice d m cd]
  D : Blk wr w.heap.size 26 #[.slice none 0 0, .slice none 0 0, .slice none 0 0]
  G : Blk wr (w.heap.size + 1) 26 #[.slice none 0 0, .slice none 0 0, .slice none 0 0]
  B : Blk wr N6 26 #[.slice x6 m i6, .slice y6 m j6, .slice ao m ko]
  o : OwnI wr n4 (.slice ao m ko) W'
  p : Rd wr (.slice x6 m i6) P
  r : Rd wr (.slice y6 m j6) S
  p0 : Rd wr (.slice a m ca) P
  r0 : Rd wr (.slice b m cb) S
  q0 : Rd wr (.slice d m cd) W
  new : ∀ q, Own3.mine (.slice a m ca) (.slice b m cb) (.slice d m cd) q → n1 ≤ q ∧ q < n2
  no : ∀ q, (Value.slice ao m ko).ownBlock = some q → q ≠ N6 ∧ (Value.slice x6 m i6).ownBlock ≠ some q ∧ (Value.slice y6 m j6).ownBlock ≠ some q
  nx : ∀ q, (Value.slice x6 m i6).ownBlock = some q → n4 ≤ q
  ny : ∀ q, (Value.slice y6 m j6).ownBlock = some q → n4 ≤ q
  lt : w.heap.size + 2 ≤ g ∧ g < n1 ∧ n1 ≤ n2 ∧ n2 < n4 ∧ n4 ≤ N6
  s : Src wr g
  hB : Below w.heap.size w wr
theorem InvY.below {w wr wz : World} {g n1 n2 n4 N6 m : Nat} {a b d x6 y6 ao : Option Addr} {ca cb cd i6 j6 ko : Nat} {P S W W' : List Int} (h : InvY w wr g n1 n2 n4 N6 m a b d x6 y6 ao ca cb cd i6 j6 ko P S W W') (hb : Below wr.heap.size wr wz) : InvY w wz g n1 n2 n4 N6 m a b d x6 y6 ao ca cb cd i6 j6 ko P S W W' :=
  ⟨h.E.stays hb, h.D.stays hb, h.G.stays hb, h.B.stays hb, h.o.below hb (Nat.le_refl _), h.p.below hb (Nat.le_refl _), h.r.below hb (Nat.le_refl _), h.p0.below hb (Nat.le_refl _), h.r0.below hb (Nat.le_refl _), h.q0.below hb (Nat.le_refl _), h.new, h.no, h.nx, h.ny, h.lt, h.s.below hb, below_step h.hB hb⟩
theorem InvY.keeps {w wr wz : World} {g n1 n2 n4 N6 m : Nat} {a b d x6 y6 ao : Option Addr} {ca cb cd i6 j6 ko : Nat} {P S W W' : List Int} (h : InvY w wr g n1 n2 n4 N6 m a b d x6 y6 ao ca cb cd i6 j6 ko P S W W') (hk : Keeps (fun q => q = g) wr wz) (s : Src wz g) : InvY w wz g n1 n2 n4 N6 m a b d x6 y6 ao ca cb cd i6 j6 ko P S W W' := by
  have hl := h.lt
  exact ⟨h.E.keeps hk (by omega), h.D.keeps hk (by omega), h.G.keeps hk (by omega), h.B.keeps hk (by omega), h.o.keeps hk (fun q hq e => by have := (h.o.block q hq).1; omega), h.p.keepsK hk (fun q hq e => by have := h.nx q hq; omega), h.r.keepsK hk (fun q hq e => by have := h.ny q hq; omega), h.p0.keepsK hk (fun q hq e => by have := h.new q (.inl hq); omega), h.r0.keepsK hk (fun q hq e => by have := h.new q (.inr (.inl hq)); omega), h.q0.keepsK hk (fun q hq e => by have := h.new q (.inr (.inr hq)); omega), h.new, h.no, h.nx, h.ny, h.lt, s, h.hB.trans (hk.below h.hB.size (fun q e => by omega))⟩
theorem InvY.set {w wr : World} {g n1 n2 n4 N6 m gx : Nat} {a b d x6 y6 : Option Addr} {ca cb cd i6 j6 ko : Nat} {P S W W' : List Int} (h : InvY w wr g n1 n2 n4 N6 m a b d x6 y6 (some ⟨gx, 0, none⟩) ca cb cd i6 j6 ko P S W W') (hl' : W'.length = m) (k : Nat) (u : Int) : InvY w (wr.setCell ⟨gx, k, none⟩ (.int .i64 u)) g n1 n2 n4 N6 m a b d x6 y6 (some ⟨gx, 0, none⟩) ca cb cd i6 j6 ko P S W (W'.set k u) := by
  have hl := h.lt
  have hg := (h.o.block gx rfl).1
  have hn := h.no gx rfl
  have hk : Keeps (fun q => q = gx) wr (wr.setCell ⟨gx, k, none⟩ (.int .i64 u)) := (Keeps.refl (fun q => q = gx) wr).setCell (p := ⟨gx, k, none⟩) rfl _
  have ho : OwnI (wr.setCell ⟨gx, k, none⟩ (.int .i64 u)) n4 (.slice (some ⟨gx, 0, none⟩) m ko) (W'.set k u) := by
    have h1 := h.o
    rw [← hl'] at h1
    rw [← hl']
    exact Own.set h1 k u
  exact ⟨h.E.keeps hk (by omega), h.D.keeps hk (by omega), h.G.keeps hk (by omega), h.B.keeps hk (fun e => hn.1 e.symm), ho, h.p.keepsK hk (fun q hq e => by subst e; exact hn.2.1 hq), h.r.keepsK hk (fun q hq e => by subst e; exact hn.2.2 hq), h.p0.keepsK hk (fun q hq e => by have := h.new q (.inl hq); omega), h.r0.keepsK hk (fun q hq e => by have := h.new q (.inr (.inl hq)); omega), h.q0.keepsK hk (fun q hq e => by have := h.new q (.inr (.inr hq)); omega), h.new, h.no, h.nx, h.ny, h.lt, h.s.keeps hk (fun q hq => by omega), h.hB.trans (hk.below h.hB.size (fun q e => by omega))⟩
theorem retTwo_mk {w wr : World} {g n1 n2 n4 N6 m : Nat} {a b d x6 y6 ao : Option Addr} {ca cb cd i6 j6 ko : Nat} {P S W W' : List Int} (h : InvY w wr g n1 n2 n4 N6 m a b d x6 y6 ao ca cb cd i6 j6 ko P S W W') (lp : P.length = m) (ls : S.length = m) (lw : W.length = m) (lw' : W'.length = m) (hm : m ≤ 24) :
    RetTwo w (.returned (.tuple #[.agg #[.slice a m ca, .slice b m cb, .slice d m cd], .agg #[.slice x6 m i6, .slice y6 m j6, .slice ao m ko]])) ((((((((wr).setCell ⟨w.heap.size, 0, none⟩ (.slice a m ca)).setCell ⟨w.heap.size, 1, none⟩ (.slice b m cb)).setCell ⟨w.heap.size, 2, none⟩ (.slice d m cd))).setCell ⟨w.heap.size + 1, 0, none⟩ (.slice x6 m i6)).setCell ⟨w.heap.size + 1, 1, none⟩ (.slice y6 m j6)).setCell ⟨w.heap.size + 1, 2, none⟩ (.slice ao m ko)) := by
  have hl := h.lt
  have k1 := keeps_D (w := wr) w.heap.size (.slice a m ca) (.slice b m cb) (.slice d m cd)
  have k2 := keeps_D (w := ((((wr).setCell ⟨w.heap.size, 0, none⟩ (.slice a m ca)).setCell ⟨w.heap.size, 1, none⟩ (.slice b m cb)).setCell ⟨w.heap.size, 2, none⟩ (.slice d m cd))) (w.heap.size + 1) (.slice x6 m i6) (.slice y6 m j6) (.slice ao m ko)
  have b1 := h.hB.trans (k1.below h.hB.size (fun q e => by omega))
  have b2 := b1.trans (k2.below b1.size (fun q e => by omega))
  exact ⟨m, m, m, m, a, b, d, x6, y6, ao, ca, cb, cd, i6, j6, ko, P, S, W, P, S, W', rfl, (h.p0.keepsK k1 (fun q hq e => by have := h.new q (.inl hq); omega)).keepsK k2 (fun q hq e => by have := h.new q (.inl hq); omega), (h.r0.keepsK k1 (fun q hq e => by have := h.new q (.inr (.inl hq)); omega)).keepsK k2 (fun q hq e => by have := h.new q (.inr (.inl hq)); omega), (h.q0.keepsK k1 (fun q hq e => by have := h.new q (.inr (.inr hq)); omega)).keepsK k2 (fun q hq e => by have := h.new q (.inr (.inr hq)); omega), (h.p.keepsK k1 (fun q hq e => by have := h.nx q hq; omega)).keepsK k2 (fun q hq e => by have := h.nx q hq; omega), (h.r.keepsK k1 (fun q hq e => by have := h.ny q hq; omega)).keepsK k2 (fun q hq e => by have := h.ny q hq; omega), (h.o.rd.keepsK k1 (fun q hq e => by have := (h.o.block q hq).1; omega)).keepsK k2 (fun q hq e => by have := (h.o.block q hq).1; omega), ⟨lp, ls, lw, lp, ls, lw'⟩, ⟨hm, hm, hm, hm⟩, ⟨fun q hq => by have := h.new q hq; omega, fun q hq => hq.elim (fun hq => by have := h.nx q hq; omega) (fun hq => hq.elim (fun hq => by have := h.ny q hq; omega) (fun hq => by have := (h.o.block q hq).1; omega))⟩, b2⟩
set_option maxRecDepth 100000 in
set_option maxHeartbeats 8000000 in
theorem l07Two_w (v : Value) (C : List Int) (w : World) (h : Rd8 w v C) :
    Calls Tryz.prog 50 #[v] w (RetTwo w) := by
  have D := (Blk.new w 26 #[.slice none 0 0, .slice none 0 0, .slice none 0 0]).alloc (.cells #[.slice none 0 0, .slice none 0 0, .slice none 0 0] 26)
  have G := Blk.new' (w := w.alloc (.cells #[.slice none 0 0, .slice none 0 0, .slice none 0 0] 26)) (t := 26) (cs := #[.slice none 0 0, .slice none 0 0, .slice none 0 0]) (g := w.heap.size + 1) (by simp)
  have hal : Below w.heap.size w ((w.alloc (.cells #[.slice none 0 0, .slice none 0 0, .slice none 0 0] 26)).alloc (.cells #[.slice none 0 0, .slice none 0 0, .slice none 0 0] 26)) := ((Below.refl _ _).alloc (Nat.le_refl _) _).alloc (by simp) _
  have h1 := h.below hal (Nat.le_refl _)
  have hs0 : w.heap.size + 2 = ((w.alloc (.cells #[.slice none 0 0, .slice none 0 0, .slice none 0 0] 26)).alloc (.cells #[.slice none 0 0, .slice none 0 0, .slice none 0 0] 26)).heap.size := by simp
  go_enter Tryz.func50, Tryz.ntmps50
  go_wp2_with fail
  generalize (w.alloc (.cells #[.slice none 0 0, .slice none 0 0, .slice none 0 0] 26)).alloc (.cells #[.slice none 0 0, .slice none 0 0, .slice none 0 0] 26) = w0 at *
  refine (from_w v C _ h1).mono ?_
  rintro e w1 ⟨g, rfl, hg, s1, hb1⟩
  have D1 := D.stays hb1
  have G1 := G.stays hb1
  have hB1 := hal.trans (hb1.mono hal.size)
  clear h h1 hal hb1 D G
  have hg1 : g < w1.heap.size := s1.lt
  go_wp2_with fail
  refine (spoilK_w g _ s1).mono ?_
  rintro e w2 ⟨m, n3, a, b, d, ca, cb, cd, P, S, W, rfl, hrp, hrs, hrq, hnew, lp, ls, lw, hm1, hm2, hn3, _, s2, hk2⟩
  have D2 := D1.keeps hk2 (by omega)
  have G2 := G1.keeps hk2 (by omega)
  have hB2 := keeps_from hB1 (by omega) hk2
  have hz2' : w1.heap.size ≤ w2.heap.size := hk2.size
  have hl1 := hB1.size
  have E3 := Blk.new w2 26 #[.slice a m ca, .slice b m cb, .slice d n3 cd]
  have hb3 : Below w2.heap.size w2 (w2.alloc (.cells #[.slice a m ca, .slice b m cb, .slice d n3 cd] 26)) := (Below.refl _ _).alloc (Nat.le_refl _) _
  have s3 := s2.below hb3
  have D3 := D2.stays hb3
  have G3 := G2.stays hb3
  have hrp3 := hrp.below hb3 (Nat.le_refl _)
  have hrs3 := hrs.below hb3 (Nat.le_refl _)
  have hrq3 := hrq.below hb3 (Nat.le_refl _)
  have hB3 := below_step hB2 hb3
  have hsz3 : (w2.alloc (.cells #[.slice a m ca, .slice b m cb, .slice d n3 cd] 26)).heap.size = w2.heap.size + 1 := by simp
  go_upto_region 3 with fail
  clear D1 D2 G1 G2 hB1 hB2 hrp hrs hrq hb3 hk2 s1 s2
  generalize w2.alloc (.cells #[.slice a m ca, .slice b m cb, .slice d n3 cd] 26) = w3 at *
  have c0 := E3.cell 0
  have c1 := E3.cell 1
  have c2 := E3.cell 2
  go_wp2_with fail
  refine (l07Is_c _ _ _ P S W _ hrp3 hrs3 hrq3).mono ?_
  rintro e w4 ⟨rfl, hb4⟩
  have E4 := E3.stays hb4
  have D4 := D3.stays hb4
  have G4 := G3.stays hb4
  have s4 := s3.below hb4
  have hrp4 := hrp3.below hb4 (Nat.le_refl _)
  have hrs4 := hrs3.below hb4 (Nat.le_refl _)
  have hrq4 := hrq3.below hb4 (Nat.le_refl _)
  have hB4 := below_step hB3 hb4
  have hz4 : w2.heap.size + 1 ≤ w4.heap.size := by have := hb4.size; omega
  clear c0 c1 c2 E3 D3 G3 s3 hrp3 hrs3 hrq3 hB3 hb4 hsz3
  cases hcl : cluB P S W
  · go_upto_region 4 with fail
    have hbd := (Below.refl w4.heap.size w4).drew
    have Ed := E4.stays hbd
    have Dd := D4.stays hbd
    have Gd := G4.stays hbd
    have sd := s4.below hbd
    have hrpd := hrp4.below hbd (Nat.le_refl _)
    have hrsd := hrs4.below hbd (Nat.le_refl _)
    have hrqd := hrq4.below hbd (Nat.le_refl _)
    have hBd := below_step hB4 hbd
    have HC : w4.cell? ⟨w2.heap.size, 0, none⟩ = some (.slice a m ca) ∧ w4.cell? ⟨w2.heap.size, 1, none⟩ = some (.slice b m cb) ∧ w4.cell? ⟨w2.heap.size, 2, none⟩ = some (.slice d n3 cd) := ⟨E4.cell 0, E4.cell 1, E4.cell 2⟩
    have HCd : w4.drew.cell? ⟨w2.heap.size, 0, none⟩ = some (.slice a m ca) ∧ w4.drew.cell? ⟨w2.heap.size, 1, none⟩ = some (.slice b m cb) ∧ w4.drew.cell? ⟨w2.heap.size, 2, none⟩ = some (.slice d n3 cd) := ⟨Ed.cell 0, Ed.cell 1, Ed.cell 2⟩
    have hcon : Calls Tryz.prog 56 #[.pointer (some ⟨g, 0, none⟩), .int .i64 6] w4.drew (RetDk w4.drew g) := drawK_w g 6 _ sd (by omega) (by omega)
    clear E4 D4 G4 s4 hrp4 hrs4 hrq4 hB4
    go_region_held3 (fun X => X.cell? ⟨w2.heap.size, 0, none⟩ = some (.slice a m ca) ∧ X.cell? ⟨w2.heap.size, 1, none⟩ = some (.slice b m cb) ∧ X.cell? ⟨w2.heap.size, 2, none⟩ = some (.slice d n3 cd))
      (with_reducible first | assumption | exact HC3 | exact HC2 | exact HC | exact HCd)
      (first
        | (go_at_call 56; (with_reducible refine hcon.mono ?_); rintro e w5 ⟨m', a', b', d', ca', cb', cd', P', S', W', rfl, ho, hlp', hls', hlw', hm1', hm24', s5, hk5, _⟩; have E5 := Ed.keeps hk5 (by omega); have HC : w5.cell? ⟨w2.heap.size, 0, none⟩ = some (.slice a m ca) ∧ w5.cell? ⟨w2.heap.size, 1, none⟩ = some (.slice b m cb) ∧ w5.cell? ⟨w2.heap.size, 2, none⟩ = some (.slice d n3 cd) := ⟨E5.cell 0, E5.cell 1, E5.cell 2⟩; have D5 := Dd.keeps hk5 (by omega); have G5 := Gd.keeps hk5 (by omega); have d0 := D5.cell 0; have d1 := D5.cell 1; have d2 := D5.cell 2; have fd0 := D5.free 0; have fd1 := D5.free 1; have fd2 := D5.free 2; have g0 := G5.cell 0; have g1 := G5.cell 1; have g2 := G5.cell 2; have fg0 := G5.free 0; have fg1 := G5.free 1; have fg2 := G5.free 2; have hkd1 := keeps_D (w := w5) w.heap.size (.slice a m ca) (.slice b m cb) (.slice d n3 cd); have hkd2 := keeps_D (w := ((w5.setCell ⟨w.heap.size, 0, none⟩ (.slice a m ca)).setCell ⟨w.heap.size, 1, none⟩ (.slice b m cb)).setCell ⟨w.heap.size, 2, none⟩ (.slice d n3 cd)) (w.heap.size + 1) (.slice a' m' ca') (.slice b' m' cb') (.slice d' m' cd'); have E6 := E5.keeps hkd1 (by omega); have E7 := E6.keeps hkd2 (by omega); have HC2 : (((w5.setCell ⟨w.heap.size, 0, none⟩ (.slice a m ca)).setCell ⟨w.heap.size, 1, none⟩ (.slice b m cb)).setCell ⟨w.heap.size, 2, none⟩ (.slice d n3 cd)).cell? ⟨w2.heap.size, 0, none⟩ = some (.slice a m ca) ∧ (((w5.setCell ⟨w.heap.size, 0, none⟩ (.slice a m ca)).setCell ⟨w.heap.size, 1, none⟩ (.slice b m cb)).setCell ⟨w.heap.size, 2, none⟩ (.slice d n3 cd)).cell? ⟨w2.heap.size, 1, none⟩ = some (.slice b m cb) ∧ (((w5.setCell ⟨w.heap.size, 0, none⟩ (.slice a m ca)).setCell ⟨w.heap.size, 1, none⟩ (.slice b m cb)).setCell ⟨w.heap.size, 2, none⟩ (.slice d n3 cd)).cell? ⟨w2.heap.size, 2, none⟩ = some (.slice d n3 cd) := ⟨E6.cell 0, E6.cell 1, E6.cell 2⟩; have HC3 : ((((((w5.setCell ⟨w.heap.size, 0, none⟩ (.slice a m ca)).setCell ⟨w.heap.size, 1, none⟩ (.slice b m cb)).setCell ⟨w.heap.size, 2, none⟩ (.slice d n3 cd)).setCell ⟨w.heap.size + 1, 0, none⟩ (.slice a' m' ca')).setCell ⟨w.heap.size + 1, 1, none⟩ (.slice b' m' cb')).setCell ⟨w.heap.size + 1, 2, none⟩ (.slice d' m' cd')).cell? ⟨w2.heap.size, 0, none⟩ = some (.slice a m ca) ∧ ((((((w5.setCell ⟨w.heap.size, 0, none⟩ (.slice a m ca)).setCell ⟨w.heap.size, 1, none⟩ (.slice b m cb)).setCell ⟨w.heap.size, 2, none⟩ (.slice d n3 cd)).setCell ⟨w.heap.size + 1, 0, none⟩ (.slice a' m' ca')).setCell ⟨w.heap.size + 1, 1, none⟩ (.slice b' m' cb')).setCell ⟨w.heap.size + 1, 2, none⟩ (.slice d' m' cd')).cell? ⟨w2.heap.size, 1, none⟩ = some (.slice b m cb) ∧ ((((((w5.setCell ⟨w.heap.size, 0, none⟩ (.slice a m ca)).setCell ⟨w.heap.size, 1, none⟩ (.slice b m cb)).setCell ⟨w.heap.size, 2, none⟩ (.slice d n3 cd)).setCell ⟨w.heap.size + 1, 0, none⟩ (.slice a' m' ca')).setCell ⟨w.heap.size + 1, 1, none⟩ (.slice b' m' cb')).setCell ⟨w.heap.size + 1, 2, none⟩ (.slice d' m' cd')).cell? ⟨w2.heap.size, 2, none⟩ = some (.slice d n3 cd) := ⟨E7.cell 0, E7.cell 1, E7.cell 2⟩)
        | fail)
    all_goals
      have D6 := ((D5.set 0 (.slice a m ca)).set 1 (.slice b m cb)).set 2 (.slice d n3 cd)
      have D7 := D6.keeps hkd2 (by omega)
      have G6 := G5.keeps hkd1 (by omega)
      have G7 := ((G6.set 0 (.slice a' m' ca')).set 1 (.slice b' m' cb')).set 2 (.slice d' m' cd')
      have q0 := D7.cell 0
      have q1 := D7.cell 1
      have q2 := D7.cell 2
      have r0 := G7.cell 0
      have r1 := G7.cell 1
      have r2 := G7.cell 2
      have hz5 : w2.heap.size + 1 ≤ w5.heap.size := Nat.le_trans (by simpa using hz4) hk5.size
      have hB5 : Below w.heap.size w w5 := hBd.trans (hk5.below hBd.size (fun q e => by omega))
      have hB6 := hB5.trans (hkd1.below hB5.size (fun q e => by omega))
      have hB7 := hB6.trans (hkd2.below hB6.size (fun q e => by omega))
      have HF : Hid (RetTwo w (.returned (.tuple #[.agg #[.slice a m ca, .slice b m cb, .slice d n3 cd], .agg #[.slice a' m' ca', .slice b' m' cb', .slice d' m' cd']])) ((((((w5.setCell ⟨w.heap.size, 0, none⟩ (.slice a m ca)).setCell ⟨w.heap.size, 1, none⟩ (.slice b m cb)).setCell ⟨w.heap.size, 2, none⟩ (.slice d n3 cd)).setCell ⟨w.heap.size + 1, 0, none⟩ (.slice a' m' ca')).setCell ⟨w.heap.size + 1, 1, none⟩ (.slice b' m' cb')).setCell ⟨w.heap.size + 1, 2, none⟩ (.slice d' m' cd'))) := Lib.hid
        ⟨m, n3, m', m', a, b, d, a', b', d', ca, cb, cd, ca', cb', cd', P, S, W, P', S', W', rfl, ((hrpd.keepsK hk5 (fun q hq e => by have := hnew q (.inl hq); omega)).keepsK hkd1 (fun q hq e => by have := hnew q (.inl hq); omega)).keepsK hkd2 (fun q hq e => by have := hnew q (.inl hq); omega), ((hrsd.keepsK hk5 (fun q hq e => by have := hnew q (.inr (.inl hq)); omega)).keepsK hkd1 (fun q hq e => by have := hnew q (.inr (.inl hq)); omega)).keepsK hkd2 (fun q hq e => by have := hnew q (.inr (.inl hq)); omega), ((hrqd.keepsK hk5 (fun q hq e => by have := hnew q (.inr (.inr hq)); omega)).keepsK hkd1 (fun q hq e => by have := hnew q (.inr (.inr hq)); omega)).keepsK hkd2 (fun q hq e => by have := hnew q (.inr (.inr hq)); omega), (ho.a.rd.keepsK hkd1 (fun q hq e => by have := (ho.a.block q hq).1; simp at this; omega)).keepsK hkd2 (fun q hq e => by have := (ho.a.block q hq).1; simp at this; omega), (ho.b.rd.keepsK hkd1 (fun q hq e => by have := (ho.b.block q hq).1; simp at this; omega)).keepsK hkd2 (fun q hq e => by have := (ho.b.block q hq).1; simp at this; omega), (ho.c.rd.keepsK hkd1 (fun q hq e => by have := (ho.c.block q hq).1; simp at this; omega)).keepsK hkd2 (fun q hq e => by have := (ho.c.block q hq).1; simp at this; omega), ⟨lp, ls, lw, hlp', hls', hlw'⟩, ⟨by omega, by omega, by omega, by omega⟩, ⟨fun q hq => by have := hnew q hq; omega, fun q hq => hq.elim (fun hq => by have := (ho.a.block q hq).1; simp at this; omega) (fun hq => hq.elim (fun hq => by have := (ho.b.block q hq).1; simp at this; omega) (fun hq => by have := (ho.c.block q hq).1; simp at this; omega))⟩, hB7⟩
      clear HC HC2 HC3 HCd E5 E6 E7 D5 D6 D7 G5 G6 G7 hkd1 hkd2 hB5 hB6 hB7 ho s5 hk5 hrpd hrsd hrqd d0 d1 d2 g0 g1 g2 fd0 fd1 fd2 fg0 fg1 fg2 hBd sd Ed Dd Gd hcon hbd
      go_wp2
      exact bodyPost_ret (v := .tuple #[.agg #[.slice a m ca, .slice b m cb, .slice d n3 cd], .agg #[.slice a' m' ca', .slice b' m' cb', .slice d' m' cd']]) (by simp [results, Tryz.results50, go_sem, q0, q1, q2, r0, r1, r2]) rfl HF.out
  · go_wp2_with fail
    refine (next_w g 8 _ s4 (by omega) (by omega)).mono ?_
    rintro e w5 ⟨y, rfl, hy0, hy1, s5, hk5⟩
    replace E4 := E4.keeps hk5 (by omega)
    replace D4 := D4.keeps hk5 (by omega)
    replace G4 := G4.keeps hk5 (by omega)
    replace hrp4 := hrp4.keepsK hk5 (fun q hq e => by have := hnew q (.inl hq); omega)
    replace hrs4 := hrs4.keepsK hk5 (fun q hq e => by have := hnew q (.inr (.inl hq)); omega)
    replace hrq4 := hrq4.keepsK hk5 (fun q hq e => by have := hnew q (.inr (.inr hq)); omega)
    replace hB4 : Below w.heap.size w w5 := hB4.trans (hk5.below hB4.size (fun q e => by omega))
    replace hz4 : w2.heap.size + 1 ≤ w5.heap.size := Nat.le_trans hz4 hk5.size
    clear s4 hk5
    have s4 := s5
    clear s5
    obtain ⟨w4, rfl⟩ : ∃ x : World, x = w5 := ⟨_, rfl⟩
    by_cases hy : y = 0
    · subst hy
      go_upto_region 4 with fail
      have hbd := (Below.refl w4.heap.size w4).drew
      have Ed := E4.stays hbd
      have Dd := D4.stays hbd
      have Gd := G4.stays hbd
      have sd := s4.below hbd
      have hrpd := hrp4.below hbd (Nat.le_refl _)
      have hrsd := hrs4.below hbd (Nat.le_refl _)
      have hrqd := hrq4.below hbd (Nat.le_refl _)
      have hBd := below_step hB4 hbd
      have HC : w4.cell? ⟨w2.heap.size, 0, none⟩ = some (.slice a m ca) ∧ w4.cell? ⟨w2.heap.size, 1, none⟩ = some (.slice b m cb) ∧ w4.cell? ⟨w2.heap.size, 2, none⟩ = some (.slice d n3 cd) := ⟨E4.cell 0, E4.cell 1, E4.cell 2⟩
      have HCd : w4.drew.cell? ⟨w2.heap.size, 0, none⟩ = some (.slice a m ca) ∧ w4.drew.cell? ⟨w2.heap.size, 1, none⟩ = some (.slice b m cb) ∧ w4.drew.cell? ⟨w2.heap.size, 2, none⟩ = some (.slice d n3 cd) := ⟨Ed.cell 0, Ed.cell 1, Ed.cell 2⟩
      have hcon : Calls Tryz.prog 56 #[.pointer (some ⟨g, 0, none⟩), .int .i64 6] w4.drew (RetDk w4.drew g) := drawK_w g 6 _ sd (by omega) (by omega)
      clear E4 D4 G4 s4 hrp4 hrs4 hrq4 hB4
      go_region_held3 (fun X => X.cell? ⟨w2.heap.size, 0, none⟩ = some (.slice a m ca) ∧ X.cell? ⟨w2.heap.size, 1, none⟩ = some (.slice b m cb) ∧ X.cell? ⟨w2.heap.size, 2, none⟩ = some (.slice d n3 cd))
        (with_reducible first | assumption | exact HC3 | exact HC2 | exact HC | exact HCd)
        (first
          | (go_at_call 56; (with_reducible refine hcon.mono ?_); rintro e w5 ⟨m', a', b', d', ca', cb', cd', P', S', W', rfl, ho, hlp', hls', hlw', hm1', hm24', s5, hk5, _⟩; have E5 := Ed.keeps hk5 (by omega); have HC : w5.cell? ⟨w2.heap.size, 0, none⟩ = some (.slice a m ca) ∧ w5.cell? ⟨w2.heap.size, 1, none⟩ = some (.slice b m cb) ∧ w5.cell? ⟨w2.heap.size, 2, none⟩ = some (.slice d n3 cd) := ⟨E5.cell 0, E5.cell 1, E5.cell 2⟩; have D5 := Dd.keeps hk5 (by omega); have G5 := Gd.keeps hk5 (by omega); have d0 := D5.cell 0; have d1 := D5.cell 1; have d2 := D5.cell 2; have fd0 := D5.free 0; have fd1 := D5.free 1; have fd2 := D5.free 2; have g0 := G5.cell 0; have g1 := G5.cell 1; have g2 := G5.cell 2; have fg0 := G5.free 0; have fg1 := G5.free 1; have fg2 := G5.free 2; have hkd1 := keeps_D (w := w5) w.heap.size (.slice a m ca) (.slice b m cb) (.slice d n3 cd); have hkd2 := keeps_D (w := ((w5.setCell ⟨w.heap.size, 0, none⟩ (.slice a m ca)).setCell ⟨w.heap.size, 1, none⟩ (.slice b m cb)).setCell ⟨w.heap.size, 2, none⟩ (.slice d n3 cd)) (w.heap.size + 1) (.slice a' m' ca') (.slice b' m' cb') (.slice d' m' cd'); have E6 := E5.keeps hkd1 (by omega); have E7 := E6.keeps hkd2 (by omega); have HC2 : (((w5.setCell ⟨w.heap.size, 0, none⟩ (.slice a m ca)).setCell ⟨w.heap.size, 1, none⟩ (.slice b m cb)).setCell ⟨w.heap.size, 2, none⟩ (.slice d n3 cd)).cell? ⟨w2.heap.size, 0, none⟩ = some (.slice a m ca) ∧ (((w5.setCell ⟨w.heap.size, 0, none⟩ (.slice a m ca)).setCell ⟨w.heap.size, 1, none⟩ (.slice b m cb)).setCell ⟨w.heap.size, 2, none⟩ (.slice d n3 cd)).cell? ⟨w2.heap.size, 1, none⟩ = some (.slice b m cb) ∧ (((w5.setCell ⟨w.heap.size, 0, none⟩ (.slice a m ca)).setCell ⟨w.heap.size, 1, none⟩ (.slice b m cb)).setCell ⟨w.heap.size, 2, none⟩ (.slice d n3 cd)).cell? ⟨w2.heap.size, 2, none⟩ = some (.slice d n3 cd) := ⟨E6.cell 0, E6.cell 1, E6.cell 2⟩; have HC3 : ((((((w5.setCell ⟨w.heap.size, 0, none⟩ (.slice a m ca)).setCell ⟨w.heap.size, 1, none⟩ (.slice b m cb)).setCell ⟨w.heap.size, 2, none⟩ (.slice d n3 cd)).setCell ⟨w.heap.size + 1, 0, none⟩ (.slice a' m' ca')).setCell ⟨w.heap.size + 1, 1, none⟩ (.slice b' m' cb')).setCell ⟨w.heap.size + 1, 2, none⟩ (.slice d' m' cd')).cell? ⟨w2.heap.size, 0, none⟩ = some (.slice a m ca) ∧ ((((((w5.setCell ⟨w.heap.size, 0, none⟩ (.slice a m ca)).setCell ⟨w.heap.size, 1, none⟩ (.slice b m cb)).setCell ⟨w.heap.size, 2, none⟩ (.slice d n3 cd)).setCell ⟨w.heap.size + 1, 0, none⟩ (.slice a' m' ca')).setCell ⟨w.heap.size + 1, 1, none⟩ (.slice b' m' cb')).setCell ⟨w.heap.size + 1, 2, none⟩ (.slice d' m' cd')).cell? ⟨w2.heap.size, 1, none⟩ = some (.slice b m cb) ∧ ((((((w5.setCell ⟨w.heap.size, 0, none⟩ (.slice a m ca)).setCell ⟨w.heap.size, 1, none⟩ (.slice b m cb)).setCell ⟨w.heap.size, 2, none⟩ (.slice d n3 cd)).setCell ⟨w.heap.size + 1, 0, none⟩ (.slice a' m' ca')).setCell ⟨w.heap.size + 1, 1, none⟩ (.slice b' m' cb')).setCell ⟨w.heap.size + 1, 2, none⟩ (.slice d' m' cd')).cell? ⟨w2.heap.size, 2, none⟩ = some (.slice d n3 cd) := ⟨E7.cell 0, E7.cell 1, E7.cell 2⟩)
          | fail)
      all_goals
        have D6 := ((D5.set 0 (.slice a m ca)).set 1 (.slice b m cb)).set 2 (.slice d n3 cd)
        have D7 := D6.keeps hkd2 (by omega)
        have G6 := G5.keeps hkd1 (by omega)
        have G7 := ((G6.set 0 (.slice a' m' ca')).set 1 (.slice b' m' cb')).set 2 (.slice d' m' cd')
        have q0 := D7.cell 0
        have q1 := D7.cell 1
        have q2 := D7.cell 2
        have r0 := G7.cell 0
        have r1 := G7.cell 1
        have r2 := G7.cell 2
        have hz5 : w2.heap.size + 1 ≤ w5.heap.size := Nat.le_trans (by simpa using hz4) hk5.size
        have hB5 : Below w.heap.size w w5 := hBd.trans (hk5.below hBd.size (fun q e => by omega))
        have hB6 := hB5.trans (hkd1.below hB5.size (fun q e => by omega))
        have hB7 := hB6.trans (hkd2.below hB6.size (fun q e => by omega))
        have HF : Hid (RetTwo w (.returned (.tuple #[.agg #[.slice a m ca, .slice b m cb, .slice d n3 cd], .agg #[.slice a' m' ca', .slice b' m' cb', .slice d' m' cd']])) ((((((w5.setCell ⟨w.heap.size, 0, none⟩ (.slice a m ca)).setCell ⟨w.heap.size, 1, none⟩ (.slice b m cb)).setCell ⟨w.heap.size, 2, none⟩ (.slice d n3 cd)).setCell ⟨w.heap.size + 1, 0, none⟩ (.slice a' m' ca')).setCell ⟨w.heap.size + 1, 1, none⟩ (.slice b' m' cb')).setCell ⟨w.heap.size + 1, 2, none⟩ (.slice d' m' cd'))) := Lib.hid
          ⟨m, n3, m', m', a, b, d, a', b', d', ca, cb, cd, ca', cb', cd', P, S, W, P', S', W', rfl, ((hrpd.keepsK hk5 (fun q hq e => by have := hnew q (.inl hq); omega)).keepsK hkd1 (fun q hq e => by have := hnew q (.inl hq); omega)).keepsK hkd2 (fun q hq e => by have := hnew q (.inl hq); omega), ((hrsd.keepsK hk5 (fun q hq e => by have := hnew q (.inr (.inl hq)); omega)).keepsK hkd1 (fun q hq e => by have := hnew q (.inr (.inl hq)); omega)).keepsK hkd2 (fun q hq e => by have := hnew q (.inr (.inl hq)); omega), ((hrqd.keepsK hk5 (fun q hq e => by have := hnew q (.inr (.inr hq)); omega)).keepsK hkd1 (fun q hq e => by have := hnew q (.inr (.inr hq)); omega)).keepsK hkd2 (fun q hq e => by have := hnew q (.inr (.inr hq)); omega), (ho.a.rd.keepsK hkd1 (fun q hq e => by have := (ho.a.block q hq).1; simp at this; omega)).keepsK hkd2 (fun q hq e => by have := (ho.a.block q hq).1; simp at this; omega), (ho.b.rd.keepsK hkd1 (fun q hq e => by have := (ho.b.block q hq).1; simp at this; omega)).keepsK hkd2 (fun q hq e => by have := (ho.b.block q hq).1; simp at this; omega), (ho.c.rd.keepsK hkd1 (fun q hq e => by have := (ho.c.block q hq).1; simp at this; omega)).keepsK hkd2 (fun q hq e => by have := (ho.c.block q hq).1; simp at this; omega), ⟨lp, ls, lw, hlp', hls', hlw'⟩, ⟨by omega, by omega, by omega, by omega⟩, ⟨fun q hq => by have := hnew q hq; omega, fun q hq => hq.elim (fun hq => by have := (ho.a.block q hq).1; simp at this; omega) (fun hq => hq.elim (fun hq => by have := (ho.b.block q hq).1; simp at this; omega) (fun hq => by have := (ho.c.block q hq).1; simp at this; omega))⟩, hB7⟩
        clear HC HC2 HC3 HCd E5 E6 E7 D5 D6 D7 G5 G6 G7 hkd1 hkd2 hB5 hB6 hB7 ho s5 hk5 hrpd hrsd hrqd d0 d1 d2 g0 g1 g2 fd0 fd1 fd2 fg0 fg1 fg2 hBd sd Ed Dd Gd hcon hbd
        go_wp2
        exact bodyPost_ret (v := .tuple #[.agg #[.slice a m ca, .slice b m cb, .slice d n3 cd], .agg #[.slice a' m' ca', .slice b' m' cb', .slice d' m' cd']]) (by simp [results, Tryz.results50, go_sem, q0, q1, q2, r0, r1, r2]) rfl HF.out
    · have hyb : (y == 0) = false := beq_eq_false_iff_ne.2 hy
      have hok := cluB_iff.1 hcl
      have hmn : m = n3 := by have := hok.1.2.2.2; omega
      subst hmn
      have LW := Lib.hid lw
      have HOK := Lib.hid hok
      have hbA := (Below.refl w4.heap.size w4).drew
      have hbB := ((Below.refl w4.heap.size w4).alloc (Nat.le_refl _) (.cells #[.slice none 0 0, .slice none 0 0, .slice none 0 0] 26)).drew
      have HC : w4.cell? ⟨w2.heap.size, 0, none⟩ = some (.slice a m ca) ∧ w4.cell? ⟨w2.heap.size, 1, none⟩ = some (.slice b m cb) ∧ w4.cell? ⟨w2.heap.size, 2, none⟩ = some (.slice d m cd) := ⟨E4.cell 0, E4.cell 1, E4.cell 2⟩
      have HCA : w4.drew.cell? ⟨w2.heap.size, 0, none⟩ = some (.slice a m ca) ∧ w4.drew.cell? ⟨w2.heap.size, 1, none⟩ = some (.slice b m cb) ∧ w4.drew.cell? ⟨w2.heap.size, 2, none⟩ = some (.slice d m cd) := ⟨(E4.stays hbA).cell 0, (E4.stays hbA).cell 1, (E4.stays hbA).cell 2⟩
      have HCB : (w4.alloc (.cells #[.slice none 0 0, .slice none 0 0, .slice none 0 0] 26)).drew.cell? ⟨w2.heap.size, 0, none⟩ = some (.slice a m ca) ∧ (w4.alloc (.cells #[.slice none 0 0, .slice none 0 0, .slice none 0 0] 26)).drew.cell? ⟨w2.heap.size, 1, none⟩ = some (.slice b m cb) ∧ (w4.alloc (.cells #[.slice none 0 0, .slice none 0 0, .slice none 0 0] 26)).drew.cell? ⟨w2.heap.size, 2, none⟩ = some (.slice d m cd) := ⟨(E4.stays hbB).cell 0, (E4.stays hbB).cell 1, (E4.stays hbB).cell 2⟩
      have conA : Calls Tryz.prog 67 #[.slice d m cd] w4.drew (RetI w4.drew W) := l01Own_c _ W _ (hrq4.below hbA (Nat.le_refl _)) (by omega) (by omega)
      have conB : Calls Tryz.prog 67 #[.slice d m cd] (w4.alloc (.cells #[.slice none 0 0, .slice none 0 0, .slice none 0 0] 26)).drew (RetI (w4.alloc (.cells #[.slice none 0 0, .slice none 0 0, .slice none 0 0] 26)).drew W) := l01Own_c _ W _ (hrq4.below hbB (Nat.le_refl _)) (by omega) (by omega)
      have hrpA := hrp4.below hbA (Nat.le_refl _)
      have hrsA := hrs4.below hbA (Nat.le_refl _)
      have hrpB := hrp4.below hbB (Nat.le_refl _)
      have hrsB := hrs4.below hbB (Nat.le_refl _)
      clear lw hok hcl
      go_upto_region 5 with fail
      go_cut [6] from 20 to 27 (fun s6 wc => CutY w4 wc m P S W s6)
      case first =>
        go_region_held3 (fun X => X.cell? ⟨w2.heap.size, 0, none⟩ = some (.slice a m ca) ∧ X.cell? ⟨w2.heap.size, 1, none⟩ = some (.slice b m cb) ∧ X.cell? ⟨w2.heap.size, 2, none⟩ = some (.slice d m cd))
          (with_reducible first | assumption | exact HC | exact HCA | exact HCB | exact HC5 | exact HC5A _ | exact HC6 | exact HC6A _ | exact HC6S _ _ _)
          (first
            | (go_at_call 67; (with_reducible refine conA.mono ?_); rintro e w5 ⟨ao, ko, rfl, oO, hbO⟩; rw [LW.out] at oO ⊢; have E5 := (E4.stays hbA).stays hbO; have HC5 : w5.cell? ⟨w2.heap.size, 0, none⟩ = some (.slice a m ca) ∧ w5.cell? ⟨w2.heap.size, 1, none⟩ = some (.slice b m cb) ∧ w5.cell? ⟨w2.heap.size, 2, none⟩ = some (.slice d m cd) := ⟨E5.cell 0, E5.cell 1, E5.cell 2⟩; have HC5A : ∀ o, (w5.alloc o).cell? ⟨w2.heap.size, 0, none⟩ = some (.slice a m ca) ∧ (w5.alloc o).cell? ⟨w2.heap.size, 1, none⟩ = some (.slice b m cb) ∧ (w5.alloc o).cell? ⟨w2.heap.size, 2, none⟩ = some (.slice d m cd) := fun o => ⟨(E5.alloc o).cell 0, (E5.alloc o).cell 1, (E5.alloc o).cell 2⟩; have hrp5 := hrpA.below hbO (Nat.le_refl _); have hrs5 := hrsA.below hbO (Nat.le_refl _); have con5 := l07With_c _ _ (.slice d m cd) ao m ko P S W w5 hrp5 hrs5 HOK.out; have con5Z := l07With_c _ _ (.slice d m cd) ao m ko P S W (w5.alloc (.cells #[.slice none 0 0, .slice none 0 0, .slice none 0 0] 26)) (hrp5.below ((Below.refl _ _).alloc (Nat.le_refl _) (.cells #[.slice none 0 0, .slice none 0 0, .slice none 0 0] 26)) (Nat.le_refl _)) (hrs5.below ((Below.refl _ _).alloc (Nat.le_refl _) (.cells #[.slice none 0 0, .slice none 0 0, .slice none 0 0] 26)) (Nat.le_refl _)) HOK.out)
            | (go_at_call 67; (with_reducible refine conB.mono ?_); rintro e w5 ⟨ao, ko, rfl, oO, hbO⟩; rw [LW.out] at oO ⊢; have E5 := (E4.stays hbB).stays hbO; have BZ5 := (show Blk (w4.alloc (.cells #[.slice none 0 0, .slice none 0 0, .slice none 0 0] 26)).drew w4.heap.size 26 #[.slice none 0 0, .slice none 0 0, .slice none 0 0] from Blk.new w4 _ _).stays hbO; have HC5 : w5.cell? ⟨w2.heap.size, 0, none⟩ = some (.slice a m ca) ∧ w5.cell? ⟨w2.heap.size, 1, none⟩ = some (.slice b m cb) ∧ w5.cell? ⟨w2.heap.size, 2, none⟩ = some (.slice d m cd) := ⟨E5.cell 0, E5.cell 1, E5.cell 2⟩; have hrp5 := hrpB.below hbO (Nat.le_refl _); have hrs5 := hrsB.below hbO (Nat.le_refl _); have con5 := l07With_c _ _ (.slice d m cd) ao m ko P S W w5 hrp5 hrs5 HOK.out; have con5Z := con5)
            | (go_at_call 41; (with_reducible refine con5.mono ?_); rintro e w6 ⟨x6, i6, y6, j6, rfl, oP6, oS6, ap6, hb6⟩; have E6 := E5.stays hb6; have HC6 : w6.cell? ⟨w2.heap.size, 0, none⟩ = some (.slice a m ca) ∧ w6.cell? ⟨w2.heap.size, 1, none⟩ = some (.slice b m cb) ∧ w6.cell? ⟨w2.heap.size, 2, none⟩ = some (.slice d m cd) := ⟨E6.cell 0, E6.cell 1, E6.cell 2⟩; have HC6A : ∀ o, (w6.alloc o).cell? ⟨w2.heap.size, 0, none⟩ = some (.slice a m ca) ∧ (w6.alloc o).cell? ⟨w2.heap.size, 1, none⟩ = some (.slice b m cb) ∧ (w6.alloc o).cell? ⟨w2.heap.size, 2, none⟩ = some (.slice d m cd) := fun o => ⟨(E6.alloc o).cell 0, (E6.alloc o).cell 1, (E6.alloc o).cell 2⟩; (try (have BZ6 := BZ5.stays hb6; have z0 := BZ6.cell 0; have z1 := BZ6.cell 1; have z2 := BZ6.cell 2; have fz0 := BZ6.free 0; have fz1 := BZ6.free 1; have fz2 := BZ6.free 2; have HC6S : ∀ x y z, (((w6.setCell ⟨w4.heap.size, 0, none⟩ x).setCell ⟨w4.heap.size, 1, none⟩ y).setCell ⟨w4.heap.size, 2, none⟩ z).cell? ⟨w2.heap.size, 0, none⟩ = some (.slice a m ca) ∧ (((w6.setCell ⟨w4.heap.size, 0, none⟩ x).setCell ⟨w4.heap.size, 1, none⟩ y).setCell ⟨w4.heap.size, 2, none⟩ z).cell? ⟨w2.heap.size, 1, none⟩ = some (.slice b m cb) ∧ (((w6.setCell ⟨w4.heap.size, 0, none⟩ x).setCell ⟨w4.heap.size, 1, none⟩ y).setCell ⟨w4.heap.size, 2, none⟩ z).cell? ⟨w2.heap.size, 2, none⟩ = some (.slice d m cd) := fun x y z => (fun F => ⟨F.cell 0, F.cell 1, F.cell 2⟩) (E6.keeps (keeps_D (w := w6) w4.heap.size x y z) (by omega)))))
            | (go_at_call 41; (with_reducible refine con5Z.mono ?_); rintro e w6 ⟨x6, i6, y6, j6, rfl, oP6, oS6, ap6, hb6⟩; have E6 := (E5.alloc (.cells #[.slice none 0 0, .slice none 0 0, .slice none 0 0] 26)).stays hb6; have HC6 : w6.cell? ⟨w2.heap.size, 0, none⟩ = some (.slice a m ca) ∧ w6.cell? ⟨w2.heap.size, 1, none⟩ = some (.slice b m cb) ∧ w6.cell? ⟨w2.heap.size, 2, none⟩ = some (.slice d m cd) := ⟨E6.cell 0, E6.cell 1, E6.cell 2⟩; have BZ6 := (Blk.new w5 26 #[.slice none 0 0, .slice none 0 0, .slice none 0 0]).stays hb6; have hz5 : w4.heap.size ≤ w5.heap.size := hbO.size; have z0 := BZ6.cell 0; have z1 := BZ6.cell 1; have z2 := BZ6.cell 2; have fz0 := BZ6.free 0; have fz1 := BZ6.free 1; have fz2 := BZ6.free 2; have HC6S : ∀ x y z, (((w6.setCell ⟨w5.heap.size, 0, none⟩ x).setCell ⟨w5.heap.size, 1, none⟩ y).setCell ⟨w5.heap.size, 2, none⟩ z).cell? ⟨w2.heap.size, 0, none⟩ = some (.slice a m ca) ∧ (((w6.setCell ⟨w5.heap.size, 0, none⟩ x).setCell ⟨w5.heap.size, 1, none⟩ y).setCell ⟨w5.heap.size, 2, none⟩ z).cell? ⟨w2.heap.size, 1, none⟩ = some (.slice b m cb) ∧ (((w6.setCell ⟨w5.heap.size, 0, none⟩ x).setCell ⟨w5.heap.size, 1, none⟩ y).setCell ⟨w5.heap.size, 2, none⟩ z).cell? ⟨w2.heap.size, 2, none⟩ = some (.slice d m cd) := fun x y z => (fun F => ⟨F.cell 0, F.cell 1, F.cell 2⟩) (E6.keeps (keeps_D (w := w6) w5.heap.size x y z) (by omega)))
            | fail)
        · rw [lp] at oP6
          rw [ls] at oS6
          have hzO : w4.heap.size ≤ w5.heap.size := hbO.size
          have hbb : Below w4.heap.size w4 w6 := below_step (below_step (by assumption) hbO) hb6
          have HF := Lib.hid (cutY_alloc oO (by simp) oP6 oS6 hb6 hzO hbb)
          clear con5 con5Z HC HCA HCB HC5 HC5A HC6 HC6A conA conB
          go_wp2
          go_meet
          exact HF.out
        · rw [lp] at oP6
          rw [ls] at oS6
          have hal5 : Below w5.heap.size w5 (w5.alloc (.cells #[.slice none 0 0, .slice none 0 0, .slice none 0 0] 26)) := (Below.refl _ _).alloc (Nat.le_refl _) _
          have hbb : Below w4.heap.size w4 w6 := below_step (below_step (below_step hbA hbO) hal5) hb6
          have HF := Lib.hid (cutY_set (w4 := w4) BZ6 ((oO.below hal5 (Nat.le_refl _)).below hb6 (Nat.le_refl _)) (by simp) (fun q hq => by have := oO.block q hq; simp; omega) oP6 oS6 hz5 (by simp) hbb)
          clear con5 con5Z HC HCA HCB HC5 HC6 conA conB
          go_wp2
          go_meet
          exact HF.out
        · rw [lp] at oP6
          rw [ls] at oS6
          have hz5 : w4.heap.size + 1 ≤ w5.heap.size := by have := hbO.size; simpa using this
          have hbb : Below w4.heap.size w4 w6 := (hbB.trans (hbO.mono (by simp))).trans (hb6.mono (by omega))
          have HF := Lib.hid (cutY_set (w4 := w4) BZ6 (oO.below hb6 (Nat.le_refl _)) (by simp) (fun q hq => by have := oO.block q hq; simp at this; omega) oP6 oS6 (Nat.le_refl _) (by omega) hbb)
          clear con5 con5Z HC HCA HCB HC5 HC6 conA conB
          go_wp2
          go_meet
          exact HF.out
      case rest =>
        obtain ⟨N6, B, x6, y6, ao, i6, j6, ko, rfl, B6, o6, p6, r6, hq6, hqx, hqy, hN6, hb6⟩ := hcut
        have I := (show InvY w wc g w1.heap.size w2.heap.size w4.heap.size N6 m a b d x6 y6 ao ca cb cd i6 j6 ko P S W W from
          ⟨E4.stays hb6, D4.stays hb6, G4.stays hb6, B6, o6, p6, r6, hrp4.below hb6 (Nat.le_refl _), hrs4.below hb6 (Nat.le_refl _), hrq4.below hb6 (Nat.le_refl _), hnew, fun q hq => ⟨(hq6 q hq).2, fun e => by have := hqx q e; have := hq6 q hq; omega, fun e => by have := hqy q e; have := hq6 q hq; omega⟩, fun q hq => (hqx q hq).2, fun q hq => (hqy q hq).2, ⟨by omega, hg1, hz2', by omega, hN6⟩, s4.below hb6, below_step hB4 hb6⟩)
        clear E4 D4 G4 B6 o6 p6 r6 hrp4 hrs4 hrq4 hnew hq6 hqx hqy s4 hB4 hb6 hbA hbB HC HCA HCB conA conB hrpA hrsA hrpB hrsB
        go_wp2_with fail
        go_loopw [7] (fun iv wr => ∃ (k : Nat) (W' : List Int), k ≤ m ∧ iv = .int .i64 (k : Int) ∧ W'.length = m ∧ InvY w wr g w1.heap.size w2.heap.size w4.heap.size N6 m a b d x6 y6 ao ca cb cd i6 j6 ko P S W W') (fun iv _ => m - (intOf iv).toNat)
        case atStart => exact ⟨0, W, Nat.zero_le _, rfl, LW.out, I⟩
        case round =>
          obtain ⟨k, W', hk, rfl, hlw, I'⟩ := hrel
          clear I
          obtain ⟨wo, rfl⟩ : ∃ wo : World, wo = wr := ⟨_, rfl⟩
          have HLW' := Lib.hid hlw
          have c2 := I'.B.cell 2
          by_cases hlt : k < m
          · have hoC := I'.o
            rw [← hlw] at hoC
            obtain ⟨gx, kx, he, hgx, hgx2, _, _⟩ := Own.pos hoC (by rw [HLW'.out]; omega)
            injection he with e1 e2 e3
            subst e1 e3
            have cz := hoC.cell k (by rw [HLW'.out]; exact hlt)
            clear e2 hoC hlw
            generalize gI W' k = u0 at cz
            have hki : (k : Int) < (m : Int) := by omega
            have hk0 : (0 : Int) ≤ (k : Int) := by omega
            have hgxN : gx ≠ N6 := (I'.no gx rfl).1
            have hlt' := I'.lt
            have hNl := I'.B.lt
            have hba : Below wo.heap.size wo (wo.alloc (.cells #[.int .i64 0, .int .i64 1, .int .i64 2, .int .i64 3, .int .i64 (-1), .int .i64 u0] 2)).drew := ((Below.refl _ _).alloc (Nat.le_refl _) _).drew
            have Ia := I'.below hba
            have hra : Rd (wo.alloc (.cells #[.int .i64 0, .int .i64 1, .int .i64 2, .int .i64 3, .int .i64 (-1), .int .i64 u0] 2)).drew (.slice (some ⟨wo.heap.size, 0, none⟩) 6 6) [0, 1, 2, 3, -1, u0] := (rd_newsK (w := wo) rfl 2 [0, 1, 2, 3, -1, u0] (by simp)).below (B := (wo.alloc (.cells (List.map (Value.int .i64) [0, 1, 2, 3, -1, u0]).toArray 2)).heap.size) (Below.refl _ _).drew (Nat.le_refl _)
            have con := pick_w g _ [0, 1, 2, 3, -1, u0] _ Ia.s hra (by simp) (by simp) (fun b off e => by injection e with e; injection e with e; injection e; omega) ⟨_, rfl⟩
            have HC : wo.cell? ⟨N6, 2, none⟩ = some (.slice (some ⟨gx, 0, none⟩) m ko) := c2
            have HCA : ∀ o, (wo.alloc o).cell? ⟨N6, 2, none⟩ = some (.slice (some ⟨gx, 0, none⟩) m ko) := fun o => (I'.B.alloc o).cell 2
            clear c2 hba hra
            go_wp2_with fail
            go_region_with (first
                | (go_at_call 30; (with_reducible refine con.mono ?_); rintro e w8 ⟨i8, hi8, rfl, s8, hk8⟩; have I8 := Ia.keeps hk8 s8; have HC8 := I8.B.cell 2; have HC9 : ∀ v, (w8.setCell ⟨gx, k, none⟩ v).cell? ⟨N6, 2, none⟩ = some (.slice (some ⟨gx, 0, none⟩) m ko) := (fun v => (I8.B.other (g' := gx) (by omega) k v).cell 2); have hoX := I8.o; rw [← HLW'.out] at hoX; have c8 := hoX.cell k (by rw [HLW'.out]; exact hlt); have f8 := hoX.free k; clear hoX)
                | fail)
            all_goals
              generalize gI [0, 1, 2, 3, -1, u0] i8 = u at *
              have I9 := I8.set HLW'.out k u
              clear Ia I8 HC8 HC9 hk8 s8 con HC HCA cz c8 f8 I'
              go_wp2
              go_roundw
              case rel => exact ⟨k + 1, W'.set k u, by omega, by go_num, by rw [List.length_set]; exact HLW'.out, I9⟩
              case measure => simp [intOf]; omega
          · go_wp2_with fail
            refine (next_w g 12 _ I'.s (by omega) (by omega)).mono ?_
            rintro e w7 ⟨y, rfl, hy0, hy1, s7, hk7⟩
            have I7 := I'.keeps hk7 s7
            clear I' s7 hk7
            by_cases hy7 : y = 0
            · subst hy7
              have hoC := I7.o
              rw [← hlw] at hoC
              obtain ⟨gx, kx, he, hgx, hgx2, _, _⟩ := Own.pos hoC (by rw [HLW'.out]; omega)
              injection he with e1 e2 e3
              subst e1 e3
              clear e2 hoC hlw
              have hltz := I7.lt
              have hgxN : gx ≠ N6 := (I7.no gx rfl).1
              have hm0 : (0 : Int) < (m : Int) := by omega
              have hm0n : 0 < m := by omega
              have hba : Below w7.heap.size w7 (w7.alloc (.cells #[.int .i64 100000, .int .i64 (-100000), .int .i64 99999] 2)).drew := ((Below.refl _ _).alloc (Nat.le_refl _) _).drew
              have Ia := I7.below hba
              have hra : Rd (w7.alloc (.cells #[.int .i64 100000, .int .i64 (-100000), .int .i64 99999] 2)).drew (.slice (some ⟨w7.heap.size, 0, none⟩) 3 3) [100000, -100000, 99999] := (rd_newsK (w := w7) rfl 2 [100000, -100000, 99999] (by simp)).below (B := (w7.alloc (.cells (List.map (Value.int .i64) [100000, -100000, 99999]).toArray 2)).heap.size) (Below.refl _ _).drew (Nat.le_refl _)
              have con := pick_w g _ [100000, -100000, 99999] _ Ia.s hra (by simp) (by simp) (fun b off e => by injection e with e; injection e with e; injection e; omega) ⟨_, rfl⟩
              have HC : w7.cell? ⟨N6, 2, none⟩ = some (.slice (some ⟨gx, 0, none⟩) m ko) := I7.B.cell 2
              have HCA : ∀ o, (w7.alloc o).cell? ⟨N6, 2, none⟩ = some (.slice (some ⟨gx, 0, none⟩) m ko) := fun o => (I7.B.alloc o).cell 2
              clear hba hra
              go_upto_region 11 with fail
              go_region_with (first
                  | (go_at_call 30; (with_reducible refine con.mono ?_); rintro e w8 ⟨i8, hi8, rfl, s8, hk8⟩; have I8 := Ia.keeps hk8 s8; have HC8 := I8.B.cell 2; have HC9 : ∀ v, (w8.setCell ⟨gx, 0, none⟩ v).cell? ⟨N6, 2, none⟩ = some (.slice (some ⟨gx, 0, none⟩) m ko) := (fun v => (I8.B.other (g' := gx) (by omega) 0 v).cell 2); have hoX := I8.o; rw [← HLW'.out] at hoX; have c8 := hoX.cell 0 (by rw [HLW'.out]; omega); have f8 := hoX.free 0; clear hoX)
                  | fail)
              all_goals
                generalize gI [100000, -100000, 99999] i8 = u at *
                have I9 := I8.set HLW'.out 0 u
                have HL9 := Lib.hid (show (W'.set 0 u).length = m by rw [List.length_set]; exact HLW'.out)
                clear Ia I7 I8 HC8 HC9 hk8 s8 con HC HCA c8 f8
                generalize w8.setCell ⟨gx, 0, none⟩ (.int .i64 u) = w9 at *
                generalize W'.set 0 u = W9 at *
                have hlt' := I9.lt
                have HF := Lib.hid ((retTwo_mk I9 lp ls LW.out HL9.out (by omega)).drew)
                have d0 := I9.D.cell 0
                have fd0 := I9.D.free 0
                have g0 := I9.G.cell 0
                have fg0 := I9.G.free 0
                have e0 := I9.E.cell 0
                have b0 := I9.B.cell 0
                have d1 := I9.D.cell 1
                have fd1 := I9.D.free 1
                have g1 := I9.G.cell 1
                have fg1 := I9.G.free 1
                have e1 := I9.E.cell 1
                have b1 := I9.B.cell 1
                have d2 := I9.D.cell 2
                have fd2 := I9.D.free 2
                have g2 := I9.G.cell 2
                have fg2 := I9.G.free 2
                have e2 := I9.E.cell 2
                have b2 := I9.B.cell 2
                have n1 : w.heap.size ≠ w2.heap.size := by omega
                have n2 : w.heap.size ≠ N6 := by omega
                have n3 : w.heap.size + 1 ≠ w2.heap.size := by omega
                have n4 : w.heap.size + 1 ≠ N6 := by omega
                have hkd1 := keeps_D (w := w9) w.heap.size (.slice a m ca) (.slice b m cb) (.slice d m cd)
                have hkd2 := keeps_D (w := ((((w9).setCell ⟨w.heap.size, 0, none⟩ (.slice a m ca)).setCell ⟨w.heap.size, 1, none⟩ (.slice b m cb)).setCell ⟨w.heap.size, 2, none⟩ (.slice d m cd))) (w.heap.size + 1) (.slice x6 m i6) (.slice y6 m j6) (.slice (some ⟨gx, 0, none⟩) m ko)
                have D9 := (((I9.D.set 0 (.slice a m ca)).set 1 (.slice b m cb)).set 2 (.slice d m cd)).keeps hkd2 (by omega)
                have G9 := (((I9.G.keeps hkd1 (by omega)).set 0 (.slice x6 m i6)).set 1 (.slice y6 m j6)).set 2 (.slice (some ⟨gx, 0, none⟩) m ko)
                have q0 := D9.cell 0
                have q1 := D9.cell 1
                have q2 := D9.cell 2
                have r0 := G9.cell 0
                have r1 := G9.cell 1
                have r2 := G9.cell 2
                clear hkd1 hkd2 D9 G9 I9
                go_upto_region 12 with fail
                go_region
                all_goals
                  clear d0 d1 d2 g0 g1 g2 fd0 fd1 fd2 fg0 fg1 fg2 e0 e1 e2 b0 b1 b2
                  go_wp2
                  exact bodyPost_ret (v := .tuple #[.agg #[.slice a m ca, .slice b m cb, .slice d m cd], .agg #[.slice x6 m i6, .slice y6 m j6, .slice (some ⟨gx, 0, none⟩) m ko]]) (by simp [results, Tryz.results50, go_sem, q0, q1, q2, r0, r1, r2]) rfl HF.out
            · have hyb7 : (y == 0) = false := beq_eq_false_iff_ne.2 hy7
              clear hy7
              have hlt' := I7.lt
              have HF := Lib.hid ((retTwo_mk I7 lp ls LW.out HLW'.out (by omega)).drew)
              have d0 := I7.D.cell 0
              have fd0 := I7.D.free 0
              have g0 := I7.G.cell 0
              have fg0 := I7.G.free 0
              have e0 := I7.E.cell 0
              have b0 := I7.B.cell 0
              have d1 := I7.D.cell 1
              have fd1 := I7.D.free 1
              have g1 := I7.G.cell 1
              have fg1 := I7.G.free 1
              have e1 := I7.E.cell 1
              have b1 := I7.B.cell 1
              have d2 := I7.D.cell 2
              have fd2 := I7.D.free 2
              have g2 := I7.G.cell 2
              have fg2 := I7.G.free 2
              have e2 := I7.E.cell 2
              have b2 := I7.B.cell 2
              have n1 : w.heap.size ≠ w2.heap.size := by omega
              have n2 : w.heap.size ≠ N6 := by omega
              have n3 : w.heap.size + 1 ≠ w2.heap.size := by omega
              have n4 : w.heap.size + 1 ≠ N6 := by omega
              have hkd1 := keeps_D (w := w7) w.heap.size (.slice a m ca) (.slice b m cb) (.slice d m cd)
              have hkd2 := keeps_D (w := ((((w7).setCell ⟨w.heap.size, 0, none⟩ (.slice a m ca)).setCell ⟨w.heap.size, 1, none⟩ (.slice b m cb)).setCell ⟨w.heap.size, 2, none⟩ (.slice d m cd))) (w.heap.size + 1) (.slice x6 m i6) (.slice y6 m j6) (.slice ao m ko)
              have D9 := (((I7.D.set 0 (.slice a m ca)).set 1 (.slice b m cb)).set 2 (.slice d m cd)).keeps hkd2 (by omega)
              have G9 := (((I7.G.keeps hkd1 (by omega)).set 0 (.slice x6 m i6)).set 1 (.slice y6 m j6)).set 2 (.slice ao m ko)
              have q0 := D9.cell 0
              have q1 := D9.cell 1
              have q2 := D9.cell 2
              have r0 := G9.cell 0
              have r1 := G9.cell 1
              have r2 := G9.cell 2
              clear hkd1 hkd2 D9 G9 I7
              go_upto_region 12 with fail
              go_region
              all_goals
                clear d0 d1 d2 g0 g1 g2 fd0 fd1 fd2 fg0 fg1 fg2 e0 e1 e2 b0 b1 b2
                go_wp2
                exact bodyPost_ret (v := .tuple #[.agg #[.slice a m ca, .slice b m cb, .slice d m cd], .agg #[.slice x6 m i6, .slice y6 m j6, .slice ao m ko]]) (by simp [results, Tryz.results50, go_sem, q0, q1, q2, r0, r1, r2]) rfl HF.out
end Go.Proofs.YtglghdkjppcedaaGreatDoor
