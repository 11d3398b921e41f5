/- A cluster whose third list is a piece of a larger block. Contract: its marks. -/
import Derived.Test.YtglghdkjppcedaaGreatDoorPart6
import Derived.Test.YtglghdkjppcedaaGreatDoorPart19
import Derived.Test.YtglghdkjppcedaaGreatDoorPart18
import Derived.Deep.RegionHeld3
import Derived.Deep.DeepCutAuto
namespace Go.Proofs.YtglghdkjppcedaaGreatDoor
open Go.RowKit

/-- Three slices in blocks of their own, the third one a piece. -/
structure Own3Q (w : World) (base : Nat) (u1 u2 u3 : Value) (xs ys zs : List Int) : Prop where
  a : OwnI w base u1 xs
  b : OwnI w base u2 ys
  c : OwnQ w base u3 zs
  ab : Apart u1 u2
  ac : Apart u1 u3
  bc : Apart u2 u3
theorem Own3Q.keeps {w w' : World} {base : Nat} {a b c : Value} {xs ys zs : List Int} {M : Nat → Prop} (h : Own3Q w base a b c xs ys zs) (hk : Keeps M w w') (hn : ∀ g, Own3.mine a b c g → ¬ M g) : Own3Q w' base a b c xs ys zs :=
  ⟨h.a.keeps hk (fun g hg => hn g (.inl hg)), h.b.keeps hk (fun g hg => hn g (.inr (.inl hg))), h.c.keeps hk (fun g hg => hn g (.inr (.inr hg))), h.ab, h.ac, h.bc⟩
theorem Own3Q.below {w w' : World} {base : Nat} {a b c : Value} {xs ys zs : List Int} (h : Own3Q w base a b c xs ys zs) (hb : Below w.heap.size w w') : Own3Q w' base a b c xs ys zs :=
  ⟨h.a.below hb (Nat.le_refl _), h.b.below hb (Nat.le_refl _), h.c.below hb (Nat.le_refl _), h.ab, h.ac, h.bc⟩
theorem Own3Q.block {w : World} {base : Nat} {a b c : Value} {xs ys zs : List Int} (h : Own3Q w base a b c xs ys zs) : ∀ g, Own3.mine a b c g → base ≤ g ∧ g < w.heap.size := by
  intro g hg
  rcases hg with hg | hg | hg
  · exact h.a.block g hg
  · exact h.b.block g hg
  · exact h.c.block g hg
theorem Own3Q.base_le {w : World} {base base' : Nat} {a b c : Value} {xs ys zs : List Int} (h : Own3Q w base a b c xs ys zs) (hB : base' ≤ base) : Own3Q w base' a b c xs ys zs :=
  ⟨h.a.base_le hB, h.b.base_le hB, h.c.base_le hB, h.ab, h.ac, h.bc⟩
def RetCQ (w : World) (xs ys zs : List Int) (c : Int) (e : Ending) (w' : World) : Prop :=
  ∃ a i b j d k, e = .returned (.tuple #[.agg #[.slice a xs.length i, .slice b ys.length j, .slice d zs.length k], .int .i64 c]) ∧
    Own3Q w' w.heap.size (.slice a xs.length i) (.slice b ys.length j) (.slice d zs.length k) xs ys zs ∧ Below w.heap.size w w'
end Go.Proofs.YtglghdkjppcedaaGreatDoor

/- Contract: impl.ClusterOfBranch. -/
namespace Go.Proofs.YtglghdkjppcedaaGreatDoor
open Go.RowKit

theorem parL_succ (k : Nat) : parL (k + 1) = parL k ++ [(k : Int) - 1] := by simp [parL, List.range_succ]
/-- The first k seconds. -/
def seT (M : List Int) (k : Nat) : List Int := (List.range k).map (sI M)
@[simp] theorem seT_len (M : List Int) (k : Nat) : (seT M k).length = k := by simp [seT]
theorem seT_succ (M : List Int) (k : Nat) : seT M (k + 1) = seT M k ++ [sI M k] := by simp [seT, List.range_succ]
theorem seT_all (M : List Int) : seT M M.length = secM M := rfl
/-- Is there a cluster of the first k points? -/
def cobB (T : List Int) (k : Int) : Bool := braB T && inB k 1 24
def cobC (T : List Int) (k : Int) : Int := if braB T then (if inB k 1 24 then 0 else 2) else 1
end Go.Proofs.YtglghdkjppcedaaGreatDoor

/- Contracts: spec.l07Branch, spec.ClusterOfBranch. -/
namespace Go.Proofs.YtglghdkjppcedaaGreatDoor
open Go.RowKit

theorem second_cI {M : List Int} (j : Nat) : (0 ≤ sI M (j + 1) → cI M j ≠ 0 ∧ ((j + 1 : Nat) : Int) - cI M j = sI M (j + 1) ∧ 2 ≤ cI M j ∧ cI M j ≤ (j : Int) + 1) ∧ (¬ 0 ≤ sI M (j + 1) → cI M j = 0 ∧ sI M (j + 1) = -1) := by
  have hb := sI_bd M (j + 1)
  refine ⟨fun h => ?_, fun h => ⟨by simp [cI, h], by omega⟩⟩
  have hc : cI M j = ((j + 1 : Nat) : Int) - sI M (j + 1) := by simp [cI, h]
  refine ⟨by omega, by omega, by omega, by omega⟩
/-- A list of a known length is handed back. -/
def RetN (m : Nat) (w : World) (xs : List Int) (e : Ending) (w' : World) : Prop := ∃ a k, e = .returned (.slice a m k) ∧ OwnI w' w.heap.size (.slice a m k) xs ∧ Below w.heap.size w w'
theorem retN_of {m : Nat} {w w' : World} {xs : List Int} {e : Ending} (h : RetI w xs e w') (hm : xs.length = m) : RetN m w xs e w' := by
  obtain ⟨a, k, h1, h2, h3⟩ := h
  rw [hm] at h1 h2
  exact ⟨a, k, h1, h2, h3⟩
/-- A cluster is handed back. -/
def RetCl (w : World) (xs ys zs : List Int) (e : Ending) (w' : World) : Prop :=
  ∃ a i b j d k, e = .returned (.agg #[.slice a xs.length i, .slice b ys.length j, .slice d zs.length k]) ∧
    Own3 2 w' w.heap.size (.slice a xs.length i) (.slice b ys.length j) (.slice d zs.length k) xs ys zs ∧ Below w.heap.size w w'

set_option maxRecDepth 100000 in
set_option maxHeartbeats 8000000 in
theorem l07Branch_c (v : Value) (T : List Int) (n : Nat) (w : World) (h : Rd w v T) (hok : BraOk T) (hn1 : 1 ≤ n) (hn2 : n ≤ 24) :
    Calls Tryz.prog 78 #[.agg #[v], .int .i64 (n : Int)] w (RetCl w (parL n) (secM (seqL T n)) (seqL T n)) := by
  obtain ⟨i0, hi, hz0, hz1, hz2⟩ := info_parts Tryz.infoI
  obtain ⟨a, cp, rfl⟩ := h.len0
  have hx2 := (Boxed.start w 90 #[.slice a T.length cp]).alloc (.cells #[.slice none 0 0, .slice none 0 0, .slice none 0 0] 26)
  have D2 := Blk.new' (w := w.alloc (.cells #[.slice a T.length cp] 90)) (t := 26) (cs := #[.slice none 0 0, .slice none 0 0, .slice none 0 0]) (g := w.heap.size + 1) (by simp)
  have hMl : (seqL T n).length = n := seqL_len T n
  have hKl : (codeL (seqL T n)).length = n - 1 := by rw [codeL_len, hMl]
  have HA1 : Hid (∀ W', Rd W' (.slice a T.length cp) T → Calls Tryz.prog 84 #[.agg #[.slice a T.length cp], .int .i64 (n : Int)] W' (RetN (n - 1) W' (codeL (seqL T n)))) := Lib.hid (fun W' h' => (l06Code_c _ T n W' h' hok hn1 (by omega)).mono fun _ _ h2 => retN_of h2 hKl)
  have HB1 : Hid (∀ W', Rd W' (.slice a T.length cp) T → Calls Tryz.prog 85 #[.agg #[.slice a T.length cp], .int .i64 (n : Int)] W' (RetN n W' (seqL T n))) := Lib.hid (fun W' h' => (l06Sequence_c _ T n W' h' hok (by omega)).mono fun _ _ h2 => retN_of h2 hMl)
  have HML := Lib.hid hMl
  have HKL := Lib.hid hKl
  clear hMl hKl
  generalize hgM : seqL T n = M at *
  clear hgM
  obtain ⟨w2, hw2⟩ : ∃ w2 : World, (w.alloc (.cells #[.slice a T.length cp] 90)).alloc (.cells #[.slice none 0 0, .slice none 0 0, .slice none 0 0] 26) = w2 := ⟨_, rfl⟩
  rw [hw2] at hx2 D2
  have hz2' : w.heap.size + 2 ≤ w2.heap.size := D2.lt
  have HW2 := Lib.hid hw2
  clear hw2
  go_enter Tryz.func78, Tryz.ntmps78
  go_wp2_with fail
  rw [HW2.out]
  go_cut [5, 6] from 9 to 15 (fun s5 s6 wc => ∃ (gb : Nat) (aK : Option Addr) (kK : Nat) (aM : Option Addr) (kM : Nat), s5 = .slice aK (n - 1) kK ∧ s6 = .pointer (some ⟨gb, 0, none⟩) ∧ Blk wc gb 26 #[.slice none 0 0, .slice none 0 0, .slice aM n kM] ∧ OwnI wc (w.heap.size + 2) (.slice aK (n - 1) kK) (codeL M) ∧ OwnI wc (w.heap.size + 2) (.slice aM n kM) M ∧ (∀ q, (Value.slice aK (n - 1) kK).ownBlock = some q → q ≠ gb) ∧ (∀ q, (Value.slice aM n kM).ownBlock = some q → q ≠ gb) ∧ w.heap.size + 2 ≤ gb ∧ Blk wc (w.heap.size + 1) 26 #[.slice none 0 0, .slice none 0 0, .slice none 0 0] ∧ Below w.heap.size w wc)
  case first =>
    have HC : w2.cell? ⟨w.heap.size, 0, none⟩ = some (.slice a T.length cp) := hx2.cell 0
    have HA : (w2.alloc (.cells #[.slice none 0 0, .slice none 0 0, .slice none 0 0] 26)).cell? ⟨w.heap.size, 0, none⟩ = some (.slice a T.length cp) := (hx2.alloc (.cells #[.slice none 0 0, .slice none 0 0, .slice none 0 0] 26)).cell 0
    go_region_held3 (fun w' => w'.cell? ⟨w.heap.size, 0, none⟩ = some (.slice a T.length cp))
      (first | assumption | exact HC | exact HA | exact HE | exact HS)
      (first
        | (go_at_call 85; have hst : Below wA.heap.size wA wA := Below.refl _ _; have hsB : wA.heap.size ≤ wA.heap.size := Nat.le_refl _; have hX := hxA; have oA := oA.below hst (Nat.le_refl _); (with_reducible refine (HB1.out _ (hX.rd h)).mono ?_); rintro e wB ⟨aB, kB, rfl, oB, hq⟩; have rgB := oB.block; have hxB := hX.trans hq; have htB := hq.size; have DB := (DA.stays hst).stays hq; have oA := oA.below hq (Nat.le_refl _); (try have E := Blk.stays E hq); have HC : wB.cell? ⟨w.heap.size, 0, none⟩ = some (.slice a T.length cp) := hxB.cell 0; have HA : (wB.alloc (.cells #[.slice none 0 0, .slice none 0 0, .slice none 0 0] 26)).cell? ⟨w.heap.size, 0, none⟩ = some (.slice a T.length cp) := (hxB.alloc (.cells #[.slice none 0 0, .slice none 0 0, .slice none 0 0] 26)).cell 0; have HE : (wB.alloc (.cells #[.slice none 0 0, .slice none 0 0, .slice aB n kB] 26)).cell? ⟨w.heap.size, 0, none⟩ = some (.slice a T.length cp) := (hxB.alloc (.cells #[.slice none 0 0, .slice none 0 0, .slice aB n kB] 26)).cell 0; have HSof : ∀ EN : Nat, w.heap.size + 2 ≤ EN → Blk wB EN 26 #[.slice none 0 0, .slice none 0 0, .slice none 0 0] → (((wB.setCell ⟨EN, 0, none⟩ (.slice none 0 0)).setCell ⟨EN, 1, none⟩ (.slice none 0 0)).setCell ⟨EN, 2, none⟩ (.slice aB n kB)).cell? ⟨w.heap.size, 0, none⟩ = some (.slice a T.length cp) := fun EN hEN _ => have h := hxB.wrote ((((Keeps.refl (fun k => w.heap.size + 1 ≤ k) wB).setCell (p := ⟨EN, 0, none⟩) (by show w.heap.size + 1 ≤ EN; omega) (.slice none 0 0)).setCell (p := ⟨EN, 1, none⟩) (by show w.heap.size + 1 ≤ EN; omega) (.slice none 0 0)).setCell (p := ⟨EN, 2, none⟩) (by show w.heap.size + 1 ≤ EN; omega) (.slice aB n kB)); h.cell 0; (try have HS := HSof _ (by first | exact hz2' | omega) E); have hxL := hxB; have DL := DB; (try have r0 := Blk.free E 0); (try have r1 := Blk.free E 1); (try have r2 := Blk.free E 2); (try have t0 := Blk.cell E 0); (try have t1 := Blk.cell E 1); (try have t2 := Blk.cell E 2))
        | (go_at_call 84; have hst : Below wB.heap.size wB wB := Below.refl _ _; have hsA : wB.heap.size ≤ wB.heap.size := Nat.le_refl _; have hX := hxB; have oB := oB.below hst (Nat.le_refl _); (with_reducible refine (HA1.out _ (hX.rd h)).mono ?_); rintro e wA ⟨aA, kA, rfl, oA, hq⟩; have rgA := oA.block; have hxA := hX.trans hq; have htA := hq.size; have DA := (DB.stays hst).stays hq; have oB := oB.below hq (Nat.le_refl _); (try have E := Blk.stays E hq); have HC : wA.cell? ⟨w.heap.size, 0, none⟩ = some (.slice a T.length cp) := hxA.cell 0; have HA : (wA.alloc (.cells #[.slice none 0 0, .slice none 0 0, .slice none 0 0] 26)).cell? ⟨w.heap.size, 0, none⟩ = some (.slice a T.length cp) := (hxA.alloc (.cells #[.slice none 0 0, .slice none 0 0, .slice none 0 0] 26)).cell 0; have HE : (wA.alloc (.cells #[.slice none 0 0, .slice none 0 0, .slice aB n kB] 26)).cell? ⟨w.heap.size, 0, none⟩ = some (.slice a T.length cp) := (hxA.alloc (.cells #[.slice none 0 0, .slice none 0 0, .slice aB n kB] 26)).cell 0; have HSof : ∀ EN : Nat, w.heap.size + 2 ≤ EN → Blk wA EN 26 #[.slice none 0 0, .slice none 0 0, .slice none 0 0] → (((wA.setCell ⟨EN, 0, none⟩ (.slice none 0 0)).setCell ⟨EN, 1, none⟩ (.slice none 0 0)).setCell ⟨EN, 2, none⟩ (.slice aB n kB)).cell? ⟨w.heap.size, 0, none⟩ = some (.slice a T.length cp) := fun EN hEN _ => have h := hxA.wrote ((((Keeps.refl (fun k => w.heap.size + 1 ≤ k) wA).setCell (p := ⟨EN, 0, none⟩) (by show w.heap.size + 1 ≤ EN; omega) (.slice none 0 0)).setCell (p := ⟨EN, 1, none⟩) (by show w.heap.size + 1 ≤ EN; omega) (.slice none 0 0)).setCell (p := ⟨EN, 2, none⟩) (by show w.heap.size + 1 ≤ EN; omega) (.slice aB n kB)); h.cell 0; (try have HS := HSof _ (by first | exact hz2' | omega) E); have hxL := hxA; have DL := DA; (try have r0 := Blk.free E 0); (try have r1 := Blk.free E 1); (try have r2 := Blk.free E 2); (try have t0 := Blk.cell E 0); (try have t1 := Blk.cell E 1); (try have t2 := Blk.cell E 2))
        | (go_at_call 85; have hst : Below wA.heap.size wA (wA.alloc (.cells #[.slice none 0 0, .slice none 0 0, .slice none 0 0] 26)) := (Below.refl _ _).alloc (Nat.le_refl _) _; have hsB : wA.heap.size + 1 ≤ (wA.alloc (.cells #[.slice none 0 0, .slice none 0 0, .slice none 0 0] 26)).heap.size := (by simp); have hX := hxA.alloc (.cells #[.slice none 0 0, .slice none 0 0, .slice none 0 0] 26); have oA := oA.below hst (Nat.le_refl _); (with_reducible refine (HB1.out _ (hX.rd h)).mono ?_); rintro e wB ⟨aB, kB, rfl, oB, hq⟩; have rgB := oB.block; have hxB := hX.trans hq; have htB := hq.size; have DB := (DA.stays hst).stays hq; have oA := oA.below hq (Nat.le_refl _); have E := (Blk.new wA 26 #[.slice none 0 0, .slice none 0 0, .slice none 0 0]).stays hq; have HC : wB.cell? ⟨w.heap.size, 0, none⟩ = some (.slice a T.length cp) := hxB.cell 0; have HA : (wB.alloc (.cells #[.slice none 0 0, .slice none 0 0, .slice none 0 0] 26)).cell? ⟨w.heap.size, 0, none⟩ = some (.slice a T.length cp) := (hxB.alloc (.cells #[.slice none 0 0, .slice none 0 0, .slice none 0 0] 26)).cell 0; have HE : (wB.alloc (.cells #[.slice none 0 0, .slice none 0 0, .slice aB n kB] 26)).cell? ⟨w.heap.size, 0, none⟩ = some (.slice a T.length cp) := (hxB.alloc (.cells #[.slice none 0 0, .slice none 0 0, .slice aB n kB] 26)).cell 0; have HSof : ∀ EN : Nat, w.heap.size + 2 ≤ EN → Blk wB EN 26 #[.slice none 0 0, .slice none 0 0, .slice none 0 0] → (((wB.setCell ⟨EN, 0, none⟩ (.slice none 0 0)).setCell ⟨EN, 1, none⟩ (.slice none 0 0)).setCell ⟨EN, 2, none⟩ (.slice aB n kB)).cell? ⟨w.heap.size, 0, none⟩ = some (.slice a T.length cp) := fun EN hEN _ => have h := hxB.wrote ((((Keeps.refl (fun k => w.heap.size + 1 ≤ k) wB).setCell (p := ⟨EN, 0, none⟩) (by show w.heap.size + 1 ≤ EN; omega) (.slice none 0 0)).setCell (p := ⟨EN, 1, none⟩) (by show w.heap.size + 1 ≤ EN; omega) (.slice none 0 0)).setCell (p := ⟨EN, 2, none⟩) (by show w.heap.size + 1 ≤ EN; omega) (.slice aB n kB)); h.cell 0; (try have HS := HSof _ (by first | exact hz2' | omega) E); have hxL := hxB; have DL := DB; (try have r0 := Blk.free E 0); (try have r1 := Blk.free E 1); (try have r2 := Blk.free E 2); (try have t0 := Blk.cell E 0); (try have t1 := Blk.cell E 1); (try have t2 := Blk.cell E 2))
        | (go_at_call 84; have hst : Below wB.heap.size wB (wB.alloc (.cells #[.slice none 0 0, .slice none 0 0, .slice none 0 0] 26)) := (Below.refl _ _).alloc (Nat.le_refl _) _; have hsA : wB.heap.size + 1 ≤ (wB.alloc (.cells #[.slice none 0 0, .slice none 0 0, .slice none 0 0] 26)).heap.size := (by simp); have hX := hxB.alloc (.cells #[.slice none 0 0, .slice none 0 0, .slice none 0 0] 26); have oB := oB.below hst (Nat.le_refl _); (with_reducible refine (HA1.out _ (hX.rd h)).mono ?_); rintro e wA ⟨aA, kA, rfl, oA, hq⟩; have rgA := oA.block; have hxA := hX.trans hq; have htA := hq.size; have DA := (DB.stays hst).stays hq; have oB := oB.below hq (Nat.le_refl _); have E := (Blk.new wB 26 #[.slice none 0 0, .slice none 0 0, .slice none 0 0]).stays hq; have HC : wA.cell? ⟨w.heap.size, 0, none⟩ = some (.slice a T.length cp) := hxA.cell 0; have HA : (wA.alloc (.cells #[.slice none 0 0, .slice none 0 0, .slice none 0 0] 26)).cell? ⟨w.heap.size, 0, none⟩ = some (.slice a T.length cp) := (hxA.alloc (.cells #[.slice none 0 0, .slice none 0 0, .slice none 0 0] 26)).cell 0; have HE : (wA.alloc (.cells #[.slice none 0 0, .slice none 0 0, .slice aB n kB] 26)).cell? ⟨w.heap.size, 0, none⟩ = some (.slice a T.length cp) := (hxA.alloc (.cells #[.slice none 0 0, .slice none 0 0, .slice aB n kB] 26)).cell 0; have HSof : ∀ EN : Nat, w.heap.size + 2 ≤ EN → Blk wA EN 26 #[.slice none 0 0, .slice none 0 0, .slice none 0 0] → (((wA.setCell ⟨EN, 0, none⟩ (.slice none 0 0)).setCell ⟨EN, 1, none⟩ (.slice none 0 0)).setCell ⟨EN, 2, none⟩ (.slice aB n kB)).cell? ⟨w.heap.size, 0, none⟩ = some (.slice a T.length cp) := fun EN hEN _ => have h := hxA.wrote ((((Keeps.refl (fun k => w.heap.size + 1 ≤ k) wA).setCell (p := ⟨EN, 0, none⟩) (by show w.heap.size + 1 ≤ EN; omega) (.slice none 0 0)).setCell (p := ⟨EN, 1, none⟩) (by show w.heap.size + 1 ≤ EN; omega) (.slice none 0 0)).setCell (p := ⟨EN, 2, none⟩) (by show w.heap.size + 1 ≤ EN; omega) (.slice aB n kB)); h.cell 0; (try have HS := HSof _ (by first | exact hz2' | omega) E); have hxL := hxA; have DL := DA; (try have r0 := Blk.free E 0); (try have r1 := Blk.free E 1); (try have r2 := Blk.free E 2); (try have t0 := Blk.cell E 0); (try have t1 := Blk.cell E 1); (try have t2 := Blk.cell E 2))
        | (go_at_call 84; have hst : Below w2.heap.size w2 w2.drew := (Below.refl _ _).drew; have hsA : w2.heap.size ≤ w2.drew.heap.size := Nat.le_refl _; have hX := (hx2).trans (show Below w2.heap.size w2 w2.drew from (Below.refl _ _).drew); (with_reducible refine (HA1.out _ (hX.rd h)).mono ?_); rintro e wA ⟨aA, kA, rfl, oA, hq⟩; have rgA := oA.block; have hxA := hX.trans hq; have htA := hq.size; have DA := (D2.stays hst).stays hq; (try have E := Blk.stays E hq); have HC : wA.cell? ⟨w.heap.size, 0, none⟩ = some (.slice a T.length cp) := hxA.cell 0; have HA : (wA.alloc (.cells #[.slice none 0 0, .slice none 0 0, .slice none 0 0] 26)).cell? ⟨w.heap.size, 0, none⟩ = some (.slice a T.length cp) := (hxA.alloc (.cells #[.slice none 0 0, .slice none 0 0, .slice none 0 0] 26)).cell 0; (try have r0 := Blk.free E 0); (try have r1 := Blk.free E 1); (try have r2 := Blk.free E 2); (try have t0 := Blk.cell E 0); (try have t1 := Blk.cell E 1); (try have t2 := Blk.cell E 2))
        | (go_at_call 85; have hst : Below w2.heap.size w2 w2.drew := (Below.refl _ _).drew; have hsB : w2.heap.size ≤ w2.drew.heap.size := Nat.le_refl _; have hX := (hx2).trans (show Below w2.heap.size w2 w2.drew from (Below.refl _ _).drew); (with_reducible refine (HB1.out _ (hX.rd h)).mono ?_); rintro e wB ⟨aB, kB, rfl, oB, hq⟩; have rgB := oB.block; have hxB := hX.trans hq; have htB := hq.size; have DB := (D2.stays hst).stays hq; (try have E := Blk.stays E hq); have HC : wB.cell? ⟨w.heap.size, 0, none⟩ = some (.slice a T.length cp) := hxB.cell 0; have HA : (wB.alloc (.cells #[.slice none 0 0, .slice none 0 0, .slice none 0 0] 26)).cell? ⟨w.heap.size, 0, none⟩ = some (.slice a T.length cp) := (hxB.alloc (.cells #[.slice none 0 0, .slice none 0 0, .slice none 0 0] 26)).cell 0; have HE : (wB.alloc (.cells #[.slice none 0 0, .slice none 0 0, .slice aB n kB] 26)).cell? ⟨w.heap.size, 0, none⟩ = some (.slice a T.length cp) := (hxB.alloc (.cells #[.slice none 0 0, .slice none 0 0, .slice aB n kB] 26)).cell 0; have HSof : ∀ EN : Nat, w.heap.size + 2 ≤ EN → Blk wB EN 26 #[.slice none 0 0, .slice none 0 0, .slice none 0 0] → (((wB.setCell ⟨EN, 0, none⟩ (.slice none 0 0)).setCell ⟨EN, 1, none⟩ (.slice none 0 0)).setCell ⟨EN, 2, none⟩ (.slice aB n kB)).cell? ⟨w.heap.size, 0, none⟩ = some (.slice a T.length cp) := fun EN hEN _ => have h := hxB.wrote ((((Keeps.refl (fun k => w.heap.size + 1 ≤ k) wB).setCell (p := ⟨EN, 0, none⟩) (by show w.heap.size + 1 ≤ EN; omega) (.slice none 0 0)).setCell (p := ⟨EN, 1, none⟩) (by show w.heap.size + 1 ≤ EN; omega) (.slice none 0 0)).setCell (p := ⟨EN, 2, none⟩) (by show w.heap.size + 1 ≤ EN; omega) (.slice aB n kB)); h.cell 0; (try have HS := HSof _ (by first | exact hz2' | omega) E); (try have r0 := Blk.free E 0); (try have r1 := Blk.free E 1); (try have r2 := Blk.free E 2); (try have t0 := Blk.cell E 0); (try have t1 := Blk.cell E 1); (try have t2 := Blk.cell E 2))
        | (go_at_call 84; have hst : Below w2.heap.size w2 (w2.alloc (.cells #[.slice none 0 0, .slice none 0 0, .slice none 0 0] 26)).drew := ((Below.refl _ _).alloc (Nat.le_refl _) _).drew; have hsA : w2.heap.size + 1 ≤ (w2.alloc (.cells #[.slice none 0 0, .slice none 0 0, .slice none 0 0] 26)).drew.heap.size := (by simp); have hX := (hx2.alloc (.cells #[.slice none 0 0, .slice none 0 0, .slice none 0 0] 26)).trans (show Below (w2.alloc (.cells #[.slice none 0 0, .slice none 0 0, .slice none 0 0] 26)).heap.size (w2.alloc (.cells #[.slice none 0 0, .slice none 0 0, .slice none 0 0] 26)) (w2.alloc (.cells #[.slice none 0 0, .slice none 0 0, .slice none 0 0] 26)).drew from (Below.refl _ _).drew); (with_reducible refine (HA1.out _ (hX.rd h)).mono ?_); rintro e wA ⟨aA, kA, rfl, oA, hq⟩; have rgA := oA.block; have hxA := hX.trans hq; have htA := hq.size; have DA := (D2.stays hst).stays hq; have E := ((Blk.new w2 26 #[.slice none 0 0, .slice none 0 0, .slice none 0 0]).drewN 1).stays hq; have HC : wA.cell? ⟨w.heap.size, 0, none⟩ = some (.slice a T.length cp) := hxA.cell 0; have HA : (wA.alloc (.cells #[.slice none 0 0, .slice none 0 0, .slice none 0 0] 26)).cell? ⟨w.heap.size, 0, none⟩ = some (.slice a T.length cp) := (hxA.alloc (.cells #[.slice none 0 0, .slice none 0 0, .slice none 0 0] 26)).cell 0; (try have r0 := Blk.free E 0); (try have r1 := Blk.free E 1); (try have r2 := Blk.free E 2); (try have t0 := Blk.cell E 0); (try have t1 := Blk.cell E 1); (try have t2 := Blk.cell E 2))
        | (go_at_call 85; have hst : Below w2.heap.size w2 (w2.alloc (.cells #[.slice none 0 0, .slice none 0 0, .slice none 0 0] 26)).drew := ((Below.refl _ _).alloc (Nat.le_refl _) _).drew; have hsB : w2.heap.size + 1 ≤ (w2.alloc (.cells #[.slice none 0 0, .slice none 0 0, .slice none 0 0] 26)).drew.heap.size := (by simp); have hX := (hx2.alloc (.cells #[.slice none 0 0, .slice none 0 0, .slice none 0 0] 26)).trans (show Below (w2.alloc (.cells #[.slice none 0 0, .slice none 0 0, .slice none 0 0] 26)).heap.size (w2.alloc (.cells #[.slice none 0 0, .slice none 0 0, .slice none 0 0] 26)) (w2.alloc (.cells #[.slice none 0 0, .slice none 0 0, .slice none 0 0] 26)).drew from (Below.refl _ _).drew); (with_reducible refine (HB1.out _ (hX.rd h)).mono ?_); rintro e wB ⟨aB, kB, rfl, oB, hq⟩; have rgB := oB.block; have hxB := hX.trans hq; have htB := hq.size; have DB := (D2.stays hst).stays hq; have E := ((Blk.new w2 26 #[.slice none 0 0, .slice none 0 0, .slice none 0 0]).drewN 1).stays hq; have HC : wB.cell? ⟨w.heap.size, 0, none⟩ = some (.slice a T.length cp) := hxB.cell 0; have HA : (wB.alloc (.cells #[.slice none 0 0, .slice none 0 0, .slice none 0 0] 26)).cell? ⟨w.heap.size, 0, none⟩ = some (.slice a T.length cp) := (hxB.alloc (.cells #[.slice none 0 0, .slice none 0 0, .slice none 0 0] 26)).cell 0; have HE : (wB.alloc (.cells #[.slice none 0 0, .slice none 0 0, .slice aB n kB] 26)).cell? ⟨w.heap.size, 0, none⟩ = some (.slice a T.length cp) := (hxB.alloc (.cells #[.slice none 0 0, .slice none 0 0, .slice aB n kB] 26)).cell 0; have HSof : ∀ EN : Nat, w.heap.size + 2 ≤ EN → Blk wB EN 26 #[.slice none 0 0, .slice none 0 0, .slice none 0 0] → (((wB.setCell ⟨EN, 0, none⟩ (.slice none 0 0)).setCell ⟨EN, 1, none⟩ (.slice none 0 0)).setCell ⟨EN, 2, none⟩ (.slice aB n kB)).cell? ⟨w.heap.size, 0, none⟩ = some (.slice a T.length cp) := fun EN hEN _ => have h := hxB.wrote ((((Keeps.refl (fun k => w.heap.size + 1 ≤ k) wB).setCell (p := ⟨EN, 0, none⟩) (by show w.heap.size + 1 ≤ EN; omega) (.slice none 0 0)).setCell (p := ⟨EN, 1, none⟩) (by show w.heap.size + 1 ≤ EN; omega) (.slice none 0 0)).setCell (p := ⟨EN, 2, none⟩) (by show w.heap.size + 1 ≤ EN; omega) (.slice aB n kB)); h.cell 0; (try have HS := HSof _ (by first | exact hz2' | omega) E); (try have r0 := Blk.free E 0); (try have r1 := Blk.free E 1); (try have r2 := Blk.free E 2); (try have t0 := Blk.cell E 0); (try have t1 := Blk.cell E 1); (try have t2 := Blk.cell E 2)))
    all_goals
      clear HC HA
      have ra := rgA
      have rb := rgB
      go_wp2
      go_meet
      first
        | (have hE0 := E; exact ⟨_, aA, kA, aB, kB, rfl, rfl, ((E.set 0 _).set 1 _).set 2 _, (((oA.other (fun k hk => by have := ra k hk; omega) 0 _).other (fun k hk => by have := ra k hk; omega) 1 _).other (fun k hk => by have := ra k hk; omega) 2 _).base_le (by omega), (((oB.other (fun k hk => by have := rb k hk; omega) 0 _).other (fun k hk => by have := rb k hk; omega) 1 _).other (fun k hk => by have := rb k hk; omega) 2 _).base_le (by omega), fun q hq => by have := ra q hq; omega, fun q hq => by have := rb q hq; omega, by omega, ((DL.other (by omega) 0 _).other (by omega) 1 _).other (by omega) 2 _, ((hxL.below.setCell (p := ⟨_, 0, none⟩) (by dsimp only; omega) _).setCell (p := ⟨_, 1, none⟩) (by dsimp only; omega) _).setCell (p := ⟨_, 2, none⟩) (by dsimp only; omega) _⟩)
        | exact ⟨_, aA, kA, aB, kB, rfl, rfl, Blk.new _ _ _, (oA.below ((Below.refl _ _).alloc (Nat.le_refl _) _) (Nat.le_refl _)).base_le (by omega), (oB.below ((Below.refl _ _).alloc (Nat.le_refl _) _) (Nat.le_refl _)).base_le (by omega), fun q hq => by have := ra q hq; omega, fun q hq => by have := rb q hq; omega, by omega, DL.alloc _, (hxL.alloc _).below⟩
  case rest =>
    obtain ⟨gb, aK, kK, aM, kM, rfl, rfl, B4, OK, OM, hKg, hMg, hgb, D4, fr4⟩ := hcut
    obtain ⟨wc', hwc'⟩ : ∃ wc' : World, wc = wc' := ⟨_, rfl⟩
    go_wp2_with fail
    have B4' : Blk wc gb 26 #[.slice none 0 0, .slice none 0 0, .slice aM n kM] := B4
    have hcap : ∀ q, (Value.slice (none : Option Addr) 0 0).ownBlock = some q → ∀ q2, (Value.slice (none : Option Addr) 0 0).ownBlock = some q2 → q ≠ q2 := fun q hq => by simp [Value.ownBlock] at hq
    have HCAP := Lib.hid hcap
    have HKG := Lib.hid hKg
    have HMG := Lib.hid hMg
    have HOK := Lib.hid OK
    have HOM := Lib.hid OM
    have hlg := B4.lt
    have hsc : w.heap.size + 2 ≤ wc.heap.size := by omega
    clear hcap hKg hMg OK OM hwc' B4
    go_loopw [7, 8] (fun jv _ wr => ∃ (k : Nat) (aA : Option Addr) (cA : Nat) (aB : Option Addr) (cB : Nat), k ≤ n ∧ jv = .int .i64 (k : Int) ∧ Blk wr gb 26 #[.slice aA k cA, .slice aB k cB, .slice aM n kM] ∧ OwnI wr wc.heap.size (.slice aA k cA) (parL k) ∧ OwnI wr wc.heap.size (.slice aB k cB) (seT M k) ∧ (∀ q, (Value.slice aA k cA).ownBlock = some q → ∀ q2, (Value.slice aB k cB).ownBlock = some q2 → q ≠ q2) ∧ Keeps (fun q => q = gb) wc wr) (fun jv _ _ => n - (intOf jv).toNat)
    case atStart => exact ⟨0, none, 0, none, 0, Nat.zero_le _, rfl, B4', own_nil _ _ _, own_nil _ _ _, HCAP.out, Keeps.refl _ _⟩
    case round =>
      obtain ⟨k, aA, cA, aB, cB, hk, rfl, BB, OA, OB, hap, hkp⟩ := hrel
      clear B4'
      obtain ⟨wo, rfl⟩ : ∃ wo : World, wo = wr := ⟨_, rfl⟩
      have hskp := hkp.size
      by_cases hlt : k < n
      · have dB0 := BB.cell 0
        have fB0 := BB.free 0
        have hlB := BB.lt
        have hbA := OA.block
        have hbB := OB.block
        have HPS := Lib.hid (parL_succ k)
        have HSS := Lib.hid (seT_succ M k)
        have hki : (k : Int) < (n : Int) := by omega
        have wk : IntKind.i64.wrap ((k : Int) - 1) = (k : Int) - 1 := IntWalk.i64_in _ (by omega)
        go_upto_region 6 with (at_builtin; refine wpList_pushL rfl (.tmp 22) (.tmp 25) 24 rfl wc.heap.size 2 i0 Tryz.underlying24 hi hz0 hz1 hz2 (.slice aA k cA) (parL k) ((k : Int) - 1) rfl OA rfl (by simp; omega) hskp ?_; intro g5 c5 w5 hown5 hkp5 hlies5; have d5 : w5.cell? ⟨gb, 0, none⟩ = some (.slice aA k cA) := (hkp5.cell (p := ⟨gb, 0, none⟩) hlB (fun h => by have := (hbA gb h).1; omega)).trans dB0; have f5 : w5.frozen? ⟨gb, 0, none⟩ = false := (hkp5.frozen (p := ⟨gb, 0, none⟩) hlB (fun h => by have := (hbA gb h).1; omega)).trans fB0)
        rw [parL_len, ← HPS.out] at hown5
        have hg5 : wc.heap.size ≤ g5 := (hown5.block g5 rfl).1
        have hap5 : ∀ q, (Value.slice aB k cB).ownBlock = some q → g5 ≠ q := fun q hq => by
          rcases hlies5 with h | h
          · exact hap g5 h q hq
          · have := (hbB q hq).2; omega
        have B6 := (BB.keeps hkp5 (fun h => by have := (hbA gb h).1; omega)).set 0 (.slice (some ⟨g5, 0, none⟩) (k + 1) c5)
        have OA6 := hown5.other (g := gb) (fun q hq => by simp [Value.ownBlock] at hq; omega) 0 (.slice (some ⟨g5, 0, none⟩) (k + 1) c5)
        have OB6 := (OB.keeps hkp5 (fun q hq e => hap q e q hq rfl)).other (g := gb) (fun q hq => by have := (hbB q hq).1; omega) 0 (.slice (some ⟨g5, 0, none⟩) (k + 1) c5)
        have K6 := (hkp.join hkp5 (fun q hq e => by have := (hbA q e).1; omega)).join ((Keeps.refl (fun q => q = gb) w5).setCell (p := ⟨gb, 0, none⟩) rfl (.slice (some ⟨g5, 0, none⟩) (k + 1) c5)) (fun q hq e => e)
        have hs5 := hkp5.size
        have hsz6 : wc.heap.size ≤ (w5.setCell ⟨gb, 0, none⟩ (.slice (some ⟨g5, 0, none⟩) (k + 1) c5)).heap.size := by simp; omega
        have hap6 : ∀ q, (Value.slice aB k cB).ownBlock = some q → q ≠ g5 := fun q hq e => hap5 q hq e.symm
        clear hkp5 hlies5 d5 f5 BB OA OB hkp hown5 dB0 fB0 hbA hbB hap hap5
        generalize w5.setCell ⟨gb, 0, none⟩ (.slice (some ⟨g5, 0, none⟩) (k + 1) c5) = w6 at *
        have dB1 := B6.cell 1
        have fB1 := B6.free 1
        have hlB := B6.lt
        cases k with
        | zero =>
          have hs0 : sI M 0 = -1 := rfl
          rw [hs0] at HSS
          clear hs0
          have wr9 : IntKind.i64.wrap (-1) = -1 := IntWalk.i64_in _ (by omega)
          go_wp2_with (at_builtin; refine wpList_pushL rfl (.tmp 46) (.tmp 48) 24 rfl wc.heap.size 2 i0 Tryz.underlying24 hi hz0 hz1 hz2 (.slice aB 0 cB) (seT M 0) (-1) rfl OB6 rfl (by rw [seT_len]; omega) hsz6 ?_; intro g7 c7 w7 hown7 hkp7 hlies7; have d7 : w7.cell? ⟨gb, 1, none⟩ = some (.slice aB 0 cB) := (hkp7.cell (p := ⟨gb, 1, none⟩) hlB (fun h => by have := (OB6.block gb h).1; omega)).trans dB1; have f7 : w7.frozen? ⟨gb, 1, none⟩ = false := (hkp7.frozen (p := ⟨gb, 1, none⟩) hlB (fun h => by have := (OB6.block gb h).1; omega)).trans fB1)
          rw [seT_len, ← HSS.out] at hown7
          have hl7 : (∀ q, (Value.slice aB 0 cB).ownBlock = some q → q = g7) ∨ w6.heap.size ≤ g7 := hlies7.imp (fun h q hq => by rw [h] at hq; injection hq with hq; exact hq.symm) id
          have hlA6 := (OA6.block g5 rfl).2
          have hbB := OB6.block
          have hgAB7 : g5 ≠ g7 := by
            rcases hlies7 with h | h
            · have := hap6 g7 h; omega
            · omega
          have hgb7 : g7 ≠ gb := by have := (hown7.block g7 rfl).1; omega
          have B8 := (B6.keeps hkp7 (fun h => by have := (OB6.block gb h).1; omega)).set 1 (.slice (some ⟨g7, 0, none⟩) (0 + 1) c7)
          have OB8 := hown7.other (g := gb) (fun q hq => by simp [Value.ownBlock] at hq; omega) 1 (.slice (some ⟨g7, 0, none⟩) (0 + 1) c7)
          have OA8 := (OA6.keeps hkp7 (fun q hq e => by simp [Value.ownBlock] at hq; have := hap6 q e; omega)).other (g := gb) (fun q hq => by simp [Value.ownBlock] at hq; omega) 1 (.slice (some ⟨g7, 0, none⟩) (0 + 1) c7)
          have K8 := (K6.join hkp7 (fun q hq e => by have := (OB6.block q e).1; omega)).join ((Keeps.refl (fun q => q = gb) w7).setCell (p := ⟨gb, 1, none⟩) rfl (.slice (some ⟨g7, 0, none⟩) (0 + 1) c7)) (fun q hq e => e)
          have hapN : ∀ q, (Value.slice (some ⟨g7, 0, none⟩) (0 + 1) c7).ownBlock = some q → q ≠ g5 := fun q hq => by simp [Value.ownBlock] at hq; omega
          have hapN2 : ∀ q, (Value.slice (some ⟨g5, 0, none⟩) (0 + 1) c5).ownBlock = some q → ∀ q2, (Value.slice (some ⟨g7, 0, none⟩) (0 + 1) c7).ownBlock = some q2 → q ≠ q2 := fun q hq q2 hq2 => by simp [Value.ownBlock] at hq hq2; omega
          have HAPN := Lib.hid hapN2
          clear hkp7 hlies7 d7 f7 B6 OA6 OB6 K6 hown7 hapN hapN2 hl7 hbB hap6
          go_wp2
          go_roundw
          case rel => exact ⟨0 + 1, _, c5, _, c7, by omega, by go_num, B8, OA8, OB8, HAPN.out, K8⟩
          case measure => simp [intOf]; omega
        | succ j =>
          obtain ⟨hsy, hsn⟩ := second_cI (M := M) j
          have hOK6 := HOK.out.keeps K6 (fun q hq e => HKG.out q hq e)
          have hOK7 : OwnI w6 (w.heap.size + 2) (.slice aK (codeL M).length kK) (codeL M) := by rw [HKL.out]; exact hOK6
          obtain ⟨gK, cK, hKe, _⟩ := Own.pos hOK7 (by rw [HKL.out]; omega)
          injection hKe with e1 _ e3
          subst e1 e3
          have dK := hOK7.cell j (by rw [HKL.out]; omega)
          rw [gI_codeL (by rw [HML.out]; omega)] at dK
          have j1 : (j : Int) < ((n - 1 : Nat) : Int) := by omega
          have j2 : (0 : Int) ≤ (j : Int) := by omega
          have j3 : ((j + 1 : Nat) : Int) - 1 = (j : Int) := by omega
          have j4 : (j : Int) + 1 - 1 = (j : Int) := by omega
          have j5 : IntKind.i64.wrap (j : Int) = (j : Int) := IntWalk.i64_in _ (by omega)
          have j6 : (0 : Int) < (j : Int) + 1 := by omega
          have j7 : (j : Int) < (n : Int) - 1 := by omega
          clear hOK6 hOK7
          by_cases hs : 0 ≤ sI M (j + 1)
          · obtain ⟨y1, y2, y3, y4⟩ := hsy hs
            have HY2 := Lib.hid y2
            rw [← y2] at HSS
            have hcb : (cI M j == 0) = false := by simpa using y1
            have hcb2 : (cI M j != 0) = true := by simpa using y1
            clear hsy hsn y2 hs
            generalize cI M j = y at *
            have HSE : Hid (((j + 1 : Nat) : Int) - y = (j : Int) + 1 - y) := Lib.hid (by omega)
            rw [HSE.out] at HSS
            clear HY2
            have wr9 : IntKind.i64.wrap ((j : Int) + 1 - y) = (j : Int) + 1 - y := IntWalk.i64_in _ (by omega)
            go_wp2_with (at_builtin; refine wpList_pushL rfl (.tmp 46) (.tmp 48) 24 rfl wc.heap.size 2 i0 Tryz.underlying24 hi hz0 hz1 hz2 (.slice aB (j + 1) cB) (seT M (j + 1)) ((j : Int) + 1 - y) rfl OB6 rfl (by rw [seT_len]; omega) hsz6 ?_; intro g7 c7 w7 hown7 hkp7 hlies7; have d7 : w7.cell? ⟨gb, 1, none⟩ = some (.slice aB (j + 1) cB) := (hkp7.cell (p := ⟨gb, 1, none⟩) hlB (fun h => by have := (OB6.block gb h).1; omega)).trans dB1; have f7 : w7.frozen? ⟨gb, 1, none⟩ = false := (hkp7.frozen (p := ⟨gb, 1, none⟩) hlB (fun h => by have := (OB6.block gb h).1; omega)).trans fB1)
            rw [seT_len, ← HSS.out] at hown7
            have hl7 : (∀ q, (Value.slice aB (j + 1) cB).ownBlock = some q → q = g7) ∨ w6.heap.size ≤ g7 := hlies7.imp (fun h q hq => by rw [h] at hq; injection hq with hq; exact hq.symm) id
            have hlA6 := (OA6.block g5 rfl).2
            have hbB := OB6.block
            have hgAB7 : g5 ≠ g7 := by
              rcases hlies7 with h | h
              · have := hap6 g7 h; omega
              · omega
            have hgb7 : g7 ≠ gb := by have := (hown7.block g7 rfl).1; omega
            have B8 := (B6.keeps hkp7 (fun h => by have := (OB6.block gb h).1; omega)).set 1 (.slice (some ⟨g7, 0, none⟩) (j + 1 + 1) c7)
            have OB8 := hown7.other (g := gb) (fun q hq => by simp [Value.ownBlock] at hq; omega) 1 (.slice (some ⟨g7, 0, none⟩) (j + 1 + 1) c7)
            have OA8 := (OA6.keeps hkp7 (fun q hq e => by simp [Value.ownBlock] at hq; have := hap6 q e; omega)).other (g := gb) (fun q hq => by simp [Value.ownBlock] at hq; omega) 1 (.slice (some ⟨g7, 0, none⟩) (j + 1 + 1) c7)
            have K8 := (K6.join hkp7 (fun q hq e => by have := (OB6.block q e).1; omega)).join ((Keeps.refl (fun q => q = gb) w7).setCell (p := ⟨gb, 1, none⟩) rfl (.slice (some ⟨g7, 0, none⟩) (j + 1 + 1) c7)) (fun q hq e => e)
            have hapN : ∀ q, (Value.slice (some ⟨g7, 0, none⟩) (j + 1 + 1) c7).ownBlock = some q → q ≠ g5 := fun q hq => by simp [Value.ownBlock] at hq; omega
            have hapN2 : ∀ q, (Value.slice (some ⟨g5, 0, none⟩) (j + 1 + 1) c5).ownBlock = some q → ∀ q2, (Value.slice (some ⟨g7, 0, none⟩) (j + 1 + 1) c7).ownBlock = some q2 → q ≠ q2 := fun q hq q2 hq2 => by simp [Value.ownBlock] at hq hq2; omega
            have HAPN := Lib.hid hapN2
            clear hkp7 hlies7 d7 f7 B6 OA6 OB6 K6 hown7 hapN hapN2 hl7 hbB hap6
            go_wp2
            go_roundw
            case rel => exact ⟨j + 1 + 1, _, c5, _, c7, by omega, by go_num, B8, OA8, OB8, HAPN.out, K8⟩
            case measure => simp [intOf]; omega
          · obtain ⟨y1, y2⟩ := hsn hs
            rw [y1] at dK
            rw [y2] at HSS
            clear hsy hsn y1 y2 hs
            have wr9 : IntKind.i64.wrap (-1) = -1 := IntWalk.i64_in _ (by omega)
            go_wp2_with (at_builtin; refine wpList_pushL rfl (.tmp 46) (.tmp 48) 24 rfl wc.heap.size 2 i0 Tryz.underlying24 hi hz0 hz1 hz2 (.slice aB (j + 1) cB) (seT M (j + 1)) (-1) rfl OB6 rfl (by rw [seT_len]; omega) hsz6 ?_; intro g7 c7 w7 hown7 hkp7 hlies7; have d7 : w7.cell? ⟨gb, 1, none⟩ = some (.slice aB (j + 1) cB) := (hkp7.cell (p := ⟨gb, 1, none⟩) hlB (fun h => by have := (OB6.block gb h).1; omega)).trans dB1; have f7 : w7.frozen? ⟨gb, 1, none⟩ = false := (hkp7.frozen (p := ⟨gb, 1, none⟩) hlB (fun h => by have := (OB6.block gb h).1; omega)).trans fB1)
            rw [seT_len, ← HSS.out] at hown7
            have hl7 : (∀ q, (Value.slice aB (j + 1) cB).ownBlock = some q → q = g7) ∨ w6.heap.size ≤ g7 := hlies7.imp (fun h q hq => by rw [h] at hq; injection hq with hq; exact hq.symm) id
            have hlA6 := (OA6.block g5 rfl).2
            have hbB := OB6.block
            have hgAB7 : g5 ≠ g7 := by
              rcases hlies7 with h | h
              · have := hap6 g7 h; omega
              · omega
            have hgb7 : g7 ≠ gb := by have := (hown7.block g7 rfl).1; omega
            have B8 := (B6.keeps hkp7 (fun h => by have := (OB6.block gb h).1; omega)).set 1 (.slice (some ⟨g7, 0, none⟩) (j + 1 + 1) c7)
            have OB8 := hown7.other (g := gb) (fun q hq => by simp [Value.ownBlock] at hq; omega) 1 (.slice (some ⟨g7, 0, none⟩) (j + 1 + 1) c7)
            have OA8 := (OA6.keeps hkp7 (fun q hq e => by simp [Value.ownBlock] at hq; have := hap6 q e; omega)).other (g := gb) (fun q hq => by simp [Value.ownBlock] at hq; omega) 1 (.slice (some ⟨g7, 0, none⟩) (j + 1 + 1) c7)
            have K8 := (K6.join hkp7 (fun q hq e => by have := (OB6.block q e).1; omega)).join ((Keeps.refl (fun q => q = gb) w7).setCell (p := ⟨gb, 1, none⟩) rfl (.slice (some ⟨g7, 0, none⟩) (j + 1 + 1) c7)) (fun q hq e => e)
            have hapN : ∀ q, (Value.slice (some ⟨g7, 0, none⟩) (j + 1 + 1) c7).ownBlock = some q → q ≠ g5 := fun q hq => by simp [Value.ownBlock] at hq; omega
            have hapN2 : ∀ q, (Value.slice (some ⟨g5, 0, none⟩) (j + 1 + 1) c5).ownBlock = some q → ∀ q2, (Value.slice (some ⟨g7, 0, none⟩) (j + 1 + 1) c7).ownBlock = some q2 → q ≠ q2 := fun q hq q2 hq2 => by simp [Value.ownBlock] at hq hq2; omega
            have HAPN := Lib.hid hapN2
            clear hkp7 hlies7 d7 f7 B6 OA6 OB6 K6 hown7 hapN hapN2 hl7 hbB hap6
            go_wp2
            go_roundw
            case rel => exact ⟨j + 1 + 1, _, c5, _, c7, by omega, by go_num, B8, OA8, OB8, HAPN.out, K8⟩
            case measure => simp [intOf]; omega
      · have hke : k = n := by omega
        subst hke
        have fr5 := fr4.trans (hkp.below (B := w.heap.size) (by omega) (fun q hq => by omega))
        have D5 := D4.keeps hkp (by show ¬ w.heap.size + 1 = gb; omega)
        have Q5 := HOM.out.keeps hkp (fun q hq e => HMG.out q hq e)
        have hbA := OA.block
        have hbB := OB.block
        have hbM := HOM.out.block
        have hAB : Apart (.slice aA k cA) (.slice aB k cB) := fun g h1 h2 => hap g h1 g h2 rfl
        have hAM : Apart (.slice aA k cA) (.slice aM k kM) := fun g h1 h2 => by have := (hbA g h1).1; have := (hbM g h2).2; omega
        have hBM : Apart (.slice aB k cB) (.slice aM k kM) := fun g h1 h2 => by have := (hbB g h1).1; have := (hbM g h2).2; omega
        have hse : seT M k = secM M := by have := seT_all M; rw [HML.out] at this; exact this
        rw [hse] at OB
        have hK : Keeps (fun q => q = w.heap.size + 1) wo (((wo.setCell ⟨w.heap.size + 1, 0, none⟩ (.slice aA k cA)).setCell ⟨w.heap.size + 1, 1, none⟩ (.slice aB k cB)).setCell ⟨w.heap.size + 1, 2, none⟩ (.slice aM k kM)) := ((((Keeps.refl (fun q => q = w.heap.size + 1) wo).setCell (p := ⟨w.heap.size + 1, 0, none⟩) rfl _).setCell (p := ⟨w.heap.size + 1, 1, none⟩) rfl _).setCell (p := ⟨w.heap.size + 1, 2, none⟩) rfl _)
        have F := ((D5.set 0 (.slice aA k cA)).set 1 (.slice aB k cB)).set 2 (.slice aM k kM)
        have q0 := F.cell 0
        have q1 := F.cell 1
        have q2 := F.cell 2
        have f0 := D5.free 0
        have f1 := D5.free 1
        have f2 := D5.free 2
        have e0 := D5.cell 0
        have e1 := D5.cell 1
        have e2 := D5.cell 2
        have b0 := BB.cell 0
        have b1 := BB.cell 1
        have b2 := BB.cell 2
        have hlp : (parL k).length = k := parL_len k
        have hls : (secM M).length = k := by rw [secM_len, HML.out]
        have h3 : Own3 2 wo (w.heap.size) (.slice aA k cA) (.slice aB k cB) (.slice aM k kM) (parL k) (secM M) M := ⟨OA.base_le (by omega), OB.base_le (by omega), Q5.base_le (by omega), hAB, hAM, hBM⟩
        have h4 := h3.keeps hK (fun g hg e => by
          rcases hg with hg | hg | hg
          · have := (hbA g hg).1; omega
          · have := (hbB g hg).1; omega
          · have := (hbM g hg).1; omega)
        have hfin : RetCl w (parL k) (secM M) M (.returned (.agg #[.slice aA k cA, .slice aB k cB, .slice aM k kM])) (((wo.setCell ⟨w.heap.size + 1, 0, none⟩ (.slice aA k cA)).setCell ⟨w.heap.size + 1, 1, none⟩ (.slice aB k cB)).setCell ⟨w.heap.size + 1, 2, none⟩ (.slice aM k kM)) := by
          refine ⟨aA, cA, aB, cB, aM, kM, by rw [hlp, hls, HML.out], ?_, fr5.trans (hK.below (B := w.heap.size) (by omega) (fun q hq => by omega))⟩
          rw [hlp, hls, HML.out]
          exact h4
        clear hlp hls h3 h4 hK F hse OA OB Q5 hAB hAM hBM BB hbA hbB hbM hap
        go_wp2
        exact bodyPost_ret (v := .agg #[.slice aA k cA, .slice aB k cB, .slice aM k kM]) (by simp [results, Tryz.results78, go_sem, q0, q1, q2]) rfl hfin
end Go.Proofs.YtglghdkjppcedaaGreatDoor
