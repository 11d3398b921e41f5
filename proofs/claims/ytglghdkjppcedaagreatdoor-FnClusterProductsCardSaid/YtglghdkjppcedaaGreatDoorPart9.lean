/- Contracts: a cluster with other weights. -/
import Derived.Test.YtglghdkjppcedaaGreatDoorPart6
import Derived.Test.YtglghdkjppcedaaGreatDoorPart2
import Derived.Deep.RegionHeld3
namespace Go.Proofs.YtglghdkjppcedaaGreatDoor
open Go.RowKit

/-- A cluster with new points, the weights handed on. -/
def RetW (w : World) (P S : List Int) (v : Value) (e : Ending) (w' : World) : Prop :=
  ∃ a i b j, e = .returned (.agg #[.slice a P.length i, .slice b S.length j, v]) ∧ OwnI w' w.heap.size (.slice a P.length i) P ∧ OwnI w' w.heap.size (.slice b S.length j) S ∧ Apart (.slice a P.length i) (.slice b S.length j) ∧ Below w.heap.size w w'

set_option maxHeartbeats 1000000 in
theorem withWeights_c (p s q : Value) (a4 : Option Addr) (n4 k4 : Nat) (P S W : List Int) (w : World) (hp : Rd w p P) (hs : Rd w s S) (hc : CluOk P S W) :
    Calls Tryz.prog 46 #[.agg #[p, s, q], .slice a4 n4 k4] w (RetW w P S (.slice a4 n4 k4)) := by
  obtain ⟨a1, k1, rfl⟩ := hp.len0
  obtain ⟨a2, k2, rfl⟩ := hs.len0
  have hP := hc.1.1
  have hP2 : P.length ≤ 1000000 := by have := hc.1.2.1; omega
  have hS : 0 < S.length := by have := hc.1; omega
  have hS2 : S.length ≤ 1000000 := by have := hc.1; omega
  have hx := Boxed.start w 26 #[.slice a1 P.length k1, .slice a2 S.length k2, q]
  have hxa := hx.alloc (.cells #[.slice none 0 0, .slice none 0 0, .slice none 0 0] 26)
  have D := Blk.new' (w := w.alloc (.cells #[.slice a1 P.length k1, .slice a2 S.length k2, q] 26)) (t := 26) (cs := #[.slice none 0 0, .slice none 0 0, .slice none 0 0]) (g := w.heap.size + 1) (by simp)
  have c0 := hxa.cell 0
  have c1 := hxa.cell 1
  clear hc hx
  go_enter Tryz.func46, Tryz.ntmps46
  go_wp2_with fail
  clear c0 c1
  have z0 : w.heap.size + 2 ≤ ((w.alloc (.cells #[.slice a1 P.length k1, .slice a2 S.length k2, q] 26)).alloc (.cells #[.slice none 0 0, .slice none 0 0, .slice none 0 0] 26)).heap.size := by simp
  generalize ((w.alloc (.cells #[.slice a1 P.length k1, .slice a2 S.length k2, q] 26)).alloc (.cells #[.slice none 0 0, .slice none 0 0, .slice none 0 0] 26)) = wz at hxa D z0 ⊢
  have hx0 := hxa.trans (Below.refl _ _).drew
  have D0 := D.stays (Below.refl _ _).drew
  have HD : wz.drew.cell? ⟨w.heap.size, 0, none⟩ = some (.slice a1 P.length k1) ∧ wz.drew.cell? ⟨w.heap.size, 1, none⟩ = some (.slice a2 S.length k2) := ⟨hx0.cell 0, hx0.cell 1⟩
  go_region_held3 (fun w' => w'.cell? ⟨w.heap.size, 0, none⟩ = some (.slice a1 P.length k1) ∧ w'.cell? ⟨w.heap.size, 1, none⟩ = some (.slice a2 S.length k2))
    (first | assumption | exact HD | exact HE _ _ _)
    (first
      | (go_at_call 51; (with_reducible refine (clone_c (.slice a1 P.length k1) P _ (hx0.rd hp) hP hP2).mono ?_); rintro e w1 ⟨b1, j1, rfl, ho1, hb1⟩; have hx1 := hx0.trans hb1; have D1 := D0.stays hb1; have HD : w1.cell? ⟨w.heap.size, 0, none⟩ = some (.slice a1 P.length k1) ∧ w1.cell? ⟨w.heap.size, 1, none⟩ = some (.slice a2 S.length k2) := ⟨hx1.cell 0, hx1.cell 1⟩)
      | (go_at_call 51; (with_reducible refine (clone_c (.slice a2 S.length k2) S _ (hx0.rd hs) hS hS2).mono ?_); rintro e w1 ⟨b1, j1, rfl, ho1, hb1⟩; have hx1 := hx0.trans hb1; have D1 := D0.stays hb1; have HD : w1.cell? ⟨w.heap.size, 0, none⟩ = some (.slice a1 P.length k1) ∧ w1.cell? ⟨w.heap.size, 1, none⟩ = some (.slice a2 S.length k2) := ⟨hx1.cell 0, hx1.cell 1⟩)
      | (go_at_call 51; (with_reducible refine (clone_c (.slice a2 S.length k2) S _ (hx1.rd hs) hS hS2).mono ?_); rintro e w2 ⟨b2, j2, rfl, ho2, hb2⟩; have hx2 := hx1.trans hb2; have D2 := D1.stays hb2; have HD : w2.cell? ⟨w.heap.size, 0, none⟩ = some (.slice a1 P.length k1) ∧ w2.cell? ⟨w.heap.size, 1, none⟩ = some (.slice a2 S.length k2) := ⟨hx2.cell 0, hx2.cell 1⟩; have e0 := D2.cell 0; have e1 := D2.cell 1; have e2 := D2.cell 2; have f0 := D2.free 0; have f1 := D2.free 1; have f2 := D2.free 2; have HE : ∀ u0 u1 u2 : Value, (((w2.setCell ⟨w.heap.size + 1, 0, none⟩ u0).setCell ⟨w.heap.size + 1, 1, none⟩ u1).setCell ⟨w.heap.size + 1, 2, none⟩ u2).cell? ⟨w.heap.size, 0, none⟩ = some (.slice a1 P.length k1) ∧ (((w2.setCell ⟨w.heap.size + 1, 0, none⟩ u0).setCell ⟨w.heap.size + 1, 1, none⟩ u1).setCell ⟨w.heap.size + 1, 2, none⟩ u2).cell? ⟨w.heap.size, 1, none⟩ = some (.slice a2 S.length k2) := fun u0 u1 u2 => have h := hx2.wrote ((((Keeps.refl (fun k => w.heap.size + 1 ≤ k) w2).setCell (p := ⟨w.heap.size + 1, 0, none⟩) (Nat.le_refl _) u0).setCell (p := ⟨w.heap.size + 1, 1, none⟩) (Nat.le_refl _) u1).setCell (p := ⟨w.heap.size + 1, 2, none⟩) (Nat.le_refl _) u2); ⟨h.cell 0, h.cell 1⟩)
      | (go_at_call 51; (with_reducible refine (clone_c (.slice a1 P.length k1) P _ (hx1.rd hp) hP hP2).mono ?_); rintro e w2 ⟨b2, j2, rfl, ho2, hb2⟩; have hx2 := hx1.trans hb2; have D2 := D1.stays hb2; have HD : w2.cell? ⟨w.heap.size, 0, none⟩ = some (.slice a1 P.length k1) ∧ w2.cell? ⟨w.heap.size, 1, none⟩ = some (.slice a2 S.length k2) := ⟨hx2.cell 0, hx2.cell 1⟩; have e0 := D2.cell 0; have e1 := D2.cell 1; have e2 := D2.cell 2; have f0 := D2.free 0; have f1 := D2.free 1; have f2 := D2.free 2; have HE : ∀ u0 u1 u2 : Value, (((w2.setCell ⟨w.heap.size + 1, 0, none⟩ u0).setCell ⟨w.heap.size + 1, 1, none⟩ u1).setCell ⟨w.heap.size + 1, 2, none⟩ u2).cell? ⟨w.heap.size, 0, none⟩ = some (.slice a1 P.length k1) ∧ (((w2.setCell ⟨w.heap.size + 1, 0, none⟩ u0).setCell ⟨w.heap.size + 1, 1, none⟩ u1).setCell ⟨w.heap.size + 1, 2, none⟩ u2).cell? ⟨w.heap.size, 1, none⟩ = some (.slice a2 S.length k2) := fun u0 u1 u2 => have h := hx2.wrote ((((Keeps.refl (fun k => w.heap.size + 1 ≤ k) w2).setCell (p := ⟨w.heap.size + 1, 0, none⟩) (Nat.le_refl _) u0).setCell (p := ⟨w.heap.size + 1, 1, none⟩) (Nat.le_refl _) u1).setCell (p := ⟨w.heap.size + 1, 2, none⟩) (Nat.le_refl _) u2); ⟨h.cell 0, h.cell 1⟩))
  · go_wp2
    have F := ((D2.set 0 (.slice b1 P.length j1)).set 1 (.slice b2 S.length j2)).set 2 (.slice a4 n4 k4)
    have q0 := F.cell 0
    have q1 := F.cell 1
    have q2 := F.cell 2
    have hK : Keeps (fun k => k = w.heap.size + 1) w2 (((w2.setCell ⟨w.heap.size + 1, 0, none⟩ (.slice b1 P.length j1)).setCell ⟨w.heap.size + 1, 1, none⟩ (.slice b2 S.length j2)).setCell ⟨w.heap.size + 1, 2, none⟩ (.slice a4 n4 k4)) := ((((Keeps.refl (fun k => k = w.heap.size + 1) w2).setCell (p := ⟨w.heap.size + 1, 0, none⟩) rfl _).setCell (p := ⟨w.heap.size + 1, 1, none⟩) rfl _).setCell (p := ⟨w.heap.size + 1, 2, none⟩) rfl _)
    have zz : wz.heap.size ≤ w1.heap.size := hb1.size
    have z1 := hb2.size
    have oP := ho1.below hb2 (Nat.le_refl _)
    have oS := ho2
    have hz : w.heap.size + 2 ≤ wz.drew.heap.size := z0
    refine bodyPost_ret (v := .agg #[(.slice b1 P.length j1), (.slice b2 S.length j2), .slice a4 n4 k4]) (by simp [results, Tryz.results46, go_sem, q0, q1, q2]) rfl ⟨_, _, _, _, rfl, ?_, ?_, ?_, ?_⟩
    · exact (oP.keeps hK (fun k hk e => by have := (oP.block k hk).1; omega)).base_le (by omega)
    · exact (oS.keeps hK (fun k hk e => by have := (oS.block k hk).1; omega)).base_le (by omega)
    · exact apart_of ho1 ho2 (Nat.le_refl _)
    · exact hx2.below.trans (hK.below (by have := hx2.size; omega) (fun k hk => by omega))
set_option maxHeartbeats 1000000 in
theorem l07With_c (p s q : Value) (a4 : Option Addr) (n4 k4 : Nat) (P S W : List Int) (w : World) (hp : Rd w p P) (hs : Rd w s S) (hc : CluOk P S W) :
    Calls Tryz.prog 41 #[.agg #[p, s, q], .slice a4 n4 k4] w (RetW w P S (.slice a4 n4 k4)) := by
  obtain ⟨a1, k1, rfl⟩ := hp.len0
  obtain ⟨a2, k2, rfl⟩ := hs.len0
  have hP := hc.1.1
  have hP2 : P.length ≤ 1000000 := by have := hc.1.2.1; omega
  have hS : 0 < S.length := by have := hc.1; omega
  have hS2 : S.length ≤ 1000000 := by have := hc.1; omega
  have hx := Boxed.start w 26 #[.slice a1 P.length k1, .slice a2 S.length k2, q]
  have hxa := hx.alloc (.cells #[.slice none 0 0, .slice none 0 0, .slice none 0 0] 26)
  have D := Blk.new' (w := w.alloc (.cells #[.slice a1 P.length k1, .slice a2 S.length k2, q] 26)) (t := 26) (cs := #[.slice none 0 0, .slice none 0 0, .slice none 0 0]) (g := w.heap.size + 1) (by simp)
  have c0 := hxa.cell 0
  have c1 := hxa.cell 1
  clear hc hx
  go_enter Tryz.func41, Tryz.ntmps41
  go_wp2_with fail
  clear c0 c1
  have z0 : w.heap.size + 2 ≤ ((w.alloc (.cells #[.slice a1 P.length k1, .slice a2 S.length k2, q] 26)).alloc (.cells #[.slice none 0 0, .slice none 0 0, .slice none 0 0] 26)).heap.size := by simp
  generalize ((w.alloc (.cells #[.slice a1 P.length k1, .slice a2 S.length k2, q] 26)).alloc (.cells #[.slice none 0 0, .slice none 0 0, .slice none 0 0] 26)) = wz at hxa D z0 ⊢
  have hx0 := hxa.trans (Below.refl _ _).drew
  have D0 := D.stays (Below.refl _ _).drew
  have HD : wz.drew.cell? ⟨w.heap.size, 0, none⟩ = some (.slice a1 P.length k1) ∧ wz.drew.cell? ⟨w.heap.size, 1, none⟩ = some (.slice a2 S.length k2) := ⟨hx0.cell 0, hx0.cell 1⟩
  go_region_held3 (fun w' => w'.cell? ⟨w.heap.size, 0, none⟩ = some (.slice a1 P.length k1) ∧ w'.cell? ⟨w.heap.size, 1, none⟩ = some (.slice a2 S.length k2))
    (first | assumption | exact HD | exact HE _ _ _)
    (first
      | (go_at_call 67; (with_reducible refine (l01Own_c (.slice a1 P.length k1) P _ (hx0.rd hp) hP hP2).mono ?_); rintro e w1 ⟨b1, j1, rfl, ho1, hb1⟩; have hx1 := hx0.trans hb1; have D1 := D0.stays hb1; have HD : w1.cell? ⟨w.heap.size, 0, none⟩ = some (.slice a1 P.length k1) ∧ w1.cell? ⟨w.heap.size, 1, none⟩ = some (.slice a2 S.length k2) := ⟨hx1.cell 0, hx1.cell 1⟩)
      | (go_at_call 67; (with_reducible refine (l01Own_c (.slice a2 S.length k2) S _ (hx0.rd hs) hS hS2).mono ?_); rintro e w1 ⟨b1, j1, rfl, ho1, hb1⟩; have hx1 := hx0.trans hb1; have D1 := D0.stays hb1; have HD : w1.cell? ⟨w.heap.size, 0, none⟩ = some (.slice a1 P.length k1) ∧ w1.cell? ⟨w.heap.size, 1, none⟩ = some (.slice a2 S.length k2) := ⟨hx1.cell 0, hx1.cell 1⟩)
      | (go_at_call 67; (with_reducible refine (l01Own_c (.slice a2 S.length k2) S _ (hx1.rd hs) hS hS2).mono ?_); rintro e w2 ⟨b2, j2, rfl, ho2, hb2⟩; have hx2 := hx1.trans hb2; have D2 := D1.stays hb2; have HD : w2.cell? ⟨w.heap.size, 0, none⟩ = some (.slice a1 P.length k1) ∧ w2.cell? ⟨w.heap.size, 1, none⟩ = some (.slice a2 S.length k2) := ⟨hx2.cell 0, hx2.cell 1⟩; have e0 := D2.cell 0; have e1 := D2.cell 1; have e2 := D2.cell 2; have f0 := D2.free 0; have f1 := D2.free 1; have f2 := D2.free 2; have HE : ∀ u0 u1 u2 : Value, (((w2.setCell ⟨w.heap.size + 1, 0, none⟩ u0).setCell ⟨w.heap.size + 1, 1, none⟩ u1).setCell ⟨w.heap.size + 1, 2, none⟩ u2).cell? ⟨w.heap.size, 0, none⟩ = some (.slice a1 P.length k1) ∧ (((w2.setCell ⟨w.heap.size + 1, 0, none⟩ u0).setCell ⟨w.heap.size + 1, 1, none⟩ u1).setCell ⟨w.heap.size + 1, 2, none⟩ u2).cell? ⟨w.heap.size, 1, none⟩ = some (.slice a2 S.length k2) := fun u0 u1 u2 => have h := hx2.wrote ((((Keeps.refl (fun k => w.heap.size + 1 ≤ k) w2).setCell (p := ⟨w.heap.size + 1, 0, none⟩) (Nat.le_refl _) u0).setCell (p := ⟨w.heap.size + 1, 1, none⟩) (Nat.le_refl _) u1).setCell (p := ⟨w.heap.size + 1, 2, none⟩) (Nat.le_refl _) u2); ⟨h.cell 0, h.cell 1⟩)
      | (go_at_call 67; (with_reducible refine (l01Own_c (.slice a1 P.length k1) P _ (hx1.rd hp) hP hP2).mono ?_); rintro e w2 ⟨b2, j2, rfl, ho2, hb2⟩; have hx2 := hx1.trans hb2; have D2 := D1.stays hb2; have HD : w2.cell? ⟨w.heap.size, 0, none⟩ = some (.slice a1 P.length k1) ∧ w2.cell? ⟨w.heap.size, 1, none⟩ = some (.slice a2 S.length k2) := ⟨hx2.cell 0, hx2.cell 1⟩; have e0 := D2.cell 0; have e1 := D2.cell 1; have e2 := D2.cell 2; have f0 := D2.free 0; have f1 := D2.free 1; have f2 := D2.free 2; have HE : ∀ u0 u1 u2 : Value, (((w2.setCell ⟨w.heap.size + 1, 0, none⟩ u0).setCell ⟨w.heap.size + 1, 1, none⟩ u1).setCell ⟨w.heap.size + 1, 2, none⟩ u2).cell? ⟨w.heap.size, 0, none⟩ = some (.slice a1 P.length k1) ∧ (((w2.setCell ⟨w.heap.size + 1, 0, none⟩ u0).setCell ⟨w.heap.size + 1, 1, none⟩ u1).setCell ⟨w.heap.size + 1, 2, none⟩ u2).cell? ⟨w.heap.size, 1, none⟩ = some (.slice a2 S.length k2) := fun u0 u1 u2 => have h := hx2.wrote ((((Keeps.refl (fun k => w.heap.size + 1 ≤ k) w2).setCell (p := ⟨w.heap.size + 1, 0, none⟩) (Nat.le_refl _) u0).setCell (p := ⟨w.heap.size + 1, 1, none⟩) (Nat.le_refl _) u1).setCell (p := ⟨w.heap.size + 1, 2, none⟩) (Nat.le_refl _) u2); ⟨h.cell 0, h.cell 1⟩))
  · go_wp2
    have F := ((D2.set 0 (.slice b1 P.length j1)).set 1 (.slice b2 S.length j2)).set 2 (.slice a4 n4 k4)
    have q0 := F.cell 0
    have q1 := F.cell 1
    have q2 := F.cell 2
    have hK : Keeps (fun k => k = w.heap.size + 1) w2 (((w2.setCell ⟨w.heap.size + 1, 0, none⟩ (.slice b1 P.length j1)).setCell ⟨w.heap.size + 1, 1, none⟩ (.slice b2 S.length j2)).setCell ⟨w.heap.size + 1, 2, none⟩ (.slice a4 n4 k4)) := ((((Keeps.refl (fun k => k = w.heap.size + 1) w2).setCell (p := ⟨w.heap.size + 1, 0, none⟩) rfl _).setCell (p := ⟨w.heap.size + 1, 1, none⟩) rfl _).setCell (p := ⟨w.heap.size + 1, 2, none⟩) rfl _)
    have zz : wz.heap.size ≤ w1.heap.size := hb1.size
    have z1 := hb2.size
    have oP := ho1.below hb2 (Nat.le_refl _)
    have oS := ho2
    have hz : w.heap.size + 2 ≤ wz.drew.heap.size := z0
    refine bodyPost_ret (v := .agg #[(.slice b1 P.length j1), (.slice b2 S.length j2), .slice a4 n4 k4]) (by simp [results, Tryz.results41, go_sem, q0, q1, q2]) rfl ⟨_, _, _, _, rfl, ?_, ?_, ?_, ?_⟩
    · exact (oP.keeps hK (fun k hk e => by have := (oP.block k hk).1; omega)).base_le (by omega)
    · exact (oS.keeps hK (fun k hk e => by have := (oS.block k hk).1; omega)).base_le (by omega)
    · exact apart_of ho1 ho2 (Nat.le_refl _)
    · exact hx2.below.trans (hK.below (by have := hx2.size; omega) (fun k hk => by omega))

/-- A cluster and a code are handed back; the cluster's lists lie from the block 'base' on. -/
def RetCX (base : Nat) (w : World) (xs ys zs : List Int) (c : Int) (e : Ending) (w' : World) : Prop :=
  ∃ a i b j d k, e = .returned (.tuple #[.agg #[.slice a xs.length i, .slice b ys.length j, .slice d zs.length k], .int .i64 c]) ∧
    Own3 2 w' base (.slice a xs.length i) (.slice b ys.length j) (.slice d zs.length k) xs ys zs ∧ Below w.heap.size w w'
theorem own3_nil (e : TypeId) (w : World) (base : Nat) : Own3 e w base (.slice none 0 0) (.slice none 0 0) (.slice none 0 0) [] [] [] :=
  ⟨own_nil _ _ _, own_nil _ _ _, own_nil _ _ _, fun k hk => by simp [Value.ownBlock] at hk, fun k hk => by simp [Value.ownBlock] at hk, fun k hk => by simp [Value.ownBlock] at hk⟩
theorem cluB_with {P S W L : List Int} (hc : CluOk P S W) (hl : L.length = P.length) : cluB P S L = allIn L (-100000) 100000 := by
  by_cases h : ∀ i, i < L.length → -100000 ≤ gI L i ∧ gI L i ≤ 100000
  · rw [allIn_iff.2 h]
    exact cluB_iff.2 ⟨⟨hc.1.1, hc.1.2.1, hc.1.2.2.1, hl⟩, h, hc.2.2⟩
  · rw [cluB_no (fun h' => h h'.2.1)]
    cases e : allIn L (-100000) 100000
    · rfl
    · exact absurd (allIn_iff.1 e) h

set_option maxHeartbeats 1000000 in
theorem checkedWeights_c (p s q : Value) (a4 : Option Addr) (k4 : Nat) (P S W L : List Int) (base : Nat) (w : World) (hp : Rd w p P) (hs : Rd w s S) (hc : CluOk P S W) (hL : OwnI w base (.slice a4 L.length k4) L) (hB : base ≤ w.heap.size) :
    Calls Tryz.prog 34 #[.agg #[p, s, q], .slice a4 L.length k4] w (RetCX base w (okL (allIn L (-100000) 100000) P) (okL (allIn L (-100000) 100000) S) (okL (allIn L (-100000) 100000) L) (okC (allIn L (-100000) 100000) 3)) := by
  have hx := Boxed.start w 26 #[p, s, q]
  have hxa := hx.alloc (.cells #[.slice none 0 0, .slice none 0 0, .slice none 0 0] 26)
  have D := Blk.new' (w := w.alloc (.cells #[p, s, q] 26)) (t := 26) (cs := #[.slice none 0 0, .slice none 0 0, .slice none 0 0]) (g := w.heap.size + 1) (by simp)
  cases hb : allIn L (-100000) 100000
  · rw [okL_false rfl, okL_false rfl, okL_false rfl, okC_false rfl]
    have f0 := D.free 0
    have f1 := D.free 1
    have f2 := D.free 2
    have e0 := D.cell 0
    have e1 := D.cell 1
    have e2 := D.cell 2
    go_enter Tryz.func34, Tryz.ntmps34
    go_wp2_with fail
    refine (within_c _ L _ _ _ (hxa.rd hL.rd)).mono ?_
    rintro e w1 ⟨rfl, rfl⟩
    rw [hb]
    go_wp2
    have q0 := D.cell 0
    have q1 := D.cell 1
    have q2 := D.cell 2
    refine bodyPost_ret (v := .tuple #[.agg #[.slice none 0 0, .slice none 0 0, .slice none 0 0], .int .i64 3]) (by simp [results, Tryz.results34, go_sem, q0, q1, q2]) rfl ⟨none, 0, none, 0, none, 0, rfl, own3_nil _ _ _, hxa.below⟩
  · rw [okL_true rfl, okL_true rfl, okL_true rfl, okC_true rfl]
    have c0 := hxa.cell 0
    have c1 := hxa.cell 1
    have c2 := hxa.cell 2
    go_enter Tryz.func34, Tryz.ntmps34
    go_wp2_with fail
    refine (within_c _ L _ _ _ (hxa.rd hL.rd)).mono ?_
    rintro e w1 ⟨rfl, rfl⟩
    rw [hb]
    go_wp2_with fail
    refine (withWeights_c p s q a4 L.length k4 P S W _ (hxa.rd hp) (hxa.rd hs) hc).mono ?_
    rintro e w2 ⟨b1, j1, b2, j2, rfl, o1, o2, ap, hb2⟩
    have D2 := D.stays hb2
    have o3 := (hL.below hxa.below (Nat.le_refl _)).below hb2 (Nat.le_refl _)
    have f0 := D2.free 0
    have f1 := D2.free 1
    have f2 := D2.free 2
    have e0 := D2.cell 0
    have e1 := D2.cell 1
    have e2 := D2.cell 2
    have hx2 := hxa.trans hb2
    have b3 := (hL.below hxa.below (Nat.le_refl _)).block
    clear c0 c1 c2
    go_wp2
    have F := ((D2.set 0 (.slice b1 P.length j1)).set 1 (.slice b2 S.length j2)).set 2 (.slice a4 L.length k4)
    have q0 := F.cell 0
    have q1 := F.cell 1
    have q2 := F.cell 2
    have hK : Keeps (fun k => k = w.heap.size + 1) w2 (((w2.setCell ⟨w.heap.size + 1, 0, none⟩ (.slice b1 P.length j1)).setCell ⟨w.heap.size + 1, 1, none⟩ (.slice b2 S.length j2)).setCell ⟨w.heap.size + 1, 2, none⟩ (.slice a4 L.length k4)) := ((((Keeps.refl (fun k => k = w.heap.size + 1) w2).setCell (p := ⟨w.heap.size + 1, 0, none⟩) rfl _).setCell (p := ⟨w.heap.size + 1, 1, none⟩) rfl _).setCell (p := ⟨w.heap.size + 1, 2, none⟩) rfl _)
    have z0 : ((w.alloc (.cells #[p, s, q] 26)).alloc (.cells #[.slice none 0 0, .slice none 0 0, .slice none 0 0] 26)).heap.size = w.heap.size + 2 := by simp
    rw [z0] at o1 o2
    have b4 := hL.block
    refine bodyPost_ret (v := .tuple #[.agg #[.slice b1 P.length j1, .slice b2 S.length j2, .slice a4 L.length k4], .int .i64 0]) (by simp [results, Tryz.results34, go_sem, q0, q1, q2]) rfl ⟨_, _, _, _, _, _, rfl, ⟨?_, ?_, ?_, ap, ?_, ?_⟩, ?_⟩
    · exact (o1.keeps hK (fun k hk e => by have := (o1.block k hk).1; omega)).base_le (by omega)
    · exact (o2.keeps hK (fun k hk e => by have := (o2.block k hk).1; omega)).base_le (by omega)
    · exact o3.keeps hK (fun k hk e => by have := (b4 k hk).2; omega)
    · intro k h1 h2; have := (o1.block k h1).1; have := (b4 k h2).2; omega
    · intro k h1 h2; have := (o2.block k h1).1; have := (b4 k h2).2; omega
    · exact hx2.below.trans (hK.below (by have := hx2.size; omega) (fun k hk => by omega))

theorem checkedWeightsN_c (n : Nat) (p s q : Value) (a4 : Option Addr) (k4 : Nat) (P S W L : List Int) (base : Nat) (w : World) (hp : Rd w p P) (hs : Rd w s S) (hc : CluOk P S W) (hL : OwnI w base (.slice a4 n k4) L) (hB : base ≤ w.heap.size) (hn : L.length = n) :
    Calls Tryz.prog 34 #[.agg #[p, s, q], .slice a4 n k4] w (RetCX base w (okL (allIn L (-100000) 100000) P) (okL (allIn L (-100000) 100000) S) (okL (allIn L (-100000) 100000) L) (okC (allIn L (-100000) 100000) 3)) := by
  subst hn; exact checkedWeights_c p s q a4 k4 P S W L base w hp hs hc hL hB
/-- A list of a known length is handed back. -/
def RetL (n : Nat) (w : World) (xs : List Int) (e : Ending) (w' : World) : Prop :=
  ∃ a k, e = .returned (.slice a n k) ∧ OwnI w' w.heap.size (.slice a n k) xs ∧ Below w.heap.size w w'
theorem retL_of {n : Nat} {w w' : World} {xs : List Int} {e : Ending} (h : RetI w xs e w') (hn : xs.length = n) : RetL n w xs e w' := by
  subst hn; exact h
set_option maxHeartbeats 1000000 in
theorem l07Fit_no (p s q : Value) (P S L : List Int) (w : World) (h1 : Rd w p P) (h2 : Rd w s S) (h3 : Rd w q L) (hb : cluB P S L = false) :
    Calls Tryz.prog 40 #[.agg #[p, s, q]] w fun e w' => e = .returned (.tuple #[.agg #[.slice none 0 0, .slice none 0 0, .slice none 0 0], .int .i64 3]) ∧ Below w.heap.size w w' := by
  obtain ⟨a1, k1, rfl⟩ := h1.len0
  obtain ⟨a2, k2, rfl⟩ := h2.len0
  obtain ⟨a3, k3, rfl⟩ := h3.len0
  have hx := Boxed.start w 26 #[.slice a1 P.length k1, .slice a2 S.length k2, .slice a3 L.length k3]
  have hxa := hx.alloc (.cells #[.slice none 0 0, .slice none 0 0, .slice none 0 0] 26)
  have D := Blk.new' (w := w.alloc (.cells #[.slice a1 P.length k1, .slice a2 S.length k2, .slice a3 L.length k3] 26)) (t := 26) (cs := #[.slice none 0 0, .slice none 0 0, .slice none 0 0]) (g := w.heap.size + 1) (by simp)
  have c0 := hxa.cell 0
  have c1 := hxa.cell 1
  have c2 := hxa.cell 2
  go_enter Tryz.func40, Tryz.ntmps40
  go_wp2_with fail
  refine (l07Is_c _ _ _ P S L _ (hxa.rd h1) (hxa.rd h2) (hxa.rd h3)).mono ?_
  rintro e w1 ⟨rfl, hb1⟩
  rw [hb]
  have D1 := D.stays hb1
  have f0 := D1.free 0
  have f1 := D1.free 1
  have f2 := D1.free 2
  have e0 := D1.cell 0
  have e1 := D1.cell 1
  have e2 := D1.cell 2
  clear c0 c1 c2
  go_wp2
  have F := ((D1.set 0 (.slice none 0 0)).set 1 (.slice none 0 0)).set 2 (.slice none 0 0)
  have q0 := F.cell 0
  have q1 := F.cell 1
  have q2 := F.cell 2
  refine bodyPost_ret (v := .tuple #[.agg #[.slice none 0 0, .slice none 0 0, .slice none 0 0], .int .i64 3]) (by simp [results, Tryz.results40, go_sem, q0, q1, q2]) rfl ⟨rfl, ?_⟩
  exact (((hxa.trans hb1).below.setCell (p := ⟨w.heap.size + 1, 0, none⟩) (Nat.le_succ _) _).setCell (p := ⟨w.heap.size + 1, 1, none⟩) (Nat.le_succ _) _).setCell (p := ⟨w.heap.size + 1, 2, none⟩) (Nat.le_succ _) _


set_option maxHeartbeats 1000000 in
theorem l07Fit_yes (p s q : Value) (P S L : List Int) (w : World) (h1 : Rd w p P) (h2 : Rd w s S) (h3 : Rd w q L) (hb : cluB P S L = true) :
    Calls Tryz.prog 40 #[.agg #[p, s, q]] w fun e w' => e = .returned (.tuple #[.agg #[p, s, q], .int .i64 0]) ∧ Below w.heap.size w w' := by
  obtain ⟨a1, k1, rfl⟩ := h1.len0
  obtain ⟨a2, k2, rfl⟩ := h2.len0
  obtain ⟨a3, k3, rfl⟩ := h3.len0
  have hx := Boxed.start w 26 #[.slice a1 P.length k1, .slice a2 S.length k2, .slice a3 L.length k3]
  have hxa := hx.alloc (.cells #[.slice none 0 0, .slice none 0 0, .slice none 0 0] 26)
  have D := Blk.new' (w := w.alloc (.cells #[.slice a1 P.length k1, .slice a2 S.length k2, .slice a3 L.length k3] 26)) (t := 26) (cs := #[.slice none 0 0, .slice none 0 0, .slice none 0 0]) (g := w.heap.size + 1) (by simp)
  have c0 := hxa.cell 0
  have c1 := hxa.cell 1
  have c2 := hxa.cell 2
  go_enter Tryz.func40, Tryz.ntmps40
  go_wp2_with fail
  refine (l07Is_c _ _ _ P S L _ (hxa.rd h1) (hxa.rd h2) (hxa.rd h3)).mono ?_
  rintro e w1 ⟨rfl, hb1⟩
  rw [hb]
  have hx1 := hxa.trans hb1
  have D1 := D.stays hb1
  have f0 := D1.free 0
  have f1 := D1.free 1
  have f2 := D1.free 2
  have e0 := D1.cell 0
  have e1 := D1.cell 1
  have e2 := D1.cell 2
  clear c0 c1 c2
  have c0 := hx1.cell 0
  have c1 := hx1.cell 1
  have c2 := hx1.cell 2
  go_wp2
  have F := ((D1.set 0 (.slice a1 P.length k1)).set 1 (.slice a2 S.length k2)).set 2 (.slice a3 L.length k3)
  have q0 := F.cell 0
  have q1 := F.cell 1
  have q2 := F.cell 2
  have hK : Keeps (fun k => k = w.heap.size + 1) w1 (((w1.setCell ⟨w.heap.size + 1, 0, none⟩ (.slice a1 P.length k1)).setCell ⟨w.heap.size + 1, 1, none⟩ (.slice a2 S.length k2)).setCell ⟨w.heap.size + 1, 2, none⟩ (.slice a3 L.length k3)) := ((((Keeps.refl (fun k => k = w.heap.size + 1) w1).setCell (p := ⟨w.heap.size + 1, 0, none⟩) rfl _).setCell (p := ⟨w.heap.size + 1, 1, none⟩) rfl _).setCell (p := ⟨w.heap.size + 1, 2, none⟩) rfl _)
  refine bodyPost_ret (v := .tuple #[.agg #[.slice a1 P.length k1, .slice a2 S.length k2, .slice a3 L.length k3], .int .i64 0]) (by simp [results, Tryz.results40, go_sem, q0, q1, q2]) rfl ⟨rfl, ?_⟩
  exact hx1.below.trans (hK.below (by have := hx1.size; omega) (fun k hk => by omega))


theorem retCC_len {w w' : World} {a b d : Option Addr} {i j k n : Nat} {xs ys zs : List Int} {c : Int} (hn : zs.length = n) (h : Own3 2 w' w.heap.size (.slice a xs.length i) (.slice b ys.length j) (.slice d n k) xs ys zs) (hb : Below w.heap.size w w') :
    RetCC w xs ys zs c (.returned (.tuple #[.agg #[.slice a xs.length i, .slice b ys.length j, .slice d n k], .int .i64 c])) w' := by
  subst hn
  exact ⟨_, _, _, _, _, _, rfl, h, hb⟩
/-- A part of a slice behind a test. -/
def oA (b : Bool) (a : Option Addr) : Option Addr := if b then a else none
def oN (b : Bool) (n : Nat) : Nat := if b then n else 0
theorem own_fit {e : TypeId} {w : World} {base : Nat} {a : Option Addr} {n k : Nat} {xs : List Int} (b : Bool) (h : Own e w base (.slice a n k) xs) : Own e w base (.slice (oA b a) (oN b n) (oN b k)) (okL b xs) := by
  cases b
  · exact own_nil _ _ _
  · exact h
theorem apart_fit {a a' : Option Addr} {n k n' k' : Nat} (b : Bool) (h : Apart (.slice a n k) (.slice a' n' k')) : Apart (.slice (oA b a) (oN b n) (oN b k)) (.slice (oA b a') (oN b n') (oN b k')) := by
  cases b
  · intro g hg; simp [oA, Value.ownBlock] at hg
  · exact h
theorem own3_fit {e : TypeId} {w : World} {base : Nat} {a a' a'' : Option Addr} {n k n' k' n'' k'' : Nat} {xs ys zs : List Int} (b : Bool) (h : Own3 e w base (.slice a n k) (.slice a' n' k') (.slice a'' n'' k'') xs ys zs) :
    Own3 e w base (.slice (oA b a) (oN b n) (oN b k)) (.slice (oA b a') (oN b n') (oN b k')) (.slice (oA b a'') (oN b n'') (oN b k'')) (okL b xs) (okL b ys) (okL b zs) :=
  ⟨own_fit b h.a, own_fit b h.b, own_fit b h.c, apart_fit b h.ab, apart_fit b h.ac, apart_fit b h.bc⟩
theorem l07Fit_v (b : Bool) (a1 a2 a3 : Option Addr) (n k1 k2 k3 : Nat) (P S L : List Int) (w : World) (h1 : Rd w (.slice a1 P.length k1) P) (h2 : Rd w (.slice a2 S.length k2) S) (h3 : Rd w (.slice a3 n k3) L) (_ : L.length = n) (hb : cluB P S L = b) :
    Calls Tryz.prog 40 #[.agg #[.slice a1 P.length k1, .slice a2 S.length k2, .slice a3 n k3]] w fun e w' =>
      e = .returned (.tuple #[.agg #[.slice (oA b a1) (oN b P.length) (oN b k1), .slice (oA b a2) (oN b S.length) (oN b k2), .slice (oA b a3) (oN b n) (oN b k3)], .int .i64 (okC b 3)]) ∧ Below w.heap.size w w' := by
  cases b
  · exact l07Fit_no _ _ _ P S L w h1 h2 h3 hb
  · exact l07Fit_yes _ _ _ P S L w h1 h2 h3 hb
theorem retCC_fit {w w' : World} {a b d : Option Addr} {i j k n : Nat} {xs ys zs : List Int} {c : Int} {f : Bool} (hn : zs.length = n) (h : Own3 2 w' w.heap.size (.slice (oA f a) (oN f xs.length) (oN f i)) (.slice (oA f b) (oN f ys.length) (oN f j)) (.slice (oA f d) (oN f n) (oN f k)) (okL f xs) (okL f ys) (okL f zs)) (hb : Below w.heap.size w w') :
    RetCC w (okL f xs) (okL f ys) (okL f zs) c (.returned (.tuple #[.agg #[.slice (oA f a) (oN f xs.length) (oN f i), .slice (oA f b) (oN f ys.length) (oN f j), .slice (oA f d) (oN f n) (oN f k)], .int .i64 c])) w' := by
  subst hn
  cases f
  · exact ⟨_, _, _, _, _, _, rfl, h, hb⟩
  · exact ⟨_, _, _, _, _, _, rfl, h, hb⟩
end Go.Proofs.YtglghdkjppcedaaGreatDoor
