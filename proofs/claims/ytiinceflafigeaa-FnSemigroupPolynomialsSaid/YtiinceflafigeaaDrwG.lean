/- Contracts: the draws of chapter 5, by what is needed of them. -/
import Derived.Test.YtiinceflafigeaaDrwB
import Derived.Deep.RegionHeld3
namespace Go.Proofs.Ytiinceflafigeaa
open Go.RowKit

set_option maxRecDepth 100000 in
set_option maxHeartbeats 8000000 in
theorem drawIsValue_w (v : Value) (C : List Int) (w : World) (h : Rd8 w v C) :
    Calls Try.prog 135 #[v] w (RetBN (-1) 20001 w) := by
  have D := Blk.new w 26 #[.slice none 0 0]
  have hal : Below w.heap.size w (w.alloc (.cells #[.slice none 0 0] 26)) := (Below.refl _ _).alloc (Nat.le_refl _) _
  have h1 := h.below hal (Nat.le_refl _)
  go_enter Try.func135, Try.ntmps135
  go_wp2_with fail
  generalize w.alloc (.cells #[.slice none 0 0] 26) = w0 at *
  refine (from_w v C _ h1).mono ?_
  rintro e w1 ⟨g, rfl, hg, s1, hb1⟩
  have hs0 : w.heap.size < w0.heap.size := D.lt
  have D1 := D.stays hb1
  have hB1 := hal.trans (hb1.mono hal.size)
  clear h h1 hal hb1 D
  go_wp2_with fail
  refine (spoil_w g _ s1).mono ?_
  rintro e w2 ⟨u, xs, rfl, hr2, hl2, hx8, s2, hk2⟩
  have D2 := D1.keeps hk2 (by omega)
  have hB2 := keeps_draw hB1 (by omega) hk2
  have hg1 : g < w1.heap.size := s1.lt
  have hs2 := hk2.size
  clear s1 D1 hB1 hk2
  obtain ⟨ua, uk, rfl⟩ := hr2.len0
  have hal : Below w2.heap.size w2 (w2.alloc (.cells #[.slice ua xs.length uk] 26)) := (Below.refl _ _).alloc (Nat.le_refl _) _
  have B3 := (Blk.new w2 26 #[.slice ua xs.length uk]).drewN 1
  have D3 := (D2.stays hal).drewN 1
  have s3 := s2.below hal.drew
  have hr3 := hr2.below hal.drew (Nat.le_refl _)
  have hB3 := hB2.trans (hal.drew.mono hB2.size)
  have hl3 : ∀ b, (Value.slice ua xs.length uk).ownBlock = some b → w1.heap.size ≤ b ∧ b < w2.heap.size := hl2
  clear s2 D2 hr2 hB2 hal hl2
  go_upto_region 3 with fail
  have hs3 : w2.heap.size + 1 ≤ (w2.alloc (.cells #[.slice ua xs.length uk] 26)).drew.heap.size := by simp
  have HC : (w2.alloc (.cells #[.slice ua xs.length uk] 26)).drew.cell? ⟨w2.heap.size, 0, none⟩ = some (.slice ua xs.length uk) := B3.cell 0
  go_region_held3 (fun X => X.cell? ⟨w2.heap.size, 0, none⟩ = some (.slice ua xs.length uk))
    (first | assumption | exact HCA _ | exact HCS _ | exact HC)
    (first
      | (go_at_call 151; (with_reducible refine (next_w g 30 _ s3 (by omega) (by omega)).mono ?_); rintro e w4 ⟨x, rfl, hx0, hx1, s4, hk4⟩; have hz4 := Nat.le_trans hs3 hk4.size; have B4 := B3.keeps hk4 (by omega); have HC4 := B4.cell 0)
      | (go_at_call 151; (with_reducible refine (next_w g 100 _ s4 (by omega) (by omega)).mono ?_); rintro e w5 ⟨y, rfl, hy0, hy1, s5, hk5⟩; have hz5 := Nat.le_trans hz4 hk5.size; have B5 := B4.keeps hk5 (by omega); have HC5 := B5.cell 0)
      | (go_at_call 151; (with_reducible refine (next_w g 300 _ s5 (by omega) (by omega)).mono ?_); rintro e w6 ⟨z, rfl, hz0, hz1, s6, hk6⟩; have hz6 := Nat.le_trans hz5 hk6.size; have B6 := B5.keeps hk6 (by omega); have HC6 := B6.cell 0; have HCA : ∀ o, (w6.alloc o).cell? ⟨w2.heap.size, 0, none⟩ = some (.slice ua xs.length uk) := fun o => (B6.alloc o).cell 0; have s7 := s6.below ((Below.refl _ _).alloc (Nat.le_refl _) (.cells #[.int .i64 x, .int .i64 y, .int .i64 z, .int .i64 20000, .int .i64 20001, .int .i64 (-1)] 2)); have hr7 : Rd (w6.alloc (.cells #[.int .i64 x, .int .i64 y, .int .i64 z, .int .i64 20000, .int .i64 20001, .int .i64 (-1)] 2)) (.slice (some ⟨w6.heap.size, 0, none⟩) 6 6) [x, y, z, 20000, 20001, -1] := rd_news w6 2 [x, y, z, 20000, 20001, -1] (by simp))
      | (go_at_call 158; (with_reducible refine (pick_w g _ [x, y, z, 20000, 20001, -1] _ s7 hr7 (by simp) (by simp) (fun b off e => by injection e with e; injection e with e; injection e; omega) ⟨_, rfl⟩).mono ?_); rintro e w8 ⟨j, hj, rfl, s8, hk8⟩; have hp := pick_all (P := fun n => -1 ≤ n ∧ n ≤ 20001) hj (fun n hn => by simp at hn; omega); have hal6 : ∀ o, Below w6.heap.size w6 (w6.alloc o) := (fun o => (Below.refl _ _).alloc (Nat.le_refl _) o); have K := ((hk4.trans (hk5.trans hk6)).trans (Keeps.of_below (hal6 _))).trans hk8; have B8 := B3.keeps K (by omega); have D8 := D3.keeps K (by omega); have hr8 := hr3.keeps K (fun b hb => by have := (hl3 b hb).1; omega); have hB8 := keeps_draw hB3 (by omega) K; have HC8 := B8.cell 0; have e8 := D8.cell 0; have f8 := D8.free 0; have HCS : ∀ q, (w8.setCell ⟨w.heap.size, 0, none⟩ q).cell? ⟨w2.heap.size, 0, none⟩ = some (.slice ua xs.length uk) := fun q => (B8.other (g' := w.heap.size) (by omega) 0 q).cell 0))
  generalize gI [x, y, z, 20000, 20001, -1] j = n at *
  have hset : Keeps (fun q => q = w.heap.size) w8 (w8.setCell ⟨w.heap.size, 0, none⟩ (.slice ua xs.length uk)) := (Keeps.refl (fun q => q = w.heap.size) w8).setCell (p := ⟨w.heap.size, 0, none⟩) rfl _
  have hr9 := hr8.keeps hset (fun b hb => by have := (hl3 b hb).1; omega)
  have q0 := (D8.set 0 (.slice ua xs.length uk)).cell 0
  have HF : Hid (RetBN (-1) 20001 w (.returned (.tuple #[.agg #[.slice ua xs.length uk], .int .i64 n])) (w8.setCell ⟨w.heap.size, 0, none⟩ (.slice ua xs.length uk))) := Lib.hid ⟨_, xs, n, rfl, hr9, fun b hb => by (have := (hl3 b hb).1; omega), hx8, hp.1, hp.2, hB8.trans (hset.below hB8.size (fun k e => by omega))⟩
  go_wp2
  exact bodyPost_ret (v := .tuple #[.agg #[.slice ua xs.length uk], .int .i64 n]) (by simp [results, Try.results135, go_sem, q0]) rfl HF.out

set_option maxRecDepth 100000 in
set_option maxHeartbeats 4000000 in
theorem drawRepresentationOf_w (v : Value) (C : List Int) (w : World) (h : Rd8 w v C) :
    Calls Try.prog 32 #[v] w (RetBN (-1) 20001 w) := by
  have D := Blk.new w 26 #[.slice none 0 0]
  have hal : Below w.heap.size w (w.alloc (.cells #[.slice none 0 0] 26)) := (Below.refl _ _).alloc (Nat.le_refl _) _
  have h1 := h.below hal (Nat.le_refl _)
  go_enter Try.func32, Try.ntmps32
  go_wp2_with fail
  generalize w.alloc (.cells #[.slice none 0 0] 26) = w0 at *
  refine (drawIsValue_w v C _ h1).mono ?_
  rintro e w1 ⟨u, xs, n, rfl, hr1, hnw, hx8, hn0, hn1, hb1⟩
  have hs0 : w.heap.size < w0.heap.size := D.lt
  have D1 := (D.stays hb1).alloc (.cells #[u] 26)
  have hB1 := hal.trans (hb1.mono hal.size)
  have hal2 : Below w1.heap.size w1 (w1.alloc (.cells #[u] 26)) := (Below.refl _ _).alloc (Nat.le_refl _) _
  have hr2 := hr1.below hal2 (Nat.le_refl _)
  have hB2 := hB1.trans (hal2.mono hB1.size)
  have B2 := Blk.new w1 26 #[u]
  obtain ⟨ua, uk, rfl⟩ := hr1.len0
  have hs1 := hb1.size
  clear h h1 hal hb1 D hB1 hal2 hr1
  go_upto_region 2 with fail
  generalize w1.alloc (.cells #[.slice ua xs.length uk] 26) = w2 at *
  have c0 := B2.cell 0
  have e0 := D1.cell 0
  have f0 := D1.free 0
  have q0 := (D1.set 0 (.slice ua xs.length uk)).cell 0
  have hset : Below w.heap.size w2 (w2.setCell ⟨w.heap.size, 0, none⟩ (.slice ua xs.length uk)) := (Below.refl _ _).setCell (p := ⟨w.heap.size, 0, none⟩) (Nat.le_refl _) _
  have HF : Hid (∀ m, -1 ≤ m → m ≤ 20001 → RetBN (-1) 20001 w (.returned (.tuple #[.agg #[.slice ua xs.length uk], .int .i64 m])) (w2.setCell ⟨w.heap.size, 0, none⟩ (.slice ua xs.length uk))) := Lib.hid (fun m hm0 hm1 => ⟨_, xs, m, rfl, hr2.keeps ((Keeps.refl (fun q => q = w.heap.size) w2).setCell (p := ⟨w.heap.size, 0, none⟩) rfl _) (fun b hb => by have := hnw b hb; omega), fun b hb => by (have := hnw b hb; omega), hx8, hm0, hm1, hB2.trans hset⟩)
  clear D1 hB2 hr2 B2 hset
  go_wp2
  exact bodyPost_ret (v := .tuple #[.agg #[.slice ua xs.length uk], .int .i64 (n)]) (by simp [results, Try.results32, go_sem, q0]) rfl (HF.out _ (by omega) (by omega))

set_option maxRecDepth 100000 in
set_option maxHeartbeats 8000000 in
theorem drawGapsOf_w (v : Value) (C : List Int) (w : World) (h : Rd8 w v C) :
    Calls Try.prog 51 #[v] w (RetBr w) := by
  have D := Blk.new w 26 #[.slice none 0 0]
  have hal : Below w.heap.size w (w.alloc (.cells #[.slice none 0 0] 26)) := (Below.refl _ _).alloc (Nat.le_refl _) _
  have h1 := h.below hal (Nat.le_refl _)
  go_enter Try.func51, Try.ntmps51
  go_wp2_with fail
  generalize w.alloc (.cells #[.slice none 0 0] 26) = w0 at *
  refine (from_w v C _ h1).mono ?_
  rintro e w1 ⟨g, rfl, hg, s1, hb1⟩
  have hs0 : w.heap.size < w0.heap.size := D.lt
  have D1 := D.stays hb1
  have hB1 := hal.trans (hb1.mono hal.size)
  clear h h1 hal hb1 D
  go_wp2_with fail
  refine (spoil_w g _ s1).mono ?_
  rintro e w2 ⟨u, xs, rfl, hr2, hl2, hx8, s2, hk2⟩
  have D2 := D1.keeps hk2 (by omega)
  have hB2 := keeps_draw hB1 (by omega) hk2
  have hg1 : g < w1.heap.size := s1.lt
  have hs2 := hk2.size
  clear s1 D1 hB1 hk2
  obtain ⟨ua, uk, rfl⟩ := hr2.len0
  have hal : Below w2.heap.size w2 (w2.alloc (.cells #[.slice ua xs.length uk] 26)) := (Below.refl _ _).alloc (Nat.le_refl _) _
  have B3 := Blk.new w2 26 #[.slice ua xs.length uk]
  have D3 := D2.stays hal
  have s3 := s2.below hal
  have hr3 := hr2.below hal (Nat.le_refl _)
  have hB3 := hB2.trans (hal.mono hB2.size)
  clear s2 D2 hr2 hB2 hal
  go_wp2_with fail
  generalize w2.alloc (.cells #[.slice ua xs.length uk] 26) = w3 at *
  refine (next_w g 24 _ s3 (by omega) (by omega)).mono ?_
  rintro e w4 ⟨x, rfl, hx0, hx1, s4, hk4⟩
  have B4 := B3.keeps hk4 (by omega)
  have D4 := D3.keeps hk4 (by omega)
  have hr4 := hr3.keeps hk4 (fun b hb => by have := (hl2 b hb).1; omega)
  have hB4 := keeps_draw hB3 (by omega) hk4
  have e0 := D4.cell 0
  have f0 := D4.free 0
  by_cases hx : x = 0
  · have hxb : (x == 0) = true := by simp [hx]
    have hl1 : w.heap.size < w4.heap.size := D4.lt
    have D5 := (D4.set 0 (.slice (some ⟨w4.heap.size, 0, none⟩) 2 2)).alloc (.cells #[.int .i64 64, .int .i64 1999] 2)
    have hset : Keeps (fun q => q = w.heap.size) w4 (w4.setCell ⟨w.heap.size, 0, none⟩ (.slice (some ⟨w4.heap.size, 0, none⟩) 2 2)) := (Keeps.refl (fun q => q = w.heap.size) w4).setCell (p := ⟨w.heap.size, 0, none⟩) rfl _
    have hz4 : (w4.setCell ⟨w.heap.size, 0, none⟩ (.slice (some ⟨w4.heap.size, 0, none⟩) 2 2)).heap.size = w4.heap.size := by simp
    have hr5 := rd_news' (w := w4.setCell ⟨w.heap.size, 0, none⟩ (.slice (some ⟨w4.heap.size, 0, none⟩) 2 2)) hz4.symm 2 [64, 1999] (by simp)
    have hB5 := (hB4.trans (hset.below hB4.size (fun k e => by omega))).alloc (by rw [hz4]; omega) (.cells #[.int .i64 64, .int .i64 1999] 2)
    have q0 := D5.cell 0
    clear hx hz4 hset
    have HF : Hid (RetBr w (.returned (.agg #[.slice (some ⟨w4.heap.size, 0, none⟩) 2 2])) ((w4.setCell ⟨w.heap.size, 0, none⟩ (.slice (some ⟨w4.heap.size, 0, none⟩) 2 2)).alloc (.cells #[.int .i64 64, .int .i64 1999] 2))) := Lib.hid ⟨_, [64, 1999], rfl, hr5, fun b hb => by (simp [Value.ownBlock] at hb; omega), by simp, hB5⟩
    clear hr5 hB5 D5 hr4 hB4
    go_wp2
    exact bodyPost_ret (v := .agg #[.slice (some ⟨w4.heap.size, 0, none⟩) 2 2]) (by simp [results, Try.results51, go_sem, q0]) rfl HF.out
  · have hxb : (x == 0) = false := by simp [hx]
    have c0 := B4.cell 0
    have hset : Keeps (fun q => q = w.heap.size) w4 (w4.setCell ⟨w.heap.size, 0, none⟩ (.slice ua xs.length uk)) := (Keeps.refl (fun q => q = w.heap.size) w4).setCell (p := ⟨w.heap.size, 0, none⟩) rfl _
    have hr5 := hr4.keeps hset (fun b hb => by have := (hl2 b hb).1; omega)
    have q0 := (D4.set 0 (.slice ua xs.length uk)).cell 0
    have HF : Hid (RetBr w (.returned (.agg #[.slice ua xs.length uk])) (w4.setCell ⟨w.heap.size, 0, none⟩ (.slice ua xs.length uk))) := Lib.hid ⟨_, xs, rfl, hr5, fun b hb => by (have := (hl2 b hb).1; omega), hx8, hB4.trans (hset.below hB4.size (fun k e => by omega))⟩
    clear hx hset hr5 hr4 hB4
    go_wp2
    exact bodyPost_ret (v := .agg #[.slice ua xs.length uk]) (by simp [results, Try.results51, go_sem, q0]) rfl HF.out

set_option maxRecDepth 100000 in
set_option maxHeartbeats 4000000 in
theorem drawSemigroupPolynomial_w (v : Value) (C : List Int) (w : World) (h : Rd8 w v C) :
    Calls Try.prog 95 #[v] w (RetBr w) := by
  have D := Blk.new w 26 #[.slice none 0 0]
  have hal : Below w.heap.size w (w.alloc (.cells #[.slice none 0 0] 26)) := (Below.refl _ _).alloc (Nat.le_refl _) _
  have h1 := h.below hal (Nat.le_refl _)
  go_enter Try.func95, Try.ntmps95
  go_wp2_with fail
  generalize w.alloc (.cells #[.slice none 0 0] 26) = w0 at *
  refine (drawGapsOf_w v C _ h1).mono ?_
  rintro e w1 ⟨u, xs, rfl, hr1, hnw, hx8, hb1⟩
  have hs0 : w.heap.size < w0.heap.size := D.lt
  have D1 := D.stays hb1
  have hB1 := hal.trans (hb1.mono hal.size)
  have hset : Keeps (fun q => q = w.heap.size) w1 (w1.setCell ⟨w.heap.size, 0, none⟩ u) := (Keeps.refl (fun q => q = w.heap.size) w1).setCell (p := ⟨w.heap.size, 0, none⟩) rfl _
  have hr5 := hr1.keeps hset (fun b hb => by have := hnw b hb; omega)
  have e0 := D1.cell 0
  have f0 := D1.free 0
  have q0 := (D1.set 0 u).cell 0
  have HF : Hid (RetBr w (.returned (.agg #[u])) (w1.setCell ⟨w.heap.size, 0, none⟩ u)) := Lib.hid ⟨_, xs, rfl, hr5, fun b hb => by (have := hnw b hb; omega), hx8, hB1.trans (hset.below hB1.size (fun k e => by omega))⟩
  obtain ⟨ua, uk, rfl⟩ := hr1.len0
  clear h h1 hal hb1 D D1 hB1 hset hr5 hr1
  go_wp2
  exact bodyPost_ret (v := .agg #[.slice ua xs.length uk]) (by simp [results, Try.results95, go_sem, q0]) rfl HF.out
end Go.Proofs.Ytiinceflafigeaa
