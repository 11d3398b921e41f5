/- Contract: spec.l03Draw: a branch is drawn. -/
import Derived.Test.YtglghdkjppcedaaDoorPart21
import Derived.Deep.RegionLaw
import Derived.Deep.RegionHeld3
import Derived.Test.YtglghdkjppcedaaDoorPart20
namespace Go.Proofs.YtglghdkjppcedaaDoor
open Go.RowKit

theorem rd_news' {w : World} {g : Nat} (hg : g = w.heap.size) (t : TypeId) (xs : List Int) (hl : xs.length ≤ 1000) : Rd (w.alloc (.cells (xs.map (Value.int .i64)).toArray t)) (.slice (some ⟨g, 0, none⟩) xs.length xs.length) xs := by
  subst hg; exact rd_news w t xs hl
theorem bra_one : BraOk [1] := braB_iff.1 (by decide +kernel)
theorem bra_two {z x : Int} (h1 : 2 ≤ z) (h2 : z ≤ 3) (h3 : 0 ≤ x) (h4 : x < 9) : BraOk [z, z * (1 + x) + 1] := by
  have hz : z = 2 ∨ z = 3 := by omega
  have hx : x = 0 ∨ x = 1 ∨ x = 2 ∨ x = 3 ∨ x = 4 ∨ x = 5 ∨ x = 6 ∨ x = 7 ∨ x = 8 := by omega
  rcases hz with rfl | rfl <;> rcases hx with rfl | rfl | rfl | rfl | rfl | rfl | rfl | rfl | rfl <;> exact braB_iff.1 (by decide +kernel)
theorem sml_bra {xs : List Int} (h : SmlOk xs) (hn : xs.length = 1 → gI xs 0 ≤ 1) : BraOk xs := by
  rcases h with h | ⟨z, h1, h2, rfl⟩
  · exact h
  · have := hn rfl
    have e : gI [z] 0 = z := rfl
    have e2 : z = 1 := by omega
    subst e2; exact bra_one
theorem sml_len {xs : List Int} (h : SmlOk xs) : 0 < xs.length ∧ xs.length ≤ 7 := by
  rcases h with h | ⟨z, h1, h2, rfl⟩
  · exact ⟨h.len, bra_len h⟩
  · simp
theorem sml_one {z : Int} (h : SmlOk [z]) : 1 ≤ z ∧ z ≤ 3 := by
  rcases h with h | ⟨y, h1, h2, e⟩
  · have := h.last
    have e : eI [z] 0 = z := rfl
    simp at this
    rw [e] at this; omega
  · injection e with e _; omega
set_option maxRecDepth 100000 in
set_option maxHeartbeats 8000000 in
theorem draw_w (gs : Nat) (w : World) (s : Src w gs) :
    Calls Tryd.prog 30 #[.pointer (some ⟨gs, 0, none⟩)] w (RetDr BraOk w gs) := by
  have hgs := s.lt
  have D := (Blk.new w 26 #[.slice none 0 0]).alloc (.cells #[.int .i64 6, .int .i64 12, .int .i64 30, .int .i64 64] 2)
  have hbl0 : Below w.heap.size w ((w.alloc (.cells #[.slice none 0 0] 26)).alloc (.cells #[.int .i64 6, .int .i64 12, .int .i64 30, .int .i64 64] 2)) := ((Below.refl _ _).alloc (Nat.le_refl _) _).alloc (by simp) _
  have hK : Keeps (fun q => q = gs) w ((w.alloc (.cells #[.slice none 0 0] 26)).alloc (.cells #[.int .i64 6, .int .i64 12, .int .i64 30, .int .i64 64] 2)) := Keeps.of_below hbl0
  have s1 := s.below hbl0
  have hr1 := rd_news' (w := w.alloc (.cells #[.slice none 0 0] 26)) (g := w.heap.size + 1) (by simp) 2 [6, 12, 30, 64] (by simp)
  have hs1 : w.heap.size + 2 ≤ ((w.alloc (.cells #[.slice none 0 0] 26)).alloc (.cells #[.int .i64 6, .int .i64 12, .int .i64 30, .int .i64 64] 2)).heap.size := by simp
  clear hbl0
  go_enter Tryd.func30, Tryd.ntmps30
  go_wp2_with fail
  refine (pick_w gs _ [6, 12, 30, 64] _ s1 hr1 (by simp) (by simp) (fun b off e => by injection e with e; injection e with e; injection e; omega) ⟨_, rfl⟩).mono ?_
  rintro e w1 ⟨j, hj, rfl, s2, hk1⟩
  have hp := pick4 (P := fun z => 1 ≤ z ∧ z ≤ 64) hj (by omega) (by omega) (by omega) (by omega)
  generalize gI [6, 12, 30, 64] j = m at *
  have D1 := D.keeps hk1 (by omega)
  have hK1 := hK.trans hk1
  have hs2 : w.heap.size + 2 ≤ w1.heap.size := by have := hk1.size; omega
  clear s s1 D hK hr1 hk1 hs1
  go_wp2_with fail
  refine (small_w gs m 400 _ s2 hp.1 hp.2).mono ?_
  rintro e w2 ⟨xs, a, k, rfl, hO, hP, s3, hk2⟩
  have D2 := D1.keeps hk2 (by omega)
  have hK2 := hK1.trans hk2
  have hs3 : w.heap.size + 2 ≤ w2.heap.size := by have := hk2.size; omega
  have hal : Below w2.heap.size w2 (w2.alloc (.cells #[.slice a xs.length k] 26)) := (Below.refl _ _).alloc (Nat.le_refl _) _
  have B4 := Blk.new w2 26 #[.slice a xs.length k]
  have D4 := D2.stays hal
  have hO4 := hO.below hal (Nat.le_refl _)
  have s4 := s3.below hal
  have hK4 := hK2.trans (Keeps.of_below hal)
  have hl7 := sml_len hP
  obtain ⟨ga, ka, hea, hga1, hga2, hca1, hca2⟩ := Own.pos hO4 hl7.1
  injection hea with q1 q2 q3
  subst q1 q3
  have hga3 := (hO.block ga rfl).2
  have dB := B4.cell 0
  have e0 := D4.cell 0
  have f0 := D4.free 0
  have dz := hO4.cell 0 hl7.1
  have hs4 : w2.heap.size + 1 ≤ (w2.alloc (.cells #[.slice (some ⟨ga, 0, none⟩) xs.length k] 26)).heap.size := by simp
  clear s2 s3 D1 D2 hK1 hK2 hk2 q2 hO hca1
  have HP := Lib.hid hP
  clear hP
  by_cases hl : xs.length = 1
  · obtain ⟨z, rfl⟩ : ∃ z, xs = [z] := ⟨gI xs 0, by match xs, hl with | [z], _ => rfl⟩
    have hz := sml_one HP.out
    have e1 : [z].length = 1 := rfl
    have e2 : gI [z] 0 = z := rfl
    simp only [e1, e2] at *
    clear hl e1 e2
    by_cases hz1 : 1 < z
    · have hz1' : decide (z > 1) = true := by simpa using hz1
      go_upto_region 2 with fail
      generalize w2.alloc (.cells #[.slice (some ⟨ga, 0, none⟩) 1 k] 26) = w3 at *
      have s4d := s4.below ((Below.refl w3.heap.size w3).drew)
      have D4d := D4.drewN 1
      have hK4d := hK4.drewN 1
      have HC : w3.cell? ⟨w2.heap.size, 0, none⟩ = some (.slice (some ⟨ga, 0, none⟩) 1 k) ∧ w3.cell? ⟨ga, 0, none⟩ = some (.int .i64 z) := ⟨dB, dz⟩
      go_wp2_with fail
      go_region_held3 (fun X => X.cell? ⟨w2.heap.size, 0, none⟩ = some (.slice (some ⟨ga, 0, none⟩) 1 k) ∧ X.cell? ⟨ga, 0, none⟩ = some (.int .i64 z))
        (first | assumption | exact HC6 _ | exact HC7 _ _ | exact HC)
        (first
          | (go_at_call 31; (with_reducible refine (next_w gs 9 _ s4d (by omega) (by omega)).mono ?_); rintro e w5 ⟨y, rfl, hy0, hy1, s5, hk5⟩; have HC5 : w5.cell? ⟨w2.heap.size, 0, none⟩ = some (.slice (some ⟨ga, 0, none⟩) 1 k) ∧ w5.cell? ⟨ga, 0, none⟩ = some (.int .i64 z) := ⟨(hk5.cell (p := ⟨w2.heap.size, 0, none⟩) (by show w2.heap.size < w3.drew.heap.size; simp; omega) (by show ¬ w2.heap.size = gs; omega)).trans dB, (hk5.cell (p := ⟨ga, 0, none⟩) (by show ga < w3.drew.heap.size; simp; omega) (by show ¬ ga = gs; omega)).trans dz⟩; have hz5 := hk5.size; have HC6 : ∀ o, (w5.alloc o).cell? ⟨w2.heap.size, 0, none⟩ = some (.slice (some ⟨ga, 0, none⟩) 1 k) ∧ (w5.alloc o).cell? ⟨ga, 0, none⟩ = some (.int .i64 z) := fun o => ⟨(((Below.refl w5.heap.size w5).alloc (Nat.le_refl _) o).cell (p := ⟨w2.heap.size, 0, none⟩) (by show w2.heap.size < w5.heap.size; simp at hz5; omega)).trans HC5.1, (((Below.refl w5.heap.size w5).alloc (Nat.le_refl _) o).cell (p := ⟨ga, 0, none⟩) (by show ga < w5.heap.size; simp at hz5; omega)).trans HC5.2⟩; have HC7 : ∀ o v, ((w5.alloc o).setCell ⟨w.heap.size, 0, none⟩ v).cell? ⟨w2.heap.size, 0, none⟩ = some (.slice (some ⟨ga, 0, none⟩) 1 k) ∧ ((w5.alloc o).setCell ⟨w.heap.size, 0, none⟩ v).cell? ⟨ga, 0, none⟩ = some (.int .i64 z) := fun o v => ⟨(((Keeps.refl (fun q => q = w.heap.size) (w5.alloc o)).setCell (p := ⟨w.heap.size, 0, none⟩) rfl v).cell (p := ⟨w2.heap.size, 0, none⟩) (by show w2.heap.size < (w5.alloc o).heap.size; simp at hz5 ⊢; omega) (by show ¬ w2.heap.size = w.heap.size; omega)).trans (HC6 o).1, (((Keeps.refl (fun q => q = w.heap.size) (w5.alloc o)).setCell (p := ⟨w.heap.size, 0, none⟩) rfl v).cell (p := ⟨ga, 0, none⟩) (by show ga < (w5.alloc o).heap.size; simp at hz5 ⊢; omega) (by show ¬ ga = w.heap.size; omega)).trans (HC6 o).2⟩; have D5 := D4d.keeps hk5 (by omega); have f6 : ∀ o, (w5.alloc o).frozen? ⟨w.heap.size, 0, none⟩ = false := fun o => (D5.alloc o).free 0; have e6 : ∀ o, (w5.alloc o).cell? ⟨w.heap.size, 0, none⟩ = some (.slice none 0 0) := fun o => (D5.alloc o).cell 0))
      have hbd : 0 ≤ z * (1 + y) ∧ z * (1 + y) ≤ 27 := by
        have hz2 : z = 2 ∨ z = 3 := by omega
        rcases hz2 with rfl | rfl <;> omega
      have w1e : IntKind.i64.wrap (1 + y) = 1 + y := IntWalk.i64_in _ (by omega)
      have w2e : IntKind.i64.wrap (z * (1 + y)) = z * (1 + y) := IntWalk.i64_in _ (by omega)
      have w3e : IntKind.i64.wrap (z * (1 + y) + 1) = z * (1 + y) + 1 := IntWalk.i64_in _ (by omega)
      rw [w1e, w2e, w3e]
      have D6 := (D5.alloc (.cells #[.int .i64 z, .int .i64 (z * (1 + y) + 1)] 2)).set 0 (.slice (some ⟨w5.heap.size, 0, none⟩) 2 2)
      have hne : w5.heap.size ≠ w.heap.size := by have := hk5.size; simp at this; omega
      have B6 := (Blk.new w5 2 #[.int .i64 z, .int .i64 (z * (1 + y) + 1)]).other hne 0 (.slice (some ⟨w5.heap.size, 0, none⟩) 2 2)
      have hO6 := own_blk2 (base := w.heap.size) B6 (by have := hk5.size; simp at this; omega)
      have hset : Keeps (fun q => q = w.heap.size) (w5.alloc (.cells #[.int .i64 z, .int .i64 (z * (1 + y) + 1)] 2)) ((w5.alloc (.cells #[.int .i64 z, .int .i64 (z * (1 + y) + 1)] 2)).setCell ⟨w.heap.size, 0, none⟩ (.slice (some ⟨w5.heap.size, 0, none⟩) 2 2)) := (Keeps.refl (fun q => q = w.heap.size) _).setCell (p := ⟨w.heap.size, 0, none⟩) rfl _
      have s6 := (s5.below ((Below.refl _ _).alloc (Nat.le_refl _) (.cells #[.int .i64 z, .int .i64 (z * (1 + y) + 1)] 2))).keeps hset (fun q hq e => by omega)
      have hK6 := ((hK4d.trans hk5).alloc (.cells #[.int .i64 z, .int .i64 (z * (1 + y) + 1)] 2)).join hset (fun q hq e => by omega)
      have q0 := D6.cell 0
      have HF : Hid (RetDr BraOk w gs (.returned (.agg #[.slice (some ⟨w5.heap.size, 0, none⟩) 2 2])) ((w5.alloc (.cells #[.int .i64 z, .int .i64 (z * (1 + y) + 1)] 2)).setCell ⟨w.heap.size, 0, none⟩ (.slice (some ⟨w5.heap.size, 0, none⟩) 2 2))) := Lib.hid ⟨[z, z * (1 + y) + 1], _, 2, rfl, hO6, bra_two (by omega) (by omega) (by omega) (by omega), s6, hK6⟩
      generalize (w5.alloc (.cells #[.int .i64 z, .int .i64 (z * (1 + y) + 1)] 2)).setCell ⟨w.heap.size, 0, none⟩ (.slice (some ⟨w5.heap.size, 0, none⟩) 2 2) = w6 at *
      go_wp2
      exact bodyPost_ret (v := .agg #[.slice (some ⟨w5.heap.size, 0, none⟩) 2 2]) (by simp [results, Tryd.results30, go_sem, q0]) rfl HF.out
    · have hz1' : decide (z > 1) = false := by simpa using hz1
      have hbra := sml_bra HP.out (fun _ => by show z ≤ 1; omega)
      have q0 := (D4.set 0 (.slice (some ⟨ga, 0, none⟩) 1 k)).cell 0
      go_wp2_with fail
      generalize w2.alloc (.cells #[.slice (some ⟨ga, 0, none⟩) 1 k] 26) = w3 at *
      have hset : Keeps (fun q => q = w.heap.size) w3 (w3.setCell ⟨w.heap.size, 0, none⟩ (.slice (some ⟨ga, 0, none⟩) 1 k)) := (Keeps.refl (fun q => q = w.heap.size) w3).setCell (p := ⟨w.heap.size, 0, none⟩) rfl _
      have hO7 := hO4.other (g := w.heap.size) (fun q hq => by have := (hO4.block q hq).1; omega) 0 (.slice (some ⟨ga, 0, none⟩) 1 k)
      go_wp2
      refine bodyPost_ret (v := .agg #[.slice (some ⟨ga, 0, none⟩) 1 k]) (by simp [results, Tryd.results30, go_sem, q0]) rfl ?_
      exact ⟨[z], _, k, rfl, hO7.base_le (by omega), hbra, s4.keeps hset (fun q hq e => by omega), hK4.join hset (fun q hq e => by omega)⟩
  · have hne : ((xs.length : Int) == 1) = false := beq_eq_false_iff_ne.2 (by omega)
    have hbra := sml_bra HP.out (fun h => absurd h hl)
    have q0 := (D4.set 0 (.slice (some ⟨ga, 0, none⟩) xs.length k)).cell 0
    clear hl
    generalize gI xs 0 = z0 at *
    go_wp2_with fail
    generalize w2.alloc (.cells #[.slice (some ⟨ga, 0, none⟩) xs.length k] 26) = w3 at *
    have hset : Keeps (fun q => q = w.heap.size) w3 (w3.setCell ⟨w.heap.size, 0, none⟩ (.slice (some ⟨ga, 0, none⟩) xs.length k)) := (Keeps.refl (fun q => q = w.heap.size) w3).setCell (p := ⟨w.heap.size, 0, none⟩) rfl _
    have hO7 := hO4.other (g := w.heap.size) (fun q hq => by have := (hO4.block q hq).1; omega) 0 (.slice (some ⟨ga, 0, none⟩) xs.length k)
    go_wp2
    refine bodyPost_ret (v := .agg #[.slice (some ⟨ga, 0, none⟩) xs.length k]) (by simp [results, Tryd.results30, go_sem, q0]) rfl ?_
    exact ⟨xs, _, k, rfl, hO7.base_le (by omega), hbra, s4.keeps hset (fun q hq e => by omega), hK4.join hset (fun q hq e => by omega)⟩
end Go.Proofs.YtglghdkjppcedaaDoor

/- Contract: spec.l03Spoil: a branch is drawn, or a list that is none. -/
namespace Go.Proofs.YtglghdkjppcedaaDoor
open Go.RowKit

theorem Rd.keeps {w w' : World} {v : Value} {xs : List Int} {M : Nat → Prop} (h : Rd w v xs) (hk : Keeps M w w') (hn : ∀ b, v.ownBlock = some b → ¬ M b) : Rd w' v xs := by
  obtain ⟨a, cap, h1, h2, h3, h4⟩ := h
  refine ⟨a, cap, h1, h2, h3, fun hx => ?_⟩
  obtain ⟨b, off, e1, e2, e3⟩ := h4 hx
  refine ⟨b, off, e1, Nat.lt_of_lt_of_le e2 hk.size, fun i hi => ?_⟩
  rw [hk.cell (p := ⟨b, off + i, none⟩) e2 (hn b (by rw [h1, e1]; rfl))]
  exact e3 i hi
/-- A list of at most eight numbers is drawn; it lies in new memory. -/
def RetSp (w : World) (g : Nat) (e : Ending) (w' : World) : Prop :=
  ∃ v xs, e = .returned (.agg #[v]) ∧ Rd w' v xs ∧ (∀ b, v.ownBlock = some b → w.heap.size ≤ b ∧ b < w'.heap.size) ∧ xs.length ≤ 8 ∧ Src w' g ∧ Keeps (fun q => q = g) w w'
/-- The end of a draw: what the variable b holds is handed back. -/
theorem retSp_own {w w' : World} {g : Nat} {v : Value} {xs : List Int} (hO : OwnI w' w.heap.size v xs) (hl : xs.length ≤ 8) (s : Src w' g) (hk : Keeps (fun q => q = g) w w') : RetSp w g (.returned (.agg #[v])) w' :=
  ⟨v, xs, rfl, hO.rd, fun b hb => hO.block b hb, hl, s, hk⟩
theorem rd_drop1 {e : TypeId} {w : World} {base g k : Nat} {xs : List Int} (h : Own e w base (.slice (some ⟨g, 0, none⟩) xs.length k) xs) (hp : 0 < xs.length) : Rd w (.slice (some ⟨g, 1, none⟩) (xs.length - 1) (k - 1)) (xs.drop 1) := by
  have hr := h.rd
  obtain ⟨a, cap, h1, h2, h3, _⟩ := hr
  injection h1 with _ _ h4
  subst h4
  refine ⟨_, k - 1, by simp, by simp; omega, by omega, fun _ => ⟨g, 1, rfl, (h.block g rfl).2, fun i hi => ?_⟩⟩
  simp at hi
  rw [gI_drop]
  exact h.cell (1 + i) (by omega)
theorem rd_drop0 {e : TypeId} {w : World} {base g : Nat} {xs : List Int} (h : Own e w base (.slice (some ⟨g, 0, none⟩) xs.length 1) xs) (hp : 0 < xs.length) : Rd w (.slice (some ⟨g, 0, none⟩) (xs.length - 1) 0) (xs.drop 1) := by
  have hr := h.rd
  obtain ⟨a, cap, h1, h2, h3, _⟩ := hr
  injection h1 with _ _ h4
  have e : xs.drop 1 = [] := List.drop_eq_nil_of_le (by omega)
  exact ⟨some ⟨g, 0, none⟩, 0, by simp, by simp; omega, by omega, fun hx => absurd e hx⟩
/-- Two stores, into the variable b and into the result's cell. -/
theorem keeps_two (w : World) (g h : Nat) (u v : Value) : Keeps (fun q => q = g ∨ q = h) w ((w.setCell ⟨g, 0, none⟩ u).setCell ⟨h, 0, none⟩ v) :=
  ((Keeps.refl (fun q => q = g ∨ q = h) w).setCell (p := ⟨g, 0, none⟩) (.inl rfl) u).setCell (p := ⟨h, 0, none⟩) (.inr rfl) v
set_option maxRecDepth 100000 in
set_option maxHeartbeats 8000000 in
theorem spoil_w (gs : Nat) (w : World) (s : Src w gs) :
    Calls Tryd.prog 21 #[.pointer (some ⟨gs, 0, none⟩)] w (RetSp w gs) := by
  obtain ⟨i0, hi, hz0, hz1, hz2⟩ := info_parts Tryd.infoI
  have hgs := s.lt
  have D := Blk.new w 26 #[.slice none 0 0]
  have hbl0 : Below w.heap.size w (w.alloc (.cells #[.slice none 0 0] 26)) := (Below.refl _ _).alloc (Nat.le_refl _) _
  have hK : Keeps (fun q => q = gs) w (w.alloc (.cells #[.slice none 0 0] 26)) := Keeps.of_below hbl0
  have s1 := s.below hbl0
  clear hbl0
  go_enter Tryd.func21, Tryd.ntmps21
  go_wp2_with fail
  refine (draw_w gs _ s1).mono ?_
  rintro e w1 ⟨xs, a, k, rfl, hO, hP, s2, hk1⟩
  have hz1w := hk1.size
  simp at hz1w
  have hs1 : w.heap.size + 1 ≤ w1.heap.size := by omega
  have D1 := D.keeps hk1 (by omega)
  have hK1 := hK.trans hk1
  have hO := hO.base_le (base' := w.heap.size + 1) (by simp)
  clear s s1 D hK hk1 hz1w
  have hal : Below w1.heap.size w1 (w1.alloc (.cells #[.slice a xs.length k] 26)) := (Below.refl _ _).alloc (Nat.le_refl _) _
  have B2 := Blk.new w1 26 #[.slice a xs.length k]
  have D2 := D1.stays hal
  have hO2 := hO.below hal (Nat.le_refl _)
  have s3 := s2.below hal
  have hK2 := hK1.trans (Keeps.of_below hal)
  have hp := hP.len
  have hl7 := bra_len hP
  obtain ⟨ga, ka, hea, hga1, hga2, hca1, hca2⟩ := Own.pos hO2 hp
  injection hea with q1 q2 q3
  subst q1 q3
  have hga3 := (hO.block ga rfl).2
  have hs2 : w1.heap.size + 1 ≤ (w1.alloc (.cells #[.slice (some ⟨ga, 0, none⟩) xs.length k] 26)).heap.size := by simp
  clear s2 D1 hK1 q2 hO hca1 hP hga2 hal
  go_wp2_with fail
  generalize w1.alloc (.cells #[.slice (some ⟨ga, 0, none⟩) xs.length k] 26) = w2 at *
  refine (next_w gs 30 _ s3 (by omega) (by omega)).mono ?_
  rintro e w3 ⟨x, rfl, hx0, hx1, s4, hk3⟩
  have hs3 : w1.heap.size + 1 ≤ w3.heap.size := by have := hk3.size; omega
  have B3 := B2.keeps hk3 (by omega)
  have D3 := D2.keeps hk3 (by omega)
  have hO3 := hO2.keeps hk3 (fun q hq => by have := (hO2.block q hq).1; omega)
  have hK3 := hK2.trans hk3
  clear s3 B2 D2 hO2 hK2 hk3 hs2
  have dB := B3.cell 0
  have dF := B3.free 0
  have e0 := D3.cell 0
  have f0 := D3.free 0
  by_cases hx : x = 0
  · have b0 : (x == 0) = true := by simp [hx]
    clear hx
    have hal : ∀ o, Below w3.heap.size w3 (w3.alloc o).drew := fun o => ((Below.refl _ _).alloc (Nat.le_refl _) o).drew
    have s5 := fun o => s4.below (hal o)
    have HC : w3.cell? ⟨w1.heap.size, 0, none⟩ = some (.slice (some ⟨ga, 0, none⟩) xs.length k) := dB
    have HCA : ∀ o, (w3.alloc o).cell? ⟨w1.heap.size, 0, none⟩ = some (.slice (some ⟨ga, 0, none⟩) xs.length k) := fun o => (B3.alloc o).cell 0
    have hr5 : Rd (w3.alloc (.cells #[.int .i64 0, .int .i64 (-1), .int .i64 65, .int .i64 2] 2)).drew (.slice (some ⟨w3.heap.size, 0, none⟩) 4 4) [0, -1, 65, 2] := (rd_news w3 2 [0, -1, 65, 2] (by simp)).below (B := (w3.alloc (.cells (List.map (Value.int .i64) [0, -1, 65, 2]).toArray 2)).heap.size) (Below.refl _ _).drew (Nat.le_refl _)
    go_upto_region 4 with fail
    go_region_held3 (fun X => X.cell? ⟨w1.heap.size, 0, none⟩ = some (.slice (some ⟨ga, 0, none⟩) xs.length k))
      (first | assumption | exact HCA _ | exact HC6 _ | exact HC)
      (first
        | (go_at_call 35; (with_reducible refine (pick_w gs _ [0, -1, 65, 2] _ (s5 _) hr5 (by simp) (by simp) (fun b off e => by injection e with e; injection e with e; injection e; omega) ⟨_, rfl⟩).mono ?_); rintro e w5 ⟨j, hj, rfl, s6, hk5⟩; have hz5 := hk5.size; have B5 := (Blk.drewN (B3.alloc (.cells #[.int .i64 0, .int .i64 (-1), .int .i64 65, .int .i64 2] 2)) 1).keeps hk5 (by omega); have D5 := (Blk.drewN (D3.alloc (.cells #[.int .i64 0, .int .i64 (-1), .int .i64 65, .int .i64 2] 2)) 1).keeps hk5 (by omega); have hO5 := (hO3.below (hal (.cells #[.int .i64 0, .int .i64 (-1), .int .i64 65, .int .i64 2] 2)) (Nat.le_refl _)).keeps hk5 (fun q hq => by have := (hO3.block q hq).1; omega); have hK5 := (hK3.trans (Keeps.of_below (hal _))).trans hk5; have HC5 := B5.cell 0; have HF5 := hO5.free 0; have HG5 := hO5.cell 0 hp; have HC6 : ∀ v, (w5.setCell ⟨ga, 0, none⟩ v).cell? ⟨w1.heap.size, 0, none⟩ = some (.slice (some ⟨ga, 0, none⟩) xs.length k) := fun v => (B5.other (g' := ga) (by omega) 0 v).cell 0))
    clear HC HCA HC5 HC6 HF5 HG5 hr5 s5 hal
    generalize gI [0, -1, 65, 2] j = y at *
    have hO6 := hO5.set 0 y
    have B6 := B5.other (g' := ga) (by omega) 0 (.int .i64 y)
    have D6 := D5.other (g' := ga) (by omega) 0 (.int .i64 y)
    have hset : Keeps (fun q => q = ga) w5 (w5.setCell ⟨ga, 0, none⟩ (.int .i64 y)) := (Keeps.refl (fun q => q = ga) w5).setCell (p := ⟨ga, 0, none⟩) rfl _
    have s7 := s6.keeps hset (fun q hq e => by omega)
    have hK6 := hK5.join hset (fun q hq e => by omega)
    clear hO5 B5 D5 hset s6 hK5 s4 B3 D3 hO3 hK3 dB dF e0 f0 hk5
    generalize w5.setCell ⟨ga, 0, none⟩ (.int .i64 y) = w6 at *
    have c6 := B6.cell 0
    have e6 := D6.cell 0
    have f6 := D6.free 0
    have q0 := (D6.set 0 (.slice (some ⟨ga, 0, none⟩) xs.length k)).cell 0
    have hset : Keeps (fun q => q = w.heap.size) w6 (w6.setCell ⟨w.heap.size, 0, none⟩ (.slice (some ⟨ga, 0, none⟩) xs.length k)) := (Keeps.refl (fun q => q = w.heap.size) w6).setCell (p := ⟨w.heap.size, 0, none⟩) rfl _
    have hO7 := hO6.other (g := w.heap.size) (fun q hq => by have := (hO6.block q hq).1; omega) 0 (.slice (some ⟨ga, 0, none⟩) xs.length k)
    go_wp2
    refine bodyPost_ret (v := .agg #[.slice (some ⟨ga, 0, none⟩) xs.length k]) (by simp [results, Tryd.results21, go_sem, q0]) rfl ?_
    exact retSp_own (hO7.base_le (by omega)) (by simp; omega) (s7.keeps hset (fun q hq e => by omega)) (hK6.join hset (fun q hq e => by omega))
  · have b0 : (x == 0) = false := by simp [hx]
    clear hx
    by_cases hx : x = 1
    · have b1 : (x == 1) = true := by simp [hx]
      clear hx
      have hal : ∀ o, Below w3.heap.size w3 (w3.alloc o).drew := fun o => ((Below.refl _ _).alloc (Nat.le_refl _) o).drew
      have s5 := fun o => s4.below (hal o)
      have HCA : ∀ o, (w3.alloc o).cell? ⟨w1.heap.size, 0, none⟩ = some (.slice (some ⟨ga, 0, none⟩) xs.length k) := fun o => (B3.alloc o).cell 0
      have hr5 : Rd (w3.alloc (.cells #[.int .i64 2001, .int .i64 1999, .int .i64 5, .int .i64 1099511627776] 2)).drew (.slice (some ⟨w3.heap.size, 0, none⟩) 4 4) [2001, 1999, 5, 1099511627776] := (rd_news w3 2 [2001, 1999, 5, 1099511627776] (by simp)).below (B := (w3.alloc (.cells (List.map (Value.int .i64) [2001, 1999, 5, 1099511627776]).toArray 2)).heap.size) (Below.refl _ _).drew (Nat.le_refl _)
      go_upto_region 6 with fail
      go_region_law (first
        | (refine step_push rfl (.tmp 19) (.tmp 23) 24 rfl (w.heap.size + 1) 2 i0 Tryd.underlying24 hi hz0 hz1 hz2 (.slice (some ⟨ga, 0, none⟩) xs.length k) xs y w5.heap.size rfl hO6 rfl (Blk.new w5 _ _) (by omega) (by simp; omega) ?_; intro g2 cap2 w6 hO7 hk6 hw6 hl6; have B6 := (B5.alloc (.cells #[.int .i64 y] 2)).keeps hk6 (fun e => by simp [Value.ownBlock] at e; omega); have c6 := B6.cell 0; have f6 := B6.free 0)
        | (go_simp; go_at_call 35; (with_reducible refine (pick_w gs _ [2001, 1999, 5, 1099511627776] _ (s5 _) hr5 (by simp) (by simp) (fun b off e => by injection e with e; injection e with e; injection e; omega) ⟨_, rfl⟩).mono ?_); rintro e w5 ⟨j, hj, rfl, s6, hk5⟩; have hz5 : w1.heap.size + 1 ≤ w5.heap.size := Nat.le_trans (Nat.le_trans hs3 (hal _).size) hk5.size; generalize gI [2001, 1999, 5, 1099511627776] j = y at *; have B5 := (Blk.drewN (B3.alloc (.cells #[.int .i64 2001, .int .i64 1999, .int .i64 5, .int .i64 1099511627776] 2)) 1).keeps hk5 (by omega); have D5 := (Blk.drewN (D3.alloc (.cells #[.int .i64 2001, .int .i64 1999, .int .i64 5, .int .i64 1099511627776] 2)) 1).keeps hk5 (by omega); have hO5 := (hO3.below (hal (.cells #[.int .i64 2001, .int .i64 1999, .int .i64 5, .int .i64 1099511627776] 2)) (Nat.le_refl _)).keeps hk5 (fun q hq => by have := (hO3.block q hq).1; omega); have hK5 := (hK3.trans (Keeps.of_below (hal _))).trans hk5; have c5 := B5.cell 0; have c5a := (B5.alloc (.cells #[.int .i64 y] 2)).cell 0; have hO6 := hO5.below ((Below.refl _ _).alloc (Nat.le_refl _) (.cells #[.int .i64 y] 2)) (Nat.le_refl _)))
      all_goals
        have D6 := ((D5.alloc (.cells #[.int .i64 y] 2)).keeps hk6 (fun e => by simp [Value.ownBlock] at e; omega)).other (g' := w1.heap.size) (by omega) 0 (.slice (some ⟨g2, 0, none⟩) (xs.length + 1) cap2)
        have s7 := (s6.below ((Below.refl _ _).alloc (Nat.le_refl _) (.cells #[.int .i64 y] 2))).keeps hk6 (fun q hq e => by simp [Value.ownBlock] at e; omega)
        have hK6 := (hK5.alloc (.cells #[.int .i64 y] 2)).join hk6 (fun q hq e => by simp [Value.ownBlock] at e; omega)
        have hne2 : w1.heap.size ≠ g2 := by
          have h1 := (hO7.block g2 rfl).1
          rcases hw6 with e | e
          · simp [Value.ownBlock] at e; omega
          · simp at e; omega
        have hset1 : Keeps (fun q => q = w1.heap.size) w6 (w6.setCell ⟨w1.heap.size, 0, none⟩ (.slice (some ⟨g2, 0, none⟩) (xs.length + 1) cap2)) := (Keeps.refl (fun q => q = w1.heap.size) w6).setCell (p := ⟨w1.heap.size, 0, none⟩) rfl _
        have hO8 := hO7.keeps hset1 (fun q hq e => by simp [Value.ownBlock] at hq; omega)
        have s8 := s7.keeps hset1 (fun q hq e => by omega)
        have hK7 := hK6.join hset1 (fun q hq e => by omega)
        have B7 := B6.set 0 (.slice (some ⟨g2, 0, none⟩) (xs.length + 1) cap2)
        clear hO7 s7 hK6 B6 hset1 c6 f6 hl6 hw6 hk6 hO6 hO5 D5 B5 hK5 s6 hk5 hz5 hr5 s5 HCA hal
        generalize w6.setCell ⟨w1.heap.size, 0, none⟩ (.slice (some ⟨g2, 0, none⟩) (xs.length + 1) cap2) = w7 at *
        have c7 := B7.cell 0
        have e7 := D6.cell 0
        have f7 := D6.free 0
        have q0 := (D6.set 0 (.slice (some ⟨g2, 0, none⟩) (xs.length + 1) cap2)).cell 0
        have hset : Keeps (fun q => q = w.heap.size) w7 (w7.setCell ⟨w.heap.size, 0, none⟩ (.slice (some ⟨g2, 0, none⟩) (xs.length + 1) cap2)) := (Keeps.refl (fun q => q = w.heap.size) w7).setCell (p := ⟨w.heap.size, 0, none⟩) rfl _
        have hO9 := hO8.other (g := w.heap.size) (fun q hq => by have := (hO8.block q hq).1; omega) 0 (.slice (some ⟨g2, 0, none⟩) (xs.length + 1) cap2)
        go_wp2
        refine bodyPost_ret (v := .agg #[.slice (some ⟨g2, 0, none⟩) (xs.length + 1) cap2]) (by simp [results, Tryd.results21, go_sem, q0]) rfl ?_
        exact retSp_own (hO9.base_le (by omega)) (by simp; omega) (s8.keeps hset (fun q hq e => by omega)) (hK7.join hset (fun q hq e => by omega))
    · have b1 : (x == 1) = false := by simp [hx]
      clear hx
      by_cases hx : x = 2
      · have b2 : (x == 2) = true := by simp [hx]
        clear hx
        have hset : ∀ u v, Keeps (fun q => q = w1.heap.size ∨ q = w.heap.size) w3 ((w3.setCell ⟨w1.heap.size, 0, none⟩ u).setCell ⟨w.heap.size, 0, none⟩ v) := keeps_two w3 _ _
        have hO4 := fun u v => hO3.keeps (hset u v) (fun q hq e => by have := hO3.block q hq; simp [Value.ownBlock] at hq; omega)
        have s5 := fun u v => s4.keeps (hset u v) (fun q hq e => by omega)
        have hK4 := fun u v => hK3.join (hset u v) (fun q hq e => by omega)
        have hz := fun u v => (hset u v).size
        have q0 := fun u v => ((D3.other (g' := w1.heap.size) (by omega) 0 u).set 0 v).cell 0
        have HO := Lib.hid hO4
        have HS := Lib.hid s5
        have HK := Lib.hid hK4
        have HZ := Lib.hid hz
        have HQ := Lib.hid q0
        clear hset hO4 s5 hK4 hO3 B3 D3 hz q0
        by_cases hk : k = 1
        · subst hk
          go_wp2
          refine bodyPost_ret (v := .agg #[.slice (some ⟨ga, 0, none⟩) (xs.length - 1) 0]) (by have := HQ.out; simp [results, Tryd.results21, go_sem, this]) rfl ?_
          refine ⟨_, _, rfl, rd_drop0 (HO.out _ _) hp, fun b hb => ?_, by simp; omega, HS.out _ _, HK.out _ _⟩
          simp [Value.ownBlock] at hb
          subst hb
          have := HZ.out (.slice (some ⟨ga, 0, none⟩) (xs.length - 1) 0) (.slice (some ⟨ga, 0, none⟩) (xs.length - 1) 0)
          omega
        · go_wp2
          refine bodyPost_ret (v := .agg #[.slice (some ⟨ga, 1, none⟩) (xs.length - 1) (k - 1)]) (by have := HQ.out; simp [results, Tryd.results21, go_sem, this]) rfl ?_
          refine ⟨_, _, rfl, rd_drop1 (HO.out _ _) hp, fun b hb => ?_, by simp; omega, HS.out _ _, HK.out _ _⟩
          simp [Value.ownBlock] at hb
          subst hb
          have := HZ.out (.slice (some ⟨ga, 1, none⟩) (xs.length - 1) (k - 1)) (.slice (some ⟨ga, 1, none⟩) (xs.length - 1) (k - 1))
          omega
      · have b2 : (x == 2) = false := by simp [hx]
        clear hx
        have q0 := (D3.set 0 (.slice (some ⟨ga, 0, none⟩) xs.length k)).cell 0
        have hset : Keeps (fun q => q = w.heap.size) w3 (w3.setCell ⟨w.heap.size, 0, none⟩ (.slice (some ⟨ga, 0, none⟩) xs.length k)) := (Keeps.refl (fun q => q = w.heap.size) w3).setCell (p := ⟨w.heap.size, 0, none⟩) rfl _
        have hO4 := hO3.other (g := w.heap.size) (fun q hq => by have := (hO3.block q hq).1; omega) 0 (.slice (some ⟨ga, 0, none⟩) xs.length k)
        go_wp2
        refine bodyPost_ret (v := .agg #[.slice (some ⟨ga, 0, none⟩) xs.length k]) (by simp [results, Tryd.results21, go_sem, q0]) rfl ?_
        exact retSp_own (hO4.base_le (by omega)) (by omega) (s4.keeps hset (fun q hq e => by omega)) (hK3.join hset (fun q hq e => by omega))
end Go.Proofs.YtglghdkjppcedaaDoor

/- Contracts: draws of branches and of numbers beside them, by what is needed of them. -/
namespace Go.Proofs.YtglghdkjppcedaaDoor
open Go.RowKit

theorem pick_all {P : Int → Prop} {xs : List Int} {j : Nat} (hj : j < xs.length) (h : ∀ x, x ∈ xs → P x) : P (gI xs j) := h _ (gI_mem hj)
/-- A number between two others is drawn. -/
def RetNu (lo hi : Int) (w : World) (g : Nat) (e : Ending) (w' : World) : Prop := ∃ n : Int, e = .returned (.int .i64 n) ∧ lo ≤ n ∧ n ≤ hi ∧ Src w' g ∧ Keeps (fun q => q = g) w w'
/-- The slice v lies in memory that is new. -/
def NewV (w : World) (v : Value) : Prop := ∀ b, v.ownBlock = some b → w.heap.size ≤ b
/-- A list for a branch is handed back, with at most eight numbers. -/
def RetBr (w : World) (e : Ending) (w' : World) : Prop := ∃ v xs, e = .returned (.agg #[v]) ∧ Rd w' v xs ∧ NewV w v ∧ xs.length ≤ 8 ∧ Below w.heap.size w w'
/-- The same beside a number between two others. -/
def RetBN (lo hi : Int) (w : World) (e : Ending) (w' : World) : Prop := ∃ v xs n, e = .returned (.tuple #[.agg #[v], .int .i64 n]) ∧ Rd w' v xs ∧ NewV w v ∧ xs.length ≤ 8 ∧ lo ≤ n ∧ n ≤ hi ∧ Below w.heap.size w w'
theorem keeps_draw {w w1 w2 : World} {g : Nat} (hb : Below w.heap.size w w1) (hg : w.heap.size ≤ g) (hk : Keeps (fun q => q = g) w1 w2) : Below w.heap.size w w2 :=
  hb.trans (hk.below hb.size (fun k e => by omega))

end Go.Proofs.YtglghdkjppcedaaDoor

/- Contracts: the draws of chapter 5, by what is needed of them. -/
namespace Go.Proofs.YtglghdkjppcedaaDoor
open Go.RowKit

end Go.Proofs.YtglghdkjppcedaaDoor

/- Contracts: DeltaInvariant, MilnorOfBranch; the draw of generators. -/
namespace Go.Proofs.YtglghdkjppcedaaDoor
open Go.RowKit

set_option maxHeartbeats 1000000 in
theorem deltaInv_c (v : Value) (T : List Int) (w : World) (h : Rd w v T) (hok : BraOk T) :
    Calls Tryd.prog 45 #[.agg #[v]] w fun e w' => e = .returned (.tuple #[.int .i64 (deltaL (seqP T)), .int .i64 0]) ∧ Below w.heap.size w w' := by
  have hx := Boxed.start w 26 #[v]
  obtain ⟨a1, k1, rfl⟩ := h.len0
  have hc := braB_iff.2 hok
  have hn := seqP_num hok
  go_enter Tryd.func45, Tryd.ntmps45
  go_wp2_with fail
  refine (implIsBranch_c _ T _ (hx.rd h)).mono ?_
  rintro e w1 ⟨rfl, hb⟩
  rw [hc]
  have hx1 := hx.trans hb
  have c0 := hx1.cell 0
  go_wp2_with fail
  refine (sequence_c _ T _ (hx1.rd h) hok).mono ?_
  rintro e w2 ⟨u, rfl, hO, hb2⟩
  go_wp2_with fail
  refine (deltaOf_c _ (seqP T) _ hO.rd (fun i hi => by have := hn.1 i hi; omega) (by omega)).mono ?_
  rintro e w3 ⟨rfl, rfl⟩
  clear hn hO
  go_wp2
  go_ret2
  exact ⟨rfl, (hx1.trans hb2).below⟩
set_option maxHeartbeats 1000000 in
theorem milnor_c (v : Value) (T : List Int) (w : World) (h : Rd w v T) (hok : BraOk T) :
    Calls Tryd.prog 20 #[.agg #[v]] w fun e w' => e = .returned (.tuple #[.int .i64 (conI T), .int .i64 0]) ∧ Below w.heap.size w w' := by
  have hx := Boxed.start w 26 #[v]
  obtain ⟨a1, k1, rfl⟩ := h.len0
  have c0 := hx.cell 0
  have hd := delta_two (seqP T)
  rw [mu_con hok] at hd
  have hcb := conTo_bd hok (T.length - 1) (by have := hok.len; omega)
  have hl := bra_len hok
  have e : conTo T (T.length - 1) = conI T := rfl
  rw [e] at hcb
  have hw : IntKind.i64.wrap (2 * deltaL (seqP T)) = conI T := by rw [hd]; exact IntWalk.i64_in _ (by omega)
  go_enter Tryd.func20, Tryd.ntmps20
  go_wp2_with fail
  refine (deltaInv_c _ T _ (hx.rd h) hok).mono ?_
  rintro e w1 ⟨rfl, hb⟩
  have HF : Hid (2 * deltaL (seqP T) = conI T) := Lib.hid hd
  have hd1 : 0 ≤ 2 * deltaL (seqP T) + 64 := by omega
  have hd2 : 2 * deltaL (seqP T) ≤ 1000000000000000000 := by omega
  clear hd hw hcb e
  generalize deltaL (seqP T) = d at *
  go_wp2
  go_ret2
  exact ⟨show Ending.returned (.tuple #[.int .i64 (2 * d), .int .i64 0]) = _ by rw [HF.out], (hx.trans hb).below⟩

/-- A branch with n terms and a code. -/
def RvBC (w : World) (n : Nat) (xs : List Int) (c : Int) (e : Ending) (w' : World) : Prop :=
  ∃ a k, e = .returned (.tuple #[.agg #[.slice a n k], .int .i64 c]) ∧ Rd w' (.slice a n k) xs ∧ Below w.heap.size w w'
theorem rvBC_bc {w : World} {n : Nat} {xs ys : List Int} {c d : Int} {e : Ending} {w' : World} (h : RetBC w ys d e w') (h1 : ys = xs) (h2 : xs.length = n) (h3 : d = c) : RvBC w n xs c e w' := by
  subst h1 h2 h3
  obtain ⟨a, k, he, ho, hb⟩ := h
  exact ⟨a, k, he, ho.rd, hb⟩
/-- A list of at most eight numbers is handed back. -/
def RetLi (w : World) (e : Ending) (w' : World) : Prop := ∃ a n k xs, e = .returned (.slice a n k) ∧ xs.length = n ∧ Rd w' (.slice a n k) xs ∧ NewV w (.slice a n k) ∧ n ≤ 8 ∧ Below w.heap.size w w'
end Go.Proofs.YtglghdkjppcedaaDoor
