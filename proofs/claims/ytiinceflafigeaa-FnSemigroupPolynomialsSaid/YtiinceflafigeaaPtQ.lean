/- Contracts: MultiplicitiesAt. What is handed back lies in the first cells of a block of the call's own that has more. -/
import Derived.Test.YtiinceflafigeaaPtC
import Derived.Test.YtiinceflafigeaaHelpB
namespace Go.Proofs.Ytiinceflafigeaa
open Go.RowKit

theorem cell_set_same {w : World} {g j : Nat} {u : Value} (h : w.cell? ⟨g, j, none⟩ = some u) (v : Value) : (w.setCell ⟨g, j, none⟩ v).cell? ⟨g, j, none⟩ = some v := by
  unfold World.cell? at h ⊢
  cases hg : w.heap[g]? with
  | none => simp [hg] at h
  | some o =>
    cases o with
    | cells c e f =>
      simp only [hg] at h
      have hj : j < c.size := by
        simp at h
        exact (Array.getElem?_eq_some_iff.1 h).1
      simp [World.setCell, Array.getElem?_modify, hg, hj]
    | _ => simp [hg] at h
theorem cell_set_other {w : World} {g i j : Nat} (v : Value) (h : j ≠ i) : (w.setCell ⟨g, j, none⟩ v).cell? ⟨g, i, none⟩ = w.cell? ⟨g, i, none⟩ := by
  unfold World.cell?
  cases hg : w.heap[g]? with
  | none => simp [World.setCell, Array.getElem?_modify, hg]
  | some o => cases o <;> simp [World.setCell, Array.getElem?_modify, hg, h]
theorem frozen_set {w : World} {g j i : Nat} (v : Value) : (w.setCell ⟨g, j, none⟩ v).frozen? ⟨g, i, none⟩ = w.frozen? ⟨g, i, none⟩ := by
  unfold World.frozen?
  cases hg : w.heap[g]? with
  | none => simp [World.setCell, Array.getElem?_modify, hg]
  | some o => cases o <;> simp [World.setCell, Array.getElem?_modify, hg]
/-- The slice v has the numbers xs, in cells of a block from base on that may be written. -/
def OwnQ (w : World) (base : Nat) (v : Value) (xs : List Int) : Prop :=
  (v = .slice none 0 0 ∧ xs = []) ∨ ∃ g, v = .slice (some ⟨g, 0, none⟩) xs.length xs.length ∧ base ≤ g ∧ g < w.heap.size ∧ xs.length ≤ 1000000000 ∧ (∀ i, i < xs.length → w.cell? ⟨g, i, none⟩ = some (.int .i64 (gI xs i))) ∧ ∀ i, w.frozen? ⟨g, i, none⟩ = false
theorem OwnQ.nil (w : World) (base : Nat) : OwnQ w base (.slice none 0 0) [] := .inl ⟨rfl, rfl⟩
theorem OwnQ.block {w : World} {base : Nat} {v : Value} {xs : List Int} (h : OwnQ w base v xs) : ∀ g, v.ownBlock = some g → base ≤ g ∧ g < w.heap.size := by
  intro g hg
  rcases h with ⟨rfl, _⟩ | ⟨g', rfl, h1, h2, _⟩
  · simp [Value.ownBlock] at hg
  · simp [Value.ownBlock] at hg; omega
theorem OwnQ.rd {w : World} {base : Nat} {v : Value} {xs : List Int} (h : OwnQ w base v xs) : Rd w v xs := by
  rcases h with ⟨rfl, rfl⟩ | ⟨g, rfl, h1, h2, h3, h4, _⟩
  · exact rd_nil w
  · exact ⟨_, _, rfl, Nat.le_refl _, by omega, fun _ => ⟨g, 0, rfl, h2, fun i hi => by rw [Nat.zero_add]; exact h4 i hi⟩⟩
theorem OwnQ.keeps {w w' : World} {base : Nat} {v : Value} {xs : List Int} {M : Nat → Prop} (h : OwnQ w base v xs) (hk : Keeps M w w') (hn : ∀ g, v.ownBlock = some g → ¬ M g) : OwnQ w' base v xs := by
  rcases h with h | ⟨g, rfl, h1, h2, h3, h4, h5⟩
  · exact .inl h
  · have hg := hn g rfl
    exact .inr ⟨g, rfl, h1, Nat.lt_of_lt_of_le h2 hk.size, h3, fun i hi => by rw [hk.cell (p := ⟨g, i, none⟩) h2 hg]; exact h4 i hi, fun i => by rw [hk.frozen (p := ⟨g, i, none⟩) h2 hg]; exact h5 i⟩
theorem OwnQ.below {w w' : World} {base : Nat} {v : Value} {xs : List Int} {B : Nat} (h : OwnQ w base v xs) (hb : Below B w w') (hB : w.heap.size ≤ B) : OwnQ w' base v xs :=
  h.keeps (M := fun _ => False) (Keeps.of_below (hb.mono hB)) (fun _ _ => id)
theorem OwnQ.base_le {w : World} {base base' : Nat} {v : Value} {xs : List Int} (h : OwnQ w base v xs) (hB : base' ≤ base) : OwnQ w base' v xs := by
  rcases h with h | ⟨g, h0, h1, h2⟩
  · exact .inl h
  · exact .inr ⟨g, h0, Nat.le_trans hB h1, h2⟩

set_option maxHeartbeats 400000 in
theorem markQ_c (v : Value) (xs : List Int) (k : Int) (base : Nat) (w : World) (h : OwnQ w base v xs) (h0 : 0 ≤ k) (h1 : k ≤ 1000000000000) (hn : xs.length ≤ 1000000000000) :
    Calls Try.prog 133 #[v, .int .i64 k] w fun e w' => e = .returned (.int .i64 (k + xs.length)) ∧ OwnQ w' base v (iotaI k xs.length) ∧ Keeps (fun b => v.ownBlock = some b) w w' := by
  rcases h with ⟨rfl, rfl⟩ | ⟨g, rfl, hb0, hb1, hb2, hb3, hb4⟩
  · go_enter Try.func133, Try.ntmps133
    go_wp2
    refine wp_loop_rounds 1 ?_
    rw [rounds_succ]
    go_wp2
    go_ret
    exact ⟨ret_int (by simp), OwnQ.nil _ _, Keeps.refl _ _⟩
  · have HB := Lib.hid hb1
    go_enter Try.func133, Try.ntmps133
    go_wp2
    go_loopw [1, 5] (fun s i wr => ∃ j : Nat, j ≤ xs.length ∧ i = .int .i64 j ∧ s = .int .i64 (k + j) ∧ (∀ t, t < j → wr.cell? ⟨g, t, none⟩ = some (.int .i64 (k + (t : Int)))) ∧ (∀ t, j ≤ t → t < xs.length → wr.cell? ⟨g, t, none⟩ = some (.int .i64 (gI xs t))) ∧ (∀ t, wr.frozen? ⟨g, t, none⟩ = false) ∧ Keeps (fun b => g = b) w wr) (fun _ i _ => xs.length - (intOf i).toNat)
    case atStart => exact ⟨0, Nat.zero_le _, rfl, by simp, fun t ht => by omega, fun t _ ht => hb3 t ht, hb4, Keeps.refl _ _⟩
    case round =>
      obtain ⟨j, hj, rfl, rfl, hc1, hc2, hfr, hkp⟩ := hrel
      clear hb3 hb4
      by_cases hlt : j < xs.length
      · have hc := hc2 j (Nat.le_refl _) hlt
        have hf := hfr j
        have hn1 : ∀ t, t < j + 1 → (wr.setCell ⟨g, j, none⟩ (.int .i64 (k + j))).cell? ⟨g, t, none⟩ = some (.int .i64 (k + (t : Int))) := fun t ht => by
          by_cases e : t = j
          · subst e; exact cell_set_same hc _
          · rw [cell_set_other _ (by omega)]; exact hc1 t (by omega)
        have hn2 : ∀ t, j + 1 ≤ t → t < xs.length → (wr.setCell ⟨g, j, none⟩ (.int .i64 (k + j))).cell? ⟨g, t, none⟩ = some (.int .i64 (gI xs t)) := fun t ht ht2 => by
          rw [cell_set_other _ (by omega)]; exact hc2 t (by omega) ht2
        have hn3 : ∀ t, (wr.setCell ⟨g, j, none⟩ (.int .i64 (k + j))).frozen? ⟨g, t, none⟩ = false := fun t => by rw [frozen_set]; exact hfr t
        have hkp' := hkp.setCell (p := ⟨g, j, none⟩) rfl (.int .i64 (k + j))
        have N1 := Lib.hid hn1
        have N2 := Lib.hid hn2
        have N3 := Lib.hid hn3
        clear hn1 hn2 hn3 hc1 hc2 hfr hkp
        generalize gI xs j = x at *
        go_wp2
        go_roundw
        case rel => exact ⟨j + 1, by omega, by go_num, by go_num, N1.out, N2.out, N3.out, hkp'⟩
        case measure => simp [intOf]; omega
      · have hj' : j = xs.length := by omega
        subst hj'
        have hfin : OwnQ wr base (.slice (some ⟨g, 0, none⟩) xs.length xs.length) (iotaI k xs.length) := .inr ⟨g, by simp, hb0, Nat.lt_of_lt_of_le HB.out hkp.size, by simpa using hb2, fun t ht => by
          rw [gI_iota (by simpa using ht)]; exact hc1 t (by simpa using ht), hfr⟩
        have HF := Lib.hid hfin
        clear hfin hc1 hc2 hfr
        go_wp2
        go_ret
        exact ⟨rfl, HF.out, hkp.mono (fun b hb => by simp [Value.ownBlock, hb])⟩

/-- What MultiplicitiesAt hands back. -/
def RetQC (w : World) (xs : List Int) (c : Int) (e : Ending) (w' : World) : Prop :=
  ∃ a k, e = .returned (.tuple #[.slice a xs.length k, .int .i64 c]) ∧ OwnQ w' w.heap.size (.slice a xs.length k) xs ∧ Below w.heap.size w w'
theorem mu_len (T : List Int) (k : Int) : (ckL T k (seqL T k.toNat)).length ≤ 400 := by
  by_cases h : ckC T k = 0
  · rw [ckL_ok h, seqL_len]
    have := ckC_zero h
    omega
  · rw [ckL_no h]; simp

set_option maxRecDepth 100000 in
set_option maxHeartbeats 1000000 in
theorem implMultiplicitiesAt_c (v : Value) (T : List Int) (k : Int) (w : World) (h : Rd w v T) :
    Calls Try.prog 91 #[.agg #[v], .int .i64 k] w (RetQC w (ckL T k (seqL T k.toNat)) (ckC T k)) := by
  have hx := Boxed.start w 26 #[v]
  obtain ⟨a, c, rfl⟩ := h.len0
  have c0 := hx.cell 0
  by_cases h0 : ckC T k = 0
  · obtain ⟨hok, hk1, hk2⟩ := ckC_zero h0
    obtain ⟨n, rfl⟩ := Int.eq_ofNat_of_zero_le (show 0 ≤ k by omega)
    have HL := Lib.hid (ckL_ok (xs := seqL T ((n : Int)).toNat) h0)
    go_enter Try.func91, Try.ntmps91
    go_wp2_with fail
    refine (checkPoints_c _ T _ _ (hx.rd h)).mono ?_
    rintro e w1 ⟨rfl, hb⟩
    rw [h0]
    have hx1 := hx.trans hb
    have c1 := hx1.cell 0
    clear c0
    go_wp2_with fail
    refine (firstOf_c _ T n _ (hx1.rd h) hok (by omega) (by omega)).mono ?_
    rintro e w2 ⟨g, rfl, hg1, hg2, hc, hf, hb2⟩
    have hx2 := hx1.trans hb2
    have hsl := seqL_len T n
    have hQ : OwnQ w2 w.heap.size (.slice (some ⟨g, 0, none⟩) (seqL T n).length (seqL T n).length) (seqL T n) := .inr ⟨g, rfl, by have := hx1.size; omega, hg2, by omega, fun i hi => hc i (by omega), hf⟩
    have hret : RetQC w (ckL T n (seqL T ((n : Int)).toNat)) (ckC T n) (.returned (.tuple #[.slice (some ⟨g, 0, none⟩) (seqL T n).length (seqL T n).length, .int .i64 0])) w2 := by
      rw [HL.out, h0]
      exact ⟨_, _, rfl, hQ, hx2.below⟩
    rw [hsl] at hret
    have HF := Lib.hid hret
    clear c1 hc hf hQ hret HL h0
    go_wp2
    go_ret2
    exact HF.out
  · have HL := Lib.hid (ckL_no (xs := seqL T k.toNat) h0)
    go_enter Try.func91, Try.ntmps91
    go_wp2_with fail
    refine (checkPoints_c _ T _ _ (hx.rd h)).mono ?_
    rintro e w1 ⟨rfl, hb⟩
    have hne : (ckC T k != 0) = true := by simp [h0]
    have HF := Lib.hid (show RetQC w (ckL T k (seqL T k.toNat)) (ckC T k) (.returned (.tuple #[.slice none 0 0, .int .i64 (ckC T k)])) w1 by rw [HL.out]; exact ⟨none, 0, rfl, OwnQ.nil _ _, (hx.trans hb).below⟩)
    clear HL h0
    go_wp2
    go_ret2
    exact HF.out

set_option maxRecDepth 100000 in
theorem specMultiplicitiesAt_c (v : Value) (T : List Int) (k : Int) (w : World) (h : Rd w v T) :
    Calls Try.prog 92 #[.agg #[v], .int .i64 k] w (RetIC w (ckL T k (seqL T k.toNat)) (ckC T k)) := by
  have hx := Boxed.start w 26 #[v]
  obtain ⟨a, c, rfl⟩ := h.len0
  have c0 := hx.cell 0
  by_cases h0 : ckC T k = 0
  · obtain ⟨hok, hk1, hk2⟩ := ckC_zero h0
    obtain ⟨n, rfl⟩ := Int.eq_ofNat_of_zero_le (show 0 ≤ k by omega)
    have HL := Lib.hid (ckL_ok (xs := seqL T ((n : Int)).toNat) h0)
    go_enter Try.func92, Try.ntmps92
    go_wp2_with fail
    refine (l06Range_c _ T _ _ (hx.rd h)).mono ?_
    rintro e w1 ⟨rfl, hb⟩
    rw [h0]
    have hx1 := hx.trans hb
    have c1 := hx1.cell 0
    clear c0
    go_wp2_with fail
    refine (l06Sequence_c _ T n _ (hx1.rd h) hok (by omega)).mono ?_
    rintro e w3 ⟨ac, kc, rfl, hO, hb3⟩
    have HF := Lib.hid (show RetIC w (ckL T n (seqL T ((n : Int)).toNat)) (ckC T n) (.returned (.tuple #[.slice ac (seqL T n).length kc, .int .i64 0])) w3 by
      rw [HL.out, h0]
      exact ⟨ac, kc, rfl, hO.base_le (Nat.le_of_lt hx1.size), (hx1.trans hb3).below⟩)
    rw [seqL_len] at HF ⊢
    clear hO HL h0 c1
    go_wp2
    go_ret2
    exact HF.out
  · have HL := Lib.hid (ckL_no (xs := seqL T k.toNat) h0)
    go_enter Try.func92, Try.ntmps92
    go_wp2_with fail
    refine (l06Range_c _ T _ _ (hx.rd h)).mono ?_
    rintro e w1 ⟨rfl, hb⟩
    have hne : (ckC T k != 0) = true := by simp [h0]
    have HF := Lib.hid (show RetIC w (ckL T k (seqL T k.toNat)) (ckC T k) (.returned (.tuple #[.slice none 0 0, .int .i64 (ckC T k)])) w1 by rw [HL.out]; exact retIC_nil (hx.trans hb).below)
    clear HL h0
    go_wp2
    go_ret2
    exact HF.out
end Go.Proofs.Ytiinceflafigeaa
