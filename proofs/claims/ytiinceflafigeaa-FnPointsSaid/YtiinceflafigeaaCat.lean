/- Contracts: CurvetteAt. -/
import Derived.Test.YtiinceflafigeaaCoc
import Derived.Test.YtiinceflafigeaaMeetW
namespace Go.Proofs.Ytiinceflafigeaa
open Go.RowKit

/-- The code of the points of a branch is a code. -/
theorem kco_seq {M : List Int} (h : Eu M) (hl : M.length ≤ 400) : KCo (codeL M) := by
  refine ⟨kok_code hl, fun i hi => ?_⟩
  simp at hi
  have hil : i + 1 < M.length := by omega
  rw [gI_codeL hil]
  by_cases hs : 0 ≤ sI M (i + 1)
  · right
    have hb := sI_bd M (i + 1)
    have hp := pB_sec hs
    have hc : cI M i = ((i + 1 : Nat) : Int) - sI M (i + 1) := by simp [cI, hs]
    obtain ⟨s, hse⟩ := Int.eq_ofNat_of_zero_le hs
    rw [hse, Int.toNat_natCast] at hp
    rw [hse] at hc hb
    have hsi : s + 1 ≤ i := by omega
    refine ⟨by omega, ?_⟩
    by_cases he : s + 1 = i
    · left; rw [hc]; omega
    · right
      have h2 : pB M s i = true := pB_down h hil (by omega) (by omega) hp
      have h3 : sI M i = (s : Int) := by
        unfold sI
        rcases secTo_cases M i (i - 1) with ⟨_, h4⟩ | ⟨i', h4, h5, h6⟩
        · have := h4 s (by omega); rw [h2] at this; cases this
        · rw [h5]
          by_cases c1 : i' = s
          · rw [c1]
          · exfalso
            by_cases c2 : i' < s
            · exact pB_one h c2 (by omega) (by omega) h6 h2
            · exact pB_one h (show s < i' by omega) (by omega) (by omega) h2 h6
      obtain ⟨j, rfl⟩ : ∃ j, i = j + 1 := ⟨i - 1, by omega⟩
      rw [Nat.add_sub_cancel, gI_codeL (by omega)]
      have h5 : cI M j = ((j + 1 : Nat) : Int) - (s : Int) := by unfold cI; rw [h3, if_pos (by omega)]
      rw [h5, hc]
      omega
  · left; simp [cI, hs]
theorem code_of_kco {K : List Int} (h : KCo K) : isCodeB K = true := by
  refine isCode_good h.ok.1 fun j hj => ?_
  have h1 := h.step j hj
  have h2 := h.ok.2 j hj
  rcases h1 with h1 | ⟨h0, h1 | ⟨h1, h3⟩⟩
  · simp [codeStep, h1]
  · simp [codeStep, h1, h0]
  · have h4 := h.ok.2 (j - 1) (by omega)
    have hl := h.ok.1
    have hw : Go.RowKit.wrap64 (gI K (j - 1) + 1) = gI K (j - 1) + 1 := IntWalk.wrap64_in _ ⟨by omega, by omega⟩
    simp only [codeStep, hw, h3, decide_eq_true h0]
    have : (gI K (j - 1) != 0) = true := by simp; omega
    simp [this]

/-- What CurvetteAt hands back. -/
def CatR (T : List Int) (k : Int) (xs : List Int) (c : Int) : Prop := (ckC T (k + 1) ≠ 0 ∧ xs = [] ∧ c = ckC T (k + 1)) ∨ (ckC T (k + 1) = 0 ∧ CvR (codeL (seqL T (k + 1).toNat)) xs c)
theorem kco_at {T : List Int} {n : Nat} (h : ckC T (n : Int) = 0) : KCo (codeL (seqL T n)) := by
  obtain ⟨h1, h2, h3⟩ := ckC_zero h
  exact kco_seq (eu_seq h1 n) (by simp; omega)
theorem catR_ex (T : List Int) (k : Int) : ∃ xs c, CatR T k xs c ∧ xs.length ≤ 7 := by
  by_cases h : ckC T (k + 1) = 0
  · obtain ⟨_, h2, _⟩ := ckC_zero h
    obtain ⟨n, hn⟩ := Int.eq_ofNat_of_zero_le (show 0 ≤ k + 1 by omega)
    have hk := kco_at (T := T) (n := n) (by rw [← hn]; exact h)
    obtain ⟨xs, c, h3, h4⟩ := cvR_ex hk
    exact ⟨xs, c, .inr ⟨h, by rw [hn, Int.toNat_natCast]; exact h3⟩, h4⟩
  · exact ⟨[], _, .inl ⟨h, rfl, rfl⟩, by simp⟩

set_option maxRecDepth 100000 in
set_option maxHeartbeats 4000000 in
theorem implCat_yes (v : Value) (T xs : List Int) (n : Nat) (c : Int) (w : World) (h : Rd w v T) (h0 : ckC T (n : Int) = 0) (hR : CvR (codeL (seqL T n)) xs c) :
    Calls Try.prog 14 #[.agg #[v], .int .i64 ((n : Int) - 1)] w (RetBC w xs c) := by
  have hx := (Boxed.start w 26 #[v]).alloc (.cells #[.slice none 0 0] 26)
  have D := Blk.new' (w := w.alloc (.cells #[v] 26)) (t := 26) (cs := #[.slice none 0 0]) (g := w.heap.size + 1) (by simp)
  obtain ⟨a, cp, rfl⟩ := h.len0
  obtain ⟨hok, hk3, hk4⟩ := ckC_zero h0
  have e1 : (n : Int) - 1 + 1 = (n : Int) := by omega
  have hw : IntKind.i64.wrap (n : Int) = (n : Int) := IntWalk.i64_in _ (by omega)
  have HKC := Lib.hid (kco_at h0)
  have HC := Lib.hid (ckL_ok (xs := codeL (seqL T ((n : Int)).toNat)) h0)
  have H0 := Lib.hid h0
  have HR := Lib.hid hR
  have c0 := hx.cell 0
  clear h0 hR
  go_enter Try.func14, Try.ntmps14
  go_wp2_with fail
  refine (implCodeOf_c _ T n _ (hx.rd h)).mono ?_
  rintro e w1 ⟨ac, kc, rfl, hO, hb⟩
  rw [HC.out, Int.toNat_natCast] at hO ⊢
  rw [H0.out]
  have hx1 := hx.trans hb
  have D1 := D.stays hb
  have hrdK := hO.rd
  have hKl : (codeL (seqL T n)).length = n - 1 := by rw [codeL_len, seqL_len]
  rw [hKl] at hrdK ⊢
  have hDl := D1.lt
  clear c0 hx D hO hKl
  go_wp2_with fail
  refine (curvette_c _ (codeL (seqL T n)) xs c _ hrdK HKC.out HR.out).mono ?_
  rintro e w2 ⟨a2, k2, rfl, hO2, hb2⟩
  have hx2 := hx1.trans hb2
  have D2 := D1.stays hb2
  have e0 := D2.cell 0
  have f0 := D2.free 0
  have q0 := (D2.set 0 (.slice a2 xs.length k2)).cell 0
  have fr2 := hx2.below
  have hfin : RetBC w xs c (.returned (.tuple #[.agg #[.slice a2 xs.length k2], .int .i64 c])) (w2.setCell ⟨w.heap.size + 1, 0, none⟩ (.slice a2 xs.length k2)) :=
    retBC_of ((hO2.other (g := w.heap.size + 1) (fun q hq => by have := (hO2.block q hq).1; omega) 0 (.slice a2 xs.length k2)).base_le (by omega)) (fr2.setCell (p := ⟨w.heap.size + 1, 0, none⟩) (by show w.heap.size ≤ w.heap.size + 1; omega) (.slice a2 xs.length k2))
  clear hO2 hrdK
  go_wp2
  exact bodyPost_ret (v := .tuple #[.agg #[.slice a2 xs.length k2], .int .i64 c]) (by simp [results, Try.results14, go_sem, q0]) rfl hfin

set_option maxRecDepth 100000 in
set_option maxHeartbeats 4000000 in
theorem implCat_no (v : Value) (T : List Int) (k c : Int) (w : World) (h : Rd w v T) (h0 : ckC T (IntKind.i64.wrap (k + 1)) = c) (hc : c ≠ 0) :
    Calls Try.prog 14 #[.agg #[v], .int .i64 k] w (RetBC w [] c) := by
  have hx := (Boxed.start w 26 #[v]).alloc (.cells #[.slice none 0 0] 26)
  have D := Blk.new' (w := w.alloc (.cells #[v] 26)) (t := 26) (cs := #[.slice none 0 0]) (g := w.heap.size + 1) (by simp)
  obtain ⟨a, cp, rfl⟩ := h.len0
  generalize hkk : IntKind.i64.wrap (k + 1) = kk at *
  have HC := Lib.hid (ckL_no (T := T) (k := kk) (xs := codeL (seqL T kk.toNat)) (by rw [h0]; exact hc))
  have H0 := Lib.hid h0
  have hcb : (c == 0) = false := by simpa using hc
  have hcb2 : (c != 0) = true := by simpa using hc
  have c0 := hx.cell 0
  clear h0 hc
  go_enter Try.func14, Try.ntmps14
  go_wp2_with fail
  refine (implCodeOf_c _ T kk _ (hx.rd h)).mono ?_
  rintro e w1 ⟨ac, kc, rfl, hO, hb⟩
  rw [HC.out, List.length_nil] at hO ⊢
  rw [H0.out]
  have hx1 := hx.trans hb
  have D2 := D.stays hb
  have e0 := D2.cell 0
  have f0 := D2.free 0
  have q0 := (D2.set 0 (.slice none 0 0)).cell 0
  have hfin := retBC_none (c := c) (hx1.below.setCell (p := ⟨w.heap.size + 1, 0, none⟩) (by show w.heap.size ≤ w.heap.size + 1; omega) (.slice none 0 0))
  clear hO c0
  go_wp2
  exact bodyPost_ret (v := .tuple #[.agg #[.slice none 0 0], .int .i64 c]) (by simp [results, Try.results14, go_sem, q0]) rfl hfin
theorem implCat_c (v : Value) (T : List Int) (k : Int) (xs : List Int) (c : Int) (w : World) (h : Rd w v T) (hk0 : -9223372036854775808 ≤ k) (hk1 : k ≤ 9223372036854775807) (hR : CatR T k xs c) :
    Calls Try.prog 14 #[.agg #[v], .int .i64 k] w (RetBC w xs c) := by
  rcases hR with ⟨h1, rfl, rfl⟩ | ⟨h1, h2⟩
  · exact implCat_no v T k _ w h (ckC_wrap T hk0 hk1) h1
  · obtain ⟨_, h3, _⟩ := ckC_zero h1
    obtain ⟨n, hn⟩ := Int.eq_ofNat_of_zero_le (show 0 ≤ k + 1 by omega)
    have hkn : k = (n : Int) - 1 := by omega
    rw [hn] at h1 h2
    rw [hkn]
    exact implCat_yes v T xs n c w h h1 h2
end Go.Proofs.Ytiinceflafigeaa
