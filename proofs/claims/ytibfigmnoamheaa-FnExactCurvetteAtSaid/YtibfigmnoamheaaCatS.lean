/- Contract: spec.CurvetteAt. -/
import Derived.Test.YtibfigmnoamheaaCat
namespace Go.Proofs.Ytibfigmnoamheaa
open Go.RowKit

set_option maxRecDepth 100000 in
set_option maxHeartbeats 4000000 in
theorem specCat_yes (v : Value) (T xs : List Int) (n : Nat) (c : Int) (w : World) (h : Rd w v T) (h0 : ckC T (n : Int) = 0) (hR : CvR (codeL (seqL T n)) xs c) :
    Calls Try.prog 20 #[.agg #[v], .int .i64 ((n : Int) - 1)] w (RetBC w xs c) := by
  have hx := (Boxed.start w 26 #[v]).alloc (.cells #[.slice none 0 0] 26)
  have D := Blk.new' (w := w.alloc (.cells #[v] 26)) (t := 26) (cs := #[.slice none 0 0]) (g := w.heap.size + 1) (by simp)
  obtain ⟨a, cp, rfl⟩ := h.len0
  obtain ⟨hok, hk3, hk4⟩ := ckC_zero h0
  have e1 : (n : Int) - 1 + 1 = (n : Int) := by omega
  have hw : IntKind.i64.wrap (n : Int) = (n : Int) := IntWalk.i64_in _ (by omega)
  have hR2 : CocR (codeL (seqL T n)) xs c := .inr ⟨code_of_kco (kco_at h0), hR⟩
  have H0 := Lib.hid h0
  have HR := Lib.hid hR2
  have c0 := hx.cell 0
  have hKl : (codeL (seqL T n)).length = n - 1 := by rw [codeL_len, seqL_len]
  have HKL := Lib.hid hKl
  have hn0 : ¬ (n : Int) - 1 < 0 := by omega
  clear h0 hR hR2 hKl
  go_enter Try.func20, Try.ntmps20
  go_wp2_with fail
  refine (l06Range_c _ T n _ (hx.rd h)).mono ?_
  rintro e w1 ⟨rfl, hb⟩
  rw [H0.out]
  have hx1 := hx.trans hb
  have D1 := D.stays hb
  clear c0 hx D
  have c0 := hx1.cell 0
  go_wp2_with fail
  refine (l06Code_c _ T n _ (hx1.rd h) hok (by omega) (by omega)).mono ?_
  rintro e w2 ⟨ac, kc, rfl, hO, hb2⟩
  have hx2 := hx1.trans hb2
  have D2 := D1.stays hb2
  have hrdK := hO.rd
  rw [HKL.out] at hrdK ⊢
  have hDl := D2.lt
  clear hO c0 hx1 D1
  go_wp2_with fail
  refine (specCoc_c _ (codeL (seqL T n)) xs c _ hrdK HR.out).mono ?_
  rintro e w3 ⟨a3, k3, rfl, hO3, hb3⟩
  have hs3 := hb3.size
  have hal : Below w3.heap.size w3 (w3.alloc (.cells #[.slice a3 xs.length k3] 26)) := (Below.refl _ _).alloc (Nat.le_refl _) _
  have D3 := (D2.stays hb3).stays hal
  have fr3 := below_step (hx2.trans hb3).below hal
  have O3 := hO3.below hal (Nat.le_refl _)
  have B3 := Blk.new w3 26 #[.slice a3 xs.length k3]
  have e0 := D3.cell 0
  have f0 := D3.free 0
  have b0 := B3.cell 0
  have q0 := (D3.set 0 (.slice a3 xs.length k3)).cell 0
  have hfin : RetBC w xs c (.returned (.tuple #[.agg #[.slice a3 xs.length k3], .int .i64 c])) ((w3.alloc (.cells #[.slice a3 xs.length k3] 26)).setCell ⟨w.heap.size + 1, 0, none⟩ (.slice a3 xs.length k3)) :=
    retBC_of ((O3.other (g := w.heap.size + 1) (fun q hq => by have := (O3.block q hq).1; omega) 0 (.slice a3 xs.length k3)).base_le (by omega)) (fr3.setCell (p := ⟨w.heap.size + 1, 0, none⟩) (by show w.heap.size ≤ w.heap.size + 1; omega) (.slice a3 xs.length k3))
  clear hO3 hrdK O3
  go_wp2
  exact bodyPost_ret (v := .tuple #[.agg #[.slice a3 xs.length k3], .int .i64 c]) (by simp [results, Try.results20, go_sem, q0]) rfl hfin

set_option maxRecDepth 100000 in
set_option maxHeartbeats 4000000 in
theorem specCat_no (v : Value) (T : List Int) (k c : Int) (w : World) (h : Rd w v T) (h0 : ckC T (IntKind.i64.wrap (k + 1)) = c) (hc : c ≠ 0) :
    Calls Try.prog 20 #[.agg #[v], .int .i64 k] w (RetBC w [] c) := by
  have hx := (Boxed.start w 26 #[v]).alloc (.cells #[.slice none 0 0] 26)
  have D := Blk.new' (w := w.alloc (.cells #[v] 26)) (t := 26) (cs := #[.slice none 0 0]) (g := w.heap.size + 1) (by simp)
  obtain ⟨a, cp, rfl⟩ := h.len0
  generalize hkk : IntKind.i64.wrap (k + 1) = kk at *
  have H0 := Lib.hid h0
  have hcb : (c == 0) = false := by simpa using hc
  have hcb2 : (c != 0) = true := by simpa using hc
  have c0 := hx.cell 0
  clear h0 hc
  go_enter Try.func20, Try.ntmps20
  go_wp2_with fail
  refine (l06Range_c _ T kk _ (hx.rd h)).mono ?_
  rintro e w1 ⟨rfl, hb⟩
  rw [H0.out]
  have hx1 := hx.trans hb
  have D2 := D.stays hb
  have e0 := D2.cell 0
  have f0 := D2.free 0
  have q0 := (D2.set 0 (.slice none 0 0)).cell 0
  have hfin := retBC_none (c := c) (hx1.below.setCell (p := ⟨w.heap.size + 1, 0, none⟩) (by show w.heap.size ≤ w.heap.size + 1; omega) (.slice none 0 0))
  clear c0
  go_wp2
  exact bodyPost_ret (v := .tuple #[.agg #[.slice none 0 0], .int .i64 c]) (by simp [results, Try.results20, go_sem, q0]) rfl hfin
theorem specCat_c (v : Value) (T : List Int) (k : Int) (xs : List Int) (c : Int) (w : World) (h : Rd w v T) (hk0 : -9223372036854775808 ≤ k) (hk1 : k ≤ 9223372036854775807) (hR : CatR T k xs c) :
    Calls Try.prog 20 #[.agg #[v], .int .i64 k] w (RetBC w xs c) := by
  rcases hR with ⟨h1, rfl, rfl⟩ | ⟨h1, h2⟩
  · exact specCat_no v T k _ w h (ckC_wrap T hk0 hk1) h1
  · obtain ⟨_, h3, _⟩ := ckC_zero h1
    obtain ⟨n, hn⟩ := Int.eq_ofNat_of_zero_le (show 0 ≤ k + 1 by omega)
    have hkn : k = (n : Int) - 1 := by omega
    rw [hn] at h1 h2
    rw [hkn]
    exact specCat_yes v T xs n c w h h1 h2
theorem specCatW_c (v : Value) (T : List Int) (k : Int) (w : World) (h : Rd w v T) (wf : (Lit.int .i64 k).wf = true) (xs : List Int) (c : Int) (hR : CatR T k xs c) :
    Calls Try.prog 20 #[.agg #[v], .int .i64 k] w (RetBC w xs c) := specCat_c v T k xs c w h (wf_bd wf).1 (wf_bd wf).2 hR
theorem implCatW_c (v : Value) (T : List Int) (k : Int) (w : World) (h : Rd w v T) (wf : (Lit.int .i64 k).wf = true) (xs : List Int) (c : Int) (hR : CatR T k xs c) :
    Calls Try.prog 19 #[.agg #[v], .int .i64 k] w (RetBC w xs c) := implCat_c v T k xs c w h (wf_bd wf).1 (wf_bd wf).2 hR
end Go.Proofs.Ytibfigmnoamheaa
