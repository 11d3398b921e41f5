/- Contracts: impl.curvette, CurvetteOfCode. -/
import Derived.Test.YtibfigmnoamheaaSpB
import Derived.Test.YtibfigmnoamheaaCurS
import Derived.Test.YtibfigmnoamheaaOnes
import Derived.Test.YtibfigmnoamheaaCode
namespace Go.Proofs.Ytibfigmnoamheaa
open Go.RowKit

/-- What the curvette of a code is: its terms, and the code. -/
def CvR (K xs : List Int) (c : Int) : Prop := (cuB K = false ∧ xs = [] ∧ c = 5) ∨ (cuB K = true ∧ ∃ T z, CurT (cuM K) T z ∧ ((braB T = true ∧ xs = T ∧ c = 0) ∨ (braB T = false ∧ xs = [] ∧ c = 5)))
theorem cuB_parts {K : List Int} (h : cuB K = true) : cuGo K K.length ∧ gI (cuM K) 0 ≤ 64 ∧ cuL K = cuM K := by
  have h1 : cuE K = true := by unfold cuB at h; simp at h; exact h.1
  have hg := cuE_go h1
  refine ⟨hg, ?_, cuL_yes hg⟩
  rw [cuB_yes hg] at h
  simpa using h
theorem cvR_ex {K : List Int} (h : KCo K) : ∃ xs c, CvR K xs c ∧ xs.length ≤ 7 := by
  cases hc : cuB K
  · exact ⟨[], 5, .inl ⟨hc, rfl, rfl⟩, by simp⟩
  · obtain ⟨T, z, hT⟩ := curT_ex h (cuB_parts hc).2.1
    cases hb : braB T
    · exact ⟨[], 5, .inr ⟨hc, T, z, hT, .inr ⟨hb, rfl, rfl⟩⟩, by simp⟩
    · exact ⟨T, 0, .inr ⟨hc, T, z, hT, .inl ⟨hb, rfl, rfl⟩⟩, hT.len7⟩
theorem retBC_of {w w' : World} {xs : List Int} {c : Int} {a : Option Addr} {k : Nat} (h : OwnI w' w.heap.size (.slice a xs.length k) xs) (hb : Below w.heap.size w w') : RetBC w xs c (.returned (.tuple #[.agg #[.slice a xs.length k], .int .i64 c])) w' := ⟨a, k, rfl, h, hb⟩
theorem retBC_none {w w' : World} {c : Int} (hb : Below w.heap.size w w') : RetBC w [] c (.returned (.tuple #[.agg #[.slice none 0 0], .int .i64 c])) w' := ⟨none, 0, rfl, own_nil _ _ _, hb⟩

set_option maxHeartbeats 2000000 in
theorem curvette_no (v : Value) (K : List Int) (w : World) (h : Rd w v K) (hK : KCo K) (hc : cuB K = false) :
    Calls Try.prog 123 #[v] w (RetBC w [] 5) := by
  obtain ⟨a0, c0, rfl⟩ := h.len0
  have D := Blk.new w 26 #[.slice none 0 0]
  have fr : Below w.heap.size w (w.alloc (.cells #[.slice none 0 0] 26)) := (Below.refl _ _).alloc (Nat.le_refl _) _
  have h1 := h.below fr (Nat.le_refl _)
  have HC := Lib.hid hc
  go_enter Try.func123, Try.ntmps123
  go_wp2_with fail
  refine (curvetteMultiplicities_c _ K _ h1 hK.ok).mono ?_
  rintro e w1 ⟨a, k, rfl, hO, hb⟩
  rw [HC.out]
  have D1 := D.stays hb
  have fr1 := below_step fr hb
  have e0 := D1.cell 0
  have f0 := D1.free 0
  have q0 := (D1.set 0 (.slice none 0 0)).cell 0
  have hfin := retBC_none (c := 5) (fr1.setCell (p := ⟨w.heap.size, 0, none⟩) (Nat.le_refl _) (.slice none 0 0))
  generalize (cuL K).length = n at *
  go_wp2
  exact bodyPost_ret (v := .tuple #[.agg #[.slice none 0 0], .int .i64 5]) (by simp [results, Try.results123, go_sem, q0]) rfl hfin

set_option maxHeartbeats 4000000 in
theorem curvette_yes (v : Value) (K T : List Int) (z : Nat) (fb : Bool) (w : World) (h : Rd w v K) (hK : KCo K) (hc : cuB K = true) (hT : CurT (cuM K) T z) (hfb : braB T = fb) :
    Calls Try.prog 123 #[v] w (RetBC w (okL fb T) (okC fb 5)) := by
  obtain ⟨a0, c0, rfl⟩ := h.len0
  have D := Blk.new w 26 #[.slice none 0 0]
  have fr : Below w.heap.size w (w.alloc (.cells #[.slice none 0 0] 26)) := (Below.refl _ _).alloc (Nat.le_refl _) _
  have h1 := h.below fr (Nat.le_refl _)
  obtain ⟨_, h64, hcl⟩ := cuB_parts hc
  have hml : (cuM K).length = K.length + 1 := cuAt_len K K.length
  have hkl := hK.ok.1
  have HC := Lib.hid hc
  have HT := Lib.hid hT
  have HF := Lib.hid hfb
  have hcall := curvetteMultiplicities_c (.slice a0 K.length c0) K _ h1 hK.ok
  rw [hcl, hc] at hcall
  have HCA := Lib.hid hcall
  have HML := Lib.hid hml
  clear hcall hc hT hfb hcl hml
  go_enter Try.func123, Try.ntmps123
  go_wp2_with fail
  refine HCA.out.mono ?_
  rintro e w1 ⟨a, k, rfl, hO, hb⟩
  have D1 := D.stays hb
  have fr1 := below_step fr hb
  have hrd2 := hO.rd
  rw [HML.out] at hrd2
  have hcall2 := branchOfSequence_c _ (cuM K) T z fb w1 hrd2 HT.out h64 (by rw [HML.out]; omega) (by rw [HML.out]; omega) HF.out
  have HC2 := Lib.hid hcall2
  clear hcall2 h1 fr D hrd2
  go_wp2_with fail
  refine HC2.out.mono ?_
  rintro e w2 ⟨a2, k2, rfl, hO2, hb2⟩
  have hsz1 := fr1.size
  have hs2 := hb2.size
  have D2 := (D1.stays hb2).alloc (.cells #[.slice a2 T.length k2] 26)
  have hal : Below w2.heap.size w2 (w2.alloc (.cells #[.slice a2 T.length k2] 26)) := (Below.refl _ _).alloc (Nat.le_refl _) _
  have fr2 := below_step (below_step fr1 hb2) hal
  have O3 := hO2.below hal (Nat.le_refl _)
  have B2 := Blk.new w2 26 #[.slice a2 T.length k2]
  have e0 := D2.cell 0
  have f0 := D2.free 0
  have b0 := B2.cell 0
  have hDl := D1.lt
  clear hO hO2 HC2 HCA
  cases fb
  · have q0 := (D2.set 0 (.slice none 0 0)).cell 0
    have hfin := retBC_none (c := 5) (fr2.setCell (p := ⟨w.heap.size, 0, none⟩) (Nat.le_refl _) (.slice none 0 0))
    go_wp2
    exact bodyPost_ret (v := .tuple #[.agg #[.slice none 0 0], .int .i64 5]) (by simp [results, Try.results123, go_sem, q0]) rfl hfin
  · have q0 := (D2.set 0 (.slice a2 T.length k2)).cell 0
    have hfin : RetBC w T 0 (.returned (.tuple #[.agg #[.slice a2 T.length k2], .int .i64 0])) ((w2.alloc (.cells #[.slice a2 T.length k2] 26)).setCell ⟨w.heap.size, 0, none⟩ (.slice a2 T.length k2)) :=
      retBC_of ((O3.other (g := w.heap.size) (fun q hq => by have := (O3.block q hq).1; omega) 0 (.slice a2 T.length k2)).base_le (by omega)) (fr2.setCell (p := ⟨w.heap.size, 0, none⟩) (Nat.le_refl _) (.slice a2 T.length k2))
    go_wp2
    exact bodyPost_ret (v := .tuple #[.agg #[.slice a2 T.length k2], .int .i64 0]) (by simp [results, Try.results123, go_sem, q0]) rfl hfin
theorem curvette_c (v : Value) (K xs : List Int) (c : Int) (w : World) (h : Rd w v K) (hK : KCo K) (hR : CvR K xs c) :
    Calls Try.prog 123 #[v] w (RetBC w xs c) := by
  rcases hR with ⟨h1, rfl, rfl⟩ | ⟨h1, T, z, hT, ⟨hb, rfl, rfl⟩ | ⟨hb, rfl, rfl⟩⟩
  · exact curvette_no v K w h hK h1
  · exact curvette_yes v K _ z true w h hK h1 hT hb
  · exact curvette_yes v K T z false w h hK h1 hT hb

/-- What CurvetteOfCode hands back. -/
def CocR (K xs : List Int) (c : Int) : Prop := (isCodeB K = false ∧ xs = [] ∧ c = 2) ∨ (isCodeB K = true ∧ CvR K xs c)
theorem cocR_ex (K : List Int) : ∃ xs c, CocR K xs c ∧ xs.length ≤ 7 := by
  cases hc : isCodeB K
  · exact ⟨[], 2, .inl ⟨hc, rfl, rfl⟩, by simp⟩
  · obtain ⟨xs, c, h1, h2⟩ := cvR_ex (kco_of_code hc)
    exact ⟨xs, c, .inr ⟨hc, h1⟩, h2⟩

set_option maxHeartbeats 2000000 in
theorem implCoc_no (v : Value) (K : List Int) (w : World) (h : Rd w v K) (hc : isCodeB K = false) :
    Calls Try.prog 28 #[v] w (RetBC w [] 2) := by
  obtain ⟨a0, c0, rfl⟩ := h.len0
  have D := Blk.new w 26 #[.slice none 0 0]
  have fr : Below w.heap.size w (w.alloc (.cells #[.slice none 0 0] 26)) := (Below.refl _ _).alloc (Nat.le_refl _) _
  have h1 := h.below fr (Nat.le_refl _)
  have HC := Lib.hid hc
  go_enter Try.func28, Try.ntmps28
  go_wp2_with fail
  refine (implIsCode_c _ K _ h1).mono ?_
  rintro e w1 ⟨rfl, hd⟩
  rw [HC.out]
  have hb := hd.below (w.alloc (.cells #[.slice none 0 0] 26)).heap.size
  have D1 := D.stays hb
  have fr1 := below_step fr hb
  have e0 := D1.cell 0
  have f0 := D1.free 0
  have q0 := (D1.set 0 (.slice none 0 0)).cell 0
  have hfin := retBC_none (c := 2) (fr1.setCell (p := ⟨w.heap.size, 0, none⟩) (Nat.le_refl _) (.slice none 0 0))
  go_wp2
  exact bodyPost_ret (v := .tuple #[.agg #[.slice none 0 0], .int .i64 2]) (by simp [results, Try.results28, go_sem, q0]) rfl hfin

set_option maxHeartbeats 2000000 in
theorem implCoc_yes (v : Value) (K xs : List Int) (c : Int) (w : World) (h : Rd w v K) (hc : isCodeB K = true) (hR : CvR K xs c) :
    Calls Try.prog 28 #[v] w (RetBC w xs c) := by
  obtain ⟨a0, c0, rfl⟩ := h.len0
  have D := Blk.new w 26 #[.slice none 0 0]
  have fr : Below w.heap.size w (w.alloc (.cells #[.slice none 0 0] 26)) := (Below.refl _ _).alloc (Nat.le_refl _) _
  have h1 := h.below fr (Nat.le_refl _)
  have HC := Lib.hid hc
  have HR := Lib.hid hR
  clear hR hc
  go_enter Try.func28, Try.ntmps28
  go_wp2_with fail
  refine (implIsCode_c _ K _ h1).mono ?_
  rintro e w1 ⟨rfl, hd⟩
  rw [HC.out]
  have hb := hd.below (w.alloc (.cells #[.slice none 0 0] 26)).heap.size
  have D1 := D.stays hb
  have fr1 := below_step fr hb
  clear D
  go_wp2_with fail
  refine (curvette_c _ K xs c _ (h1.below hb (Nat.le_refl _)) (kco_of_code HC.out) HR.out).mono ?_
  rintro e w2 ⟨a2, k2, rfl, hO2, hb2⟩
  have hDl := D1.lt
  have D2 := D1.stays hb2
  have fr2 := below_step fr1 hb2
  have e0 := D2.cell 0
  have f0 := D2.free 0
  have q0 := (D2.set 0 (.slice a2 xs.length k2)).cell 0
  have hfin : RetBC w xs c (.returned (.tuple #[.agg #[.slice a2 xs.length k2], .int .i64 c])) (w2.setCell ⟨w.heap.size, 0, none⟩ (.slice a2 xs.length k2)) :=
    retBC_of ((hO2.other (g := w.heap.size) (fun q hq => by have := (hO2.block q hq).1; omega) 0 (.slice a2 xs.length k2)).base_le (by omega)) (fr2.setCell (p := ⟨w.heap.size, 0, none⟩) (Nat.le_refl _) (.slice a2 xs.length k2))
  clear hO2
  go_wp2
  exact bodyPost_ret (v := .tuple #[.agg #[.slice a2 xs.length k2], .int .i64 c]) (by simp [results, Try.results28, go_sem, q0]) rfl hfin
theorem implCoc_c (v : Value) (K xs : List Int) (c : Int) (w : World) (h : Rd w v K) (hR : CocR K xs c) :
    Calls Try.prog 28 #[v] w (RetBC w xs c) := by
  rcases hR with ⟨h1, rfl, rfl⟩ | ⟨h1, h2⟩
  · exact implCoc_no v K w h h1
  · exact implCoc_yes v K xs c w h h1 h2
end Go.Proofs.Ytibfigmnoamheaa
