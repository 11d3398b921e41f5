/- Contracts: impl.curvette, CurvetteOfCode. -/
import Derived.Test.YtiinceflafigeaaSpB
import Derived.Test.YtiinceflafigeaaCurS
import Derived.Test.YtiinceflafigeaaPtDS
import Derived.Test.YtiinceflafigeaaCode
namespace Go.Proofs.Ytiinceflafigeaa
open Go.RowKit

/-- What the curvette of a code is: its terms, and the code. -/
def CvR (K xs : List Int) (c : Int) : Prop := (cuB K = false ∧ xs = [] ∧ c = 5) ∨ (cuB K = true ∧ ∃ T z, CurT (cuM K) T z ∧ ((braB T = true ∧ xs = T ∧ c = 0) ∨ (braB T = false ∧ xs = [] ∧ c = 5)))
theorem cuB_parts {K : List Int} (h : cuB K = true) : cuGo K K.length ∧ gI (cuM K) 0 ≤ 64 ∧ cuL K = cuM K := by
  have h1 : cuE K = true := by unfold cuB at h; simp at h; exact h.1
  have hg := cuE_go h1
  refine ⟨hg, ?_, cuL_yes hg⟩
  rw [cuB_yes hg] at h
  simpa using h
theorem cvR_ex {K : List Int} (h : KCo K) : ∃ xs c, CvR K xs c ∧ xs.length ≤ 7 := by
  cases hc : cuB K
  · exact ⟨[], 5, .inl ⟨hc, rfl, rfl⟩, by simp⟩
  · obtain ⟨T, z, hT⟩ := curT_ex h (cuB_parts hc).2.1
    cases hb : braB T
    · exact ⟨[], 5, .inr ⟨hc, T, z, hT, .inr ⟨hb, rfl, rfl⟩⟩, by simp⟩
    · exact ⟨T, 0, .inr ⟨hc, T, z, hT, .inl ⟨hb, rfl, rfl⟩⟩, hT.len7⟩
theorem retBC_of {w w' : World} {xs : List Int} {c : Int} {a : Option Addr} {k : Nat} (h : OwnI w' w.heap.size (.slice a xs.length k) xs) (hb : Below w.heap.size w w') : RetBC w xs c (.returned (.tuple #[.agg #[.slice a xs.length k], .int .i64 c])) w' := ⟨a, k, rfl, h, hb⟩
theorem retBC_none {w w' : World} {c : Int} (hb : Below w.heap.size w w') : RetBC w [] c (.returned (.tuple #[.agg #[.slice none 0 0], .int .i64 c])) w' := ⟨none, 0, rfl, own_nil _ _ _, hb⟩

set_option maxHeartbeats 2000000 in
theorem curvette_no (v : Value) (K : List Int) (w : World) (h : Rd w v K) (hK : KCo K) (hc : cuB K = false) :
    Calls Try.prog 104 #[v] w (RetBC w [] 5) := by
  obtain ⟨a0, c0, rfl⟩ := h.len0
  have D := Blk.new w 26 #[.slice none 0 0]
  have fr : Below w.heap.size w (w.alloc (.cells #[.slice none 0 0] 26)) := (Below.refl _ _).alloc (Nat.le_refl _) _
  have h1 := h.below fr (Nat.le_refl _)
  have HC := Lib.hid hc
  go_enter Try.func104, Try.ntmps104
  go_wp2_with fail
  refine (curvetteMultiplicities_c _ K _ h1 hK.ok).mono ?_
  rintro e w1 ⟨a, k, rfl, hO, hb⟩
  rw [HC.out]
  have D1 := D.stays hb
  have fr1 := below_step fr hb
  have e0 := D1.cell 0
  have f0 := D1.free 0
  have q0 := (D1.set 0 (.slice none 0 0)).cell 0
  have hfin := retBC_none (c := 5) (fr1.setCell (p := ⟨w.heap.size, 0, none⟩) (Nat.le_refl _) (.slice none 0 0))
  generalize (cuL K).length = n at *
  go_wp2
  exact bodyPost_ret (v := .tuple #[.agg #[.slice none 0 0], .int .i64 5]) (by simp [results, Try.results104, go_sem, q0]) rfl hfin

set_option maxHeartbeats 4000000 in
theorem curvette_yes (v : Value) (K T : List Int) (z : Nat) (fb : Bool) (w : World) (h : Rd w v K) (hK : KCo K) (hc : cuB K = true) (hT : CurT (cuM K) T z) (hfb : braB T = fb) :
    Calls Try.prog 104 #[v] w (RetBC w (okL fb T) (okC fb 5)) := by
  obtain ⟨a0, c0, rfl⟩ := h.len0
  have D := Blk.new w 26 #[.slice none 0 0]
  have fr : Below w.heap.size w (w.alloc (.cells #[.slice none 0 0] 26)) := (Below.refl _ _).alloc (Nat.le_refl _) _
  have h1 := h.below fr (Nat.le_refl _)
  obtain ⟨_, h64, hcl⟩ := cuB_parts hc
  have hml : (cuM K).length = K.length + 1 := cuAt_len K K.length
  have hkl := hK.ok.1
  have HC := Lib.hid hc
  have HT := Lib.hid hT
  have HF := Lib.hid hfb
  have hcall := curvetteMultiplicities_c (.slice a0 K.length c0) K _ h1 hK.ok
  rw [hcl, hc] at hcall
  have HCA := Lib.hid hcall
  have HML := Lib.hid hml
  clear hcall hc hT hfb hcl hml
  go_enter Try.func104, Try.ntmps104
  go_wp2_with fail
  refine HCA.out.mono ?_
  rintro e w1 ⟨a, k, rfl, hO, hb⟩
  have D1 := D.stays hb
  have fr1 := below_step fr hb
  have hrd2 := hO.rd
  rw [HML.out] at hrd2
  have hcall2 := branchOfSequence_c _ (cuM K) T z fb w1 hrd2 HT.out h64 (by rw [HML.out]; omega) (by rw [HML.out]; omega) HF.out
  have HC2 := Lib.hid hcall2
  clear hcall2 h1 fr D hrd2
  go_wp2_with fail
  refine HC2.out.mono ?_
  rintro e w2 ⟨a2, k2, rfl, hO2, hb2⟩
  have hsz1 := fr1.size
  have hs2 := hb2.size
  have D2 := (D1.stays hb2).alloc (.cells #[.slice a2 T.length k2] 26)
  have hal : Below w2.heap.size w2 (w2.alloc (.cells #[.slice a2 T.length k2] 26)) := (Below.refl _ _).alloc (Nat.le_refl _) _
  have fr2 := below_step (below_step fr1 hb2) hal
  have O3 := hO2.below hal (Nat.le_refl _)
  have B2 := Blk.new w2 26 #[.slice a2 T.length k2]
  have e0 := D2.cell 0
  have f0 := D2.free 0
  have b0 := B2.cell 0
  have hDl := D1.lt
  clear hO hO2 HC2 HCA
  cases fb
  · have q0 := (D2.set 0 (.slice none 0 0)).cell 0
    have hfin := retBC_none (c := 5) (fr2.setCell (p := ⟨w.heap.size, 0, none⟩) (Nat.le_refl _) (.slice none 0 0))
    go_wp2
    exact bodyPost_ret (v := .tuple #[.agg #[.slice none 0 0], .int .i64 5]) (by simp [results, Try.results104, go_sem, q0]) rfl hfin
  · have q0 := (D2.set 0 (.slice a2 T.length k2)).cell 0
    have hfin : RetBC w T 0 (.returned (.tuple #[.agg #[.slice a2 T.length k2], .int .i64 0])) ((w2.alloc (.cells #[.slice a2 T.length k2] 26)).setCell ⟨w.heap.size, 0, none⟩ (.slice a2 T.length k2)) :=
      retBC_of ((O3.other (g := w.heap.size) (fun q hq => by have := (O3.block q hq).1; omega) 0 (.slice a2 T.length k2)).base_le (by omega)) (fr2.setCell (p := ⟨w.heap.size, 0, none⟩) (Nat.le_refl _) (.slice a2 T.length k2))
    go_wp2
    exact bodyPost_ret (v := .tuple #[.agg #[.slice a2 T.length k2], .int .i64 0]) (by simp [results, Try.results104, go_sem, q0]) rfl hfin
theorem curvette_c (v : Value) (K xs : List Int) (c : Int) (w : World) (h : Rd w v K) (hK : KCo K) (hR : CvR K xs c) :
    Calls Try.prog 104 #[v] w (RetBC w xs c) := by
  rcases hR with ⟨h1, rfl, rfl⟩ | ⟨h1, T, z, hT, ⟨hb, rfl, rfl⟩ | ⟨hb, rfl, rfl⟩⟩
  · exact curvette_no v K w h hK h1
  · exact curvette_yes v K _ z true w h hK h1 hT hb
  · exact curvette_yes v K T z false w h hK h1 hT hb

/-- What CurvetteOfCode hands back. -/
def CocR (K xs : List Int) (c : Int) : Prop := (isCodeB K = false ∧ xs = [] ∧ c = 2) ∨ (isCodeB K = true ∧ CvR K xs c)
theorem cocR_ex (K : List Int) : ∃ xs c, CocR K xs c ∧ xs.length ≤ 7 := by
  cases hc : isCodeB K
  · exact ⟨[], 2, .inl ⟨hc, rfl, rfl⟩, by simp⟩
  · obtain ⟨xs, c, h1, h2⟩ := cvR_ex (kco_of_code hc)
    exact ⟨xs, c, .inr ⟨hc, h1⟩, h2⟩

set_option maxHeartbeats 2000000 in
theorem implCoc_no (v : Value) (K : List Int) (w : World) (h : Rd w v K) (hc : isCodeB K = false) :
    Calls Try.prog 23 #[v] w (RetBC w [] 2) := by
  obtain ⟨a0, c0, rfl⟩ := h.len0
  have D := Blk.new w 26 #[.slice none 0 0]
  have fr : Below w.heap.size w (w.alloc (.cells #[.slice none 0 0] 26)) := (Below.refl _ _).alloc (Nat.le_refl _) _
  have h1 := h.below fr (Nat.le_refl _)
  have HC := Lib.hid hc
  go_enter Try.func23, Try.ntmps23
  go_wp2_with fail
  refine (implIsCode_c _ K _ h1).mono ?_
  rintro e w1 ⟨rfl, hd⟩
  rw [HC.out]
  have hb := hd.below (w.alloc (.cells #[.slice none 0 0] 26)).heap.size
  have D1 := D.stays hb
  have fr1 := below_step fr hb
  have e0 := D1.cell 0
  have f0 := D1.free 0
  have q0 := (D1.set 0 (.slice none 0 0)).cell 0
  have hfin := retBC_none (c := 2) (fr1.setCell (p := ⟨w.heap.size, 0, none⟩) (Nat.le_refl _) (.slice none 0 0))
  go_wp2
  exact bodyPost_ret (v := .tuple #[.agg #[.slice none 0 0], .int .i64 2]) (by simp [results, Try.results23, go_sem, q0]) rfl hfin

set_option maxHeartbeats 2000000 in
theorem implCoc_yes (v : Value) (K xs : List Int) (c : Int) (w : World) (h : Rd w v K) (hc : isCodeB K = true) (hR : CvR K xs c) :
    Calls Try.prog 23 #[v] w (RetBC w xs c) := by
  obtain ⟨a0, c0, rfl⟩ := h.len0
  have D := Blk.new w 26 #[.slice none 0 0]
  have fr : Below w.heap.size w (w.alloc (.cells #[.slice none 0 0] 26)) := (Below.refl _ _).alloc (Nat.le_refl _) _
  have h1 := h.below fr (Nat.le_refl _)
  have HC := Lib.hid hc
  have HR := Lib.hid hR
  clear hR hc
  go_enter Try.func23, Try.ntmps23
  go_wp2_with fail
  refine (implIsCode_c _ K _ h1).mono ?_
  rintro e w1 ⟨rfl, hd⟩
  rw [HC.out]
  have hb := hd.below (w.alloc (.cells #[.slice none 0 0] 26)).heap.size
  have D1 := D.stays hb
  have fr1 := below_step fr hb
  clear D
  go_wp2_with fail
  refine (curvette_c _ K xs c _ (h1.below hb (Nat.le_refl _)) (kco_of_code HC.out) HR.out).mono ?_
  rintro e w2 ⟨a2, k2, rfl, hO2, hb2⟩
  have hDl := D1.lt
  have D2 := D1.stays hb2
  have fr2 := below_step fr1 hb2
  have e0 := D2.cell 0
  have f0 := D2.free 0
  have q0 := (D2.set 0 (.slice a2 xs.length k2)).cell 0
  have hfin : RetBC w xs c (.returned (.tuple #[.agg #[.slice a2 xs.length k2], .int .i64 c])) (w2.setCell ⟨w.heap.size, 0, none⟩ (.slice a2 xs.length k2)) :=
    retBC_of ((hO2.other (g := w.heap.size) (fun q hq => by have := (hO2.block q hq).1; omega) 0 (.slice a2 xs.length k2)).base_le (by omega)) (fr2.setCell (p := ⟨w.heap.size, 0, none⟩) (Nat.le_refl _) (.slice a2 xs.length k2))
  clear hO2
  go_wp2
  exact bodyPost_ret (v := .tuple #[.agg #[.slice a2 xs.length k2], .int .i64 c]) (by simp [results, Try.results23, go_sem, q0]) rfl hfin
theorem implCoc_c (v : Value) (K xs : List Int) (c : Int) (w : World) (h : Rd w v K) (hR : CocR K xs c) :
    Calls Try.prog 23 #[v] w (RetBC w xs c) := by
  rcases hR with ⟨h1, rfl, rfl⟩ | ⟨h1, h2⟩
  · exact implCoc_no v K w h h1
  · exact implCoc_yes v K xs c w h h1 h2
end Go.Proofs.Ytiinceflafigeaa

/- Contract: spec.CurvetteOfCode. -/
namespace Go.Proofs.Ytiinceflafigeaa
open Go.RowKit

set_option maxHeartbeats 2000000 in
theorem specCoc_no (v : Value) (K : List Int) (w : World) (h : Rd w v K) (hc : isCodeB K = false) :
    Calls Try.prog 24 #[v] w (RetBC w [] 2) := by
  obtain ⟨a0, c0, rfl⟩ := h.len0
  have D := Blk.new w 26 #[.slice none 0 0]
  have fr : Below w.heap.size w (w.alloc (.cells #[.slice none 0 0] 26)) := (Below.refl _ _).alloc (Nat.le_refl _) _
  have h1 := h.below fr (Nat.le_refl _)
  have HC := Lib.hid hc
  go_enter Try.func24, Try.ntmps24
  go_wp2_with fail
  refine (l06Is_c _ K _ h1).mono ?_
  rintro e w1 ⟨rfl, hd⟩
  rw [HC.out]
  have hb := hd.below (w.alloc (.cells #[.slice none 0 0] 26)).heap.size
  have D1 := D.stays hb
  have fr1 := below_step fr hb
  have e0 := D1.cell 0
  have f0 := D1.free 0
  have q0 := (D1.set 0 (.slice none 0 0)).cell 0
  have hfin := retBC_none (c := 2) (fr1.setCell (p := ⟨w.heap.size, 0, none⟩) (Nat.le_refl _) (.slice none 0 0))
  go_wp2
  exact bodyPost_ret (v := .tuple #[.agg #[.slice none 0 0], .int .i64 2]) (by simp [results, Try.results24, go_sem, q0]) rfl hfin
set_option maxHeartbeats 2000000 in
theorem specCoc_big (v : Value) (K : List Int) (w : World) (h : Rd w v K) (hc : isCodeB K = true) (hu : cuB K = false) :
    Calls Try.prog 24 #[v] w (RetBC w [] 5) := by
  obtain ⟨a0, c0, rfl⟩ := h.len0
  have D := Blk.new w 26 #[.slice none 0 0]
  have fr : Below w.heap.size w (w.alloc (.cells #[.slice none 0 0] 26)) := (Below.refl _ _).alloc (Nat.le_refl _) _
  have h1 := h.below fr (Nat.le_refl _)
  have HC := Lib.hid hc
  have HU := Lib.hid hu
  go_enter Try.func24, Try.ntmps24
  go_wp2_with fail
  refine (l06Is_c _ K _ h1).mono ?_
  rintro e w1 ⟨rfl, hd⟩
  rw [HC.out]
  have hb := hd.below (w.alloc (.cells #[.slice none 0 0] 26)).heap.size
  have D1 := D.stays hb
  have fr1 := below_step fr hb
  clear D
  go_wp2_with fail
  refine (l06Curvette_c _ K _ (h1.below hb (Nat.le_refl _)) (kco_of_code HC.out).ok).mono ?_
  rintro e w2 ⟨a2, k2, rfl, hO2, hb2⟩
  rw [HU.out]
  have D2 := D1.stays hb2
  have fr2 := below_step fr1 hb2
  have e0 := D2.cell 0
  have f0 := D2.free 0
  have q0 := (D2.set 0 (.slice none 0 0)).cell 0
  have hfin := retBC_none (c := 5) (fr2.setCell (p := ⟨w.heap.size, 0, none⟩) (Nat.le_refl _) (.slice none 0 0))
  generalize (cuL K).length = n at *
  go_wp2
  exact bodyPost_ret (v := .tuple #[.agg #[.slice none 0 0], .int .i64 5]) (by simp [results, Try.results24, go_sem, q0]) rfl hfin

set_option maxHeartbeats 4000000 in
theorem specCoc_yes (v : Value) (K T : List Int) (z : Nat) (fb : Bool) (w : World) (h : Rd w v K) (hc : isCodeB K = true) (hu : cuB K = true) (hT : CurT (cuM K) T z) (hfb : braB T = fb) :
    Calls Try.prog 24 #[v] w (RetBC w (okL fb T) (okC fb 5)) := by
  obtain ⟨i0, hi, hz0, hz1, hz2⟩ := info_parts Try.infoI
  obtain ⟨a0, c0, rfl⟩ := h.len0
  have D := Blk.new w 26 #[.slice none 0 0]
  have fr : Below w.heap.size w (w.alloc (.cells #[.slice none 0 0] 26)) := (Below.refl _ _).alloc (Nat.le_refl _) _
  have h1 := h.below fr (Nat.le_refl _)
  have hK := kco_of_code hc
  obtain ⟨_, h64, hcl⟩ := cuB_parts hu
  have hml : (cuM K).length = K.length + 1 := cuAt_len K K.length
  have hkl := hK.ok.1
  have hpos := fun i (hi : i < (cuM K).length) => cuM_pos hK (i := i) (by omega)
  have hcl2 : cuL K = cuM K := hcl
  have HC := Lib.hid hc
  have HT := Lib.hid hT
  have HF := Lib.hid hfb
  have HML := Lib.hid hml
  have HP := Lib.hid hpos
  have HK := Lib.hid hK
  have HCU : Hid (∀ W, Rd W (.slice a0 K.length c0) K → Calls Try.prog 112 #[.slice a0 K.length c0] W (RetK W (cuM K) true)) := Lib.hid (fun W hW => by have := l06Curvette_c _ K W hW hK.ok; rw [hcl, hu] at this; exact this)
  clear hc hT hfb hcl hml hpos hK hu hcl2
  go_enter Try.func24, Try.ntmps24
  go_wp2_with fail
  refine (l06Is_c _ K _ h1).mono ?_
  rintro e w1 ⟨rfl, hd⟩
  rw [HC.out]
  have hb := hd.below (w.alloc (.cells #[.slice none 0 0] 26)).heap.size
  have D1 := D.stays hb
  have fr1 := below_step fr hb
  clear D
  go_wp2_with fail
  refine (HCU.out _ (h1.below hb (Nat.le_refl _))).mono ?_
  rintro e w2 ⟨a2, k2, rfl, hO2, hb2⟩
  have D2 := D1.stays hb2
  have fr2 := below_step fr1 hb2
  rw [HML.out] at hO2 ⊢
  clear fr fr1
  go_wp2_with fail
  refine (l06Ones_c 64 _ (by omega)).mono ?_
  rintro e w3 ⟨a3, k3, rfl, hO3, hb3⟩
  have D3 := D2.stays hb3
  have fr3 := below_step fr2 hb3
  have hO4 := hO2.below hb3 (Nat.le_refl _)
  have hrd3 := hO3.rd
  have hs1 := hd.size
  have hs2 := hb2.size
  have hs3 := hb3.size
  have hDl := D1.lt
  rw [onesTo_len] at hO3 hrd3 ⊢
  clear D1 D2 fr2 hO2
  have hO5 : OwnI w3 (w.heap.size + 1) (.slice a2 (K.length + 1) k2) (cuM K) := hO4.base_le (by omega)
  have hall : (cuM K ++ onesTo 64).length = K.length + 65 := by rw [List.length_append, onesTo_len, HML.out]
  have HAL := Lib.hid hall
  have HX : Hid (K.length + 1 + 64 = (cuM K ++ onesTo 64).length) := Lib.hid (by rw [hall])
  have hs4 : w.heap.size + 1 ≤ w3.heap.size := by omega
  clear hall
  go_wp2_with (at_builtin; refine wpList_extend rfl (.tmp 21) (.tmp 22) 24 rfl (w.heap.size + 1) 2 i0 Try.underlying24 hi hz0 hz1 hz2 (.slice a2 (K.length + 1) k2) (.slice a3 64 k3) (cuM K) (onesTo 64) rfl hO5 rfl hrd3 (by simp) (by rw [HML.out, onesTo_len]; omega) hs4 ?_; intro v' w4 hown' hkp; obtain ⟨a4, k4, hv4⟩ := hown'.form; rw [HAL.out] at hv4; subst hv4)
  have hrd4 := hown'.rd
  have D4 := D3.keeps hkp (fun h => by have := (hO5.block _ h).1; omega)
  have fr4 := fr3.trans (hkp.below (by omega) (fun g hg => by have := (hO5.block g hg).1; omega))
  have hcall := l04Branch_c _ (cuM K) T (cuM K ++ onesTo 64) z fb w4 hrd4 HT.out rfl (cuM_good HK.out) HP.out h64 (by rw [HML.out]; omega) (by rw [HML.out]; omega) HF.out
  have HCA := Lib.hid hcall
  clear hcall hrd4 hown' hO5 hO4 hO3 hrd3 D3 fr3
  refine HCA.out.mono ?_
  rintro e w5 ⟨a5, k5, rfl, hO6, hb5⟩
  have hs5 := hb5.size
  have hs6 := hkp.size
  have D5 := (D4.stays hb5).alloc (.cells #[.slice a5 (okL fb T).length k5] 26)
  have hal : Below w5.heap.size w5 (w5.alloc (.cells #[.slice a5 (okL fb T).length k5] 26)) := (Below.refl _ _).alloc (Nat.le_refl _) _
  have fr5 := below_step (below_step fr4 hb5) hal
  have O6 := hO6.below hal (Nat.le_refl _)
  have B5 := Blk.new w5 26 #[.slice a5 (okL fb T).length k5]
  have e0 := D5.cell 0
  have f0 := D5.free 0
  have b0 := B5.cell 0
  clear hkp hO6
  cases fb
  · have hl0 : (okL false T).length = 0 := rfl
    rw [hl0] at D5 B5 fr5 e0 f0 b0 ⊢
    clear hl0
    have q0 := (D5.set 0 (.slice none 0 0)).cell 0
    have hfin := retBC_none (c := 5) (fr5.setCell (p := ⟨w.heap.size, 0, none⟩) (Nat.le_refl _) (.slice none 0 0))
    go_wp2
    exact bodyPost_ret (v := .tuple #[.agg #[.slice none 0 0], .int .i64 5]) (by simp [results, Try.results24, go_sem, q0]) rfl hfin
  · have hl0 : (okL true T).length = T.length := rfl
    rw [hl0] at D5 B5 fr5 e0 f0 b0 ⊢
    clear hl0
    have q0 := (D5.set 0 (.slice a5 T.length k5)).cell 0
    have hfin : RetBC w T 0 (.returned (.tuple #[.agg #[.slice a5 T.length k5], .int .i64 0])) ((w5.alloc (.cells #[.slice a5 T.length k5] 26)).setCell ⟨w.heap.size, 0, none⟩ (.slice a5 T.length k5)) :=
      retBC_of ((O6.other (g := w.heap.size) (fun q hq => by have := (O6.block q hq).1; omega) 0 (.slice a5 T.length k5)).base_le (by omega)) (fr5.setCell (p := ⟨w.heap.size, 0, none⟩) (Nat.le_refl _) (.slice a5 T.length k5))
    go_wp2
    exact bodyPost_ret (v := .tuple #[.agg #[.slice a5 T.length k5], .int .i64 0]) (by simp [results, Try.results24, go_sem, q0]) rfl hfin
theorem specCoc_c (v : Value) (K xs : List Int) (c : Int) (w : World) (h : Rd w v K) (hR : CocR K xs c) :
    Calls Try.prog 24 #[v] w (RetBC w xs c) := by
  rcases hR with ⟨h1, rfl, rfl⟩ | ⟨h1, ⟨h2, rfl, rfl⟩ | ⟨h2, T, z, hT, ⟨hb, rfl, rfl⟩ | ⟨hb, rfl, rfl⟩⟩⟩
  · exact specCoc_no v K w h h1
  · exact specCoc_big v K w h h1 h2
  · exact specCoc_yes v K _ z true w h h1 h2 hT hb
  · exact specCoc_yes v K T z false w h h1 h2 hT hb
end Go.Proofs.Ytiinceflafigeaa
