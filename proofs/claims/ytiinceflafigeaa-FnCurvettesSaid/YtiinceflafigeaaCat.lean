/- Contracts: impl.curvette, CurvetteOfCode. -/
import Derived.Test.YtiinceflafigeaaSpB
import Derived.Test.YtiinceflafigeaaCurS
import Derived.Test.YtiinceflafigeaaPtDS
import Derived.Test.YtiinceflafigeaaCode
import Derived.Test.YtiinceflafigeaaEuProx
import Derived.Test.YtiinceflafigeaaPtC
namespace Go.Proofs.Ytiinceflafigeaa
open Go.RowKit

/-- What the curvette of a code is: its terms, and the code. -/
def CvR (K xs : List Int) (c : Int) : Prop := (cuB K = false ∧ xs = [] ∧ c = 5) ∨ (cuB K = true ∧ ∃ T z, CurT (cuM K) T z ∧ ((braB T = true ∧ xs = T ∧ c = 0) ∨ (braB T = false ∧ xs = [] ∧ c = 5)))
theorem cuB_parts {K : List Int} (h : cuB K = true) : cuGo K K.length ∧ gI (cuM K) 0 ≤ 64 ∧ cuL K = cuM K := by
  have h1 : cuE K = true := by unfold cuB at h; simp at h; exact h.1
  have hg := cuE_go h1
  refine ⟨hg, ?_, cuL_yes hg⟩
  rw [cuB_yes hg] at h
  simpa using h
theorem cvR_ex {K : List Int} (h : KCo K) : ∃ xs c, CvR K xs c ∧ xs.length ≤ 7 := by
  cases hc : cuB K
  · exact ⟨[], 5, .inl ⟨hc, rfl, rfl⟩, by simp⟩
  · obtain ⟨T, z, hT⟩ := curT_ex h (cuB_parts hc).2.1
    cases hb : braB T
    · exact ⟨[], 5, .inr ⟨hc, T, z, hT, .inr ⟨hb, rfl, rfl⟩⟩, by simp⟩
    · exact ⟨T, 0, .inr ⟨hc, T, z, hT, .inl ⟨hb, rfl, rfl⟩⟩, hT.len7⟩
theorem retBC_of {w w' : World} {xs : List Int} {c : Int} {a : Option Addr} {k : Nat} (h : OwnI w' w.heap.size (.slice a xs.length k) xs) (hb : Below w.heap.size w w') : RetBC w xs c (.returned (.tuple #[.agg #[.slice a xs.length k], .int .i64 c])) w' := ⟨a, k, rfl, h, hb⟩
theorem retBC_none {w w' : World} {c : Int} (hb : Below w.heap.size w w') : RetBC w [] c (.returned (.tuple #[.agg #[.slice none 0 0], .int .i64 c])) w' := ⟨none, 0, rfl, own_nil _ _ _, hb⟩

set_option maxHeartbeats 2000000 in
theorem curvette_no (v : Value) (K : List Int) (w : World) (h : Rd w v K) (hK : KCo K) (hc : cuB K = false) :
    Calls Try.prog 104 #[v] w (RetBC w [] 5) := by
  obtain ⟨a0, c0, rfl⟩ := h.len0
  have D := Blk.new w 26 #[.slice none 0 0]
  have fr : Below w.heap.size w (w.alloc (.cells #[.slice none 0 0] 26)) := (Below.refl _ _).alloc (Nat.le_refl _) _
  have h1 := h.below fr (Nat.le_refl _)
  have HC := Lib.hid hc
  go_enter Try.func104, Try.ntmps104
  go_wp2_with fail
  refine (curvetteMultiplicities_c _ K _ h1 hK.ok).mono ?_
  rintro e w1 ⟨a, k, rfl, hO, hb⟩
  rw [HC.out]
  have D1 := D.stays hb
  have fr1 := below_step fr hb
  have e0 := D1.cell 0
  have f0 := D1.free 0
  have q0 := (D1.set 0 (.slice none 0 0)).cell 0
  have hfin := retBC_none (c := 5) (fr1.setCell (p := ⟨w.heap.size, 0, none⟩) (Nat.le_refl _) (.slice none 0 0))
  generalize (cuL K).length = n at *
  go_wp2
  exact bodyPost_ret (v := .tuple #[.agg #[.slice none 0 0], .int .i64 5]) (by simp [results, Try.results104, go_sem, q0]) rfl hfin

set_option maxHeartbeats 4000000 in
theorem curvette_yes (v : Value) (K T : List Int) (z : Nat) (fb : Bool) (w : World) (h : Rd w v K) (hK : KCo K) (hc : cuB K = true) (hT : CurT (cuM K) T z) (hfb : braB T = fb) :
    Calls Try.prog 104 #[v] w (RetBC w (okL fb T) (okC fb 5)) := by
  obtain ⟨a0, c0, rfl⟩ := h.len0
  have D := Blk.new w 26 #[.slice none 0 0]
  have fr : Below w.heap.size w (w.alloc (.cells #[.slice none 0 0] 26)) := (Below.refl _ _).alloc (Nat.le_refl _) _
  have h1 := h.below fr (Nat.le_refl _)
  obtain ⟨_, h64, hcl⟩ := cuB_parts hc
  have hml : (cuM K).length = K.length + 1 := cuAt_len K K.length
  have hkl := hK.ok.1
  have HC := Lib.hid hc
  have HT := Lib.hid hT
  have HF := Lib.hid hfb
  have hcall := curvetteMultiplicities_c (.slice a0 K.length c0) K _ h1 hK.ok
  rw [hcl, hc] at hcall
  have HCA := Lib.hid hcall
  have HML := Lib.hid hml
  clear hcall hc hT hfb hcl hml
  go_enter Try.func104, Try.ntmps104
  go_wp2_with fail
  refine HCA.out.mono ?_
  rintro e w1 ⟨a, k, rfl, hO, hb⟩
  have D1 := D.stays hb
  have fr1 := below_step fr hb
  have hrd2 := hO.rd
  rw [HML.out] at hrd2
  have hcall2 := branchOfSequence_c _ (cuM K) T z fb w1 hrd2 HT.out h64 (by rw [HML.out]; omega) (by rw [HML.out]; omega) HF.out
  have HC2 := Lib.hid hcall2
  clear hcall2 h1 fr D hrd2
  go_wp2_with fail
  refine HC2.out.mono ?_
  rintro e w2 ⟨a2, k2, rfl, hO2, hb2⟩
  have hsz1 := fr1.size
  have hs2 := hb2.size
  have D2 := (D1.stays hb2).alloc (.cells #[.slice a2 T.length k2] 26)
  have hal : Below w2.heap.size w2 (w2.alloc (.cells #[.slice a2 T.length k2] 26)) := (Below.refl _ _).alloc (Nat.le_refl _) _
  have fr2 := below_step (below_step fr1 hb2) hal
  have O3 := hO2.below hal (Nat.le_refl _)
  have B2 := Blk.new w2 26 #[.slice a2 T.length k2]
  have e0 := D2.cell 0
  have f0 := D2.free 0
  have b0 := B2.cell 0
  have hDl := D1.lt
  clear hO hO2 HC2 HCA
  cases fb
  · have q0 := (D2.set 0 (.slice none 0 0)).cell 0
    have hfin := retBC_none (c := 5) (fr2.setCell (p := ⟨w.heap.size, 0, none⟩) (Nat.le_refl _) (.slice none 0 0))
    go_wp2
    exact bodyPost_ret (v := .tuple #[.agg #[.slice none 0 0], .int .i64 5]) (by simp [results, Try.results104, go_sem, q0]) rfl hfin
  · have q0 := (D2.set 0 (.slice a2 T.length k2)).cell 0
    have hfin : RetBC w T 0 (.returned (.tuple #[.agg #[.slice a2 T.length k2], .int .i64 0])) ((w2.alloc (.cells #[.slice a2 T.length k2] 26)).setCell ⟨w.heap.size, 0, none⟩ (.slice a2 T.length k2)) :=
      retBC_of ((O3.other (g := w.heap.size) (fun q hq => by have := (O3.block q hq).1; omega) 0 (.slice a2 T.length k2)).base_le (by omega)) (fr2.setCell (p := ⟨w.heap.size, 0, none⟩) (Nat.le_refl _) (.slice a2 T.length k2))
    go_wp2
    exact bodyPost_ret (v := .tuple #[.agg #[.slice a2 T.length k2], .int .i64 0]) (by simp [results, Try.results104, go_sem, q0]) rfl hfin
theorem curvette_c (v : Value) (K xs : List Int) (c : Int) (w : World) (h : Rd w v K) (hK : KCo K) (hR : CvR K xs c) :
    Calls Try.prog 104 #[v] w (RetBC w xs c) := by
  rcases hR with ⟨h1, rfl, rfl⟩ | ⟨h1, T, z, hT, ⟨hb, rfl, rfl⟩ | ⟨hb, rfl, rfl⟩⟩
  · exact curvette_no v K w h hK h1
  · exact curvette_yes v K _ z true w h hK h1 hT hb
  · exact curvette_yes v K T z false w h hK h1 hT hb

/-- What CurvetteOfCode hands back. -/
def CocR (K xs : List Int) (c : Int) : Prop := (isCodeB K = false ∧ xs = [] ∧ c = 2) ∨ (isCodeB K = true ∧ CvR K xs c)
theorem cocR_ex (K : List Int) : ∃ xs c, CocR K xs c ∧ xs.length ≤ 7 := by
  cases hc : isCodeB K
  · exact ⟨[], 2, .inl ⟨hc, rfl, rfl⟩, by simp⟩
  · obtain ⟨xs, c, h1, h2⟩ := cvR_ex (kco_of_code hc)
    exact ⟨xs, c, .inr ⟨hc, h1⟩, h2⟩

set_option maxHeartbeats 2000000 in
theorem implCoc_no (v : Value) (K : List Int) (w : World) (h : Rd w v K) (hc : isCodeB K = false) :
    Calls Try.prog 23 #[v] w (RetBC w [] 2) := by
  obtain ⟨a0, c0, rfl⟩ := h.len0
  have D := Blk.new w 26 #[.slice none 0 0]
  have fr : Below w.heap.size w (w.alloc (.cells #[.slice none 0 0] 26)) := (Below.refl _ _).alloc (Nat.le_refl _) _
  have h1 := h.below fr (Nat.le_refl _)
  have HC := Lib.hid hc
  go_enter Try.func23, Try.ntmps23
  go_wp2_with fail
  refine (implIsCode_c _ K _ h1).mono ?_
  rintro e w1 ⟨rfl, hd⟩
  rw [HC.out]
  have hb := hd.below (w.alloc (.cells #[.slice none 0 0] 26)).heap.size
  have D1 := D.stays hb
  have fr1 := below_step fr hb
  have e0 := D1.cell 0
  have f0 := D1.free 0
  have q0 := (D1.set 0 (.slice none 0 0)).cell 0
  have hfin := retBC_none (c := 2) (fr1.setCell (p := ⟨w.heap.size, 0, none⟩) (Nat.le_refl _) (.slice none 0 0))
  go_wp2
  exact bodyPost_ret (v := .tuple #[.agg #[.slice none 0 0], .int .i64 2]) (by simp [results, Try.results23, go_sem, q0]) rfl hfin

set_option maxHeartbeats 2000000 in
theorem implCoc_yes (v : Value) (K xs : List Int) (c : Int) (w : World) (h : Rd w v K) (hc : isCodeB K = true) (hR : CvR K xs c) :
    Calls Try.prog 23 #[v] w (RetBC w xs c) := by
  obtain ⟨a0, c0, rfl⟩ := h.len0
  have D := Blk.new w 26 #[.slice none 0 0]
  have fr : Below w.heap.size w (w.alloc (.cells #[.slice none 0 0] 26)) := (Below.refl _ _).alloc (Nat.le_refl _) _
  have h1 := h.below fr (Nat.le_refl _)
  have HC := Lib.hid hc
  have HR := Lib.hid hR
  clear hR hc
  go_enter Try.func23, Try.ntmps23
  go_wp2_with fail
  refine (implIsCode_c _ K _ h1).mono ?_
  rintro e w1 ⟨rfl, hd⟩
  rw [HC.out]
  have hb := hd.below (w.alloc (.cells #[.slice none 0 0] 26)).heap.size
  have D1 := D.stays hb
  have fr1 := below_step fr hb
  clear D
  go_wp2_with fail
  refine (curvette_c _ K xs c _ (h1.below hb (Nat.le_refl _)) (kco_of_code HC.out) HR.out).mono ?_
  rintro e w2 ⟨a2, k2, rfl, hO2, hb2⟩
  have hDl := D1.lt
  have D2 := D1.stays hb2
  have fr2 := below_step fr1 hb2
  have e0 := D2.cell 0
  have f0 := D2.free 0
  have q0 := (D2.set 0 (.slice a2 xs.length k2)).cell 0
  have hfin : RetBC w xs c (.returned (.tuple #[.agg #[.slice a2 xs.length k2], .int .i64 c])) (w2.setCell ⟨w.heap.size, 0, none⟩ (.slice a2 xs.length k2)) :=
    retBC_of ((hO2.other (g := w.heap.size) (fun q hq => by have := (hO2.block q hq).1; omega) 0 (.slice a2 xs.length k2)).base_le (by omega)) (fr2.setCell (p := ⟨w.heap.size, 0, none⟩) (Nat.le_refl _) (.slice a2 xs.length k2))
  clear hO2
  go_wp2
  exact bodyPost_ret (v := .tuple #[.agg #[.slice a2 xs.length k2], .int .i64 c]) (by simp [results, Try.results23, go_sem, q0]) rfl hfin
theorem implCoc_c (v : Value) (K xs : List Int) (c : Int) (w : World) (h : Rd w v K) (hR : CocR K xs c) :
    Calls Try.prog 23 #[v] w (RetBC w xs c) := by
  rcases hR with ⟨h1, rfl, rfl⟩ | ⟨h1, h2⟩
  · exact implCoc_no v K w h h1
  · exact implCoc_yes v K xs c w h h1 h2
end Go.Proofs.Ytiinceflafigeaa

/- Contract: spec.CurvetteOfCode. -/
namespace Go.Proofs.Ytiinceflafigeaa
open Go.RowKit

set_option maxHeartbeats 2000000 in
theorem specCoc_no (v : Value) (K : List Int) (w : World) (h : Rd w v K) (hc : isCodeB K = false) :
    Calls Try.prog 24 #[v] w (RetBC w [] 2) := by
  obtain ⟨a0, c0, rfl⟩ := h.len0
  have D := Blk.new w 26 #[.slice none 0 0]
  have fr : Below w.heap.size w (w.alloc (.cells #[.slice none 0 0] 26)) := (Below.refl _ _).alloc (Nat.le_refl _) _
  have h1 := h.below fr (Nat.le_refl _)
  have HC := Lib.hid hc
  go_enter Try.func24, Try.ntmps24
  go_wp2_with fail
  refine (l06Is_c _ K _ h1).mono ?_
  rintro e w1 ⟨rfl, hd⟩
  rw [HC.out]
  have hb := hd.below (w.alloc (.cells #[.slice none 0 0] 26)).heap.size
  have D1 := D.stays hb
  have fr1 := below_step fr hb
  have e0 := D1.cell 0
  have f0 := D1.free 0
  have q0 := (D1.set 0 (.slice none 0 0)).cell 0
  have hfin := retBC_none (c := 2) (fr1.setCell (p := ⟨w.heap.size, 0, none⟩) (Nat.le_refl _) (.slice none 0 0))
  go_wp2
  exact bodyPost_ret (v := .tuple #[.agg #[.slice none 0 0], .int .i64 2]) (by simp [results, Try.results24, go_sem, q0]) rfl hfin
set_option maxHeartbeats 2000000 in
theorem specCoc_big (v : Value) (K : List Int) (w : World) (h : Rd w v K) (hc : isCodeB K = true) (hu : cuB K = false) :
    Calls Try.prog 24 #[v] w (RetBC w [] 5) := by
  obtain ⟨a0, c0, rfl⟩ := h.len0
  have D := Blk.new w 26 #[.slice none 0 0]
  have fr : Below w.heap.size w (w.alloc (.cells #[.slice none 0 0] 26)) := (Below.refl _ _).alloc (Nat.le_refl _) _
  have h1 := h.below fr (Nat.le_refl _)
  have HC := Lib.hid hc
  have HU := Lib.hid hu
  go_enter Try.func24, Try.ntmps24
  go_wp2_with fail
  refine (l06Is_c _ K _ h1).mono ?_
  rintro e w1 ⟨rfl, hd⟩
  rw [HC.out]
  have hb := hd.below (w.alloc (.cells #[.slice none 0 0] 26)).heap.size
  have D1 := D.stays hb
  have fr1 := below_step fr hb
  clear D
  go_wp2_with fail
  refine (l06Curvette_c _ K _ (h1.below hb (Nat.le_refl _)) (kco_of_code HC.out).ok).mono ?_
  rintro e w2 ⟨a2, k2, rfl, hO2, hb2⟩
  rw [HU.out]
  have D2 := D1.stays hb2
  have fr2 := below_step fr1 hb2
  have e0 := D2.cell 0
  have f0 := D2.free 0
  have q0 := (D2.set 0 (.slice none 0 0)).cell 0
  have hfin := retBC_none (c := 5) (fr2.setCell (p := ⟨w.heap.size, 0, none⟩) (Nat.le_refl _) (.slice none 0 0))
  generalize (cuL K).length = n at *
  go_wp2
  exact bodyPost_ret (v := .tuple #[.agg #[.slice none 0 0], .int .i64 5]) (by simp [results, Try.results24, go_sem, q0]) rfl hfin

set_option maxHeartbeats 4000000 in
theorem specCoc_yes (v : Value) (K T : List Int) (z : Nat) (fb : Bool) (w : World) (h : Rd w v K) (hc : isCodeB K = true) (hu : cuB K = true) (hT : CurT (cuM K) T z) (hfb : braB T = fb) :
    Calls Try.prog 24 #[v] w (RetBC w (okL fb T) (okC fb 5)) := by
  obtain ⟨i0, hi, hz0, hz1, hz2⟩ := info_parts Try.infoI
  obtain ⟨a0, c0, rfl⟩ := h.len0
  have D := Blk.new w 26 #[.slice none 0 0]
  have fr : Below w.heap.size w (w.alloc (.cells #[.slice none 0 0] 26)) := (Below.refl _ _).alloc (Nat.le_refl _) _
  have h1 := h.below fr (Nat.le_refl _)
  have hK := kco_of_code hc
  obtain ⟨_, h64, hcl⟩ := cuB_parts hu
  have hml : (cuM K).length = K.length + 1 := cuAt_len K K.length
  have hkl := hK.ok.1
  have hpos := fun i (hi : i < (cuM K).length) => cuM_pos hK (i := i) (by omega)
  have hcl2 : cuL K = cuM K := hcl
  have HC := Lib.hid hc
  have HT := Lib.hid hT
  have HF := Lib.hid hfb
  have HML := Lib.hid hml
  have HP := Lib.hid hpos
  have HK := Lib.hid hK
  have HCU : Hid (∀ W, Rd W (.slice a0 K.length c0) K → Calls Try.prog 112 #[.slice a0 K.length c0] W (RetK W (cuM K) true)) := Lib.hid (fun W hW => by have := l06Curvette_c _ K W hW hK.ok; rw [hcl, hu] at this; exact this)
  clear hc hT hfb hcl hml hpos hK hu hcl2
  go_enter Try.func24, Try.ntmps24
  go_wp2_with fail
  refine (l06Is_c _ K _ h1).mono ?_
  rintro e w1 ⟨rfl, hd⟩
  rw [HC.out]
  have hb := hd.below (w.alloc (.cells #[.slice none 0 0] 26)).heap.size
  have D1 := D.stays hb
  have fr1 := below_step fr hb
  clear D
  go_wp2_with fail
  refine (HCU.out _ (h1.below hb (Nat.le_refl _))).mono ?_
  rintro e w2 ⟨a2, k2, rfl, hO2, hb2⟩
  have D2 := D1.stays hb2
  have fr2 := below_step fr1 hb2
  rw [HML.out] at hO2 ⊢
  clear fr fr1
  go_wp2_with fail
  refine (l06Ones_c 64 _ (by omega)).mono ?_
  rintro e w3 ⟨a3, k3, rfl, hO3, hb3⟩
  have D3 := D2.stays hb3
  have fr3 := below_step fr2 hb3
  have hO4 := hO2.below hb3 (Nat.le_refl _)
  have hrd3 := hO3.rd
  have hs1 := hd.size
  have hs2 := hb2.size
  have hs3 := hb3.size
  have hDl := D1.lt
  rw [onesTo_len] at hO3 hrd3 ⊢
  clear D1 D2 fr2 hO2
  have hO5 : OwnI w3 (w.heap.size + 1) (.slice a2 (K.length + 1) k2) (cuM K) := hO4.base_le (by omega)
  have hall : (cuM K ++ onesTo 64).length = K.length + 65 := by rw [List.length_append, onesTo_len, HML.out]
  have HAL := Lib.hid hall
  have HX : Hid (K.length + 1 + 64 = (cuM K ++ onesTo 64).length) := Lib.hid (by rw [hall])
  have hs4 : w.heap.size + 1 ≤ w3.heap.size := by omega
  clear hall
  go_wp2_with (at_builtin; refine wpList_extend rfl (.tmp 21) (.tmp 22) 24 rfl (w.heap.size + 1) 2 i0 Try.underlying24 hi hz0 hz1 hz2 (.slice a2 (K.length + 1) k2) (.slice a3 64 k3) (cuM K) (onesTo 64) rfl hO5 rfl hrd3 (by simp) (by rw [HML.out, onesTo_len]; omega) hs4 ?_; intro v' w4 hown' hkp; obtain ⟨a4, k4, hv4⟩ := hown'.form; rw [HAL.out] at hv4; subst hv4)
  have hrd4 := hown'.rd
  have D4 := D3.keeps hkp (fun h => by have := (hO5.block _ h).1; omega)
  have fr4 := fr3.trans (hkp.below (by omega) (fun g hg => by have := (hO5.block g hg).1; omega))
  have hcall := l04Branch_c _ (cuM K) T (cuM K ++ onesTo 64) z fb w4 hrd4 HT.out rfl (cuM_good HK.out) HP.out h64 (by rw [HML.out]; omega) (by rw [HML.out]; omega) HF.out
  have HCA := Lib.hid hcall
  clear hcall hrd4 hown' hO5 hO4 hO3 hrd3 D3 fr3
  refine HCA.out.mono ?_
  rintro e w5 ⟨a5, k5, rfl, hO6, hb5⟩
  have hs5 := hb5.size
  have hs6 := hkp.size
  have D5 := (D4.stays hb5).alloc (.cells #[.slice a5 (okL fb T).length k5] 26)
  have hal : Below w5.heap.size w5 (w5.alloc (.cells #[.slice a5 (okL fb T).length k5] 26)) := (Below.refl _ _).alloc (Nat.le_refl _) _
  have fr5 := below_step (below_step fr4 hb5) hal
  have O6 := hO6.below hal (Nat.le_refl _)
  have B5 := Blk.new w5 26 #[.slice a5 (okL fb T).length k5]
  have e0 := D5.cell 0
  have f0 := D5.free 0
  have b0 := B5.cell 0
  clear hkp hO6
  cases fb
  · have hl0 : (okL false T).length = 0 := rfl
    rw [hl0] at D5 B5 fr5 e0 f0 b0 ⊢
    clear hl0
    have q0 := (D5.set 0 (.slice none 0 0)).cell 0
    have hfin := retBC_none (c := 5) (fr5.setCell (p := ⟨w.heap.size, 0, none⟩) (Nat.le_refl _) (.slice none 0 0))
    go_wp2
    exact bodyPost_ret (v := .tuple #[.agg #[.slice none 0 0], .int .i64 5]) (by simp [results, Try.results24, go_sem, q0]) rfl hfin
  · have hl0 : (okL true T).length = T.length := rfl
    rw [hl0] at D5 B5 fr5 e0 f0 b0 ⊢
    clear hl0
    have q0 := (D5.set 0 (.slice a5 T.length k5)).cell 0
    have hfin : RetBC w T 0 (.returned (.tuple #[.agg #[.slice a5 T.length k5], .int .i64 0])) ((w5.alloc (.cells #[.slice a5 T.length k5] 26)).setCell ⟨w.heap.size, 0, none⟩ (.slice a5 T.length k5)) :=
      retBC_of ((O6.other (g := w.heap.size) (fun q hq => by have := (O6.block q hq).1; omega) 0 (.slice a5 T.length k5)).base_le (by omega)) (fr5.setCell (p := ⟨w.heap.size, 0, none⟩) (Nat.le_refl _) (.slice a5 T.length k5))
    go_wp2
    exact bodyPost_ret (v := .tuple #[.agg #[.slice a5 T.length k5], .int .i64 0]) (by simp [results, Try.results24, go_sem, q0]) rfl hfin
theorem specCoc_c (v : Value) (K xs : List Int) (c : Int) (w : World) (h : Rd w v K) (hR : CocR K xs c) :
    Calls Try.prog 24 #[v] w (RetBC w xs c) := by
  rcases hR with ⟨h1, rfl, rfl⟩ | ⟨h1, ⟨h2, rfl, rfl⟩ | ⟨h2, T, z, hT, ⟨hb, rfl, rfl⟩ | ⟨hb, rfl, rfl⟩⟩⟩
  · exact specCoc_no v K w h h1
  · exact specCoc_big v K w h h1 h2
  · exact specCoc_yes v K _ z true w h h1 h2 hT hb
  · exact specCoc_yes v K T z false w h h1 h2 hT hb
end Go.Proofs.Ytiinceflafigeaa

/- Contracts: MeetCurvette. -/
namespace Go.Proofs.Ytiinceflafigeaa
open Go.RowKit

/-- The sum of the products of the first m multiplicities. -/
def meetTo (T : List Int) (n m : Nat) : Int := sumTo (fun i => gI (seqL T n) i * gI (cuAt (codeL (seqL T n)) (n - 1)) i) m
/-- What MeetCurvette hands back. -/
def meetV (T : List Int) (k : Int) : Int := if ckC T (k + 1) = 0 then meetTo T (k + 1).toNat (k + 1).toNat else 0
theorem meetV_ok {T : List Int} {n : Nat} (h : ckC T (n : Int) = 0) : meetV T ((n : Int) - 1) = meetTo T n n := by
  have e : (n : Int) - 1 + 1 = (n : Int) := by omega
  unfold meetV
  rw [e, if_pos h, Int.toNat_natCast]
theorem meetV_no {T : List Int} {k : Int} (h : ckC T (k + 1) ≠ 0) : meetV T k = 0 := by unfold meetV; rw [if_neg h]

theorem ckC_wrap (T : List Int) {k : Int} (hk0 : -9223372036854775808 ≤ k) (hk1 : k ≤ 9223372036854775807) : ckC T (IntKind.i64.wrap (k + 1)) = ckC T (k + 1) := by
  by_cases h : k = 9223372036854775807
  · subst h
    have e : IntKind.i64.wrap (9223372036854775807 + 1) = -9223372036854775808 := by decide
    rw [e]
    rfl
  · rw [IntWalk.i64_in _ (by omega)]

set_option maxRecDepth 100000 in
set_option maxHeartbeats 4000000 in
theorem implMeetCurvette_c (v : Value) (T : List Int) (k : Int) (w : World) (h : Rd w v T) (hk0 : -9223372036854775808 ≤ k) (hk1 : k ≤ 9223372036854775807) :
    Calls Try.prog 16 #[.agg #[v], .int .i64 k] w fun e w' => e = .returned (.tuple #[.int .i64 (meetV T k), .int .i64 (ckC T (k + 1))]) ∧ Below w.heap.size w w' := by
  have hx := Boxed.start w 26 #[v]
  obtain ⟨a, c, rfl⟩ := h.len0
  have c0 := hx.cell 0
  by_cases h0 : ckC T (k + 1) = 0
  · obtain ⟨hok, hk3, hk4⟩ := ckC_zero h0
    obtain ⟨n, hn⟩ := Int.eq_ofNat_of_zero_le (show 0 ≤ k + 1 by omega)
    have hkn : k = (n : Int) - 1 := by omega
    subst hkn
    have e1 : (n : Int) - 1 + 1 = (n : Int) := by omega
    have hw : IntKind.i64.wrap (n : Int) = (n : Int) := IntWalk.i64_in _ (by omega)
    rw [e1] at h0 ⊢
    have hEu := eu_seq hok n
    have hMl := seqL_len T n
    have hn1 : 1 ≤ n := by omega
    have hn4 : n ≤ 400 := by omega
    have hKl : (codeL (seqL T n)).length = n - 1 := by rw [codeL_len, hMl]
    have hgo := cur_go hEu (by rw [hMl]; omega) (by rw [hMl]; omega)
    have hsm := fun i (hi : i < n) => cur_small hEu (by rw [hMl]; omega) (by rw [hMl]; omega) (t := n - 1) (by rw [hMl]; omega) (i := i) (by rw [hMl]; exact hi)
    have hKOK := kok_code (M := seqL T n) (by rw [hMl]; omega)
    have hnn := fun i => (cuAt_bd hKOK (n - 1) (by omega) (by rw [← hKl]; exact hgo) i).1
    have hcl := cuL_yes hgo
    rw [hKl] at hcl
    have hcb : cuB (codeL (seqL T n)) = true := by
      rw [cuB_yes hgo, hKl]
      have h1 := hsm 0 (by omega)
      have h2 := hEu.pos 0 (by rw [hMl]; omega)
      simp; omega
    have HV := Lib.hid (meetV_ok h0)
    have H0 := Lib.hid h0
    have HC := Lib.hid (ckL_ok (xs := codeL (seqL T ((n : Int)).toNat)) h0)
    go_enter Try.func16, Try.ntmps16
    go_wp2_with fail
    refine (implCodeOf_c _ T n _ (hx.rd h)).mono ?_
    rintro e w1 ⟨ac, kc, rfl, hO, hb⟩
    rw [HC.out, Int.toNat_natCast] at hO ⊢
    rw [h0]
    have hx1 := hx.trans hb
    have hrdK := hO.rd
    rw [hKl] at hrdK ⊢
    have hcall := curvetteMultiplicities_c (.slice ac (n - 1) kc) (codeL (seqL T n)) w1 hrdK hKOK
    rw [hcl, hcb] at hcall
    clear c0 hO
    go_wp2_with fail
    refine hcall.mono ?_
    rintro e w2 ⟨a2, k2, rfl, hO2, hb2⟩
    have hx2 := hx1.trans hb2
    have c2 := hx2.cell 0
    have hal : (cuAt (codeL (seqL T n)) (n - 1)).length = n := by rw [cuAt_len, hKl]; omega
    clear hcall hrdK
    go_wp2_with fail
    refine (firstOf_c _ T n _ (hx2.rd h) hok hn1 (by omega)).mono ?_
    rintro e w3 ⟨g, rfl, hg1, hg2, hc, hf, hb3⟩
    have hx3 := hx2.trans hb3
    have hO3 := hO2.below hb3 (Nat.le_refl _)
    obtain ⟨gc, cc, hce, _⟩ := Own.pos hO3 (by omega)
    injection hce with he1 _ he3
    subst he1
    subst he3
    have hcc : ∀ i, i < n → w3.cell? ⟨gc, i, none⟩ = some (.int .i64 (gI (cuAt (codeL (seqL T n)) (n - 1)) i)) := fun i hi => hO3.cell i (by omega)
    have hpos := fun i (hi : i < n) => hEu.pos i (by rw [hMl]; exact hi)
    have HM := Lib.hid (show ∀ m, meetTo T n (m + 1) = meetTo T n m + gI (seqL T n) m * gI (cuAt (codeL (seqL T n)) (n - 1)) m from fun m => sumTo_succ _ _)
    have hmb : ∀ m, m ≤ n → 0 ≤ meetTo T n m ∧ meetTo T n m ≤ 4096 * (m : Int) := by
      intro m
      induction m with
      | zero => intro _; simp [meetTo, sumTo]
      | succ m ih =>
        intro hm
        have h1 := ih (by omega)
        have h2 := mul_bd (a := gI (seqL T n) m) (A := 64) (b := gI (cuAt (codeL (seqL T n)) (n - 1)) m) (B := 64) (by have := hpos m (by omega); omega) (hpos m (by omega)).2 (hnn m) (by have := hsm m (by omega); have := hpos m (by omega); omega)
        rw [HM.out]
        omega
    have hcb64 : ∀ m, m < n → gI (cuAt (codeL (seqL T n)) (n - 1)) m ≤ 64 := fun m hm => by have := hsm m hm; have := hpos m hm; omega
    clear hO2 hO3 c2 hKOK hgo hcl hcb hEu hsm hal hb2 hb3 hx hx1 hx2 hMl hKl
    go_wp2_with fail
    go_loopw [10, 11, 12, 35] (fun sv _ _ iv wr => ∃ m : Nat, m ≤ n ∧ iv = .int .i64 m ∧ sv = .int .i64 (meetTo T n m) ∧ w3 = wr) (fun _ _ _ iv _ => n - (intOf iv).toNat)
    case atStart => exact ⟨0, Nat.zero_le _, rfl, rfl, rfl⟩
    case round =>
      obtain ⟨m, hm, rfl, rfl, rfl⟩ := hrel
      have hm0 : (0 : Int) ≤ (m : Int) := Int.natCast_nonneg _
      by_cases hlt : m < n
      · have hmi : (m : Int) < (n : Int) := by omega
        have d1 := hc m hlt
        have d2 := hcc m hlt
        have HS := Lib.hid (HM.out m)
        have b1 := hmb m hm
        have b2 := hmb (m + 1) (by omega)
        rw [HM.out m] at b2
        have b3 := mul_bd (a := gI (seqL T n) m) (A := 64) (b := gI (cuAt (codeL (seqL T n)) (n - 1)) m) (B := 64) (by have := hpos m (by omega); omega) (hpos m (by omega)).2 (hnn m) (by
          have h1 := hmb m hm
          have h2 := hcb64 m hlt
          omega)
        clear hc hcc hmb hpos hnn hf hcb64
        generalize gI (seqL T n) m = x at *
        generalize gI (cuAt (codeL (seqL T n)) (n - 1)) m = y at *
        generalize meetTo T n m = s at *
        generalize hp : x * y = p at *
        have w1' : IntKind.i64.wrap p = p := IntWalk.i64_in _ (by omega)
        have w2' : IntKind.i64.wrap (s + p) = s + p := IntWalk.i64_in _ (by omega)
        have HP := Lib.hid hp
        go_wp2
        go_roundw
        case rel => exact ⟨m + 1, by omega, by go_num, by rw [HS.out], by first | rfl | trivial⟩
        case measure => simp [intOf]; omega
      · have hme : m = n := by omega
        subst hme
        have HF := Lib.hid hx3.below
        clear hc hcc hmb hpos hnn hf hcb64
        go_wp2
        go_ret2
        refine ⟨?_, HF.out⟩
        first | rw [HV.out, H0.out] | rw [HV.out]
        first | done | rfl
  · have HV := Lib.hid (meetV_no h0)
    have hcw := ckC_wrap T hk0 hk1
    have hne0 := h0
    rw [← hcw] at hne0
    have HW := Lib.hid hcw
    clear hcw
    generalize hkk : IntKind.i64.wrap (k + 1) = kk at *
    have HC := Lib.hid (ckL_no (xs := codeL (seqL T kk.toNat)) hne0)
    go_enter Try.func16, Try.ntmps16
    go_wp2_with fail
    refine (implCodeOf_c _ T kk _ (hx.rd h)).mono ?_
    rintro e w1 ⟨ac, kc, rfl, hO, hb⟩
    have hne : (ckC T kk != 0) = true := by simp [hne0]
    have HF := Lib.hid (hx.trans hb).below
    rw [HC.out] at hO ⊢
    clear h0 hne0
    go_wp2
    go_ret2
    rw [HV.out, ← HW.out]
    exact ⟨rfl, HF.out⟩
end Go.Proofs.Ytiinceflafigeaa

/- Contract: the reference's MeetCurvette. -/
namespace Go.Proofs.Ytiinceflafigeaa
open Go.RowKit

set_option maxRecDepth 100000 in
set_option maxHeartbeats 4000000 in
theorem specMeetCurvette_c (v : Value) (T : List Int) (k : Int) (w : World) (h : Rd w v T) (hk0 : -9223372036854775808 ≤ k) (hk1 : k ≤ 9223372036854775807) :
    Calls Try.prog 17 #[.agg #[v], .int .i64 k] w fun e w' => e = .returned (.tuple #[.int .i64 (meetV T k), .int .i64 (ckC T (k + 1))]) ∧ Below w.heap.size w w' := by
  have hx := Boxed.start w 26 #[v]
  obtain ⟨a, c, rfl⟩ := h.len0
  have c0 := hx.cell 0
  cases hbr : braB T
  · have HC := Lib.hid (ckC_bra (k := k + 1) hbr)
    have HV := Lib.hid (meetV_no (T := T) (k := k) (by rw [HC.out]; decide))
    go_enter Try.func17, Try.ntmps17
    go_wp2_with fail
    refine (l03Is_c _ T _ (hx.rd h)).mono ?_
    rintro e w1 ⟨rfl, hb⟩
    rw [hbr]
    have HF := Lib.hid (hx.trans hb).below
    go_wp2
    go_ret2
    rw [HV.out, HC.out]
    exact ⟨rfl, HF.out⟩
  · cases hin : inB k 0 399
    · have HC := Lib.hid (ckC_num (k := k + 1) hbr (by rw [inB_not] at hin ⊢; omega))
      have HV := Lib.hid (meetV_no (T := T) (k := k) (by rw [HC.out]; decide))
      go_enter Try.func17, Try.ntmps17
      go_wp2_with fail
      refine (l03Is_c _ T _ (hx.rd h)).mono ?_
      rintro e w1 ⟨rfl, hb⟩
      rw [hbr]
      have HF := Lib.hid (hx.trans hb).below
      go_wp2_with fail
      refine (l01In_c _ _ _ _).mono ?_
      rintro e w2 ⟨rfl, rfl⟩
      rw [hin]
      go_wp2
      go_ret2
      rw [HV.out, HC.out]
      exact ⟨rfl, HF.out⟩
    · have h0 := ckC_ok (k := k + 1) hbr (by rw [inB_iff] at hin ⊢; omega)
      obtain ⟨hok, hk3, hk4⟩ := ckC_zero h0
      obtain ⟨n, hn⟩ := Int.eq_ofNat_of_zero_le (show 0 ≤ k + 1 by omega)
      have hkn : k = (n : Int) - 1 := by omega
      subst hkn
      have e1 : (n : Int) - 1 + 1 = (n : Int) := by omega
      have hw : IntKind.i64.wrap (n : Int) = (n : Int) := IntWalk.i64_in _ (by omega)
      rw [e1] at h0 ⊢
      have hEu := eu_seq hok n
      have hMl := seqL_len T n
      have hn1 : 1 ≤ n := by omega
      have hn4 : n ≤ 400 := by omega
      have hKl : (codeL (seqL T n)).length = n - 1 := by rw [codeL_len, hMl]
      have hgo := cur_go hEu (by rw [hMl]; omega) (by rw [hMl]; omega)
      have hsm := fun i (hi : i < n) => cur_small hEu (by rw [hMl]; omega) (by rw [hMl]; omega) (t := n - 1) (by rw [hMl]; omega) (i := i) (by rw [hMl]; exact hi)
      have hKOK := kok_code (M := seqL T n) (by rw [hMl]; omega)
      have hnn := fun i => (cuAt_bd hKOK (n - 1) (by omega) (by rw [← hKl]; exact hgo) i).1
      have hcl := cuL_yes hgo
      rw [hKl] at hcl
      have hcb : cuB (codeL (seqL T n)) = true := by
        rw [cuB_yes hgo, hKl]
        have h1 := hsm 0 (by omega)
        have h2 := hEu.pos 0 (by rw [hMl]; omega)
        simp; omega
      have HV := Lib.hid (meetV_ok h0)
      have H0 := Lib.hid h0
      go_enter Try.func17, Try.ntmps17
      go_wp2_with fail
      refine (l03Is_c _ T _ (hx.rd h)).mono ?_
      rintro e w1 ⟨rfl, hb⟩
      rw [hbr]
      have hx1 := hx.trans hb
      have c1 := hx1.cell 0
      clear c0
      go_wp2_with fail
      refine (l01In_c _ _ _ _).mono ?_
      rintro e w2 ⟨rfl, rfl⟩
      rw [hin]
      go_wp2_with fail
      refine (l06Sequence_c _ T n _ (hx1.rd h) hok (by omega)).mono ?_
      rintro e w3 ⟨am, km, rfl, oM, hb3⟩
      have hx3 := hx1.trans hb3
      have c3 := hx3.cell 0
      rw [hMl]
      clear c1
      go_wp2_with fail
      refine (l06Code_c _ T n _ (hx3.rd h) hok hn1 hn4).mono ?_
      rintro e w4 ⟨ac, kc, rfl, oK, hb4⟩
      have hx4 := hx3.trans hb4
      have hrdK := oK.rd
      rw [hKl] at hrdK ⊢
      have hcall := l06Curvette_c (.slice ac (n - 1) kc) (codeL (seqL T n)) w4 hrdK hKOK
      rw [hcl, hcb] at hcall
      clear c3
      go_wp2_with fail
      refine hcall.mono ?_
      rintro e w5 ⟨a2, k2, rfl, hO2, hb5⟩
      have hx5 := hx4.trans hb5
      have hal : (cuAt (codeL (seqL T n)) (n - 1)).length = n := by rw [cuAt_len, hKl]; omega
      have oM5 := (oM.below hb4 (Nat.le_refl _)).below hb5 (Nat.le_refl _)
      rw [hal]
      obtain ⟨gc, cc, hce, _⟩ := Own.pos hO2 (by omega)
      injection hce with he1 _ he3
      subst he1
      subst he3
      obtain ⟨gm, cm, hme, _⟩ := Own.pos oM5 (by omega)
      injection hme with he4 _ he6
      subst he4
      subst he6
      have hc : ∀ i, i < n → w5.cell? ⟨gm, i, none⟩ = some (.int .i64 (gI (seqL T n) i)) := fun i hi => oM5.cell i (by omega)
      have hcc : ∀ i, i < n → w5.cell? ⟨gc, i, none⟩ = some (.int .i64 (gI (cuAt (codeL (seqL T n)) (n - 1)) i)) := fun i hi => hO2.cell i (by omega)
      have hpos := fun i (hi : i < n) => hEu.pos i (by rw [hMl]; exact hi)
      have HM := Lib.hid (show ∀ m, meetTo T n (m + 1) = meetTo T n m + gI (seqL T n) m * gI (cuAt (codeL (seqL T n)) (n - 1)) m from fun m => sumTo_succ _ _)
      have hmb : ∀ m, m ≤ n → 0 ≤ meetTo T n m ∧ meetTo T n m ≤ 4096 * (m : Int) := by
        intro m
        induction m with
        | zero => intro _; simp [meetTo, sumTo]
        | succ m ih =>
          intro hm
          have h1 := ih (by omega)
          have h2 := mul_bd (a := gI (seqL T n) m) (A := 64) (b := gI (cuAt (codeL (seqL T n)) (n - 1)) m) (B := 64) (by have := hpos m (by omega); omega) (hpos m (by omega)).2 (hnn m) (by have := hsm m (by omega); have := hpos m (by omega); omega)
          rw [HM.out]
          omega
      have hcb64 : ∀ m, m < n → gI (cuAt (codeL (seqL T n)) (n - 1)) m ≤ 64 := fun m hm => by have := hsm m hm; have := hpos m hm; omega
      clear hO2 hKOK hgo hcl hcb hEu hsm hal hb3 hb4 hb5 hx hx1 hx3 hx4 hMl hKl oM oM5 oK hrdK hcall
      go_wp2_with fail
      go_loopw [7, 10] (fun sv iv wr => ∃ m : Nat, m ≤ n ∧ iv = .int .i64 m ∧ sv = .int .i64 (meetTo T n m) ∧ Drew w5 wr) (fun _ iv _ => n - (intOf iv).toNat)
      case atStart => exact ⟨0, Nat.zero_le _, rfl, rfl, Drew.refl _⟩
      case round =>
        obtain ⟨m, hm, rfl, rfl, nd, rfl⟩ := hrel
        have hm0 : (0 : Int) ≤ (m : Int) := Int.natCast_nonneg _
        by_cases hlt : m < n
        · have hmi : (m : Int) < (n : Int) := by omega
          have d1 := hc m hlt
          have d2 := hcc m hlt
          have HS := Lib.hid (HM.out m)
          have b1 := hmb m hm
          have b2 := hmb (m + 1) (by omega)
          rw [HM.out m] at b2
          have b3 := mul_bd (a := gI (seqL T n) m) (A := 64) (b := gI (cuAt (codeL (seqL T n)) (n - 1)) m) (B := 64) (by have := hpos m (by omega); omega) (hpos m (by omega)).2 (hnn m) (by
            have h1 := hmb m hm
            have h2 := hcb64 m hlt
            omega)
          clear hc hcc hmb hpos hnn hcb64
          generalize gI (seqL T n) m = x at *
          generalize gI (cuAt (codeL (seqL T n)) (n - 1)) m = y at *
          generalize meetTo T n m = s at *
          generalize hp : x * y = p at *
          have w1' : IntKind.i64.wrap p = p := IntWalk.i64_in _ (by omega)
          have w2' : IntKind.i64.wrap (s + p) = s + p := IntWalk.i64_in _ (by omega)
          have HP := Lib.hid hp
          go_wp2_with fail
          go_quiet (fail)
          go_wp2
          go_roundw
          case rel => exact ⟨m + 1, by omega, by go_num, by rw [HS.out], by first | exact Drew.one _ _ | exact Drew.two _ _ _⟩
          case measure => simp [intOf]; omega
        · have hme : m = n := by omega
          subst hme
          have HF := Lib.hid (below_drewN hx5.below nd)
          clear hc hcc hmb hpos hnn hcb64
          go_wp2
          go_ret2
          refine ⟨?_, HF.out⟩
          first | rw [HV.out, H0.out] | rw [HV.out]
          first | done | rfl
end Go.Proofs.Ytiinceflafigeaa

/- MeetCurvette's contracts for a number of the kind int64. -/
namespace Go.Proofs.Ytiinceflafigeaa
open Go.RowKit
theorem wf_bd {k : Int} (h : (Lit.int .i64 k).wf = true) : -9223372036854775808 ≤ k ∧ k ≤ 9223372036854775807 := by
  have e : (Lit.int .i64 k).wf = (decide (IntKind.i64.min ≤ k) && decide (k ≤ IntKind.i64.max)) := rfl
  have e1 : IntKind.i64.min = -9223372036854775808 := by decide
  have e2 : IntKind.i64.max = 9223372036854775807 := by decide
  rw [e, e1, e2] at h
  simpa using h
theorem implMeetW_c (v : Value) (T : List Int) (k : Int) (w : World) (h : Rd w v T) (wf : (Lit.int .i64 k).wf = true) :
    Calls Try.prog 16 #[.agg #[v], .int .i64 k] w fun e w' => e = .returned (.tuple #[.int .i64 (meetV T k), .int .i64 (ckC T (k + 1))]) ∧ Below w.heap.size w w' := implMeetCurvette_c v T k w h (wf_bd wf).1 (wf_bd wf).2
theorem specMeetW_c (v : Value) (T : List Int) (k : Int) (w : World) (h : Rd w v T) (wf : (Lit.int .i64 k).wf = true) :
    Calls Try.prog 17 #[.agg #[v], .int .i64 k] w fun e w' => e = .returned (.tuple #[.int .i64 (meetV T k), .int .i64 (ckC T (k + 1))]) ∧ Below w.heap.size w w' := specMeetCurvette_c v T k w h (wf_bd wf).1 (wf_bd wf).2
end Go.Proofs.Ytiinceflafigeaa

/- Contracts: CurvetteAt. -/
namespace Go.Proofs.Ytiinceflafigeaa
open Go.RowKit

/-- The code of the points of a branch is a code. -/
theorem kco_seq {M : List Int} (h : Eu M) (hl : M.length ≤ 400) : KCo (codeL M) := by
  refine ⟨kok_code hl, fun i hi => ?_⟩
  simp at hi
  have hil : i + 1 < M.length := by omega
  rw [gI_codeL hil]
  by_cases hs : 0 ≤ sI M (i + 1)
  · right
    have hb := sI_bd M (i + 1)
    have hp := pB_sec hs
    have hc : cI M i = ((i + 1 : Nat) : Int) - sI M (i + 1) := by simp [cI, hs]
    obtain ⟨s, hse⟩ := Int.eq_ofNat_of_zero_le hs
    rw [hse, Int.toNat_natCast] at hp
    rw [hse] at hc hb
    have hsi : s + 1 ≤ i := by omega
    refine ⟨by omega, ?_⟩
    by_cases he : s + 1 = i
    · left; rw [hc]; omega
    · right
      have h2 : pB M s i = true := pB_down h hil (by omega) (by omega) hp
      have h3 : sI M i = (s : Int) := by
        unfold sI
        rcases secTo_cases M i (i - 1) with ⟨_, h4⟩ | ⟨i', h4, h5, h6⟩
        · have := h4 s (by omega); rw [h2] at this; cases this
        · rw [h5]
          by_cases c1 : i' = s
          · rw [c1]
          · exfalso
            by_cases c2 : i' < s
            · exact pB_one h c2 (by omega) (by omega) h6 h2
            · exact pB_one h (show s < i' by omega) (by omega) (by omega) h2 h6
      obtain ⟨j, rfl⟩ : ∃ j, i = j + 1 := ⟨i - 1, by omega⟩
      rw [Nat.add_sub_cancel, gI_codeL (by omega)]
      have h5 : cI M j = ((j + 1 : Nat) : Int) - (s : Int) := by unfold cI; rw [h3, if_pos (by omega)]
      rw [h5, hc]
      omega
  · left; simp [cI, hs]
theorem code_of_kco {K : List Int} (h : KCo K) : isCodeB K = true := by
  refine isCode_good h.ok.1 fun j hj => ?_
  have h1 := h.step j hj
  have h2 := h.ok.2 j hj
  rcases h1 with h1 | ⟨h0, h1 | ⟨h1, h3⟩⟩
  · simp [codeStep, h1]
  · simp [codeStep, h1, h0]
  · have h4 := h.ok.2 (j - 1) (by omega)
    have hl := h.ok.1
    have hw : Go.RowKit.wrap64 (gI K (j - 1) + 1) = gI K (j - 1) + 1 := IntWalk.wrap64_in _ ⟨by omega, by omega⟩
    simp only [codeStep, hw, h3, decide_eq_true h0]
    have : (gI K (j - 1) != 0) = true := by simp; omega
    simp [this]

/-- What CurvetteAt hands back. -/
def CatR (T : List Int) (k : Int) (xs : List Int) (c : Int) : Prop := (ckC T (k + 1) ≠ 0 ∧ xs = [] ∧ c = ckC T (k + 1)) ∨ (ckC T (k + 1) = 0 ∧ CvR (codeL (seqL T (k + 1).toNat)) xs c)
theorem kco_at {T : List Int} {n : Nat} (h : ckC T (n : Int) = 0) : KCo (codeL (seqL T n)) := by
  obtain ⟨h1, h2, h3⟩ := ckC_zero h
  exact kco_seq (eu_seq h1 n) (by simp; omega)
theorem catR_ex (T : List Int) (k : Int) : ∃ xs c, CatR T k xs c ∧ xs.length ≤ 7 := by
  by_cases h : ckC T (k + 1) = 0
  · obtain ⟨_, h2, _⟩ := ckC_zero h
    obtain ⟨n, hn⟩ := Int.eq_ofNat_of_zero_le (show 0 ≤ k + 1 by omega)
    have hk := kco_at (T := T) (n := n) (by rw [← hn]; exact h)
    obtain ⟨xs, c, h3, h4⟩ := cvR_ex hk
    exact ⟨xs, c, .inr ⟨h, by rw [hn, Int.toNat_natCast]; exact h3⟩, h4⟩
  · exact ⟨[], _, .inl ⟨h, rfl, rfl⟩, by simp⟩

set_option maxRecDepth 100000 in
set_option maxHeartbeats 4000000 in
theorem implCat_yes (v : Value) (T xs : List Int) (n : Nat) (c : Int) (w : World) (h : Rd w v T) (h0 : ckC T (n : Int) = 0) (hR : CvR (codeL (seqL T n)) xs c) :
    Calls Try.prog 14 #[.agg #[v], .int .i64 ((n : Int) - 1)] w (RetBC w xs c) := by
  have hx := (Boxed.start w 26 #[v]).alloc (.cells #[.slice none 0 0] 26)
  have D := Blk.new' (w := w.alloc (.cells #[v] 26)) (t := 26) (cs := #[.slice none 0 0]) (g := w.heap.size + 1) (by simp)
  obtain ⟨a, cp, rfl⟩ := h.len0
  obtain ⟨hok, hk3, hk4⟩ := ckC_zero h0
  have e1 : (n : Int) - 1 + 1 = (n : Int) := by omega
  have hw : IntKind.i64.wrap (n : Int) = (n : Int) := IntWalk.i64_in _ (by omega)
  have HKC := Lib.hid (kco_at h0)
  have HC := Lib.hid (ckL_ok (xs := codeL (seqL T ((n : Int)).toNat)) h0)
  have H0 := Lib.hid h0
  have HR := Lib.hid hR
  have c0 := hx.cell 0
  clear h0 hR
  go_enter Try.func14, Try.ntmps14
  go_wp2_with fail
  refine (implCodeOf_c _ T n _ (hx.rd h)).mono ?_
  rintro e w1 ⟨ac, kc, rfl, hO, hb⟩
  rw [HC.out, Int.toNat_natCast] at hO ⊢
  rw [H0.out]
  have hx1 := hx.trans hb
  have D1 := D.stays hb
  have hrdK := hO.rd
  have hKl : (codeL (seqL T n)).length = n - 1 := by rw [codeL_len, seqL_len]
  rw [hKl] at hrdK ⊢
  have hDl := D1.lt
  clear c0 hx D hO hKl
  go_wp2_with fail
  refine (curvette_c _ (codeL (seqL T n)) xs c _ hrdK HKC.out HR.out).mono ?_
  rintro e w2 ⟨a2, k2, rfl, hO2, hb2⟩
  have hx2 := hx1.trans hb2
  have D2 := D1.stays hb2
  have e0 := D2.cell 0
  have f0 := D2.free 0
  have q0 := (D2.set 0 (.slice a2 xs.length k2)).cell 0
  have fr2 := hx2.below
  have hfin : RetBC w xs c (.returned (.tuple #[.agg #[.slice a2 xs.length k2], .int .i64 c])) (w2.setCell ⟨w.heap.size + 1, 0, none⟩ (.slice a2 xs.length k2)) :=
    retBC_of ((hO2.other (g := w.heap.size + 1) (fun q hq => by have := (hO2.block q hq).1; omega) 0 (.slice a2 xs.length k2)).base_le (by omega)) (fr2.setCell (p := ⟨w.heap.size + 1, 0, none⟩) (by show w.heap.size ≤ w.heap.size + 1; omega) (.slice a2 xs.length k2))
  clear hO2 hrdK
  go_wp2
  exact bodyPost_ret (v := .tuple #[.agg #[.slice a2 xs.length k2], .int .i64 c]) (by simp [results, Try.results14, go_sem, q0]) rfl hfin

set_option maxRecDepth 100000 in
set_option maxHeartbeats 4000000 in
theorem implCat_no (v : Value) (T : List Int) (k c : Int) (w : World) (h : Rd w v T) (h0 : ckC T (IntKind.i64.wrap (k + 1)) = c) (hc : c ≠ 0) :
    Calls Try.prog 14 #[.agg #[v], .int .i64 k] w (RetBC w [] c) := by
  have hx := (Boxed.start w 26 #[v]).alloc (.cells #[.slice none 0 0] 26)
  have D := Blk.new' (w := w.alloc (.cells #[v] 26)) (t := 26) (cs := #[.slice none 0 0]) (g := w.heap.size + 1) (by simp)
  obtain ⟨a, cp, rfl⟩ := h.len0
  generalize hkk : IntKind.i64.wrap (k + 1) = kk at *
  have HC := Lib.hid (ckL_no (T := T) (k := kk) (xs := codeL (seqL T kk.toNat)) (by rw [h0]; exact hc))
  have H0 := Lib.hid h0
  have hcb : (c == 0) = false := by simpa using hc
  have hcb2 : (c != 0) = true := by simpa using hc
  have c0 := hx.cell 0
  clear h0 hc
  go_enter Try.func14, Try.ntmps14
  go_wp2_with fail
  refine (implCodeOf_c _ T kk _ (hx.rd h)).mono ?_
  rintro e w1 ⟨ac, kc, rfl, hO, hb⟩
  rw [HC.out, List.length_nil] at hO ⊢
  rw [H0.out]
  have hx1 := hx.trans hb
  have D2 := D.stays hb
  have e0 := D2.cell 0
  have f0 := D2.free 0
  have q0 := (D2.set 0 (.slice none 0 0)).cell 0
  have hfin := retBC_none (c := c) (hx1.below.setCell (p := ⟨w.heap.size + 1, 0, none⟩) (by show w.heap.size ≤ w.heap.size + 1; omega) (.slice none 0 0))
  clear hO c0
  go_wp2
  exact bodyPost_ret (v := .tuple #[.agg #[.slice none 0 0], .int .i64 c]) (by simp [results, Try.results14, go_sem, q0]) rfl hfin
theorem implCat_c (v : Value) (T : List Int) (k : Int) (xs : List Int) (c : Int) (w : World) (h : Rd w v T) (hk0 : -9223372036854775808 ≤ k) (hk1 : k ≤ 9223372036854775807) (hR : CatR T k xs c) :
    Calls Try.prog 14 #[.agg #[v], .int .i64 k] w (RetBC w xs c) := by
  rcases hR with ⟨h1, rfl, rfl⟩ | ⟨h1, h2⟩
  · exact implCat_no v T k _ w h (ckC_wrap T hk0 hk1) h1
  · obtain ⟨_, h3, _⟩ := ckC_zero h1
    obtain ⟨n, hn⟩ := Int.eq_ofNat_of_zero_le (show 0 ≤ k + 1 by omega)
    have hkn : k = (n : Int) - 1 := by omega
    rw [hn] at h1 h2
    rw [hkn]
    exact implCat_yes v T xs n c w h h1 h2
end Go.Proofs.Ytiinceflafigeaa
