/- Contract: spec.CurvetteOfCode. -/
import Derived.Test.YtibfigmnoamheaaCoc
namespace Go.Proofs.Ytibfigmnoamheaa
open Go.RowKit

set_option maxHeartbeats 2000000 in
theorem specCoc_no (v : Value) (K : List Int) (w : World) (h : Rd w v K) (hc : isCodeB K = false) :
    Calls Try.prog 29 #[v] w (RetBC w [] 2) := by
  obtain ⟨a0, c0, rfl⟩ := h.len0
  have D := Blk.new w 26 #[.slice none 0 0]
  have fr : Below w.heap.size w (w.alloc (.cells #[.slice none 0 0] 26)) := (Below.refl _ _).alloc (Nat.le_refl _) _
  have h1 := h.below fr (Nat.le_refl _)
  have HC := Lib.hid hc
  go_enter Try.func29, Try.ntmps29
  go_wp2_with fail
  refine (l06Is_c _ K _ h1).mono ?_
  rintro e w1 ⟨rfl, hd⟩
  rw [HC.out]
  have hb := hd.below (w.alloc (.cells #[.slice none 0 0] 26)).heap.size
  have D1 := D.stays hb
  have fr1 := below_step fr hb
  have e0 := D1.cell 0
  have f0 := D1.free 0
  have q0 := (D1.set 0 (.slice none 0 0)).cell 0
  have hfin := retBC_none (c := 2) (fr1.setCell (p := ⟨w.heap.size, 0, none⟩) (Nat.le_refl _) (.slice none 0 0))
  go_wp2
  exact bodyPost_ret (v := .tuple #[.agg #[.slice none 0 0], .int .i64 2]) (by simp [results, Try.results29, go_sem, q0]) rfl hfin
set_option maxHeartbeats 2000000 in
theorem specCoc_big (v : Value) (K : List Int) (w : World) (h : Rd w v K) (hc : isCodeB K = true) (hu : cuB K = false) :
    Calls Try.prog 29 #[v] w (RetBC w [] 5) := by
  obtain ⟨a0, c0, rfl⟩ := h.len0
  have D := Blk.new w 26 #[.slice none 0 0]
  have fr : Below w.heap.size w (w.alloc (.cells #[.slice none 0 0] 26)) := (Below.refl _ _).alloc (Nat.le_refl _) _
  have h1 := h.below fr (Nat.le_refl _)
  have HC := Lib.hid hc
  have HU := Lib.hid hu
  go_enter Try.func29, Try.ntmps29
  go_wp2_with fail
  refine (l06Is_c _ K _ h1).mono ?_
  rintro e w1 ⟨rfl, hd⟩
  rw [HC.out]
  have hb := hd.below (w.alloc (.cells #[.slice none 0 0] 26)).heap.size
  have D1 := D.stays hb
  have fr1 := below_step fr hb
  clear D
  go_wp2_with fail
  refine (l06Curvette_c _ K _ (h1.below hb (Nat.le_refl _)) (kco_of_code HC.out).ok).mono ?_
  rintro e w2 ⟨a2, k2, rfl, hO2, hb2⟩
  rw [HU.out]
  have D2 := D1.stays hb2
  have fr2 := below_step fr1 hb2
  have e0 := D2.cell 0
  have f0 := D2.free 0
  have q0 := (D2.set 0 (.slice none 0 0)).cell 0
  have hfin := retBC_none (c := 5) (fr2.setCell (p := ⟨w.heap.size, 0, none⟩) (Nat.le_refl _) (.slice none 0 0))
  generalize (cuL K).length = n at *
  go_wp2
  exact bodyPost_ret (v := .tuple #[.agg #[.slice none 0 0], .int .i64 5]) (by simp [results, Try.results29, go_sem, q0]) rfl hfin

set_option maxHeartbeats 4000000 in
theorem specCoc_yes (v : Value) (K T : List Int) (z : Nat) (fb : Bool) (w : World) (h : Rd w v K) (hc : isCodeB K = true) (hu : cuB K = true) (hT : CurT (cuM K) T z) (hfb : braB T = fb) :
    Calls Try.prog 29 #[v] w (RetBC w (okL fb T) (okC fb 5)) := by
  obtain ⟨i0, hi, hz0, hz1, hz2⟩ := info_parts Try.infoI
  obtain ⟨a0, c0, rfl⟩ := h.len0
  have D := Blk.new w 26 #[.slice none 0 0]
  have fr : Below w.heap.size w (w.alloc (.cells #[.slice none 0 0] 26)) := (Below.refl _ _).alloc (Nat.le_refl _) _
  have h1 := h.below fr (Nat.le_refl _)
  have hK := kco_of_code hc
  obtain ⟨_, h64, hcl⟩ := cuB_parts hu
  have hml : (cuM K).length = K.length + 1 := cuAt_len K K.length
  have hkl := hK.ok.1
  have hpos := fun i (hi : i < (cuM K).length) => cuM_pos hK (i := i) (by omega)
  have hcl2 : cuL K = cuM K := hcl
  have HC := Lib.hid hc
  have HT := Lib.hid hT
  have HF := Lib.hid hfb
  have HML := Lib.hid hml
  have HP := Lib.hid hpos
  have HK := Lib.hid hK
  have HCU : Hid (∀ W, Rd W (.slice a0 K.length c0) K → Calls Try.prog 131 #[.slice a0 K.length c0] W (RetK W (cuM K) true)) := Lib.hid (fun W hW => by have := l06Curvette_c _ K W hW hK.ok; rw [hcl, hu] at this; exact this)
  clear hc hT hfb hcl hml hpos hK hu hcl2
  go_enter Try.func29, Try.ntmps29
  go_wp2_with fail
  refine (l06Is_c _ K _ h1).mono ?_
  rintro e w1 ⟨rfl, hd⟩
  rw [HC.out]
  have hb := hd.below (w.alloc (.cells #[.slice none 0 0] 26)).heap.size
  have D1 := D.stays hb
  have fr1 := below_step fr hb
  clear D
  go_wp2_with fail
  refine (HCU.out _ (h1.below hb (Nat.le_refl _))).mono ?_
  rintro e w2 ⟨a2, k2, rfl, hO2, hb2⟩
  have D2 := D1.stays hb2
  have fr2 := below_step fr1 hb2
  rw [HML.out] at hO2 ⊢
  clear fr fr1
  go_wp2_with fail
  refine (l06Ones_c 64 _ (by omega)).mono ?_
  rintro e w3 ⟨a3, k3, rfl, hO3, hb3⟩
  have D3 := D2.stays hb3
  have fr3 := below_step fr2 hb3
  have hO4 := hO2.below hb3 (Nat.le_refl _)
  have hrd3 := hO3.rd
  have hs1 := hd.size
  have hs2 := hb2.size
  have hs3 := hb3.size
  have hDl := D1.lt
  rw [onesTo_len] at hO3 hrd3 ⊢
  clear D1 D2 fr2 hO2
  have hO5 : OwnI w3 (w.heap.size + 1) (.slice a2 (K.length + 1) k2) (cuM K) := hO4.base_le (by omega)
  have hall : (cuM K ++ onesTo 64).length = K.length + 65 := by rw [List.length_append, onesTo_len, HML.out]
  have HAL := Lib.hid hall
  have HX : Hid (K.length + 1 + 64 = (cuM K ++ onesTo 64).length) := Lib.hid (by rw [hall])
  have hs4 : w.heap.size + 1 ≤ w3.heap.size := by omega
  clear hall
  go_wp2_with (at_builtin; refine wpList_extend rfl (.tmp 21) (.tmp 22) 24 rfl (w.heap.size + 1) 2 i0 Try.underlying24 hi hz0 hz1 hz2 (.slice a2 (K.length + 1) k2) (.slice a3 64 k3) (cuM K) (onesTo 64) rfl hO5 rfl hrd3 (by simp) (by rw [HML.out, onesTo_len]; omega) hs4 ?_; intro v' w4 hown' hkp; obtain ⟨a4, k4, hv4⟩ := hown'.form; rw [HAL.out] at hv4; subst hv4)
  have hrd4 := hown'.rd
  have D4 := D3.keeps hkp (fun h => by have := (hO5.block _ h).1; omega)
  have fr4 := fr3.trans (hkp.below (by omega) (fun g hg => by have := (hO5.block g hg).1; omega))
  have hcall := l04Branch_c _ (cuM K) T (cuM K ++ onesTo 64) z fb w4 hrd4 HT.out rfl (cuM_good HK.out) HP.out h64 (by rw [HML.out]; omega) (by rw [HML.out]; omega) HF.out
  have HCA := Lib.hid hcall
  clear hcall hrd4 hown' hO5 hO4 hO3 hrd3 D3 fr3
  refine HCA.out.mono ?_
  rintro e w5 ⟨a5, k5, rfl, hO6, hb5⟩
  have hs5 := hb5.size
  have hs6 := hkp.size
  have D5 := (D4.stays hb5).alloc (.cells #[.slice a5 (okL fb T).length k5] 26)
  have hal : Below w5.heap.size w5 (w5.alloc (.cells #[.slice a5 (okL fb T).length k5] 26)) := (Below.refl _ _).alloc (Nat.le_refl _) _
  have fr5 := below_step (below_step fr4 hb5) hal
  have O6 := hO6.below hal (Nat.le_refl _)
  have B5 := Blk.new w5 26 #[.slice a5 (okL fb T).length k5]
  have e0 := D5.cell 0
  have f0 := D5.free 0
  have b0 := B5.cell 0
  clear hkp hO6
  cases fb
  · have hl0 : (okL false T).length = 0 := rfl
    rw [hl0] at D5 B5 fr5 e0 f0 b0 ⊢
    clear hl0
    have q0 := (D5.set 0 (.slice none 0 0)).cell 0
    have hfin := retBC_none (c := 5) (fr5.setCell (p := ⟨w.heap.size, 0, none⟩) (Nat.le_refl _) (.slice none 0 0))
    go_wp2
    exact bodyPost_ret (v := .tuple #[.agg #[.slice none 0 0], .int .i64 5]) (by simp [results, Try.results29, go_sem, q0]) rfl hfin
  · have hl0 : (okL true T).length = T.length := rfl
    rw [hl0] at D5 B5 fr5 e0 f0 b0 ⊢
    clear hl0
    have q0 := (D5.set 0 (.slice a5 T.length k5)).cell 0
    have hfin : RetBC w T 0 (.returned (.tuple #[.agg #[.slice a5 T.length k5], .int .i64 0])) ((w5.alloc (.cells #[.slice a5 T.length k5] 26)).setCell ⟨w.heap.size, 0, none⟩ (.slice a5 T.length k5)) :=
      retBC_of ((O6.other (g := w.heap.size) (fun q hq => by have := (O6.block q hq).1; omega) 0 (.slice a5 T.length k5)).base_le (by omega)) (fr5.setCell (p := ⟨w.heap.size, 0, none⟩) (Nat.le_refl _) (.slice a5 T.length k5))
    go_wp2
    exact bodyPost_ret (v := .tuple #[.agg #[.slice a5 T.length k5], .int .i64 0]) (by simp [results, Try.results29, go_sem, q0]) rfl hfin
theorem specCoc_c (v : Value) (K xs : List Int) (c : Int) (w : World) (h : Rd w v K) (hR : CocR K xs c) :
    Calls Try.prog 29 #[v] w (RetBC w xs c) := by
  rcases hR with ⟨h1, rfl, rfl⟩ | ⟨h1, ⟨h2, rfl, rfl⟩ | ⟨h2, T, z, hT, ⟨hb, rfl, rfl⟩ | ⟨hb, rfl, rfl⟩⟩⟩
  · exact specCoc_no v K w h h1
  · exact specCoc_big v K w h h1 h2
  · exact specCoc_yes v K _ z true w h h1 h2 hT hb
  · exact specCoc_yes v K T z false w h h1 h2 hT hb
end Go.Proofs.Ytibfigmnoamheaa
