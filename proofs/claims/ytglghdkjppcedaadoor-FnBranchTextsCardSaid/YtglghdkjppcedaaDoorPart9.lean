/- Contracts: impl.joinedNumbers, impl.branchText, impl.BranchText. -/
import Derived.Test.YtglghdkjppcedaaDoorPart3
import Derived.Test.YtglghdkjppcedaaDoorPart8
import Derived.Test.YtglghdkjppcedaaDoorPart6
namespace Go.Proofs.YtglghdkjppcedaaDoor
open Go.RowKit

set_option maxRecDepth 100000 in
set_option maxHeartbeats 4000000 in
theorem joinedNumbers_c (a : Option Addr) (n k : Nat) (L : List Int) (w : World) (h : Rd w (.slice a n k) L) (hl : L.length = n) (hn0 : 0 < n) (hn : n ≤ 64) (hnum : ∀ i, i < n → 0 ≤ gI L i ∧ gI L i < 1000000000) (ht : Tab w) :
    Calls Tryd.prog 48 #[.slice a n k, .string { data := #[44] }] w (RetS w (numsL L)) := by
  obtain ⟨i0, hi, hz0, hz1, hz2⟩ := info_parts Tryd.infoS
  obtain ⟨b0, o0, k0, he, hb0, hc0⟩ := h.atT hl hn0
  injection he with e1 _ e3
  subst e1 e3
  have HC := Lib.hid hc0
  have HNUM := Lib.hid hnum
  have HT := Lib.hid ht
  have HWK : Hid (∀ j, j < n → (L.map dL).take (j + 1) = (L.map dL).take j ++ [dL (gI L j)]) := Lib.hid (fun j hj => by
    rw [List.take_succ_eq_append_getElem (by simp; omega), List.getElem_map, gI_lt (by omega)])
  have HALL : Hid ((L.map dL).take n = L.map dL) := Lib.hid (List.take_of_length_le (by simp; omega))
  have hO := ownT_empty w w.heap.size (Nat.le_refl _)
  have hB : Below w.heap.size w (w.alloc (.cells #[] 9)) := (Below.refl _ _).alloc (Nat.le_refl _) _
  clear hc0 hnum ht h hl
  go_enter Tryd.func48, Tryd.ntmps48
  go_upto_region 2 with fail
  generalize w.alloc (.cells #[] 9) = w1 at *
  go_wp2_with fail
  go_loopw [5, 11] (fun sv iv wr => ∃ (j : Nat) (ss : List ByteArray), j ≤ n ∧ iv = .int .i64 (j : Int) ∧ ss.length = j ∧ Hid (ss.map lB = (L.map dL).take j) ∧ Hid (∀ x ∈ ss, x.size ≤ 10) ∧ OwnT wr w.heap.size sv ss ∧ Below w.heap.size w wr) (fun _ iv _ => n - (intOf iv).toNat)
  case atStart => exact ⟨0, [], by omega, rfl, rfl, Lib.hid rfl, Lib.hid (fun x hx => by simp at hx), hO, hB⟩
  case round =>
    obtain ⟨j, ss, hj, rfl, hlk, HMM, HBS, hO2, hB2⟩ := hrel
    clear hO hB
    obtain ⟨wo, rfl⟩ : ∃ wo : World, wo = wr := ⟨_, rfl⟩
    by_cases hlt : j < n
    · have hki : (j : Int) < (n : Int) := by omega
      have hkz : (0 : Int) ≤ (j : Int) := by omega
      obtain ⟨e1, e2⟩ := HNUM.out j hlt
      have d0 := (hB2.cell (p := ⟨b0, o0 + j, none⟩) hb0).trans (HC.out j hlt)
      have ht1 := HT.out.below hB2 (Nat.le_refl _)
      have HNX := Lib.hid (HWK.out j hlt)
      generalize gI L j = x at *
      go_wp2_with fail
      refine (decimal_c x _ (by omega) e2 ht1).mono ?_
      rintro e w2 ⟨u1, rfl, hu1, hb⟩
      have hus1 := sgn_bytes (by omega) e2 hu1
      have hO3 := hO2.below hb (Nat.le_refl _)
      have hB3 := below_step hB2 hb
      have hszz := hB3.size
      have HU1 : Hid (lB u1 = dL x) := Lib.hid (by rw [hu1, sgnL_nn (by omega)]; rfl)
      clear hu1 hO2 hB2 hb ht1 d0 e1 e2
      go_wp2_with (at_builtin; refine wpList_pushT rfl (.tmp 15) (.tmp 18) 56 rfl w.heap.size i0 Tryd.underlying56 hi hz0 hz1 hz2 _ ss u1 rfl hO3 rfl (by omega) hszz ?_; intro v' w9 ho2 hk2)
      have HR := Lib.hid (show OwnT w9 w.heap.size v' (ss ++ [u1]) ∧ Below w.heap.size w w9 from ⟨ho2, hB3.trans (hk2.below (B := w.heap.size) hszz (fun b e => (hO3.block b e).1))⟩)
      have HM2 : Hid ((ss ++ [u1]).map lB = (L.map dL).take (j + 1)) := Lib.hid (by rw [List.map_append, HMM.out, HNX.out, ← HU1.out]; rfl)
      have HB2 : Hid (∀ x ∈ ss ++ [u1], x.size ≤ 10) := Lib.hid (fun x hx => by
        rw [List.mem_append, List.mem_singleton] at hx
        rcases hx with hx | hx
        · exact HBS.out x hx
        · rw [hx]; exact hus1)
      have hl2 : (ss ++ [u1]).length = j + 1 := by simp [hlk]
      clear ho2 hk2 hO3 hB3 HNX HU1 hus1
      generalize ss ++ [u1] = ss2 at *
      go_wp2
      go_roundw
      case rel => exact ⟨j + 1, ss2, by omega, by go_num, hl2, HM2, HB2, HR.out.1, HR.out.2⟩
      case measure => simp [intOf]; omega
    · have hke : j = n := by omega
      have hki : ¬ (j : Int) < (n : Int) := by omega
      rw [hke] at HMM hlk
      have hm : ss.map lB = L.map dL := by rw [HMM.out, HALL.out]
      obtain ⟨bW, oW, cW, rfl, hbW, hcW⟩ := hO2.rd.cells (by omega)
      have hcap : ss.length ≤ cW := by
        obtain ⟨a', c', q1, q2, _⟩ := hO2.rd
        injection q1 with _ _ q1
        omega
      have hcells : ∀ (i : Nat) x, ss[i]? = some x → wo.cell? ⟨bW, oW + i, none⟩ = some (.string x) := fun i x hj => by
        obtain ⟨hj1, hj2⟩ := List.getElem?_eq_some_iff.1 hj
        rw [hcW i hj1, gS_lt hj1, hj2]
      have e32 : (({ data := #[44] } : ByteArray).data.toList) = [44] := rfl
      have ej : Lib.join (ss.map (·.data.toList)) (({ data := #[44] } : ByteArray).data.toList) = numsL L := by
        rw [e32, join_eq]
        show joinL 44 (ss.map lB) = _
        rw [hm]; rfl
      have hlen : (Lib.join (ss.map (·.data.toList)) (({ data := #[44] } : ByteArray).data.toList)).length ≤ 140737488355328 := by
        rw [e32, join_eq]
        have h1 := joinL_bd 44 10 (ss.map lB) (fun x hx => by
          obtain ⟨y, hy, rfl⟩ := List.mem_map.1 hx
          rw [lB_len]; exact HBS.out y hy)
        rw [List.length_map, hlk] at h1
        show (joinL 44 (ss.map lB)).length ≤ _
        omega
      have hcon := Tryd.strings_Join bW oW cW ss { data := #[44] } wo hcells hbW (by omega) hcap hlen
      rw [ej, hlk] at hcon
      have HCON := Lib.hid hcon
      rw [hlk]
      clear hcon hlen ej hcells hcap hcW hm hke hj
      go_wp2_with fail
      refine HCON.out.mono ?_
      rintro e w9 ⟨rfl, hb⟩
      have HR : Hid (RetS w (numsL L) (.returned (.string ⟨(numsL L).toArray⟩)) w9) := Lib.hid ⟨_, rfl, by simp [lB], below_step hB2 hb⟩
      clear hb hB2
      go_wp2
      go_ret
      exact HR.out
theorem nums_bytes {L : List Int} (hn : L.length ≤ 64) (h : ∀ x ∈ L, 0 ≤ x ∧ x < 1000000000) {s : ByteArray} (hs : lB s = numsL L) : s.size ≤ 1000 := by
  rw [← lB_len, hs]
  have h1 := joinL_bd 44 9 (L.map dL) (fun x hx => by
    obtain ⟨y, hy, rfl⟩ := List.mem_map.1 hx
    have := h y hy
    exact decL_len 8 y.toNat (by omega))
  rw [List.length_map] at h1
  show (joinL 44 (L.map dL)).length ≤ 1000
  omega
theorem Rd.drop1 {w : World} {b o n k : Nat} {T : List Int} (h : Rd w (.slice (some ⟨b, o, none⟩) n k) T) (hn : T.length = n) (h1 : 1 < n) : Rd w (.slice (some ⟨b, o + 1, none⟩) (n - 1) (k - 1)) (T.drop 1) := by
  obtain ⟨a, cap, he, h2, h3, h4⟩ := h
  injection he with e1 e2 e3
  subst e1 e3
  obtain ⟨b', off, e, hb, hc⟩ := h4 (by intro e; subst e; simp at hn; omega)
  injection e with e
  injection e with e4 e5 _
  subst e4 e5
  refine ⟨_, _, by rw [List.length_drop, hn], by rw [List.length_drop]; omega, by omega, fun _ => ⟨b, o + 1, rfl, hb, fun i hi => ?_⟩⟩
  rw [List.length_drop] at hi
  have := hc (1 + i) (by omega)
  rw [← Nat.add_assoc] at this
  rw [this]
  congr 2
  rw [gI_lt (by omega), gI_lt (by simp; omega)]
  simp [Nat.add_comm]
theorem dL_bytes {x : Int} (h : 0 ≤ x ∧ x < 1000000000) {s : ByteArray} (hs : lB s = dL x) : s.size ≤ 10 := by
  have := decL_bytes (n := x.toNat) (by omega) (s := s) hs
  omega
theorem sgn_dL {x : Int} (h : 0 ≤ x) : sgnL x = dL x := by rw [sgnL_nn (by omega)]; rfl
set_option maxHeartbeats 2000000 in
theorem branchText_c (v : Value) (T : List Int) (w : World) (h : Rd w v T) (hok : BraOk T) (ht : Tab w) :
    Calls Tryd.prog 24 #[.agg #[v]] w (RetS w (btL T)) := by
  obtain ⟨n, hn⟩ : ∃ n, T.length = n := ⟨_, rfl⟩
  have hlen := hok.len
  have hl7 := bra_len hok
  have hf := hok.first
  have hn0 : 0 < n := by omega
  have hn7 : n ≤ 7 := by omega
  obtain ⟨b0, o0, k0, rfl, hb0, hc0⟩ := h.atT hn hn0
  have hcap1 : n ≤ k0 := by
    obtain ⟨_, _, he, h1, _⟩ := id h
    injection he with _ _ e3
    omega
  have hx := Boxed.start w 26 #[.slice (some ⟨b0, o0, none⟩) n k0]
  have hB := hx.below
  have HT := Lib.hid ht
  have c0 := hx.cell 0
  have d0 := (hB.cell (p := ⟨b0, o0, none⟩) hb0).trans (hc0 0 hn0)
  have hn1 : 1 < n → ∀ i, i < n - 1 → 0 ≤ gI (T.drop 1) i ∧ gI (T.drop 1) i < 1000000000 := fun h1 i hi => by
    have hm := bra_num hok (drop_mem (gI_mem (xs := T.drop 1) (i := i) (by simp; omega)))
    omega
  have HN1 := Lib.hid hn1
  have h40 : ({ data := #[40] } : ByteArray).size = 1 := rfl
  have h41 : ({ data := #[41] } : ByteArray).size = 1 := rfl
  have h59 : ({ data := #[59] } : ByteArray).size = 1 := rfl
  have H40 := Lib.hid h40
  have H41 := Lib.hid h41
  have H59 := Lib.hid h59
  have HN := Lib.hid hn
  have HRD := Lib.hid h
  have HIN := Lib.hid (show (1 < n → inL T = dL (gI T 0) ++ 59 :: numsL (T.drop 1)) ∧ (¬ 1 < n → inL T = dL (gI T 0)) from ⟨fun h => in_two (by omega), fun h => in_one (by omega)⟩)
  clear h40 h41 h59 hc0 hok hn h ht hlen hn1
  generalize hx0 : gI T 0 = x0 at *
  have HX0 := Lib.hid hx0
  clear hx0
  go_enter Tryd.func24, Tryd.ntmps24
  go_wp2_with fail
  refine (decimal_c x0 _ (by omega) (by omega) (HT.out.below hB (Nat.le_refl _))).mono ?_
  rintro e w2 ⟨u1, rfl, hu1, hb⟩
  have hx2 := hx.trans hb
  have hB2 := hx2.below
  rw [sgn_dL (by omega)] at hu1
  have hus1 := dL_bytes (by omega) hu1
  have hcat1 : ¬ 9223372036854775807 < 1 + u1.size := by omega
  have c1 := hx2.cell 0
  have HU1 := Lib.hid hu1
  clear c0 d0 hx hB hb hu1
  by_cases h1 : 1 < n
  · have hi1 : (n : Int) > 1 := by omega
    have hk1 : ¬ k0 = 1 := by omega
    have hk2 : (1 : Int) < (k0 : Int) := by omega
    have hT2 := HT.out.below hB2 (Nat.le_refl _)
    have hRD := (HRD.out.drop1 HN.out h1).below hB2 (Nat.le_refl _)
    have hl1 : (T.drop 1).length = n - 1 := by have := HN.out; simp; omega
    have HL1 := Lib.hid hl1
    clear hl1
    go_wp2_with fail
    refine (joinedNumbers_c _ (n - 1) _ (T.drop 1) _ hRD HL1.out (by omega) (by omega) (HN1.out h1) hT2).mono ?_
    rintro e w3 ⟨u2, rfl, hu2, hb⟩
    have hus2 := nums_bytes (L := T.drop 1) (by have := HL1.out; have := HN.out; omega) (fun x hx => by
      obtain ⟨i, hi, rfl⟩ := List.getElem_of_mem hx
      rw [← gI_lt hi]
      exact HN1.out h1 i (by have := HL1.out; have := HN.out; omega)) hu2
    have hB3 := below_step hB2 hb
    have hcat2 : ¬ 9223372036854775807 < 1 + u2.size := by omega
    have hcat3 : ¬ 9223372036854775807 < 1 + u1.size + (1 + u2.size) := by omega
    have hcat4 : ¬ 9223372036854775807 < 1 + u1.size + (1 + u2.size) + 1 := by omega
    have HF : Hid (RetS w (btL T) (.returned (.string ((({ data := #[40] } : ByteArray) ++ u1) ++ (({ data := #[59] } : ByteArray) ++ u2) ++ ({ data := #[41] } : ByteArray)))) w3) := Lib.hid ⟨_, rfl, by
      unfold btL
      rw [HIN.out.1 h1, lB_app, lB_app, lB_app, lB_app, HU1.out, hu2]
      simp [lB], hB3⟩
    clear HIN HU1 HRD hx2 hB2 hRD hT2 hu2 hb hB3 c1
    go_wp2
    go_ret
    exact HF.out
  · have hi1 : ¬ (n : Int) > 1 := by omega
    have hcat2 : ¬ 9223372036854775807 < 1 + u1.size + 1 := by omega
    have HF : Hid (RetS w (btL T) (.returned (.string ((({ data := #[40] } : ByteArray) ++ u1) ++ ({ data := #[41] } : ByteArray)))) w2) := Lib.hid ⟨_, rfl, by
      unfold btL
      rw [HIN.out.2 h1, lB_app, lB_app, HU1.out]
      simp [lB], hB2⟩
    clear HIN HU1 HRD hx2 hB2
    go_wp2
    go_ret
    exact HF.out
/-- The text of a branch, and none of what is no branch. -/
def btS (T : List Int) : ByteArray := ⟨(if braB T = true then btL T else []).toArray⟩
theorem btS_yes {T : List Int} (h : braB T = true) {s : ByteArray} (hs : lB s = btL T) : s = btS T := by
  apply lB_inj
  rw [hs]; unfold btS; rw [if_pos h]; simp [lB]
theorem btS_no {T : List Int} (h : braB T = false) : btS T = ByteArray.empty := by
  unfold btS; rw [if_neg (by rw [h]; decide)]; rfl
set_option maxHeartbeats 2000000 in
theorem implBT_c (v : Value) (T : List Int) (w : World) (h : Rd w v T) (ht : Tab w) :
    Calls Tryd.prog 6 #[.agg #[v]] w fun e w' => e = .returned (.tuple #[.string (btS T), .int .i64 (okC (braB T) 1)]) ∧ Below w.heap.size w w' := by
  have hx := Boxed.start w 26 #[v]
  obtain ⟨a0, k0, rfl⟩ := h.len0
  have c0 := hx.cell 0
  go_enter Tryd.func6, Tryd.ntmps6
  go_wp2_with fail
  refine (implIsBranch_c _ T _ (hx.rd h)).mono ?_
  rintro e w1 ⟨rfl, hb⟩
  have hx1 := hx.trans hb
  clear c0 hx hb
  cases hc : braB T
  · have e1 := btS_no hc
    go_wp2
    go_ret2
    exact ⟨by first | (rw [e1, okC_false hc]; rfl) | (rw [e1]; rfl), hx1.below⟩
  · have hok := braB_iff.1 hc
    have c0 := hx1.cell 0
    have ht1 := ht.below hx1.below (Nat.le_refl _)
    go_wp2_with fail
    refine (branchText_c _ T _ (hx1.rd h) hok ht1).mono ?_
    rintro e w2 ⟨t, rfl, hl, hb⟩
    have HT := Lib.hid (btS_yes hc hl)
    have hx2 := hx1.trans hb
    clear hl hb hx1 c0 hok ht1
    go_wp2
    go_ret2
    exact ⟨by first | (rw [HT.out, okC_true hc]; rfl) | (rw [HT.out]; rfl), hx2.below⟩
set_option maxRecDepth 100000 in
set_option maxHeartbeats 4000000 in
theorem l03Text_c (v : Value) (T : List Int) (w : World) (h : Rd w v T) (hl : 0 < T.length ∧ T.length ≤ 64) (hnum : ∀ i, i < T.length → 0 ≤ gI T i ∧ gI T i < 1000000000) :
    Calls Tryd.prog 26 #[.agg #[v]] w (RetS w (btL T)) := by
  obtain ⟨n, hn⟩ : ∃ n, T.length = n := ⟨_, rfl⟩
  have hn0 : 0 < n := by omega
  have hn64 : n ≤ 64 := by omega
  obtain ⟨b0, o0, k0, rfl, hb0, hc0⟩ := h.atT hn hn0
  have hx := Boxed.start w 26 #[.slice (some ⟨b0, o0, none⟩) n k0]
  have HC := Lib.hid hc0
  have HNUM := Lib.hid (show ∀ i, i < n → 0 ≤ gI T i ∧ gI T i < 1000000000 from fun i hi => hnum i (by omega))
  have HONE := Lib.hid (btK_one T)
  have HTWO := Lib.hid (btK_two T)
  have HMORE := Lib.hid (fun k (h : 2 ≤ k) => btK_more T h)
  have HALL : Hid (btL T = btK T n ++ [41]) := Lib.hid (by rw [← hn, btK_all T hl.1])
  have c0 := hx.cell 0
  have d0 := (hx.below.cell (p := ⟨b0, o0, none⟩) hb0).trans (hc0 0 hn0)
  have hg0 : (0 : Int) < (n : Int) := by omega
  have hw0 := HNUM.out 0 hn0
  have h40 : ({ data := #[40] } : ByteArray).size = 1 := rfl
  have h41 : ({ data := #[41] } : ByteArray).size = 1 := rfl
  have h59 : ({ data := #[59] } : ByteArray).size = 1 := rfl
  have h44 : ({ data := #[44] } : ByteArray).size = 1 := rfl
  have H40 := Lib.hid h40
  have H41 := Lib.hid h41
  have H59 := Lib.hid h59
  have H44 := Lib.hid h44
  clear hc0 h hn hl hnum h40 h41 h59 h44
  generalize hx0 : gI T 0 = x0 at *
  have HX0 := Lib.hid hx0
  clear hx0
  go_enter Tryd.func26, Tryd.ntmps26
  go_wp2_with fail
  refine (l01Dec_z x0.toNat x0 _ (by omega) (by omega)).mono ?_
  rintro e w1 ⟨u, rfl, hu, hb⟩
  have hus := decL_bytes (by omega) hu
  have hx1 := hx.trans hb
  have hcat1 : ¬ 9223372036854775807 < 1 + u.size := by omega
  have HU : Hid (lB (({ data := #[40] } : ByteArray) ++ u) = btK T 1) := Lib.hid (by
    rw [HONE.out, lB_app, hu]
    simp [lB, dL])
  have HZ : Hid ((({ data := #[40] } : ByteArray) ++ u).size ≤ 10) := Lib.hid (by rw [ByteArray.size_append, H40.out]; omega)
  clear c0 d0 hw0 hu hb hx
  go_wp2_with fail
  generalize ({ data := #[40] } : ByteArray) ++ u = t0 at *
  clear hus hcat1
  go_loopw [3, 4] (fun tv iv wr => ∃ (k : Nat) (t : ByteArray), 1 ≤ k ∧ k ≤ n ∧ iv = .int .i64 (k : Int) ∧ tv = .string t ∧ Hid (lB t = btK T k) ∧ t.size ≤ 10 * k ∧ Boxed w wr 26 #[.slice (some ⟨b0, o0, none⟩) n k0]) (fun _ iv _ => n - (intOf iv).toNat)
  case atStart => exact ⟨1, t0, Nat.le_refl _, by omega, rfl, rfl, HU, by have := HZ.out; omega, hx1⟩
  case round =>
    obtain ⟨k, t, hk1, hk, rfl, rfl, HT, hts, hx⟩ := hrel
    clear HU HZ hx1
    obtain ⟨wo, rfl⟩ : ∃ wo : World, wo = wr := ⟨_, rfl⟩
    have c0 := hx.cell 0
    by_cases hlt : k < n
    · have hki : (k : Int) < (n : Int) := by omega
      have hkz : (0 : Int) ≤ (k : Int) := by omega
      obtain ⟨e1, e2⟩ := HNUM.out k hlt
      have d0 := (hx.below.cell (p := ⟨b0, o0 + k, none⟩) hb0).trans (HC.out k hlt)
      have hcat1 : ¬ 9223372036854775807 < t.size + 1 := by omega
      by_cases hone : k = 1
      · subst hone
        have HNX : Hid (btK T (1 + 1) = btK T 1 ++ 59 :: dL (gI T 1)) := HTWO
        generalize gI T 1 = x at *
        go_wp2_with fail
        refine (l01Dec_z x.toNat x _ (by omega) (by omega)).mono ?_
        rintro e w7 ⟨u3, rfl, hu3, hb7⟩
        have hus3 := decL_bytes (by omega) hu3
        have hx7 := hx.trans hb7
        have hcat2 : ¬ 9223372036854775807 < t.size + 1 + u3.size := by omega
        have HF : Hid (lB (t ++ ({ data := #[59] } : ByteArray) ++ u3) = btK T (1 + 1)) := Lib.hid (by
          rw [HNX.out, lB_app, lB_app, hu3, HT.out]
          simp [lB, dL])
        have HZ : Hid ((t ++ ({ data := #[59] } : ByteArray) ++ u3).size ≤ 10 * (1 + 1)) := Lib.hid (by
          rw [ByteArray.size_append, ByteArray.size_append, H59.out]; omega)
        clear hu3 hb7 c0 d0 hx
        go_wp2
        go_roundw
        case rel => exact ⟨1 + 1, _, by omega, by omega, by go_num, rfl, HF, HZ.out, hx7⟩
        case measure => simp [intOf]; omega
      · have HNX := Lib.hid (HMORE.out k (by omega))
        have hkb : ((k : Int) == 1) = false := by rw [beq_eq_false_iff_ne]; omega
        generalize gI T k = x at *
        clear hone
        go_wp2_with fail
        refine (l01Dec_z x.toNat x _ (by omega) (by omega)).mono ?_
        rintro e w7 ⟨u3, rfl, hu3, hb7⟩
        have hus3 := decL_bytes (by omega) hu3
        have hx7 := hx.trans hb7
        have hcat2 : ¬ 9223372036854775807 < t.size + 1 + u3.size := by omega
        have HF : Hid (lB (t ++ ({ data := #[44] } : ByteArray) ++ u3) = btK T (k + 1)) := Lib.hid (by
          rw [HNX.out, lB_app, lB_app, hu3, HT.out]
          simp [lB, dL])
        have HZ : Hid ((t ++ ({ data := #[44] } : ByteArray) ++ u3).size ≤ 10 * (k + 1)) := Lib.hid (by
          rw [ByteArray.size_append, ByteArray.size_append, H44.out]; omega)
        clear hu3 hb7 c0 d0 hx
        go_wp2
        go_roundw
        case rel => exact ⟨k + 1, _, by omega, by omega, by go_num, rfl, HF, HZ.out, hx7⟩
        case measure => simp [intOf]; omega
    · have hke : k = n := by omega
      have hki : ¬ (k : Int) < (n : Int) := by omega
      have hcat1 : ¬ 9223372036854775807 < t.size + 1 := by omega
      have HF : Hid (RetS w (btL T) (.returned (.string (t ++ ({ data := #[41] } : ByteArray)))) wo) := Lib.hid ⟨_, rfl, by
        rw [lB_app, HT.out, HALL.out, hke]
        simp [lB], hx.below⟩
      clear hke
      go_wp2
      go_ret
      exact HF.out
set_option maxHeartbeats 2000000 in
theorem specBT_c (v : Value) (T : List Int) (w : World) (h : Rd w v T) :
    Calls Tryd.prog 7 #[.agg #[v]] w fun e w' => e = .returned (.tuple #[.string (btS T), .int .i64 (okC (braB T) 1)]) ∧ Below w.heap.size w w' := by
  have hx := Boxed.start w 26 #[v]
  obtain ⟨a0, k0, rfl⟩ := h.len0
  have c0 := hx.cell 0
  go_enter Tryd.func7, Tryd.ntmps7
  go_wp2_with fail
  refine (l03Is_c _ T _ (hx.rd h)).mono ?_
  rintro e w1 ⟨rfl, hb⟩
  have hx1 := hx.trans hb
  clear c0 hx hb
  cases hc : braB T
  · have e1 := btS_no hc
    go_wp2
    go_ret2
    exact ⟨by first | (rw [e1, okC_false hc]; rfl) | (rw [e1]; rfl), hx1.below⟩
  · have hok := braB_iff.1 hc
    have c0 := hx1.cell 0
    go_wp2_with fail
    refine (l03Text_c _ T _ (hx1.rd h) ⟨hok.len, by have := bra_len hok; omega⟩ (fun i hi => by have := hok.num i hi; omega)).mono ?_
    rintro e w2 ⟨t, rfl, hl, hb⟩
    have HT := Lib.hid (btS_yes hc hl)
    have hx2 := hx1.trans hb
    clear hl hb hx1 c0 hok
    go_wp2
    go_ret2
    exact ⟨by first | (rw [HT.out, okC_true hc]; rfl) | (rw [HT.out]; rfl), hx2.below⟩
end Go.Proofs.YtglghdkjppcedaaDoor
