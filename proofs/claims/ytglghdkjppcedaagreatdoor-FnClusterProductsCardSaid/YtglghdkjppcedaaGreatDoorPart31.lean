/- Contracts: impl.clusterText, impl.ClusterText, spec.ClusterText. -/
import Derived.Test.YtglghdkjppcedaaGreatDoorPart29
import Derived.Test.YtglghdkjppcedaaGreatDoorPart3
import Derived.Test.YtglghdkjppcedaaGreatDoorPart4
import Derived.Test.YtglghdkjppcedaaGreatDoorPart30
import Derived.Lib.SmallJoins
import Derived.Lib.AppendIntMem
import Derived.Test.YtglghdkjppcedaaGreatDoorPart2
namespace Go.Proofs.YtglghdkjppcedaaGreatDoor
open Go.RowKit

/-- The library's table of powers of ten lies as its initialiser lays it. -/
def Tab (w : World) : Prop := Lib.TabIs Tryz.prog w "internal/strconv.uint64pow10" .u64 Lib.pow10Tab
theorem tabG : (Tryz.prog.globalNamed "internal/strconv.uint64pow10").isSome = true := by kernel_rfl
/-- The condition's fact, the table alone on the list. -/
theorem tab_head {W : World} {d : DataW Unit} (h : laidMet Tryz.prog [("internal/strconv.uint64pow10", d)] W) (hd : d = Lib.tabData .u64 Lib.pow10Tab) : Tab W := by
  subst hd
  exact Lib.tabIs_of_head (g := 0) (t := 125) (e := 78) (n := 20) (by kernel_rfl) (by kernel_rfl) (by kernel_rfl) (by kernel_rfl) (by kernel_rfl) (by kernel_rfl) h
theorem Tab.below {w w' : World} {B : Nat} (h : Tab w) (hb : Below B w w') (hB : w.heap.size ≤ B) : Tab w' := by
  obtain ⟨g, hg⟩ := Option.isSome_iff_exists.1 tabG
  exact Joins.tab_stays hg h hb hB
theorem dec_eq : ∀ (k u : Nat), u ≤ k → Lib.decDigits u = decL u := by
  intro k
  induction k with
  | zero =>
    intro u hu
    have : u = 0 := by omega
    subst this
    rw [decL_lt (by decide), Lib.decDigits, dif_pos (by decide)]
  | succ k ih =>
    intro u hu
    by_cases h : u < 10
    · rw [decL_lt h, Lib.decDigits, dif_pos h]
    · rw [decL_ge h, Lib.decDigits, dif_neg h, ih _ (by omega)]
theorem itoa_sgn (n : Int) : Lib.itoa n = sgnL n := by
  unfold Lib.itoa
  by_cases h : n < 0
  · rw [if_pos h, sgnL_neg h, dec_eq _ _ (Nat.le_refl _), show n.natAbs = (-n).toNat by omega]
  · rw [if_neg h, sgnL_nn h, dec_eq _ _ (Nat.le_refl _)]
theorem joinTail_L (c : UInt8) : ∀ (r : List (List UInt8)), r ≠ [] → Lib.joinTail [c] r = c :: joinL c r := by
  intro r
  induction r with
  | nil => intro h; exact absurd rfl h
  | cons x r ih =>
    intro _
    cases r with
    | nil => simp [Lib.joinTail, joinL]
    | cons y r =>
      have h2 := ih (by simp)
      rw [join_cons (by simp)]
      simp only [Lib.joinTail, List.map_cons, List.flatten_cons] at h2 ⊢
      rw [h2]; rfl
theorem join_eq (c : UInt8) (xs : List (List UInt8)) : Lib.join xs [c] = joinL c xs := by
  cases xs with
  | nil => rfl
  | cons x r =>
    rw [Lib.join_cons]
    cases r with
    | nil => simp [Lib.joinTail, joinL]
    | cons y r => rw [joinTail_L c (y :: r) (by simp)]; rfl
theorem joinL_bd (c : UInt8) (m : Nat) : ∀ xs : List (List UInt8), (∀ x ∈ xs, x.length ≤ m) → (joinL c xs).length ≤ (m + 1) * xs.length := by
  intro xs
  induction xs with
  | nil => intro _; simp [joinL]
  | cons x r ih =>
    intro h
    have h1 := h x (by simp)
    have h2 := ih (fun y hy => h y (by simp [hy]))
    cases r with
    | nil => simp [joinL]; omega
    | cons y r =>
      rw [join_cons (by simp), List.length_append, List.length_cons, List.length_cons, Nat.mul_succ]
      omega
theorem sgn_bytes {n : Int} (h0 : -1000000000 < n) (h1 : n < 1000000000) {s : ByteArray} (h : lB s = sgnL n) : s.size ≤ 10 := by
  rw [← lB_len, h]
  by_cases hn : n < 0
  · rw [sgnL_neg hn]
    have := decL_len 8 (-n).toNat (by omega)
    simp; omega
  · rw [sgnL_nn hn]
    have := decL_len 8 n.toNat (by omega)
    omega
theorem decimal_c (n : Int) (w : World) (h0 : -1000000000 < n) (h1 : n < 1000000000) (ht : Tab w) :
    Calls Tryz.prog 82 #[.int .i64 n] w (RetS w (sgnL n)) := by
  go_enter Tryz.func82, Tryz.ntmps82
  go_wp2_with fail
  refine (Tryz.strconv_FormatInt_10 n (by omega) (by omega) _ ht).mono ?_
  rintro e w1 ⟨rfl, hg⟩
  have hb : Below w.heap.size w w1 := by
    obtain ⟨k, os, rfl⟩ := hg
    exact Lib.below_grow _ w (Nat.le_refl _) k os
  have HR : Hid (RetS w (sgnL n) (.returned (.string ⟨(Lib.itoa n).toArray⟩)) w1) := Lib.hid ⟨_, rfl, by rw [← itoa_sgn]; simp [lB], hb⟩
  clear hg hb
  go_wp2
  go_ret
  exact HR.out
set_option maxRecDepth 100000 in
set_option maxHeartbeats 8000000 in
theorem clusterText_c (p s q : Value) (P S W : List Int) (w : World) (hp : Rd w p P) (hs : Rd w s S) (hq : Rd w q W) (hc : CluOk P S W) (ht : Tab w) :
    Calls Tryz.prog 63 #[.agg #[p, s, q]] w (RetS w (ctL P S W)) := by
  obtain ⟨i0, hi, hz0, hz1, hz2⟩ := info_parts Tryz.infoS
  obtain ⟨n, hn⟩ : ∃ n, P.length = n := ⟨_, rfl⟩
  have h1 := hc.1
  have hn0 : 0 < n := by omega
  have hn24 : n ≤ 24 := by omega
  obtain ⟨b0, o0, k0, rfl, hb0, hc0⟩ := hp.atT hn hn0
  obtain ⟨b1, o1, k1, rfl, hb1, hc1⟩ := hs.atT (n := n) (by omega) hn0
  obtain ⟨b2, o2, k2, rfl, hb2, hc2⟩ := hq.atT (n := n) (by omega) hn0
  have HC0 := Lib.hid hc0
  have HC1 := Lib.hid hc1
  have HC2 := Lib.hid hc2
  have hx := Boxed.start w 26 #[.slice (some ⟨b0, o0, none⟩) n k0, .slice (some ⟨b1, o1, none⟩) n k1, .slice (some ⟨b2, o2, none⟩) n k2]
  have HS := Lib.hid (fun i (hi : i < n) => clu_small hc (i := i) (by omega))
  have HPZ : Hid (∀ i, 1 ≤ i → i < n → 0 ≤ gI P i) := Lib.hid (fun i h hi => (clu_place hc (k := i) (by omega) (by omega)).1)
  have HZ := Lib.hid (clu_zero hc)
  have hwl : (wordsT P S W).length = n := by rw [wordsT_len]; omega
  have HWK : Hid (∀ k, k < n → (wordsT P S W).take (k + 1) = (wordsT P S W).take k ++ [wordT (gI W k) (gI P k) (gI S k)]) := Lib.hid (fun k hk => by
    rw [List.take_succ_eq_append_getElem (by omega), ← gT_lt (by omega), gT_words (by omega)])
  have HALL : Hid ((wordsT P S W).take n = wordsT P S W) := Lib.hid (List.take_of_length_le (by omega))
  have HT := Lib.hid ht
  clear hc0 hc1 hc2 hp hs hq hn h1 hc hwl ht
  have c2 := hx.cell 2
  have hO := ownT_empty (w.alloc (.cells #[.slice (some ⟨b0, o0, none⟩) n k0, .slice (some ⟨b1, o1, none⟩) n k1, .slice (some ⟨b2, o2, none⟩) n k2] 26)) (w.heap.size + 1) (by simp)
  have hx1 : Boxed w ((w.alloc (.cells #[.slice (some ⟨b0, o0, none⟩) n k0, .slice (some ⟨b1, o1, none⟩) n k1, .slice (some ⟨b2, o2, none⟩) n k2] 26)).alloc (.cells #[] 9)) 26 #[.slice (some ⟨b0, o0, none⟩) n k0, .slice (some ⟨b1, o1, none⟩) n k1, .slice (some ⟨b2, o2, none⟩) n k2] := hx.trans ((Below.refl _ _).alloc (Nat.le_refl _) _)
  simp only [World.size_alloc] at hO
  go_enter Tryz.func63, Tryz.ntmps63
  go_upto_region 2 with fail
  clear c2 hx
  generalize (w.alloc (.cells #[.slice (some ⟨b0, o0, none⟩) n k0, .slice (some ⟨b1, o1, none⟩) n k1, .slice (some ⟨b2, o2, none⟩) n k2] 26)).alloc (.cells #[] 9) = w1 at *
  have c2 := hx1.cell 2
  go_wp2_with fail
  go_loopw [3, 11] (fun sv iv wr => ∃ (k : Nat) (ss : List ByteArray), k ≤ n ∧ iv = .int .i64 (k : Int) ∧ ss.length = k ∧ Hid (ss.map lB = (wordsT P S W).take k) ∧ Hid (∀ x ∈ ss, x.size ≤ 40) ∧ OwnT wr (w.heap.size + 1) sv ss ∧ Boxed w wr 26 #[.slice (some ⟨b0, o0, none⟩) n k0, .slice (some ⟨b1, o1, none⟩) n k1, .slice (some ⟨b2, o2, none⟩) n k2]) (fun _ iv _ => n - (intOf iv).toNat)
  case atStart => exact ⟨0, [], by omega, rfl, rfl, Lib.hid rfl, Lib.hid (fun x hx => by simp at hx), hO, hx1⟩
  case round =>
    obtain ⟨k, ss, hk, rfl, hlk, HMM, HBS, hO2, hx⟩ := hrel
    clear c2 hO hx1
    obtain ⟨wo, rfl⟩ : ∃ wo : World, wo = wr := ⟨_, rfl⟩
    by_cases hlt : k < n
    · have hki : (k : Int) < (n : Int) := by omega
      have hkz : (0 : Int) ≤ (k : Int) := by omega
      obtain ⟨⟨e1, e2⟩, ⟨e3, e4⟩, ⟨e5, e6⟩, _⟩ := HS.out k hlt
      have D0 : ∀ X, Below w.heap.size w X → X.cell? ⟨b0, o0 + k, none⟩ = some (.int .i64 (gI P k)) := fun X hX => (hX.cell (p := ⟨b0, o0 + k, none⟩) hb0).trans (HC0.out k hlt)
      have D1 : ∀ X, Below w.heap.size w X → X.cell? ⟨b1, o1 + k, none⟩ = some (.int .i64 (gI S k)) := fun X hX => (hX.cell (p := ⟨b1, o1 + k, none⟩) hb1).trans (HC1.out k hlt)
      have D2 : ∀ X, Below w.heap.size w X → X.cell? ⟨b2, o2 + k, none⟩ = some (.int .i64 (gI W k)) := fun X hX => (hX.cell (p := ⟨b2, o2 + k, none⟩) hb2).trans (HC2.out k hlt)
      have d2 := D2 _ hx.below
      have HD0 := Lib.hid D0
      have HD1 := Lib.hid D1
      clear D0 D1 D2
      have ht1 := HT.out.below hx.below (Nat.le_refl _)
      go_wp2_with fail
      refine (decimal_c (gI W k) _ e1 e2 ht1).mono ?_
      rintro e w2 ⟨u1, rfl, hu1, hb⟩
      have hus1 := sgn_bytes e1 e2 hu1
      have hx2 := hx.trans hb
      have hO3 := hO2.below hb (Nat.le_refl _)
      have HU1 := Lib.hid hu1
      clear hu1 hx hO2 hb ht1 d2
      by_cases hk0 : k = 0
      · have HWD : Hid (wordT (gI W k) (gI P k) (gI S k) = lB u1) := Lib.hid (by
          subst hk0
          rw [wordT_1 (by rw [HZ.out.1]; decide), HU1.out])
        have HSZ : Hid (u1.size ≤ 40) := Lib.hid (by omega)
        have hs0 : ¬ gI S k ≥ 0 := by subst hk0; rw [HZ.out.2]; decide
        have hkg : ¬ (k : Int) > 0 := by omega
        have c1 := hx2.cell 1
        have d1 := HD1.out _ hx2.below
        have hszz : w.heap.size + 1 ≤ w2.heap.size := hx2.size
        have hx := hx2
        have hO := hO3
        clear hx2 hO3 hk0 e1 e2 e3 e4 e5 e6
        have HNX : Hid ((wordsT P S W).take (k + 1) = (wordsT P S W).take k ++ [lB u1]) := Lib.hid (by rw [HWK.out k hlt, HWD.out])
        clear HWD
        generalize gI S k = z at *
        generalize gI P k = y at *
        generalize gI W k = x at *
        go_wp2_with (at_builtin; refine wpList_pushT rfl (.tmp 44) (.tmp 46) 73 rfl (w.heap.size + 1) i0 Tryz.underlying73 hi hz0 hz1 hz2 _ ss u1 rfl hO rfl (by omega) hszz ?_; intro v' w9 ho2 hk2)
        have HR := Lib.hid (show OwnT w9 (w.heap.size + 1) v' (ss ++ [u1]) ∧ Boxed w w9 26 #[.slice (some ⟨b0, o0, none⟩) n k0, .slice (some ⟨b1, o1, none⟩) n k1, .slice (some ⟨b2, o2, none⟩) n k2] from ⟨ho2, Below.trans hx (hk2.below (B := w.heap.size + 1) hszz (fun b e => (hO.block b e).1))⟩)
        have HM2 : Hid ((ss ++ [u1]).map lB = (wordsT P S W).take (k + 1)) := Lib.hid (by rw [List.map_append, HMM.out, HNX.out]; rfl)
        have HB2 : Hid (∀ x ∈ ss ++ [u1], x.size ≤ 40) := Lib.hid (fun x hx => by
          rw [List.mem_append, List.mem_singleton] at hx
          rcases hx with hx | hx
          · exact HBS.out x hx
          · rw [hx]; exact HSZ.out)
        have hl2 : (ss ++ [u1]).length = k + 1 := by simp [hlk]
        clear ho2 hk2 hO hx HNX HSZ
        generalize ss ++ [u1] = ss2 at *
        go_wp2
        go_roundw
        case rel => exact ⟨k + 1, ss2, by omega, by go_num, hl2, HM2, HB2, HR.out.1, HR.out.2⟩
        case measure => simp [intOf]; omega
      · have hk1 : 1 ≤ k := by omega
        have e7 := HPZ.out k hk1 hlt
        have hkg : (k : Int) > 0 := by omega
        have c0 := hx2.cell 0
        have d0 := HD0.out _ hx2.below
        have ht2 := HT.out.below hx2.below (Nat.le_refl _)
        have h58 : ({ data := #[58] } : ByteArray).size = 1 := rfl
        have h44 : ({ data := #[44] } : ByteArray).size = 1 := rfl
        have H58 := Lib.hid h58
        have H44 := Lib.hid h44
        clear h58 h44
        go_wp2_with fail
        refine (decimal_c (gI P k) _ (by omega) e4 ht2).mono ?_
        rintro e w3 ⟨u2, rfl, hu2, hb⟩
        have hus2 := sgn_bytes (by omega) e4 hu2
        have hx3 := hx2.trans hb
        have hO4 := hO3.below hb (Nat.le_refl _)
        have HU2 := Lib.hid hu2
        have hcat1 : ¬ 9223372036854775807 < 1 + u2.size := by omega
        have hcat2 : ¬ 9223372036854775807 < u1.size + (1 + u2.size) := by omega
        clear hu2 hx2 hO3 hb ht2 d0 c0
        have c1 := hx3.cell 1
        have d1 := HD1.out _ hx3.below
        by_cases hs0 : 0 ≤ gI S k
        · have hsg : gI S k ≥ 0 := hs0
          have ht3 := HT.out.below hx3.below (Nat.le_refl _)
          go_wp2_with fail
          refine (decimal_c (gI S k) _ (by omega) e6 ht3).mono ?_
          rintro e w4 ⟨u3, rfl, hu3, hb⟩
          have hus3 := sgn_bytes (by omega) e6 hu3
          have hx := hx3.trans hb
          have hO := hO4.below hb (Nat.le_refl _)
          have hcat3 : ¬ 9223372036854775807 < 1 + u3.size := by omega
          have hcat4 : ¬ 9223372036854775807 < u1.size + (1 + u2.size) + (1 + u3.size) := by omega
          have HWD : Hid (wordT (gI W k) (gI P k) (gI S k) = lB (u1 ++ (({ data := #[58] } : ByteArray) ++ u2) ++ (({ data := #[44] } : ByteArray) ++ u3))) := Lib.hid (by
            rw [wordT_3 e7 hs0, lB_app, lB_app, lB_app, lB_app, HU1.out, HU2.out, hu3, sgnL_nn (by omega : ¬ gI P k < 0), sgnL_nn (by omega : ¬ gI S k < 0)]
            simp [lB])
          have HSZ : Hid ((u1 ++ (({ data := #[58] } : ByteArray) ++ u2) ++ (({ data := #[44] } : ByteArray) ++ u3)).size ≤ 40) := Lib.hid (by
            rw [ByteArray.size_append, ByteArray.size_append, ByteArray.size_append, ByteArray.size_append, H58.out, H44.out]; omega)
          have hszz : w.heap.size + 1 ≤ w4.heap.size := hx.size
          clear hu3 hx3 hO4 hb ht3 hk0 e1 e2 e3 e4 e5 e6 e7 hs0 c1 d1
          have HNX : Hid ((wordsT P S W).take (k + 1) = (wordsT P S W).take k ++ [lB (u1 ++ (({ data := #[58] } : ByteArray) ++ u2) ++ (({ data := #[44] } : ByteArray) ++ u3))]) := Lib.hid (by rw [HWK.out k hlt, HWD.out])
          clear HWD
          generalize gI S k = z at *
          generalize gI P k = y at *
          generalize gI W k = x at *
          go_wp2_with (at_builtin; refine wpList_pushT rfl (.tmp 44) (.tmp 46) 73 rfl (w.heap.size + 1) i0 Tryz.underlying73 hi hz0 hz1 hz2 _ ss (u1 ++ (({ data := #[58] } : ByteArray) ++ u2) ++ (({ data := #[44] } : ByteArray) ++ u3)) rfl hO rfl (by omega) hszz ?_; intro v' w9 ho2 hk2)
          have HR := Lib.hid (show OwnT w9 (w.heap.size + 1) v' (ss ++ [(u1 ++ (({ data := #[58] } : ByteArray) ++ u2) ++ (({ data := #[44] } : ByteArray) ++ u3))]) ∧ Boxed w w9 26 #[.slice (some ⟨b0, o0, none⟩) n k0, .slice (some ⟨b1, o1, none⟩) n k1, .slice (some ⟨b2, o2, none⟩) n k2] from ⟨ho2, Below.trans hx (hk2.below (B := w.heap.size + 1) hszz (fun b e => (hO.block b e).1))⟩)
          have HM2 : Hid ((ss ++ [(u1 ++ (({ data := #[58] } : ByteArray) ++ u2) ++ (({ data := #[44] } : ByteArray) ++ u3))]).map lB = (wordsT P S W).take (k + 1)) := Lib.hid (by rw [List.map_append, HMM.out, HNX.out]; rfl)
          have HB2 : Hid (∀ x ∈ ss ++ [(u1 ++ (({ data := #[58] } : ByteArray) ++ u2) ++ (({ data := #[44] } : ByteArray) ++ u3))], x.size ≤ 40) := Lib.hid (fun x hx => by
            rw [List.mem_append, List.mem_singleton] at hx
            rcases hx with hx | hx
            · exact HBS.out x hx
            · rw [hx]; exact HSZ.out)
          have hl2 : (ss ++ [(u1 ++ (({ data := #[58] } : ByteArray) ++ u2) ++ (({ data := #[44] } : ByteArray) ++ u3))]).length = k + 1 := by simp [hlk]
          clear ho2 hk2 hO hx HNX HSZ
          generalize ss ++ [(u1 ++ (({ data := #[58] } : ByteArray) ++ u2) ++ (({ data := #[44] } : ByteArray) ++ u3))] = ss2 at *
          go_wp2
          go_roundw
          case rel => exact ⟨k + 1, ss2, by omega, by go_num, hl2, HM2, HB2, HR.out.1, HR.out.2⟩
          case measure => simp [intOf]; omega
        · have hsg : ¬ gI S k ≥ 0 := hs0
          have HWD : Hid (wordT (gI W k) (gI P k) (gI S k) = lB (u1 ++ (({ data := #[58] } : ByteArray) ++ u2))) := Lib.hid (by
            rw [wordT_2 e7 hs0, lB_app, lB_app, HU1.out, HU2.out, sgnL_nn (by omega : ¬ gI P k < 0)]
            simp [lB])
          have HSZ : Hid ((u1 ++ (({ data := #[58] } : ByteArray) ++ u2)).size ≤ 40) := Lib.hid (by
            rw [ByteArray.size_append, ByteArray.size_append, H58.out]; omega)
          have hszz : w.heap.size + 1 ≤ w3.heap.size := hx3.size
          have hx := hx3
          have hO := hO4
          clear hx3 hO4 hk0 e1 e2 e3 e4 e5 e6 e7 hs0
          have HNX : Hid ((wordsT P S W).take (k + 1) = (wordsT P S W).take k ++ [lB (u1 ++ (({ data := #[58] } : ByteArray) ++ u2))]) := Lib.hid (by rw [HWK.out k hlt, HWD.out])
          clear HWD
          generalize gI S k = z at *
          generalize gI P k = y at *
          generalize gI W k = x at *
          go_wp2_with (at_builtin; refine wpList_pushT rfl (.tmp 44) (.tmp 46) 73 rfl (w.heap.size + 1) i0 Tryz.underlying73 hi hz0 hz1 hz2 _ ss (u1 ++ (({ data := #[58] } : ByteArray) ++ u2)) rfl hO rfl (by omega) hszz ?_; intro v' w9 ho2 hk2)
          have HR := Lib.hid (show OwnT w9 (w.heap.size + 1) v' (ss ++ [(u1 ++ (({ data := #[58] } : ByteArray) ++ u2))]) ∧ Boxed w w9 26 #[.slice (some ⟨b0, o0, none⟩) n k0, .slice (some ⟨b1, o1, none⟩) n k1, .slice (some ⟨b2, o2, none⟩) n k2] from ⟨ho2, Below.trans hx (hk2.below (B := w.heap.size + 1) hszz (fun b e => (hO.block b e).1))⟩)
          have HM2 : Hid ((ss ++ [(u1 ++ (({ data := #[58] } : ByteArray) ++ u2))]).map lB = (wordsT P S W).take (k + 1)) := Lib.hid (by rw [List.map_append, HMM.out, HNX.out]; rfl)
          have HB2 : Hid (∀ x ∈ ss ++ [(u1 ++ (({ data := #[58] } : ByteArray) ++ u2))], x.size ≤ 40) := Lib.hid (fun x hx => by
            rw [List.mem_append, List.mem_singleton] at hx
            rcases hx with hx | hx
            · exact HBS.out x hx
            · rw [hx]; exact HSZ.out)
          have hl2 : (ss ++ [(u1 ++ (({ data := #[58] } : ByteArray) ++ u2))]).length = k + 1 := by simp [hlk]
          clear ho2 hk2 hO hx HNX HSZ
          generalize ss ++ [(u1 ++ (({ data := #[58] } : ByteArray) ++ u2))] = ss2 at *
          go_wp2
          go_roundw
          case rel => exact ⟨k + 1, ss2, by omega, by go_num, hl2, HM2, HB2, HR.out.1, HR.out.2⟩
          case measure => simp [intOf]; omega
    · have hke : k = n := by omega
      have hki : ¬ (k : Int) < (n : Int) := by omega
      rw [hke] at HMM hlk
      have hm : ss.map lB = wordsT P S W := by rw [HMM.out, HALL.out]
      obtain ⟨bW, oW, cW, rfl, hbW, hcW⟩ := hO2.rd.cells (by omega)
      have hcap : ss.length ≤ cW := by
        obtain ⟨a', c', q1, q2, _⟩ := hO2.rd
        injection q1 with _ _ q1
        omega
      have hcells : ∀ (j : Nat) x, ss[j]? = some x → wo.cell? ⟨bW, oW + j, none⟩ = some (.string x) := fun j x hj => by
        obtain ⟨hj1, hj2⟩ := List.getElem?_eq_some_iff.1 hj
        rw [hcW j hj1, gS_lt hj1, hj2]
      have e32 : (({ data := #[32] } : ByteArray).data.toList) = [32] := rfl
      have ej : Lib.join (ss.map (·.data.toList)) (({ data := #[32] } : ByteArray).data.toList) = ctL P S W := by
        rw [e32, join_eq]
        show joinL 32 (ss.map lB) = _
        rw [hm]; rfl
      have hlen : (Lib.join (ss.map (·.data.toList)) (({ data := #[32] } : ByteArray).data.toList)).length ≤ 140737488355328 := by
        rw [e32, join_eq]
        have h1 := joinL_bd 32 40 (ss.map lB) (fun x hx => by
          obtain ⟨y, hy, rfl⟩ := List.mem_map.1 hx
          rw [lB_len]; exact HBS.out y hy)
        rw [List.length_map, hlk] at h1
        show (joinL 32 (ss.map lB)).length ≤ _
        omega
      have hcon := Tryz.strings_Join bW oW cW ss { data := #[32] } wo hcells hbW (by omega) hcap hlen
      rw [ej, hlk] at hcon
      have HCON := Lib.hid hcon
      rw [hlk]
      clear hcon hlen ej hcells hcap hcW hm hke hk
      have hxb := hx.below
      go_wp2_with fail
      refine HCON.out.mono ?_
      rintro e w9 ⟨rfl, hb⟩
      have HR : Hid (RetS w (ctL P S W) (.returned (.string ⟨(ctL P S W).toArray⟩)) w9) := Lib.hid ⟨_, rfl, by simp [lB], below_step hxb hb⟩
      clear hb hxb
      go_wp2
      go_ret
      exact HR.out
end Go.Proofs.YtglghdkjppcedaaGreatDoor

/- Contracts: ClusterText, the program and the reference. -/
namespace Go.Proofs.YtglghdkjppcedaaGreatDoor
open Go.RowKit

/-- The text of a cluster, and none of what is no cluster. -/
def ctS (P S W : List Int) : ByteArray := ⟨(if cluB P S W = true then ctL P S W else []).toArray⟩
theorem ctS_yes {P S W : List Int} (h : cluB P S W = true) {s : ByteArray} (hs : lB s = ctL P S W) : s = ctS P S W := by
  apply lB_inj
  rw [hs]; unfold ctS; rw [if_pos h]; simp [lB]
theorem ctS_no {P S W : List Int} (h : cluB P S W = false) : ctS P S W = ByteArray.empty := by
  unfold ctS; rw [if_neg (by rw [h]; decide)]; rfl
set_option maxRecDepth 100000 in
set_option maxHeartbeats 2000000 in
theorem implCT_c (p s q : Value) (P S W : List Int) (w : World) (hp : Rd w p P) (hs : Rd w s S) (hq : Rd w q W) (ht : Tab w) :
    Calls Tryz.prog 25 #[.agg #[p, s, q]] w fun e w' => e = .returned (.tuple #[.string (ctS P S W), .int .i64 (okC (cluB P S W) 1)]) ∧ Below w.heap.size w w' := by
  have hx := Boxed.start w 26 #[p, s, q]
  obtain ⟨a0, k0, rfl⟩ := hp.len0
  obtain ⟨a1, k1, rfl⟩ := hs.len0
  obtain ⟨a2, k2, rfl⟩ := hq.len0
  have c0 := hx.cell 0
  have c1 := hx.cell 1
  have c2 := hx.cell 2
  go_enter Tryz.func25, Tryz.ntmps25
  go_wp2_with fail
  refine (implIsCluster_c _ _ _ P S W _ (hx.rd hp) (hx.rd hs) (hx.rd hq)).mono ?_
  rintro e w1 ⟨rfl, hb⟩
  have hx1 := hx.trans hb
  clear c0 c1 c2 hx hb
  cases hc : cluB P S W
  · have e1 := ctS_no hc
    go_wp2
    go_ret2
    exact ⟨by first | (rw [e1, okC_false hc]; rfl) | (rw [e1]; rfl), hx1.below⟩
  · have hok := cluB_iff.1 hc
    have c0 := hx1.cell 0
    have c1 := hx1.cell 1
    have c2 := hx1.cell 2
    have ht1 := ht.below hx1.below (Nat.le_refl _)
    go_wp2_with fail
    refine (clusterText_c _ _ _ P S W _ (hx1.rd hp) (hx1.rd hs) (hx1.rd hq) hok ht1).mono ?_
    rintro e w2 ⟨t, rfl, hl, hb⟩
    have HT := Lib.hid (ctS_yes hc hl)
    have hx2 := hx1.trans hb
    clear hl hb hx1 c0 c1 c2 hok ht1
    go_wp2
    go_ret2
    exact ⟨by first | (rw [HT.out, okC_true hc]; rfl) | (rw [HT.out]; rfl), hx2.below⟩
set_option maxRecDepth 100000 in
set_option maxHeartbeats 2000000 in
theorem specCT_c (p s q : Value) (P S W : List Int) (w : World) (hp : Rd w p P) (hs : Rd w s S) (hq : Rd w q W) :
    Calls Tryz.prog 27 #[.agg #[p, s, q]] w fun e w' => e = .returned (.tuple #[.string (ctS P S W), .int .i64 (okC (cluB P S W) 1)]) ∧ Below w.heap.size w w' := by
  have hx := Boxed.start w 26 #[p, s, q]
  obtain ⟨a0, k0, rfl⟩ := hp.len0
  obtain ⟨a1, k1, rfl⟩ := hs.len0
  obtain ⟨a2, k2, rfl⟩ := hq.len0
  have c0 := hx.cell 0
  have c1 := hx.cell 1
  have c2 := hx.cell 2
  go_enter Tryz.func27, Tryz.ntmps27
  go_wp2_with fail
  refine (l07Is_c _ _ _ P S W _ (hx.rd hp) (hx.rd hs) (hx.rd hq)).mono ?_
  rintro e w1 ⟨rfl, hb⟩
  have hx1 := hx.trans hb
  clear c0 c1 c2 hx hb
  cases hc : cluB P S W
  · have e1 := ctS_no hc
    go_wp2
    go_ret2
    exact ⟨by first | (rw [e1, okC_false hc]; rfl) | (rw [e1]; rfl), hx1.below⟩
  · have hok := cluB_iff.1 hc
    have c0 := hx1.cell 0
    have c1 := hx1.cell 1
    have c2 := hx1.cell 2
    go_wp2_with fail
    refine (l07Text_c _ _ _ P S W _ (hx1.rd hp) (hx1.rd hs) (hx1.rd hq) hok).mono ?_
    rintro e w2 ⟨t, rfl, hl, hb⟩
    have HT := Lib.hid (ctS_yes hc hl)
    have hx2 := hx1.trans hb
    clear hl hb hx1 c0 c1 c2 hok
    go_wp2
    go_ret2
    exact ⟨by first | (rw [HT.out, okC_true hc]; rfl) | (rw [HT.out]; rfl), hx2.below⟩
end Go.Proofs.YtglghdkjppcedaaGreatDoor
