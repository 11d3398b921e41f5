/- Contracts: spec.l01Dec, l01Signed. -/
import Derived.Test.YtglghdkjppcedaaGreatDoorPart28
import Derived.Laws.BytesArg
import Derived.Deep.RegionHeld3
namespace Go.Proofs.YtglghdkjppcedaaGreatDoor
open Go.RowKit

/-- A text is handed back. -/
def RetS (w : World) (t : List UInt8) (e : Ending) (w' : World) : Prop := ∃ s, e = .returned (.string s) ∧ lB s = t ∧ Below w.heap.size w w'
/-- A text of one byte. -/
def oneB (x : Int) : ByteArray := strOfNums [x]
theorem oneB_lB (x : Int) : lB (oneB x) = [UInt8.ofNat x.toNat] := by simp [oneB, strOfNums, lB]
theorem oneB_size (x : Int) : (oneB x).size = 1 := by rw [← lB_len, oneB_lB]; rfl
theorem conv1 (v : World) (x : Int) : (convert 22 9 (.slice (some ⟨v.heap.size, 0, none⟩) 1 1)).run Tryz.prog (v.alloc (.cells #[.int .u8 x] 5)) = .ok (.string (oneB x)) (v.alloc (.cells #[.int .u8 x] 5)) :=
  run_convert_bytes_arg _ 22 5 Tryz.underlying22 Tryz.underlying5 v.heap.size 0 1 1 [x] rfl (fun i hi => by
    have : i = 0 := by omega
    subst this
    exact (Blk.new v _ _).cell 0) 9 Tryz.underlying9
theorem conv_at {v : World} {g : Nat} {x : Int} (h : Blk v g 5 #[.int .u8 x]) : (convert 22 9 (.slice (some ⟨g, 0, none⟩) 1 1)).run Tryz.prog v = .ok (.string (oneB x)) v :=
  run_convert_bytes_arg _ 22 5 Tryz.underlying22 Tryz.underlying5 g 0 1 1 [x] rfl (fun i hi => by
    have : i = 0 := by omega
    subst this
    exact h.cell 0) 9 Tryz.underlying9
set_option maxRecDepth 100000 in
set_option maxHeartbeats 2000000 in
theorem l01Dec_z (n : Nat) : ∀ (z : Int) (w : World), z = (n : Int) → n < 1000000000 →
    Calls Tryz.prog 76 #[.int .i64 z] w (RetS w (decL n)) := by
  induction n using Nat.strongRecOn with
  | _ n ih =>
  intro z w hz hn
  have hz0 : 0 ≤ z := by omega
  have hz1 : z < 1000000000 := by omega
  have kc := fun (v : World) (x : Int) => conv1 v x
  by_cases h10 : n < 10
  · have h10' : z < 10 := by omega
    have hw1 : IntKind.i64.wrap (48 + z) = 48 + z := IntWalk.i64_in _ (by omega)
    have hw2 : IntKind.u8.wrap (48 + z) = 48 + z := IntWalk.u8_in _ (by omega)
    have HF : Hid (RetS w (decL n) (.returned (.string (oneB (48 + z)))) (w.alloc (.cells #[.int .u8 (48 + z)] 5))) := Lib.hid ⟨_, rfl, by rw [oneB_lB, decL_lt h10, show (48 + z).toNat = 48 + n by omega], (Below.refl _ _).alloc (Nat.le_refl _) _⟩
    clear ih hz
    go_enter Tryz.func76, Tryz.ntmps76
    go_wp2
    go_ret
    exact HF.out
  · have h10' : ¬ z < 10 := by omega
    have hqv : z.tdiv 10 = z / 10 := Int.tdiv_eq_ediv_of_nonneg (by omega)
    have hrv : z.tmod 10 = z % 10 := Int.tmod_eq_emod_of_nonneg (by omega)
    obtain ⟨q, hq⟩ : ∃ q, z.tdiv 10 = q := ⟨_, rfl⟩
    obtain ⟨r, hr⟩ : ∃ r, z.tmod 10 = r := ⟨_, rfl⟩
    have hq0 : 0 ≤ q := by omega
    have hq1 : q < 1000000000 := by omega
    have hr0 : 0 ≤ r := by omega
    have hr1 : r < 10 := by omega
    have hw0 : IntKind.i64.wrap q = q := IntWalk.i64_in _ (by omega)
    have hw1 : IntKind.i64.wrap (48 + r) = 48 + r := IntWalk.i64_in _ (by omega)
    have hw2 : IntKind.u8.wrap (48 + r) = 48 + r := IntWalk.u8_in _ (by omega)
    have IH := Lib.hid (fun v => ih (n / 10) (by omega) q v (by omega) (by omega))
    have HE : Hid (∀ u, lB u = decL (n / 10) → lB (u ++ oneB (48 + r)) = decL n) := Lib.hid (fun u hu => by
      rw [lB_app, hu, oneB_lB, decL_ge h10, show (48 + r).toNat = 48 + n % 10 by omega])
    have HL : Hid (∀ u : ByteArray, lB u = decL (n / 10) → u.size ≤ 9) := Lib.hid (fun u hu => by
      have h1 := decL_len 8 (n / 10) (by omega)
      rw [← hu, lB_len] at h1; exact h1)
    clear ih hz hqv hrv
    go_enter Tryz.func76, Tryz.ntmps76
    go_wp2_with fail
    have kd0 : (convert 22 9 (.slice (some ⟨w.heap.size, 0, none⟩) 1 1)).run Tryz.prog (w.alloc (.cells #[.int .u8 (48 + r)] 5)).drew = .ok (.string (oneB (48 + r))) (w.alloc (.cells #[.int .u8 (48 + r)] 5)).drew := conv_at ((Blk.new w _ _).drewN 1)
    go_region_with (first
      | (go_at_call 76; (with_reducible refine (IH.out _).mono ?_); rintro e w5 ⟨u, rfl, hu, hb5⟩; have hbw : Below w.heap.size w w5 := (by first | exact ((Below.refl w.heap.size w).drew).trans hb5 | exact (((Below.refl w.heap.size w).alloc (Nat.le_refl _) _).drew).trans (hb5.mono (by simp))); have hul : u.size + (oneB (48 + r)).size ≤ 9223372036854775807 := (by have := HL.out u hu; have := oneB_size (48 + r); omega); (try have kd := conv_at (g := w.heap.size) (Blk.stays (Blk.new' (w := w.drew) (t := 5) (cs := #[.int .u8 (48 + r)]) (g := w.heap.size) rfl) hb5)))
      | fail)
    all_goals
      have HW := Lib.hid hbw
      have HU := Lib.hid (HE.out u hu)
      clear hbw hb5 hu hul
      go_wp2
      go_ret
      first
        | exact ⟨_, rfl, HU.out, HW.out⟩
        | exact ⟨_, rfl, HU.out, HW.out.alloc HW.out.size _⟩
theorem decL_bytes {n : Nat} (hn : n < 1000000000) {s : ByteArray} (h : lB s = decL n) : s.size ≤ 9 := by
  have h1 := decL_len 8 n hn
  rw [← h, lB_len] at h1; exact h1
set_option maxRecDepth 100000 in
set_option maxHeartbeats 2000000 in
theorem l01Signed_c (n : Int) (w : World) (h0 : -1000000000 < n) (h1 : n < 1000000000) :
    Calls Tryz.prog 75 #[.int .i64 n] w fun e w' => RetS w (sgnL n) e w' ∧ ∀ s, e = .returned (.string s) → s.size ≤ 10 := by
  by_cases hn : n < 0
  · have hw : IntKind.i64.wrap (-n) = -n := IntWalk.i64_in _ (by omega)
    go_enter Tryz.func75, Tryz.ntmps75
    go_wp2_with fail
    refine (l01Dec_z (-n).toNat (-n) _ (by omega) (by omega)).mono ?_
    rintro e w1 ⟨u, rfl, hu, hb⟩
    have hus := decL_bytes (by omega) hu
    have hcat : ({ data := #[45] } : ByteArray).size + u.size ≤ 9223372036854775807 := by have : ({ data := #[45] } : ByteArray).size = 1 := rfl; omega
    have hcat2 : 1 + u.size ≤ 9223372036854775807 := by omega
    have HF : Hid (lB (({ data := #[45] } : ByteArray) ++ u) = sgnL n ∧ (({ data := #[45] } : ByteArray) ++ u).size ≤ 10) := Lib.hid (by
      have e : lB (({ data := #[45] } : ByteArray) ++ u) = sgnL n := by rw [lB_app, hu, sgnL_neg hn]; rfl
      refine ⟨e, ?_⟩
      rw [← lB_len, lB_app, List.length_append, lB_len, lB_len]
      have : ({ data := #[45] } : ByteArray).size = 1 := rfl
      omega)
    have HB := Lib.hid hb
    clear hu hb hus
    go_wp2
    go_ret
    exact ⟨⟨_, rfl, HF.out.1, HB.out⟩, fun s hs => by injection hs with hs; injection hs with hs; subst hs; exact HF.out.2⟩
  · go_enter Tryz.func75, Tryz.ntmps75
    go_wp2_with fail
    refine (l01Dec_z n.toNat n _ (by omega) (by omega)).mono ?_
    rintro e w1 ⟨u, rfl, hu, hb⟩
    have hus := decL_bytes (by omega) hu
    have HF : Hid (lB u = sgnL n ∧ u.size ≤ 10) := Lib.hid ⟨by rw [hu, sgnL_nn (by omega)], by omega⟩
    have HB := Lib.hid hb
    clear hu hb hus
    go_wp2
    go_ret
    exact ⟨⟨_, rfl, HF.out.1, HB.out⟩, fun s hs => by injection hs with hs; injection hs with hs; subst hs; exact HF.out.2⟩
end Go.Proofs.YtglghdkjppcedaaGreatDoor

/- Contract: spec.l07Text. -/
namespace Go.Proofs.YtglghdkjppcedaaGreatDoor
open Go.RowKit

/-- The text of the first k words. -/
def ctK (P S W : List Int) (k : Nat) : List UInt8 := joinL 32 ((wordsT P S W).take k)
theorem ctK_succ {P S W : List Int} {k : Nat} (h0 : 1 ≤ k) (hk : k < W.length) : ctK P S W (k + 1) = ctK P S W k ++ 32 :: wordT (gI W k) (gI P k) (gI S k) := by
  have hk' : k < (wordsT P S W).length := by simpa using hk
  unfold ctK
  rw [List.take_succ_eq_append_getElem hk', join_snoc (fun e => by have h3 := congrArg List.length e; rw [List.length_take, List.length_nil] at h3; omega), ← gT_lt hk', gT_words hk]
theorem ctK_all (P S W : List Int) : ctK P S W W.length = ctL P S W := by
  unfold ctK ctL; rw [List.take_of_length_le (by simp)]
theorem ctK_one {P S W : List Int} (hc : CluOk P S W) : ctK P S W 1 = sgnL (gI W 0) := by
  have h0 : 0 < W.length := by have := hc.1; omega
  have hk' : 0 < (wordsT P S W).length := by simpa using h0
  have hz := clu_zero hc
  unfold ctK
  rw [List.take_succ_eq_append_getElem hk', ← gT_lt hk', gT_words h0, wordT_1 (by omega)]
  rfl
theorem Rd.atT {w : World} {v : Value} {n : Nat} {xs : List Int} (h : Rd w v xs) (hn : xs.length = n) (hp : 0 < n) : ∃ b off k, v = .slice (some ⟨b, off, none⟩) n k ∧ b < w.heap.size ∧ ∀ i, i < n → w.cell? ⟨b, off + i, none⟩ = some (.int .i64 (gI xs i)) := by
  subst hn
  obtain ⟨b, off, cap, he, _, _, hb, hc⟩ := h.cells hp
  exact ⟨b, off, cap, he, hb, hc⟩
set_option maxRecDepth 100000 in
set_option maxHeartbeats 8000000 in
theorem l07Text_c (p s q : Value) (P S W : List Int) (w : World) (hp : Rd w p P) (hs : Rd w s S) (hq : Rd w q W) (hc : CluOk P S W) :
    Calls Tryz.prog 55 #[.agg #[p, s, q]] w (RetS w (ctL P S W)) := by
  obtain ⟨n, hn⟩ : ∃ n, P.length = n := ⟨_, rfl⟩
  have h1 := hc.1
  have hn0 : 0 < n := by omega
  have hn24 : n ≤ 24 := by omega
  obtain ⟨b0, o0, k0, rfl, hb0, hc0⟩ := hp.atT hn hn0
  obtain ⟨b1, o1, k1, rfl, hb1, hc1⟩ := hs.atT (n := n) (by omega) hn0
  obtain ⟨b2, o2, k2, rfl, hb2, hc2⟩ := hq.atT (n := n) (by omega) hn0
  have HC0 := Lib.hid hc0
  have HC1 := Lib.hid hc1
  have HC2 := Lib.hid hc2
  have hx := Boxed.start w 26 #[.slice (some ⟨b0, o0, none⟩) n k0, .slice (some ⟨b1, o1, none⟩) n k1, .slice (some ⟨b2, o2, none⟩) n k2]
  have HS := Lib.hid (fun i (hi : i < n) => clu_small hc (i := i) (by omega))
  have HONE := Lib.hid (ctK_one hc)
  have HNX := Lib.hid (fun k (h : 1 ≤ k) (hk : k < n) => ctK_succ (P := P) (S := S) (W := W) h (by omega))
  have HALL : Hid (ctK P S W n = ctL P S W) := Lib.hid (by rw [← ctK_all, show W.length = n by omega])
  have HPZ : Hid (∀ i, 1 ≤ i → i < n → 0 ≤ gI P i) := Lib.hid (fun i h hi => (clu_place hc (k := i) (by omega) (by omega)).1)
  clear hc0 hc1 hc2 hp hs hq hn h1 hc
  have c2 := hx.cell 2
  have d2 := HC2.out 0 hn0
  rw [Nat.add_zero, ← hx.below.cell (p := ⟨b2, o2, none⟩) hb2] at d2
  have hg0 : (0 : Int) < (n : Int) := by omega
  have hw0 := (HS.out 0 hn0).1
  go_enter Tryz.func55, Tryz.ntmps55
  go_wp2_with fail
  refine (l01Signed_c (gI W 0) _ hw0.1 hw0.2).mono ?_
  rintro e w1 ⟨⟨u, rfl, hu, hb⟩, hus⟩
  have hus := hus u rfl
  have hx1 := hx.trans hb
  have HU := Lib.hid (show lB u = ctK P S W 1 by rw [hu, HONE.out])
  clear c2 d2 hw0 hu hb hx
  go_wp2_with fail
  go_loopw [3, 4] (fun tv iv wr => ∃ (k : Nat) (t : ByteArray), 1 ≤ k ∧ k ≤ n ∧ iv = .int .i64 (k : Int) ∧ tv = .string t ∧ Hid (lB t = ctK P S W k) ∧ t.size ≤ 40 * k ∧ Boxed w wr 26 #[.slice (some ⟨b0, o0, none⟩) n k0, .slice (some ⟨b1, o1, none⟩) n k1, .slice (some ⟨b2, o2, none⟩) n k2]) (fun _ iv _ => n - (intOf iv).toNat)
  case atStart => exact ⟨1, u, Nat.le_refl _, by omega, rfl, rfl, HU, by omega, hx1⟩
  case round =>
    obtain ⟨k, t, hk1, hk, rfl, rfl, HT, hts, hx⟩ := hrel
    clear HU hx1 hus
    obtain ⟨wo, rfl⟩ : ∃ wo : World, wo = wr := ⟨_, rfl⟩
    have c2 := hx.cell 2
    by_cases hlt : k < n
    · have hki : (k : Int) < (n : Int) := by omega
      have hkz : (0 : Int) ≤ (k : Int) := by omega
      obtain ⟨⟨e1, e2⟩, ⟨e3, e4⟩, ⟨e5, e6⟩, _⟩ := HS.out k hlt
      have e7 := HPZ.out k hk1 hlt
      have D0 : ∀ X, Below w.heap.size w X → X.cell? ⟨b0, o0 + k, none⟩ = some (.int .i64 (gI P k)) := fun X hX => (hX.cell (p := ⟨b0, o0 + k, none⟩) hb0).trans (HC0.out k hlt)
      have D1 : ∀ X, Below w.heap.size w X → X.cell? ⟨b1, o1 + k, none⟩ = some (.int .i64 (gI S k)) := fun X hX => (hX.cell (p := ⟨b1, o1 + k, none⟩) hb1).trans (HC1.out k hlt)
      have D2 : ∀ X, Below w.heap.size w X → X.cell? ⟨b2, o2 + k, none⟩ = some (.int .i64 (gI W k)) := fun X hX => (hX.cell (p := ⟨b2, o2 + k, none⟩) hb2).trans (HC2.out k hlt)
      have hnx := HNX.out k hk1 hlt
      obtain ⟨x, hxx⟩ : ∃ x, gI W k = x := ⟨_, rfl⟩
      obtain ⟨y, hyy⟩ : ∃ y, gI P k = y := ⟨_, rfl⟩
      obtain ⟨z, hzz⟩ : ∃ z, gI S k = z := ⟨_, rfl⟩
      rw [hxx] at e1 e2 D2 hnx
      rw [hyy] at e3 e4 e7 D0 hnx
      rw [hzz] at e5 e6 D1 hnx
      have HNK := Lib.hid hnx
      have HD0 := Lib.hid D0
      have HD1 := Lib.hid D1
      have HD2 := Lib.hid D2
      have hxd := hx.trans (Below.refl _ _).drew
      have HC : wo.cell? ⟨w.heap.size, 0, none⟩ = some (.slice (some ⟨b0, o0, none⟩) n k0) ∧ wo.cell? ⟨w.heap.size, 2, none⟩ = some (.slice (some ⟨b2, o2, none⟩) n k2) ∧ wo.cell? ⟨b0, o0 + k, none⟩ = some (.int .i64 y) ∧ wo.cell? ⟨b2, o2 + k, none⟩ = some (.int .i64 x) := ⟨hx.cell 0, c2, D0 _ hx.below, D2 _ hx.below⟩
      have HCd : wo.drew.cell? ⟨w.heap.size, 0, none⟩ = some (.slice (some ⟨b0, o0, none⟩) n k0) ∧ wo.drew.cell? ⟨w.heap.size, 2, none⟩ = some (.slice (some ⟨b2, o2, none⟩) n k2) ∧ wo.drew.cell? ⟨b0, o0 + k, none⟩ = some (.int .i64 y) ∧ wo.drew.cell? ⟨b2, o2 + k, none⟩ = some (.int .i64 x) := ⟨hxd.cell 0, hxd.cell 2, D0 _ hxd.below, D2 _ hxd.below⟩
      clear hnx hxx hyy hzz D0 D1 D2 c2
      have hs32 : ({ data := #[32] } : ByteArray).size = 1 := rfl
      have hs58 : ({ data := #[58] } : ByteArray).size = 1 := rfl
      have hcat1 : ¬ 9223372036854775807 < t.size + 1 := by omega
      have H32 := Lib.hid hs32
      have H58 := Lib.hid hs58
      clear hs32 hs58
      have c2 := hx.cell 2
      have d2 := HD2.out _ hx.below
      go_upto_region 5 with fail
      go_cut [3] from 10 to 48 (fun s3 wc => ∃ t2 : ByteArray, s3 = .string t2 ∧ Hid (lB t2 = lB t ++ 32 :: (sgnL x ++ 58 :: decL y.toNat)) ∧ t2.size ≤ t.size + 21 ∧ Boxed w wc 26 #[.slice (some ⟨b0, o0, none⟩) n k0, .slice (some ⟨b1, o1, none⟩) n k1, .slice (some ⟨b2, o2, none⟩) n k2])
      case first =>
        clear c2 d2
        go_region_held3 (fun w' => w'.cell? ⟨w.heap.size, 0, none⟩ = some (.slice (some ⟨b0, o0, none⟩) n k0) ∧ w'.cell? ⟨w.heap.size, 2, none⟩ = some (.slice (some ⟨b2, o2, none⟩) n k2) ∧ w'.cell? ⟨b0, o0 + k, none⟩ = some (.int .i64 y) ∧ w'.cell? ⟨b2, o2 + k, none⟩ = some (.int .i64 x))
          (first | assumption | exact HC | exact HCd)
          (first
            | (go_at_call 75; (with_reducible refine (l01Signed_c x _ e1 e2).mono ?_); rintro e w5 ⟨⟨u1, rfl, hu1, hb5⟩, hus1⟩; have hus1 := hus1 u1 rfl; have hcat2 : ¬ 9223372036854775807 < t.size + 1 + u1.size := (by omega); have hcat3 : ¬ 9223372036854775807 < t.size + 1 + u1.size + 1 := (by omega); have hx5 := hxd.trans hb5; have HC : w5.cell? ⟨w.heap.size, 0, none⟩ = some (.slice (some ⟨b0, o0, none⟩) n k0) ∧ w5.cell? ⟨w.heap.size, 2, none⟩ = some (.slice (some ⟨b2, o2, none⟩) n k2) ∧ w5.cell? ⟨b0, o0 + k, none⟩ = some (.int .i64 y) ∧ w5.cell? ⟨b2, o2 + k, none⟩ = some (.int .i64 x) := ⟨hx5.cell 0, hx5.cell 2, HD0.out _ hx5.below, HD2.out _ hx5.below⟩)
            | (go_at_call 76; (with_reducible refine (l01Dec_z y.toNat y _ (by omega) (by omega)).mono ?_); rintro e w6 ⟨u2, rfl, hu2, hb6⟩; have hus2 := decL_bytes (by omega) hu2; have hcat4 : ¬ 9223372036854775807 < t.size + 1 + u1.size + 1 + u2.size := (by omega); have hx6 := hx5.trans hb6; have HC : w6.cell? ⟨w.heap.size, 0, none⟩ = some (.slice (some ⟨b0, o0, none⟩) n k0) ∧ w6.cell? ⟨w.heap.size, 2, none⟩ = some (.slice (some ⟨b2, o2, none⟩) n k2) ∧ w6.cell? ⟨b0, o0 + k, none⟩ = some (.int .i64 y) ∧ w6.cell? ⟨b2, o2 + k, none⟩ = some (.int .i64 x) := ⟨hx6.cell 0, hx6.cell 2, HD0.out _ hx6.below, HD2.out _ hx6.below⟩)
            | fail)
        have HF : Hid (lB (t ++ ({ data := #[32] } : ByteArray) ++ u1 ++ ({ data := #[58] } : ByteArray) ++ u2) = lB t ++ 32 :: (sgnL x ++ 58 :: decL y.toNat)) := Lib.hid (by
          rw [lB_app, lB_app, lB_app, lB_app, hu1, hu2]
          simp [lB])
        have HZ : Hid ((t ++ ({ data := #[32] } : ByteArray) ++ u1 ++ ({ data := #[58] } : ByteArray) ++ u2).size ≤ t.size + 21) := Lib.hid (by
          rw [ByteArray.size_append, ByteArray.size_append, ByteArray.size_append, ByteArray.size_append, H32.out, H58.out]; omega)
        clear hu1 hu2 hus1 hus2 hcat1 hcat2 hcat3 hcat4
        go_wp2
        go_meet
        exact ⟨_, rfl, HF.out, HZ.out, hx6⟩
      case rest =>
        clear c2 d2
        obtain ⟨t2, rfl, HT2, hts2, hx2⟩ := hcut
        have c1 := hx2.cell 1
        have d1 := HD1.out _ hx2.below
        by_cases hz0 : 0 ≤ z
        · have hzg : z ≥ 0 := hz0
          have h44 : ({ data := #[44] } : ByteArray).size = 1 := rfl
          have H44 := Lib.hid h44
          have hcat1 : ¬ 9223372036854775807 < t2.size + 1 := by omega
          clear h44
          go_wp2_with fail
          refine (l01Dec_z z.toNat z _ (by omega) (by omega)).mono ?_
          rintro e w7 ⟨u3, rfl, hu3, hb7⟩
          have hus3 := decL_bytes (by omega) hu3
          have hx7 := hx2.trans hb7
          have hcat2 : ¬ 9223372036854775807 < t2.size + 1 + u3.size := by omega
          have HF : Hid (lB (t2 ++ ({ data := #[44] } : ByteArray) ++ u3) = ctK P S W (k + 1)) := Lib.hid (by
            rw [HNK.out, wordT_3 e7 hz0, lB_app, lB_app, hu3, HT2.out, HT.out]
            simp [lB])
          have HZ : Hid ((t2 ++ ({ data := #[44] } : ByteArray) ++ u3).size ≤ 40 * (k + 1)) := Lib.hid (by
            rw [ByteArray.size_append, ByteArray.size_append, H44.out]; omega)
          clear hu3 hb7 c1 d1
          go_wp2
          go_roundw
          case rel => exact ⟨k + 1, _, by omega, by omega, by go_num, rfl, HF, HZ.out, hx7⟩
          case measure => simp [intOf]; omega
        · have hzg : ¬ z ≥ 0 := hz0
          have HF : Hid (lB t2 = ctK P S W (k + 1)) := Lib.hid (by
            rw [HNK.out, wordT_2 e7 hz0, HT2.out, HT.out])
          go_wp2
          go_roundw
          case rel => exact ⟨k + 1, t2, by omega, by omega, by go_num, rfl, HF, by omega, hx2⟩
          case measure => simp [intOf]; omega
    · have hke : k = n := by omega
      have hki : ¬ (k : Int) < (n : Int) := by omega
      have HF : Hid (RetS w (ctL P S W) (.returned (.string t)) wo) := Lib.hid ⟨t, rfl, by rw [HT.out, hke, HALL.out], hx.below⟩
      clear hke
      go_wp2
      go_ret
      exact HF.out
end Go.Proofs.YtglghdkjppcedaaGreatDoor
