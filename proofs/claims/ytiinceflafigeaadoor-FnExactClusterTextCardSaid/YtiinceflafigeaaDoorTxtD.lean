/- Contracts: spec.l01Dec, l01Signed. -/
import Derived.Test.YtiinceflafigeaaDoorTxtV
import Derived.Laws.BytesArg
import Derived.Deep.RegionHeld3
namespace Go.Proofs.YtiinceflafigeaaDoor
open Go.RowKit

/-- A text is handed back. -/
def RetS (w : World) (t : List UInt8) (e : Ending) (w' : World) : Prop := ∃ s, e = .returned (.string s) ∧ lB s = t ∧ Below w.heap.size w w'
/-- A text of one byte. -/
def oneB (x : Int) : ByteArray := strOfNums [x]
theorem oneB_lB (x : Int) : lB (oneB x) = [UInt8.ofNat x.toNat] := by simp [oneB, strOfNums, lB]
theorem oneB_size (x : Int) : (oneB x).size = 1 := by rw [← lB_len, oneB_lB]; rfl
theorem conv1 (v : World) (x : Int) : (convert 22 9 (.slice (some ⟨v.heap.size, 0, none⟩) 1 1)).run Tryd.prog (v.alloc (.cells #[.int .u8 x] 5)) = .ok (.string (oneB x)) (v.alloc (.cells #[.int .u8 x] 5)) :=
  run_convert_bytes_arg _ 22 5 Tryd.underlying22 Tryd.underlying5 v.heap.size 0 1 1 [x] rfl (fun i hi => by
    have : i = 0 := by omega
    subst this
    exact (Blk.new v _ _).cell 0) 9 Tryd.underlying9
theorem conv_at {v : World} {g : Nat} {x : Int} (h : Blk v g 5 #[.int .u8 x]) : (convert 22 9 (.slice (some ⟨g, 0, none⟩) 1 1)).run Tryd.prog v = .ok (.string (oneB x)) v :=
  run_convert_bytes_arg _ 22 5 Tryd.underlying22 Tryd.underlying5 g 0 1 1 [x] rfl (fun i hi => by
    have : i = 0 := by omega
    subst this
    exact h.cell 0) 9 Tryd.underlying9
set_option maxRecDepth 100000 in
set_option maxHeartbeats 2000000 in
theorem l01Dec_z (n : Nat) : ∀ (z : Int) (w : World), z = (n : Int) → n < 1000000000 →
    Calls Tryd.prog 62 #[.int .i64 z] w (RetS w (decL n)) := by
  induction n using Nat.strongRecOn with
  | _ n ih =>
  intro z w hz hn
  have hz0 : 0 ≤ z := by omega
  have hz1 : z < 1000000000 := by omega
  have kc := fun (v : World) (x : Int) => conv1 v x
  by_cases h10 : n < 10
  · have h10' : z < 10 := by omega
    have hw1 : IntKind.i64.wrap (48 + z) = 48 + z := IntWalk.i64_in _ (by omega)
    have hw2 : IntKind.u8.wrap (48 + z) = 48 + z := IntWalk.u8_in _ (by omega)
    have HF : Hid (RetS w (decL n) (.returned (.string (oneB (48 + z)))) (w.alloc (.cells #[.int .u8 (48 + z)] 5))) := Lib.hid ⟨_, rfl, by rw [oneB_lB, decL_lt h10, show (48 + z).toNat = 48 + n by omega], (Below.refl _ _).alloc (Nat.le_refl _) _⟩
    clear ih hz
    go_enter Tryd.func62, Tryd.ntmps62
    go_wp2
    go_ret
    exact HF.out
  · have h10' : ¬ z < 10 := by omega
    have hqv : z.tdiv 10 = z / 10 := Int.tdiv_eq_ediv_of_nonneg (by omega)
    have hrv : z.tmod 10 = z % 10 := Int.tmod_eq_emod_of_nonneg (by omega)
    obtain ⟨q, hq⟩ : ∃ q, z.tdiv 10 = q := ⟨_, rfl⟩
    obtain ⟨r, hr⟩ : ∃ r, z.tmod 10 = r := ⟨_, rfl⟩
    have hq0 : 0 ≤ q := by omega
    have hq1 : q < 1000000000 := by omega
    have hr0 : 0 ≤ r := by omega
    have hr1 : r < 10 := by omega
    have hw0 : IntKind.i64.wrap q = q := IntWalk.i64_in _ (by omega)
    have hw1 : IntKind.i64.wrap (48 + r) = 48 + r := IntWalk.i64_in _ (by omega)
    have hw2 : IntKind.u8.wrap (48 + r) = 48 + r := IntWalk.u8_in _ (by omega)
    have IH := Lib.hid (fun v => ih (n / 10) (by omega) q v (by omega) (by omega))
    have HE : Hid (∀ u, lB u = decL (n / 10) → lB (u ++ oneB (48 + r)) = decL n) := Lib.hid (fun u hu => by
      rw [lB_app, hu, oneB_lB, decL_ge h10, show (48 + r).toNat = 48 + n % 10 by omega])
    have HL : Hid (∀ u : ByteArray, lB u = decL (n / 10) → u.size ≤ 9) := Lib.hid (fun u hu => by
      have h1 := decL_len 8 (n / 10) (by omega)
      rw [← hu, lB_len] at h1; exact h1)
    clear ih hz hqv hrv
    go_enter Tryd.func62, Tryd.ntmps62
    go_wp2_with fail
    have kd0 : (convert 22 9 (.slice (some ⟨w.heap.size, 0, none⟩) 1 1)).run Tryd.prog (w.alloc (.cells #[.int .u8 (48 + r)] 5)).drew = .ok (.string (oneB (48 + r))) (w.alloc (.cells #[.int .u8 (48 + r)] 5)).drew := conv_at ((Blk.new w _ _).drewN 1)
    go_region_with (first
      | (go_at_call 62; (with_reducible refine (IH.out _).mono ?_); rintro e w5 ⟨u, rfl, hu, hb5⟩; have hbw : Below w.heap.size w w5 := (by first | exact ((Below.refl w.heap.size w).drew).trans hb5 | exact (((Below.refl w.heap.size w).alloc (Nat.le_refl _) _).drew).trans (hb5.mono (by simp))); have hul : u.size + (oneB (48 + r)).size ≤ 9223372036854775807 := (by have := HL.out u hu; have := oneB_size (48 + r); omega); (try have kd := conv_at (g := w.heap.size) (Blk.stays (Blk.new' (w := w.drew) (t := 5) (cs := #[.int .u8 (48 + r)]) (g := w.heap.size) rfl) hb5)))
      | fail)
    all_goals
      have HW := Lib.hid hbw
      have HU := Lib.hid (HE.out u hu)
      clear hbw hb5 hu hul
      go_wp2
      go_ret
      first
        | exact ⟨_, rfl, HU.out, HW.out⟩
        | exact ⟨_, rfl, HU.out, HW.out.alloc HW.out.size _⟩
theorem l01Dec_c (n : Nat) (w : World) (hn : n < 1000000000) :
    Calls Tryd.prog 62 #[.int .i64 (n : Int)] w (RetS w (decL n)) := l01Dec_z n _ w rfl hn
theorem decL_bytes {n : Nat} (hn : n < 1000000000) {s : ByteArray} (h : lB s = decL n) : s.size ≤ 9 := by
  have h1 := decL_len 8 n hn
  rw [← h, lB_len] at h1; exact h1
set_option maxRecDepth 100000 in
set_option maxHeartbeats 2000000 in
theorem l01Signed_c (n : Int) (w : World) (h0 : -1000000000 < n) (h1 : n < 1000000000) :
    Calls Tryd.prog 70 #[.int .i64 n] w fun e w' => RetS w (sgnL n) e w' ∧ ∀ s, e = .returned (.string s) → s.size ≤ 10 := by
  by_cases hn : n < 0
  · have hw : IntKind.i64.wrap (-n) = -n := IntWalk.i64_in _ (by omega)
    go_enter Tryd.func70, Tryd.ntmps70
    go_wp2_with fail
    refine (l01Dec_z (-n).toNat (-n) _ (by omega) (by omega)).mono ?_
    rintro e w1 ⟨u, rfl, hu, hb⟩
    have hus := decL_bytes (by omega) hu
    have hcat : ({ data := #[45] } : ByteArray).size + u.size ≤ 9223372036854775807 := by have : ({ data := #[45] } : ByteArray).size = 1 := rfl; omega
    have hcat2 : 1 + u.size ≤ 9223372036854775807 := by omega
    have HF : Hid (lB (({ data := #[45] } : ByteArray) ++ u) = sgnL n ∧ (({ data := #[45] } : ByteArray) ++ u).size ≤ 10) := Lib.hid (by
      have e : lB (({ data := #[45] } : ByteArray) ++ u) = sgnL n := by rw [lB_app, hu, sgnL_neg hn]; rfl
      refine ⟨e, ?_⟩
      rw [← lB_len, lB_app, List.length_append, lB_len, lB_len]
      have : ({ data := #[45] } : ByteArray).size = 1 := rfl
      omega)
    have HB := Lib.hid hb
    clear hu hb hus
    go_wp2
    go_ret
    exact ⟨⟨_, rfl, HF.out.1, HB.out⟩, fun s hs => by injection hs with hs; injection hs with hs; subst hs; exact HF.out.2⟩
  · go_enter Tryd.func70, Tryd.ntmps70
    go_wp2_with fail
    refine (l01Dec_z n.toNat n _ (by omega) (by omega)).mono ?_
    rintro e w1 ⟨u, rfl, hu, hb⟩
    have hus := decL_bytes (by omega) hu
    have HF : Hid (lB u = sgnL n ∧ u.size ≤ 10) := Lib.hid ⟨by rw [hu, sgnL_nn (by omega)], by omega⟩
    have HB := Lib.hid hb
    clear hu hb hus
    go_wp2
    go_ret
    exact ⟨⟨_, rfl, HF.out.1, HB.out⟩, fun s hs => by injection hs with hs; injection hs with hs; subst hs; exact HF.out.2⟩
end Go.Proofs.YtiinceflafigeaaDoor
