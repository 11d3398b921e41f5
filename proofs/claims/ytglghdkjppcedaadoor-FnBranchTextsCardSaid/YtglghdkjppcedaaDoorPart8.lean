/- Contracts: spec.l01Value, l07Integer. -/
import Derived.Test.YtglghdkjppcedaaDoorPart5
import Derived.Laws.BytesArg
import Derived.Deep.RegionHeld3
import Derived.Shelf.Strings.OnBuilder
import Derived.Shelf.LaysM
import Derived.Shelf.Strconv.Itoa4
import Derived.Test.YtglghdkjppcedaaDoorProg
import Derived.Test.YtglghdkjppcedaaDoorPart3
import Derived.Lib.SmallJoins
import Derived.Lib.AppendIntMem
namespace Go.Proofs.YtglghdkjppcedaaDoor
open Go.RowKit

theorem dg_get (s : ByteArray) : ∀ k (h : k < s.size), digB (s[k]'h) = true → valN ((lB s).take (k + 1)) = valN ((lB s).take k) * 10 + ((s[k]'h).toNat - 48) := by
  intro k h _
  have h' : k < (lB s).length := by rw [lB_len]; exact h
  rw [take_dig h', valN_snoc, lB_get h h']
theorem dg_all (s : ByteArray) : ∀ k (h : k < s.size), (∀ x ∈ (lB s).take k, digB x = true) → digB (s[k]'h) = true → ∀ x ∈ (lB s).take (k + 1), digB x = true := by
  intro k h h1 h2 x hx
  have h' : k < (lB s).length := by rw [lB_len]; exact h
  rw [take_dig h', lB_get h h', List.mem_append] at hx
  rcases hx with hx | hx
  · exact h1 x hx
  · simp only [List.mem_singleton] at hx; rw [hx]; exact h2
theorem dg_no (s : ByteArray) : ∀ k (h : k < s.size), digB (s[k]'h) = false → numB (lB s) = false := by
  intro k h h1
  have h' : k < (lB s).length := by rw [lB_len]; exact h
  cases c : numB (lB s)
  · rfl
  · have := (canB_iff.1 (numB_iff.1 c).1).2.1 _ (List.getElem_mem h')
    rw [lB_get h h', h1] at this; cases this
theorem dg_ten (s : ByteArray) : 9 < s.size → numB (lB s) = false := by
  intro h
  cases c : numB (lB s)
  · rfl
  · have := (numB_iff.1 c).2
    rw [lB_len] at this; omega
theorem dg_zero (s : ByteArray) : s.size = 0 → numB (lB s) = false := by
  intro h
  cases c : numB (lB s)
  · rfl
  · have := (canB_iff.1 (numB_iff.1 c).1).1
    have h2 : lB s = [] := List.eq_nil_of_length_eq_zero (by rw [lB_len]; exact h)
    exact absurd h2 this
theorem dg_lead (s : ByteArray) : ∀ (h : 0 < s.size), 1 < s.size → (s[0]'h).toNat = 48 → numB (lB s) = false := by
  intro h h1 h2
  cases c : numB (lB s)
  · rfl
  · have h3 := (canB_iff.1 (numB_iff.1 c).1).2.2 (by rw [lB_len]; exact h1)
    exfalso
    apply h3
    have h' : 0 < (lB s).length := by rw [lB_len]; exact h
    rw [List.head?_eq_getElem?, List.getElem?_eq_getElem h', lB_get h h']
    congr 1
    exact UInt8.toNat_inj.1 (by rw [h2]; rfl)
theorem dg_yes (s : ByteArray) : ∀ (h : 0 < s.size), s.size ≤ 9 → (∀ x ∈ (lB s).take s.size, digB x = true) → (1 < s.size → (s[0]'h).toNat ≠ 48) → numB (lB s) = true := by
  intro h h9 h1 h2
  have e : (lB s).take s.size = lB s := List.take_of_length_le (by rw [lB_len]; exact Nat.le_refl _)
  rw [e] at h1
  refine numB_iff.2 ⟨canB_iff.2 ⟨fun e => ?_, h1, fun h3 h4 => ?_⟩, by rw [lB_len]; exact h9⟩
  · have h5 := congrArg List.length e; rw [lB_len] at h5; have h6 : s.size = 0 := h5; omega
  · rw [lB_len] at h3
    have h' : 0 < (lB s).length := by rw [lB_len]; exact h
    rw [List.head?_eq_getElem?, List.getElem?_eq_getElem h', lB_get h h'] at h4
    injection h4 with h4
    apply h2 h3
    rw [h4]; rfl
theorem dg_val (s : ByteArray) : ∀ k, k ≤ 9 → k ≤ s.size → (∀ x ∈ (lB s).take k, digB x = true) → valN ((lB s).take k) < 1000000000 := by
  intro k h9 hk h1
  have h2 := valN_bd _ h1
  rw [List.length_take, lB_len] at h2
  have h3 : 10 ^ min k s.size ≤ 10 ^ 9 := Nat.pow_le_pow_right (by omega) (by omega)
  omega
theorem dg_all2 (s : ByteArray) : valN ((lB s).take s.size) = valN (lB s) := by rw [List.take_of_length_le (by rw [lB_len]; exact Nat.le_refl _)]
set_option maxHeartbeats 4000000 in
theorem l01Value_c (s : ByteArray) (w : World) (hs : s.size ≤ 137438953472) :
    Calls Tryd.prog 34 #[.string s] w fun e w' => e = .returned (.int .i64 (valI (lB s))) ∧ w = w' := by
  by_cases h0 : s.size = 0
  · have hv := valI_no (dg_zero s h0)
    have HV := Lib.hid hv
    have hb : ((s.size : Int) == 0) = true := by rw [h0]; rfl
    clear hv h0
    go_enter Tryd.func34, Tryd.ntmps34
    go_wp2
    go_ret
    exact ⟨by rw [HV.out]; rfl, rfl⟩
  · have hb : ((s.size : Int) == 0) = false := beq_eq_false_iff_ne.2 (by omega)
    by_cases h9 : 9 < s.size
    · have hv := valI_no (dg_ten s h9)
      have HV := Lib.hid hv
      have hg : (s.size : Int) > 9 := by omega
      clear hv h0 h9
      go_enter Tryd.func34, Tryd.ntmps34
      go_wp2
      go_ret
      exact ⟨by rw [HV.out]; rfl, rfl⟩
    · have hg : ¬ (s.size : Int) > 9 := by omega
      have hp : 0 < s.size := by omega
      by_cases h1 : 1 < s.size
      · have h1g : (s.size : Int) > 1 := by omega
        by_cases hz : (s[0]'hp).toNat = 48
        · have hv := valI_no (dg_lead s hp h1 hz)
          have HV := Lib.hid hv
          have hzb : (((s[0]'hp).toNat : Int) == 48) = true := by rw [hz]; rfl
          clear hv hz h0 h1 h9
          go_enter Tryd.func34, Tryd.ntmps34
          go_wp2
          go_ret
          exact ⟨by rw [HV.out]; rfl, rfl⟩
        · have hzb : (((s[0]'hp).toNat : Int) == 48) = false := beq_eq_false_iff_ne.2 (by omega)
          have HY := Lib.hid (dg_yes s hp (by omega))
          have HL : Hid (1 < s.size → (s[0]'hp).toNat ≠ 48) := Lib.hid (fun _ => hz)
          have HG := Lib.hid (dg_get s)
          have HA := Lib.hid (dg_all s)
          have HN := Lib.hid (dg_no s)
          have HV := Lib.hid (dg_val s)
          have H2 := Lib.hid (dg_all2 s)
          clear hz h0
          go_enter Tryd.func34, Tryd.ntmps34
          go_wp2
          go_loop [3, 4] (fun nv iv => ∃ k : Nat, k ≤ s.size ∧ iv = .int .i64 (k : Int) ∧ nv = .int .i64 ((valN ((lB s).take k) : Nat) : Int) ∧ Hid (∀ x ∈ (lB s).take k, digB x = true)) (fun _ iv => s.size - (intOf iv).toNat)
          case atStart => exact ⟨0, Nat.zero_le _, rfl, rfl, Lib.hid (by simp)⟩
          case round =>
            obtain ⟨k, hk, rfl, rfl, HD⟩ := hrel
            have hv := HV.out k (by omega) hk HD.out
            by_cases hlt : k < s.size
            · have hu := (s[k]'hlt).toNat_lt
              have hki : (k : Int) < (s.size : Int) := by omega
              cases hd : digB (s[k]'hlt)
              · have HF := Lib.hid (valI_no (HN.out k hlt hd))
                have hnd : ¬ ((48 : Int) ≤ ((s[k]'hlt).toNat : Int) ∧ ((s[k]'hlt).toNat : Int) ≤ 57) := fun h => by rw [dig_ge.2 h] at hd; cases hd
                clear hd HY HL HG HA HN HV H2 HD hv
                generalize valN ((lB s).take k) = n at *
                by_cases h48 : ((s[k]'hlt).toNat : Int) < 48
                · clear hnd
                  go_wp2
                  go_ret
                  exact ⟨by rw [HF.out]; rfl, rfl⟩
                · have h57 : ((s[k]'hlt).toNat : Int) > 57 := by omega
                  clear hnd
                  go_wp2
                  go_ret
                  exact ⟨by rw [HF.out]; rfl, rfl⟩
              · obtain ⟨h48, h57⟩ := dig_ge.1 hd
                have h48' : ¬ ((s[k]'hlt).toNat : Int) < 48 := by omega
                have h57' : ¬ ((s[k]'hlt).toNat : Int) > 57 := by omega
                have HGK := Lib.hid (HG.out k hlt hd)
                have HDK := Lib.hid (HA.out k hlt HD.out hd)
                have hn10 : ((valN ((lB s).take k) : Nat) : Int) < 1000000000 := by omega
                have hk9 : k < 9 := by omega
                clear hd HY HL HG HA HN HV H2 HD hv
                generalize valN ((lB s).take k) = n at *
                have hw1 : IntKind.u8.wrap (((s[k]'hlt).toNat : Int) - 48) = ((s[k]'hlt).toNat : Int) - 48 := IntWalk.u8_in _ (by omega)
                have HR : Hid ((n : Int) * 10 + (((s[k]'hlt).toNat : Int) - 48) = ((n * 10 + ((s[k]'hlt).toNat - 48) : Nat) : Int)) := Lib.hid (by omega)
                go_wp2
                go_round
                case rel => exact ⟨k + 1, by omega, by go_num, by rw [HGK.out, ← HR.out], HDK⟩
                case measure => simp [intOf]; omega
            · have hke : k = s.size := by omega
              have hki : ¬ (k : Int) < (s.size : Int) := by omega
              have HF : Hid (valI (lB s) = ((valN ((lB s).take k) : Nat) : Int)) := Lib.hid (by rw [valI_yes (HY.out (by rw [← hke]; exact HD.out) HL.out), hke, H2.out])
              clear HY HL HG HA HN HV H2 HD hv hke
              generalize valN ((lB s).take k) = n at *
              go_wp2
              go_ret
              exact ⟨by rw [HF.out]; rfl, rfl⟩
      · have h1g : ¬ (s.size : Int) > 1 := by omega
        have HY := Lib.hid (dg_yes s hp (by omega))
        have HL : Hid (1 < s.size → (s[0]'hp).toNat ≠ 48) := Lib.hid (fun h => absurd h h1)
        have HG := Lib.hid (dg_get s)
        have HA := Lib.hid (dg_all s)
        have HN := Lib.hid (dg_no s)
        have HV := Lib.hid (dg_val s)
        have H2 := Lib.hid (dg_all2 s)
        clear h0 h1
        go_enter Tryd.func34, Tryd.ntmps34
        go_wp2
        go_loop [3, 4] (fun nv iv => ∃ k : Nat, k ≤ s.size ∧ iv = .int .i64 (k : Int) ∧ nv = .int .i64 ((valN ((lB s).take k) : Nat) : Int) ∧ Hid (∀ x ∈ (lB s).take k, digB x = true)) (fun _ iv => s.size - (intOf iv).toNat)
        case atStart => exact ⟨0, Nat.zero_le _, rfl, rfl, Lib.hid (by simp)⟩
        case round =>
          obtain ⟨k, hk, rfl, rfl, HD⟩ := hrel
          have hv := HV.out k (by omega) hk HD.out
          by_cases hlt : k < s.size
          · have hu := (s[k]'hlt).toNat_lt
            have hki : (k : Int) < (s.size : Int) := by omega
            cases hd : digB (s[k]'hlt)
            · have HF := Lib.hid (valI_no (HN.out k hlt hd))
              have hnd : ¬ ((48 : Int) ≤ ((s[k]'hlt).toNat : Int) ∧ ((s[k]'hlt).toNat : Int) ≤ 57) := fun h => by rw [dig_ge.2 h] at hd; cases hd
              clear hd HY HL HG HA HN HV H2 HD hv
              generalize valN ((lB s).take k) = n at *
              by_cases h48 : ((s[k]'hlt).toNat : Int) < 48
              · clear hnd
                go_wp2
                go_ret
                exact ⟨by rw [HF.out]; rfl, rfl⟩
              · have h57 : ((s[k]'hlt).toNat : Int) > 57 := by omega
                clear hnd
                go_wp2
                go_ret
                exact ⟨by rw [HF.out]; rfl, rfl⟩
            · obtain ⟨h48, h57⟩ := dig_ge.1 hd
              have h48' : ¬ ((s[k]'hlt).toNat : Int) < 48 := by omega
              have h57' : ¬ ((s[k]'hlt).toNat : Int) > 57 := by omega
              have HGK := Lib.hid (HG.out k hlt hd)
              have HDK := Lib.hid (HA.out k hlt HD.out hd)
              have hn10 : ((valN ((lB s).take k) : Nat) : Int) < 1000000000 := by omega
              have hk9 : k < 9 := by omega
              clear hd HY HL HG HA HN HV H2 HD hv
              generalize valN ((lB s).take k) = n at *
              have hw1 : IntKind.u8.wrap (((s[k]'hlt).toNat : Int) - 48) = ((s[k]'hlt).toNat : Int) - 48 := IntWalk.u8_in _ (by omega)
              have HR : Hid ((n : Int) * 10 + (((s[k]'hlt).toNat : Int) - 48) = ((n * 10 + ((s[k]'hlt).toNat - 48) : Nat) : Int)) := Lib.hid (by omega)
              go_wp2
              go_round
              case rel => exact ⟨k + 1, by omega, by go_num, by rw [HGK.out, ← HR.out], HDK⟩
              case measure => simp [intOf]; omega
          · have hke : k = s.size := by omega
            have hki : ¬ (k : Int) < (s.size : Int) := by omega
            have HF : Hid (valI (lB s) = ((valN ((lB s).take k) : Nat) : Int)) := Lib.hid (by rw [valI_yes (HY.out (by rw [← hke]; exact HD.out) HL.out), hke, H2.out])
            clear HY HL HG HA HN HV H2 HD hv hke
            generalize valN ((lB s).take k) = n at *
            go_wp2
            go_ret
            exact ⟨by rw [HF.out]; rfl, rfl⟩
end Go.Proofs.YtglghdkjppcedaaDoor

/- Contracts: spec.l01Dec, l01Signed. -/
namespace Go.Proofs.YtglghdkjppcedaaDoor
open Go.RowKit

/-- A text is handed back. -/
def RetS (w : World) (t : List UInt8) (e : Ending) (w' : World) : Prop := ∃ s, e = .returned (.string s) ∧ lB s = t ∧ Below w.heap.size w w'
/-- A text of one byte. -/
def oneB (x : Int) : ByteArray := strOfNums [x]
theorem oneB_lB (x : Int) : lB (oneB x) = [UInt8.ofNat x.toNat] := by simp [oneB, strOfNums, lB]
theorem oneB_size (x : Int) : (oneB x).size = 1 := by rw [← lB_len, oneB_lB]; rfl
theorem conv1 (v : World) (x : Int) : (convert 22 9 (.slice (some ⟨v.heap.size, 0, none⟩) 1 1)).run Tryd.prog (v.alloc (.cells #[.int .u8 x] 5)) = .ok (.string (oneB x)) (v.alloc (.cells #[.int .u8 x] 5)) :=
  run_convert_bytes_arg _ 22 5 Tryd.underlying22 Tryd.underlying5 v.heap.size 0 1 1 [x] rfl (fun i hi => by
    have : i = 0 := by omega
    subst this
    exact (Blk.new v _ _).cell 0) 9 Tryd.underlying9
theorem conv_at {v : World} {g : Nat} {x : Int} (h : Blk v g 5 #[.int .u8 x]) : (convert 22 9 (.slice (some ⟨g, 0, none⟩) 1 1)).run Tryd.prog v = .ok (.string (oneB x)) v :=
  run_convert_bytes_arg _ 22 5 Tryd.underlying22 Tryd.underlying5 g 0 1 1 [x] rfl (fun i hi => by
    have : i = 0 := by omega
    subst this
    exact h.cell 0) 9 Tryd.underlying9
set_option maxRecDepth 100000 in
set_option maxHeartbeats 2000000 in
theorem l01Dec_z (n : Nat) : ∀ (z : Int) (w : World), z = (n : Int) → n < 1000000000 →
    Calls Tryd.prog 49 #[.int .i64 z] w (RetS w (decL n)) := by
  induction n using Nat.strongRecOn with
  | _ n ih =>
  intro z w hz hn
  have hz0 : 0 ≤ z := by omega
  have hz1 : z < 1000000000 := by omega
  have kc := fun (v : World) (x : Int) => conv1 v x
  by_cases h10 : n < 10
  · have h10' : z < 10 := by omega
    have hw1 : IntKind.i64.wrap (48 + z) = 48 + z := IntWalk.i64_in _ (by omega)
    have hw2 : IntKind.u8.wrap (48 + z) = 48 + z := IntWalk.u8_in _ (by omega)
    have HF : Hid (RetS w (decL n) (.returned (.string (oneB (48 + z)))) (w.alloc (.cells #[.int .u8 (48 + z)] 5))) := Lib.hid ⟨_, rfl, by rw [oneB_lB, decL_lt h10, show (48 + z).toNat = 48 + n by omega], (Below.refl _ _).alloc (Nat.le_refl _) _⟩
    clear ih hz
    go_enter Tryd.func49, Tryd.ntmps49
    go_wp2
    go_ret
    exact HF.out
  · have h10' : ¬ z < 10 := by omega
    have hqv : z.tdiv 10 = z / 10 := Int.tdiv_eq_ediv_of_nonneg (by omega)
    have hrv : z.tmod 10 = z % 10 := Int.tmod_eq_emod_of_nonneg (by omega)
    obtain ⟨q, hq⟩ : ∃ q, z.tdiv 10 = q := ⟨_, rfl⟩
    obtain ⟨r, hr⟩ : ∃ r, z.tmod 10 = r := ⟨_, rfl⟩
    have hq0 : 0 ≤ q := by omega
    have hq1 : q < 1000000000 := by omega
    have hr0 : 0 ≤ r := by omega
    have hr1 : r < 10 := by omega
    have hw0 : IntKind.i64.wrap q = q := IntWalk.i64_in _ (by omega)
    have hw1 : IntKind.i64.wrap (48 + r) = 48 + r := IntWalk.i64_in _ (by omega)
    have hw2 : IntKind.u8.wrap (48 + r) = 48 + r := IntWalk.u8_in _ (by omega)
    have IH := Lib.hid (fun v => ih (n / 10) (by omega) q v (by omega) (by omega))
    have HE : Hid (∀ u, lB u = decL (n / 10) → lB (u ++ oneB (48 + r)) = decL n) := Lib.hid (fun u hu => by
      rw [lB_app, hu, oneB_lB, decL_ge h10, show (48 + r).toNat = 48 + n % 10 by omega])
    have HL : Hid (∀ u : ByteArray, lB u = decL (n / 10) → u.size ≤ 9) := Lib.hid (fun u hu => by
      have h1 := decL_len 8 (n / 10) (by omega)
      rw [← hu, lB_len] at h1; exact h1)
    clear ih hz hqv hrv
    go_enter Tryd.func49, Tryd.ntmps49
    go_wp2_with fail
    have kd0 : (convert 22 9 (.slice (some ⟨w.heap.size, 0, none⟩) 1 1)).run Tryd.prog (w.alloc (.cells #[.int .u8 (48 + r)] 5)).drew = .ok (.string (oneB (48 + r))) (w.alloc (.cells #[.int .u8 (48 + r)] 5)).drew := conv_at ((Blk.new w _ _).drewN 1)
    go_region_with (first
      | (go_at_call 49; (with_reducible refine (IH.out _).mono ?_); rintro e w5 ⟨u, rfl, hu, hb5⟩; have hbw : Below w.heap.size w w5 := (by first | exact ((Below.refl w.heap.size w).drew).trans hb5 | exact (((Below.refl w.heap.size w).alloc (Nat.le_refl _) _).drew).trans (hb5.mono (by simp))); have hul : u.size + (oneB (48 + r)).size ≤ 9223372036854775807 := (by have := HL.out u hu; have := oneB_size (48 + r); omega); (try have kd := conv_at (g := w.heap.size) (Blk.stays (Blk.new' (w := w.drew) (t := 5) (cs := #[.int .u8 (48 + r)]) (g := w.heap.size) rfl) hb5)))
      | fail)
    all_goals
      have HW := Lib.hid hbw
      have HU := Lib.hid (HE.out u hu)
      clear hbw hb5 hu hul
      go_wp2
      go_ret
      first
        | exact ⟨_, rfl, HU.out, HW.out⟩
        | exact ⟨_, rfl, HU.out, HW.out.alloc HW.out.size _⟩
theorem decL_bytes {n : Nat} (hn : n < 1000000000) {s : ByteArray} (h : lB s = decL n) : s.size ≤ 9 := by
  have h1 := decL_len 8 n hn
  rw [← h, lB_len] at h1; exact h1
end Go.Proofs.YtglghdkjppcedaaDoor

/- Contract: spec.l07Text. -/
namespace Go.Proofs.YtglghdkjppcedaaDoor
open Go.RowKit

/-- The text of the first k words. -/
def ctK (P S W : List Int) (k : Nat) : List UInt8 := joinL 32 ((wordsT P S W).take k)
theorem Rd.atT {w : World} {v : Value} {n : Nat} {xs : List Int} (h : Rd w v xs) (hn : xs.length = n) (hp : 0 < n) : ∃ b off k, v = .slice (some ⟨b, off, none⟩) n k ∧ b < w.heap.size ∧ ∀ i, i < n → w.cell? ⟨b, off + i, none⟩ = some (.int .i64 (gI xs i)) := by
  subst hn
  obtain ⟨b, off, cap, he, _, _, hb, hc⟩ := h.cells hp
  exact ⟨b, off, cap, he, hb, hc⟩
end Go.Proofs.YtglghdkjppcedaaDoor

/- The library's contracts of strings.Join and strconv.FormatInt at this program, as the shelf's command lays them. -/
namespace Go.Proofs
def Tryd.lays156_ren : Go.Shelf.Ren := ⟨fun | 156 => 58 | 165 => 63 | 166 => 64 | 169 => 65 | 240 => 74 | 241 => 75 | 276 => 83 | 277 => 84 | n => n, fun | 31 => 56 | 9 => 9 | 3 => 3 | 4 => 4 | 0 => 0 | 20 => 20 | 72 => 86 | 76 => 90 | 70 => 84 | 37 => 22 | 75 => 89 | 127 => 103 | 164 => 111 | 5 => 5 | 80 => 92 | n => n, fun | n => n⟩
theorem Tryd.lays156 : Go.Proofs.Lays.n156 Tryd.prog Tryd.lays156_ren := {
  mixed := by kernel_rfl
  f156 := Tryd.func58.trans (congrArg some (by kernel_rfl))
  f165 := Tryd.func63.trans (congrArg some (by kernel_rfl))
  f166 := Tryd.func64.trans (congrArg some (by kernel_rfl))
  f169 := Tryd.func65.trans (congrArg some (by kernel_rfl))
  f240 := Tryd.func74.trans (congrArg some (by kernel_rfl))
  f241 := Tryd.func75.trans (congrArg some (by kernel_rfl))
  f276 := Tryd.func83.trans (congrArg some (by kernel_rfl))
  f277 := Tryd.func84.trans (congrArg some (by kernel_rfl))
  t0 := Tryd.underlying0
  a0 := Tryd.isAgg0
  z0 := Tryd.sizeOf0
  v0 := Tryd.zeroValue0
  t3 := Tryd.underlying3
  a3 := Tryd.isAgg3
  z3 := Tryd.sizeOf3
  v3 := Tryd.zeroValue3
  t4 := Tryd.underlying4
  a4 := Tryd.isAgg4
  z4 := Tryd.sizeOf4
  v4 := Tryd.zeroValue4
  t9 := Tryd.underlying9
  a9 := Tryd.isAgg9
  z9 := Tryd.sizeOf9
  v9 := Tryd.zeroValue9
  t20 := Tryd.underlying20
  a20 := Tryd.isAgg20
  z20 := Tryd.sizeOf20
  v20 := Tryd.zeroValue20
  t31 := Tryd.underlying56
  a31 := Tryd.isAgg56
  z31 := Tryd.sizeOf56
  v31 := Tryd.zeroValue56
  t37 := Tryd.underlying22
  a37 := Tryd.isAgg22
  z37 := Tryd.sizeOf22
  v37 := Tryd.zeroValue22
  t70 := Tryd.underlying84
  a70 := Tryd.isAgg84
  z70 := Tryd.sizeOf84
  v70 := Tryd.zeroValue84
  t72 := Tryd.underlying86
  a72 := Tryd.isAgg86
  z72 := Tryd.sizeOf86
  v72 := Tryd.zeroValue86
  t75 := Tryd.underlying89
  a75 := Tryd.isAgg89
  z75 := Tryd.sizeOf89
  v75 := Tryd.zeroValue89
  t76 := Tryd.underlying90
  a76 := Tryd.isAgg90
  z76 := Tryd.sizeOf90
  v76 := Tryd.zeroValue90
  t127 := Tryd.underlying103
  a127 := Tryd.isAgg103
  z127 := Tryd.sizeOf103
  v127 := Tryd.zeroValue103
  t164 := Tryd.underlying111
  a164 := Tryd.isAgg111
  z164 := Tryd.sizeOf111
  v164 := Tryd.zeroValue111 }
theorem Tryd.Builder_Extra_156 : Builder.Extra Tryd.prog Tryd.lays156_ren := {
  sizeBuilder := by kernel_rfl
  liesBuilder := by kernel_rfl
  t5 := Tryd.underlying5
  a5 := Tryd.isAgg5
  z5 := Tryd.sizeOf5
  v5 := Tryd.zeroValue5
  infoByte := by kernel_rfl
  cellsByte := by kernel_rfl
  sizeByte := by kernel_rfl
  neB5 := by decide }
open Go.RowKit in
/-- strings.Join: "Join concatenates the elements of its first argument to create a single string. The separator string sep is placed between elements in the resulting string.": HOWEVER MANY ELEMENTS. Below the heap's end the world is as it was. (LAID: no walk: one application.) -/
theorem Tryd.strings_Join (bk o c : Nat) (xs : List ByteArray) (sep : ByteArray) (w : World) (hcells : ∀ (j : Nat) x, xs[j]? = some x → w.cell? ⟨bk, o + j, none⟩ = some (.string x)) (hbk : bk < w.heap.size) (hN : xs.length ≤ 140737488355328) (hcap : xs.length ≤ c) (hlen : (Lib.join (xs.map (·.data.toList)) sep.data.toList).length ≤ 140737488355328) :
    Calls Tryd.prog 58 #[.slice (some ⟨bk, o, none⟩) xs.length c, .string sep] w fun e w' => e = .returned (.string ⟨(Lib.join (xs.map (·.data.toList)) sep.data.toList).toArray⟩) ∧ Below w.heap.size w w' := Any.strings_Join Tryd.lays156 Tryd.Builder_Extra_156 bk o c xs sep w hcells hbk hN hcap hlen
def Tryd.laysM173_ren : Go.Shelf.Ren := ⟨fun | 173 => 57 | 246 => 62 | 283 => 70 | 284 => 71 | 285 => 72 | 286 => 73 | 129 => 79 | 317 => 78 | 318 => 80 | 319 => 81 | 320 => 82 | 337 => 85 | 338 => 86 | n => n, fun | 2 => 2 | 3 => 3 | 9 => 9 | 4 => 4 | 171 => 98 | 0 => 0 | 53 => 66 | 37 => 22 | 5 => 5 | 173 => 101 | 212 => 106 | 51 => 107 | 20 => 20 | 213 => 108 | 46 => 74 | 232 => 115 | 233 => 116 | n => n, fun | 17 => 0 | 18 => 2 | 19 => 3 | n => n⟩
theorem Tryd.laysM173 : Go.Proofs.LaysM.n173 Tryd.prog Tryd.laysM173_ren := {
  mixed := by kernel_rfl
  f129 := Tryd.func79.trans (congrArg some (by kernel_rfl))
  f173 := Tryd.func57.trans (congrArg some (by kernel_rfl))
  f246 := Tryd.func62.trans (congrArg some (by kernel_rfl))
  f283 := Tryd.func70.trans (congrArg some (by kernel_rfl))
  f284 := Tryd.func71.trans (congrArg some (by kernel_rfl))
  f285 := Tryd.func72.trans (congrArg some (by kernel_rfl))
  f286 := Tryd.func73.trans (congrArg some (by kernel_rfl))
  f317 := Tryd.func78.trans (congrArg some (by kernel_rfl))
  f318 := Tryd.func80.trans (congrArg some (by kernel_rfl))
  f319 := Tryd.func81.trans (congrArg some (by kernel_rfl))
  f320 := Tryd.func82.trans (congrArg some (by kernel_rfl))
  f337 := Tryd.func85.trans (congrArg some (by kernel_rfl))
  f338 := Tryd.func86.trans (congrArg some (by kernel_rfl))
  t0 := Tryd.underlying0
  a0 := Tryd.isAgg0
  z0 := Tryd.sizeOf0
  v0 := Tryd.zeroValue0
  t2 := Tryd.underlying2
  a2 := Tryd.isAgg2
  z2 := Tryd.sizeOf2
  v2 := Tryd.zeroValue2
  t3 := Tryd.underlying3
  a3 := Tryd.isAgg3
  z3 := Tryd.sizeOf3
  v3 := Tryd.zeroValue3
  t4 := Tryd.underlying4
  a4 := Tryd.isAgg4
  z4 := Tryd.sizeOf4
  v4 := Tryd.zeroValue4
  t5 := Tryd.underlying5
  a5 := Tryd.isAgg5
  z5 := Tryd.sizeOf5
  v5 := Tryd.zeroValue5
  t9 := Tryd.underlying9
  a9 := Tryd.isAgg9
  z9 := Tryd.sizeOf9
  v9 := Tryd.zeroValue9
  t20 := Tryd.underlying20
  a20 := Tryd.isAgg20
  z20 := Tryd.sizeOf20
  v20 := Tryd.zeroValue20
  t37 := Tryd.underlying22
  a37 := Tryd.isAgg22
  z37 := Tryd.sizeOf22
  v37 := Tryd.zeroValue22
  t46 := Tryd.underlying74
  a46 := Tryd.isAgg74
  z46 := Tryd.sizeOf74
  v46 := Tryd.zeroValue74
  t51 := Tryd.underlying107
  a51 := Tryd.isAgg107
  z51 := Tryd.sizeOf107
  v51 := Tryd.zeroValue107
  t53 := Tryd.underlying66
  a53 := Tryd.isAgg66
  z53 := Tryd.sizeOf66
  v53 := Tryd.zeroValue66
  t171 := Tryd.underlying98
  a171 := Tryd.isAgg98
  z171 := Tryd.sizeOf98
  v171 := Tryd.zeroValue98
  t173 := Tryd.underlying101
  a173 := Tryd.isAgg101
  z173 := Tryd.sizeOf101
  v173 := Tryd.zeroValue101
  t212 := Tryd.underlying106
  a212 := Tryd.isAgg106
  z212 := Tryd.sizeOf106
  v212 := Tryd.zeroValue106
  t213 := Tryd.underlying108
  a213 := Tryd.isAgg108
  z213 := Tryd.sizeOf108
  t232 := Tryd.underlying115
  a232 := Tryd.isAgg115
  z232 := Tryd.sizeOf115
  v232 := Tryd.zeroValue115
  t233 := Tryd.underlying116
  a233 := Tryd.isAgg116
  z233 := Tryd.sizeOf116
  v233 := Tryd.zeroValue116
  g17 := by kernel_rfl
  g18 := by kernel_rfl
  g19 := by kernel_rfl
  i0 := by kernel_rfl
  i2 := by kernel_rfl
  i3 := by kernel_rfl
  i4 := by kernel_rfl
  i5 := by kernel_rfl
  i9 := by kernel_rfl
  i20 := by kernel_rfl
  i37 := by kernel_rfl
  i46 := by kernel_rfl
  i51 := by kernel_rfl
  i53 := by kernel_rfl
  i171 := by kernel_rfl
  i173 := by kernel_rfl
  i212 := by kernel_rfl
  i232 := by kernel_rfl
  i233 := by kernel_rfl
  m17 := by kernel_rfl
  m18 := by kernel_rfl
  m19 := by kernel_rfl }
open Go.RowKit Go.Sort Go.Lib in
/-- strconv.FormatInt: "FormatInt returns the string representation of i in the given base": AT BASE 10: i's decimal numeral, for every int64. (LAID: no walk: one application.) -/
theorem Tryd.strconv_FormatInt_10 (n : Int) (h0 : -9223372036854775808 ≤ n) (h1 : n ≤ 9223372036854775807) (w : World) (htab : Lib.TabIs Tryd.prog w "internal/strconv.uint64pow10" .u64 Lib.pow10Tab) :
    Calls Tryd.prog 57 #[.int .i64 n, .int .i64 10] w fun e w' => e = .returned (.string ⟨(Lib.itoa n).toArray⟩) ∧ ∃ k os, w' = grow (w.drewN k) os := Any.strconv_FormatInt_10 Tryd.laysM173 n h0 h1 w htab
end Go.Proofs

/- Contracts: impl.clusterText, impl.ClusterText, spec.ClusterText. -/
namespace Go.Proofs.YtglghdkjppcedaaDoor
open Go.RowKit

/-- The library's table of powers of ten lies as its initialiser lays it. -/
def Tab (w : World) : Prop := Lib.TabIs Tryd.prog w "internal/strconv.uint64pow10" .u64 Lib.pow10Tab
theorem tabG : (Tryd.prog.globalNamed "internal/strconv.uint64pow10").isSome = true := by kernel_rfl
/-- The condition's fact, the table alone on the list. -/
theorem tab_head {W : World} {d : DataW Unit} (h : laidMet Tryd.prog [("internal/strconv.uint64pow10", d)] W) (hd : d = Lib.tabData .u64 Lib.pow10Tab) : Tab W := by
  subst hd
  exact Lib.tabIs_of_head (g := 0) (t := 106) (e := 66) (n := 20) (by kernel_rfl) (by kernel_rfl) (by kernel_rfl) (by kernel_rfl) (by kernel_rfl) (by kernel_rfl) h
theorem Tab.below {w w' : World} {B : Nat} (h : Tab w) (hb : Below B w w') (hB : w.heap.size ≤ B) : Tab w' := by
  obtain ⟨g, hg⟩ := Option.isSome_iff_exists.1 tabG
  exact Joins.tab_stays hg h hb hB
theorem dec_eq : ∀ (k u : Nat), u ≤ k → Lib.decDigits u = decL u := by
  intro k
  induction k with
  | zero =>
    intro u hu
    have : u = 0 := by omega
    subst this
    rw [decL_lt (by decide), Lib.decDigits, dif_pos (by decide)]
  | succ k ih =>
    intro u hu
    by_cases h : u < 10
    · rw [decL_lt h, Lib.decDigits, dif_pos h]
    · rw [decL_ge h, Lib.decDigits, dif_neg h, ih _ (by omega)]
theorem itoa_sgn (n : Int) : Lib.itoa n = sgnL n := by
  unfold Lib.itoa
  by_cases h : n < 0
  · rw [if_pos h, sgnL_neg h, dec_eq _ _ (Nat.le_refl _), show n.natAbs = (-n).toNat by omega]
  · rw [if_neg h, sgnL_nn h, dec_eq _ _ (Nat.le_refl _)]
theorem joinTail_L (c : UInt8) : ∀ (r : List (List UInt8)), r ≠ [] → Lib.joinTail [c] r = c :: joinL c r := by
  intro r
  induction r with
  | nil => intro h; exact absurd rfl h
  | cons x r ih =>
    intro _
    cases r with
    | nil => simp [Lib.joinTail, joinL]
    | cons y r =>
      have h2 := ih (by simp)
      rw [join_cons (by simp)]
      simp only [Lib.joinTail, List.map_cons, List.flatten_cons] at h2 ⊢
      rw [h2]; rfl
theorem join_eq (c : UInt8) (xs : List (List UInt8)) : Lib.join xs [c] = joinL c xs := by
  cases xs with
  | nil => rfl
  | cons x r =>
    rw [Lib.join_cons]
    cases r with
    | nil => simp [Lib.joinTail, joinL]
    | cons y r => rw [joinTail_L c (y :: r) (by simp)]; rfl
theorem joinL_bd (c : UInt8) (m : Nat) : ∀ xs : List (List UInt8), (∀ x ∈ xs, x.length ≤ m) → (joinL c xs).length ≤ (m + 1) * xs.length := by
  intro xs
  induction xs with
  | nil => intro _; simp [joinL]
  | cons x r ih =>
    intro h
    have h1 := h x (by simp)
    have h2 := ih (fun y hy => h y (by simp [hy]))
    cases r with
    | nil => simp [joinL]; omega
    | cons y r =>
      rw [join_cons (by simp), List.length_append, List.length_cons, List.length_cons, Nat.mul_succ]
      omega
theorem sgn_bytes {n : Int} (h0 : -1000000000 < n) (h1 : n < 1000000000) {s : ByteArray} (h : lB s = sgnL n) : s.size ≤ 10 := by
  rw [← lB_len, h]
  by_cases hn : n < 0
  · rw [sgnL_neg hn]
    have := decL_len 8 (-n).toNat (by omega)
    simp; omega
  · rw [sgnL_nn hn]
    have := decL_len 8 n.toNat (by omega)
    omega
theorem decimal_c (n : Int) (w : World) (h0 : -1000000000 < n) (h1 : n < 1000000000) (ht : Tab w) :
    Calls Tryd.prog 47 #[.int .i64 n] w (RetS w (sgnL n)) := by
  go_enter Tryd.func47, Tryd.ntmps47
  go_wp2_with fail
  refine (Tryd.strconv_FormatInt_10 n (by omega) (by omega) _ ht).mono ?_
  rintro e w1 ⟨rfl, hg⟩
  have hb : Below w.heap.size w w1 := by
    obtain ⟨k, os, rfl⟩ := hg
    exact Lib.below_grow _ w (Nat.le_refl _) k os
  have HR : Hid (RetS w (sgnL n) (.returned (.string ⟨(Lib.itoa n).toArray⟩)) w1) := Lib.hid ⟨_, rfl, by rw [← itoa_sgn]; simp [lB], hb⟩
  clear hg hb
  go_wp2
  go_ret
  exact HR.out
end Go.Proofs.YtglghdkjppcedaaDoor
