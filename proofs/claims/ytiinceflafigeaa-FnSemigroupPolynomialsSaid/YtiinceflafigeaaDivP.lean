/- Contract: spec.l03Divisors. -/
import Derived.Test.YtiinceflafigeaaL03Is
import Derived.Test.YtiinceflafigeaaPath
import Derived.Deep.RegionLaw
import Derived.Deep.DeepCutAuto
import Derived.Test.YtiinceflafigeaaOrdPure
import Derived.Deep.OwnRows
namespace Go.Proofs.Ytiinceflafigeaa
open Go.RowKit

set_option maxRecDepth 100000 in
set_option maxHeartbeats 4000000 in
theorem l03Divisors_c (v : Value) (T : List Int) (w : World) (h : Rd w v T) (hp : 0 < T.length) (hn : T.length ≤ 1000) (h0 : ∀ i, i < T.length → 1 ≤ gI T i ∧ gI T i ≤ 1000000000000) :
    Calls Try.prog 139 #[.agg #[v]] w (RetI w (eTo T T.length)) := by
  obtain ⟨i0, hi, hz0, hz1, hz2⟩ := info_parts Try.infoI
  have hx := Boxed.start w 26 #[v]
  obtain ⟨b, off, cap, rfl, hc1, hc2, hb, hc⟩ := h.cells hp
  have d0 : (w.alloc (.cells #[.slice (some ⟨b, off, none⟩) T.length cap] 26)).cell? ⟨b, off, none⟩ = some (.int .i64 (gI T 0)) := by
    rw [hx.below.cell (p := ⟨b, off, none⟩) hb]; exact hc 0 hp
  have hT0 : 0 < gI T 0 := by have := h0 0 hp; omega
  have hT1 : gI T 0 ≤ 1000000000000 := by have := h0 0 hp; omega
  go_enter Try.func139, Try.ntmps139
  have q0 := hx.cell 0
  have hlp : (0 : Int) < (T.length : Int) := by omega
  go_wp2_with fail
  have hlit := own_one (e := 2) (w.alloc (.cells #[.slice (some ⟨b, off, none⟩) T.length cap] 26)) (w.heap.size + 1) (by simp) (gI T 0)
  have hx1 := hx.alloc (.cells #[.int .i64 (gI T 0)] 2)
  clear d0 q0
  go_loopw [3, 4] (fun v i wr => ∃ k : Nat, 1 ≤ k ∧ k ≤ T.length ∧ i = .int .i64 k ∧ (∃ g c, v = .slice (some ⟨g, 0, none⟩) k c ∧ OwnI wr (w.heap.size + 1) v (eTo T k)) ∧ Boxed w wr 26 #[.slice (some ⟨b, off, none⟩) T.length cap]) (fun _ i _ => T.length - (intOf i).toNat)
  case atStart => exact ⟨1, Nat.le_refl _, by omega, rfl, ⟨_, _, rfl, by simpa [eTo, eI] using hlit⟩, hx1⟩
  case round =>
    clear hlit hx1
    obtain ⟨k, hk1, hk, rfl, ⟨g, c, rfl, hown⟩, hbx⟩ := hrel
    obtain ⟨wo, rfl⟩ : ∃ wo : World, wo = wr := ⟨_, rfl⟩
    have q0 := hbx.cell 0
    by_cases hlt : k < T.length
    · have hown' : OwnI wo (w.heap.size + 1) (.slice (some ⟨g, 0, none⟩) (eTo T k).length c) (eTo T k) := by rw [eTo_len]; exact hown
      have hcl := hown'.cell (k - 1) (by simp; omega)
      rw [gI_eTo (by omega)] at hcl
      obtain ⟨j, rfl⟩ : ∃ j, k = j + 1 := ⟨k - 1, by omega⟩
      rw [Nat.add_sub_cancel] at hcl
      have dT : wo.cell? ⟨b, off + (j + 1), none⟩ = some (.int .i64 (gI T (j + 1))) := by rw [hbx.below.cell (p := ⟨b, off + (j + 1), none⟩) hb]; exact hc _ hlt
      have hE := eI_pos hT0 j
      have hE2 := eI_le0 hT0 j
      have hTj := h0 (j + 1) hlt
      have HY := Lib.hid (eTo_succ T (j + 1))
      have HG := Lib.hid (eI_succ T j)
      have hsz := hbx.size
      have hbb : b < wo.heap.size := by omega
      have hgs := (hown.block g rfl).2
      have hgl := (hown.block g rfl).1
      have hj1 : ((j + 1 : Nat) : Int) < (T.length : Int) := by omega
      have hj2 : (j : Int) < ((j + 1 : Nat) : Int) := by omega
      have hj3 : (0 : Int) ≤ (j : Int) := by omega
      have wj : IntKind.i64.wrap (j : Int) = (j : Int) := IntWalk.i64_in _ (by omega)
      have hj4 : (j : Int) + 1 < (T.length : Int) := by omega
      have hj5 : (j : Int) < (j : Int) + 1 := by omega
      have hj6 : (0 : Int) ≤ (j : Int) + 1 := by omega
      have hj7 : ((j : Int) + 1).toNat = j + 1 := by omega
      clear hown'
      generalize gI T (j + 1) = y at dT hTj HG
      generalize eI T j = x at hcl hE hE2 HG
      have hal : Below wo.heap.size wo ((wo.alloc (.cells #[.int .i64 (gcdI x y)] 2)).drew) := ((Below.refl _ _).alloc (Nat.le_refl _) _).drew
      have hO := hown.below hal (Nat.le_refl _)
      have hbx' := hbx.trans hal
      go_wp2_with fail
      go_region_law (first | (refine step_push rfl (.tmp 17) (.tmp 29) 24 rfl (w.heap.size + 1) 2 i0 Try.underlying24 hi hz0 hz1 hz2 (.slice (some ⟨g, 0, none⟩) (j + 1) c) (eTo T (j + 1)) (gcdI x y) wo.heap.size rfl hO rfl (Blk.new wo _ _) (by simp; omega) (by simp; omega) ?_; intro g2 cap2 w2 h1 h2 h3 h4) | (go_simp; go_at_call 159; refine (l01Gcd_c _ _ _ (by omega) (by omega) (by omega) (by omega)).mono ?_; rintro e w1 ⟨rfl, rfl⟩))
      all_goals
        have hbx2 := hbx'.wrote (h2.mono (fun k hk => by simp [Value.ownBlock] at hk; omega))
        rw [← HG.out, ← HY.out, eTo_len] at h1
        clear h2 h3 h4 hO
        go_wp2
        go_roundw
        case rel => exact ⟨j + 1 + 1, by omega, by omega, by go_num, ⟨g2, cap2, rfl, h1⟩, hbx2⟩
        case measure => simp [intOf]; omega
    · go_wp2
      have hk' : k = T.length := by omega
      subst hk'
      go_ret
      exact retI_mk (hown.base_le (by omega)) hbx.below
end Go.Proofs.Ytiinceflafigeaa

/- Contract: spec.l03Divisors, where its list lies; lists that were made. -/
namespace Go.Proofs.Ytiinceflafigeaa
open Go.RowKit

theorem own_of_blk {e : TypeId} {w : World} {g n base : Nat} {cs : Array Value} {xs : List Int} (h : Blk w g e cs) (hn : cs.size = n) (hx : xs.length = n) (hb : base ≤ g) (hm : n ≤ maxLen) (hc : ∀ i, i < n → w.cell? ⟨g, i, none⟩ = some (.int .i64 (gI xs i))) : Own e w base (.slice (some ⟨g, 0, none⟩) n n) xs := by
  subst hx
  refine ⟨by simp, .inr ⟨g, xs.length, cs, rfl, hb, h, Nat.le_refl _, hm, by omega, ?_⟩⟩
  rw [Nat.mul_one, List.take_of_length_le (by simp; omega)]
  apply List.ext_getElem
  · simp; omega
  · intro i h1 h2
    have h3 : i < xs.length := by simpa using h2
    have h4 := hc i h3
    rw [h.cell, Array.getElem?_eq_getElem (by omega)] at h4
    injection h4 with h4
    simp [h4, gI_lt h3]
theorem size_made (z : Value) (N : Nat) : (madeCells #[z] N).size = N := by simp [madeCells]
theorem divisorsS_p (v : Value) (T : List Int) (w : World) (h : Rd w v T) (hok : BraOk T) :
    Calls Try.prog 139 #[.agg #[v]] w fun e w' => ∃ g c, e = .returned (.slice (some ⟨g, 0, none⟩) T.length c) ∧ OwnI w' w.heap.size (.slice (some ⟨g, 0, none⟩) T.length c) (eTo T T.length) ∧ Below w.heap.size w w' := by
  have hl := bra_len hok
  refine (l03Divisors_c v T w h hok.len (by omega) (fun i hi => by have := hok.num i hi; omega)).mono ?_
  rintro e w1 ⟨ge, ke, rfl, ho, hb1⟩
  obtain ⟨g, c, hge, h1⟩ := Own.pos ho (by have := hok.len; simp; omega)
  rw [hge] at ho ⊢
  rw [eTo_len] at ho ⊢
  exact ⟨g, c, rfl, ho, hb1⟩
theorem ownI_made {e : TypeId} {w : World} {base g n : Nat} (h : Blk w g e (madeCells #[.int .i64 0] n)) (hb : base ≤ g) (hn : n ≤ maxLen) : Own e w base (.slice (some ⟨g, 0, none⟩) n n) (List.replicate n 0) := by
  refine own_of_blk h (size_made _ _) (by simp) hb hn (fun i hi => ?_)
  rw [h.cell, gI_rep hi]
  simp [madeCells, hi, Nat.mod_one]
end Go.Proofs.Ytiinceflafigeaa
