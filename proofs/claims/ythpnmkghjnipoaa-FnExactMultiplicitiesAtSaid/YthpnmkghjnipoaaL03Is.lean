/- Contract: spec.l03Is. -/
import Derived.Test.YthpnmkghjnipoaaIsBra
namespace Go.Proofs.Ythpnmkghjnipoaa
open Go.RowKit

theorem bra_first {T : List Int} (h : inB (gI T 0) 1 64 = false) : braB T = false := by rw [braB_eq rfl h rfl rfl rfl, Bool.false_and, Bool.and_false]
theorem bra_step {T : List Int} {k : Nat} (hk : k + 1 < T.length) (h : inB (gI T (k + 1)) (gI T k + 1) 2000 = false) : braB T = false := by
  cases c : braB T
  · rfl
  · have hb := braB_iff.1 c
    have h1 := hb.asc k hk
    have h2 := hb.num (k + 1) hk
    have h3 : inB (gI T (k + 1)) (gI T k + 1) 2000 = true := inB_iff.2 ⟨by omega, h2.2⟩
    rw [h] at h3; cases h3
theorem bra_gcd {T : List Int} {k : Nat} (hk : k + 1 < T.length) (h : eI T (k + 1) = eI T k) : braB T = false := by
  cases c : braB T
  · rfl
  · have := (braB_iff.1 c).fall k hk; omega

theorem Drew.cell {w w' : World} (h : Drew w w') (p : Addr) : w'.cell? p = w.cell? p := by
  obtain ⟨n, rfl⟩ := h; rfl

/-- The first k steps are good. -/
def braTo (T : List Int) (k : Nat) : Prop := ∀ i, i < k → inB (gI T (i + 1)) (gI T i + 1) 2000 = true ∧ eI T (i + 1) ≠ eI T i
theorem braTo_end {T : List Int} (hp : 0 < T.length) (h0 : inB (gI T 0) 1 64 = true) (h : braTo T (T.length - 1)) : braB T = decide (eI T (T.length - 1) = 1) := by
  have h0' := inB_iff.1 h0
  have hs : ∀ i, i + 1 < T.length → (gI T i < gI T (i + 1) ∧ gI T (i + 1) ≤ 2000) ∧ eI T (i + 1) < eI T i := by
    intro i hi
    obtain ⟨h1, h2⟩ := h i (by omega)
    have h3 := inB_iff.1 h1
    have h4 := eI_step_le (T := T) (by omega) i
    omega
  have hn : ∀ i, i < T.length → 1 ≤ gI T i ∧ gI T i ≤ 2000 := by
    intro i
    induction i with
    | zero => intro _; omega
    | succ i ih => intro hi; have := ih (by omega); have := hs i hi; omega
  by_cases e : eI T (T.length - 1) = 1
  · rw [braB_iff.2 ⟨hp, h0', fun i hi => (hs i hi).1.1, hn, fun i hi => (hs i hi).2, e⟩]; simp [e]
  · cases c : braB T
    · simp [e]
    · exact absurd (braB_iff.1 c).last e
theorem braTo_num {T : List Int} (h0 : inB (gI T 0) 1 64 = true) {k : Nat} (h : braTo T k) : 1 ≤ gI T k ∧ gI T k ≤ 2000 := by
  have h0' := inB_iff.1 h0
  induction k with
  | zero => omega
  | succ k ih =>
    have h1 := ih (fun i hi => h i (by omega))
    have h2 := inB_iff.1 (h k (by omega)).1
    omega

set_option maxRecDepth 100000 in
set_option maxHeartbeats 4000000 in
theorem l03Is_c (v : Value) (T : List Int) (w : World) (h : Rd w v T) :
    Calls Try.prog 76 #[.agg #[v]] w fun e w' => e = .returned (.bool (braB T)) ∧ Below w.heap.size w w' := by
  have hx := Boxed.start w 28 #[v]
  by_cases hp : 0 < T.length
  · obtain ⟨b, off, cap, rfl, hc1, hc2, hb, hc⟩ := h.cells hp
    have hcb : ∀ i, i < T.length → (w.alloc (.cells #[.slice (some ⟨b, off, none⟩) T.length cap] 28)).cell? ⟨b, off + i, none⟩ = some (.int .i64 (gI T i)) := fun i hi => by
      rw [hx.below.cell (p := ⟨b, off + i, none⟩) hb]; exact hc i hi
    have d0 : (w.alloc (.cells #[.slice (some ⟨b, off, none⟩) T.length cap] 28)).cell? ⟨b, off, none⟩ = some (.int .i64 (gI T 0)) := hcb 0 hp
    have q0 := hx.cell 0
    have hlen : ((T.length : Int) == 0) = false := beq_false_of_ne (by omega)
    have hlp : (0 : Int) < (T.length : Int) := by omega
    clear hc
    cases h2 : inB (gI T 0) 1 64
    · rw [bra_first h2]
      go_enter Try.func76, Try.ntmps76
      go_wp2_with fail
      refine (l01In_c _ _ _ _).mono ?_
      rintro e w1 ⟨rfl, rfl⟩
      rw [h2]
      go_wp2
      go_ret
      exact ⟨rfl, hx.below⟩
    · have h2' := inB_iff.1 h2
      have he0 : 0 < gI T 0 := by omega
      go_enter Try.func76, Try.ntmps76
      go_wp2_with fail
      refine (l01In_c _ _ _ _).mono ?_
      rintro e w1 ⟨rfl, rfl⟩
      rw [h2]
      go_wp2_with fail
      generalize hw0 : w.alloc (.cells #[.slice (some ⟨b, off, none⟩) T.length cap] 28) = w0 at hcb d0 q0 hx ⊢
      go_loopw [4, 5, 6] (fun e i _ wr => ∃ k : Nat, k < T.length ∧ i = .int .i64 ((k : Int) + 1) ∧ e = .int .i64 (eI T k) ∧ braTo T k ∧ Drew w0 wr) (fun _ i _ _ => T.length - (intOf i).toNat)
      case atStart => exact ⟨0, hp, rfl, rfl, fun i hi => by omega, Drew.refl _⟩
      case round =>
        obtain ⟨k, hk, rfl, rfl, hto, hd⟩ := hrel
        obtain ⟨wo, rfl⟩ : ∃ wo : World, wo = wr := ⟨_, rfl⟩
        clear d0 q0 hlp
        by_cases hlt : k + 1 < T.length
        · have c1 := (hd.cell _).trans (hcb (k + 1) hlt)
          have ck := (hd.cell _).trans (hcb k hk)
          have hk1 : (k : Int) + 1 < (T.length : Int) := by omega
          have hk2 : (k : Int) < (T.length : Int) := by omega
          have h01 : (0 : Int) ≤ (k : Int) + 1 := by omega
          have h00 : (0 : Int) ≤ (k : Int) := by omega
          have e1 : ((k : Int) + 1).toNat = k + 1 := by omega
          have e2 : (k : Int) + 1 - 1 = (k : Int) := by omega
          have hnum := braTo_num h2 hto
          have hE := eI_pos he0 k
          have hE2 := eI_le0 he0 k
          have HN := Lib.hid (@bra_step T k hlt)
          have HG := Lib.hid (@bra_gcd T k hlt)
          have HE := Lib.hid (eI_succ T k)
          have HT : Hid (inB (gI T (k + 1)) (gI T k + 1) 2000 = true → eI T (k + 1) ≠ eI T k → braTo T (k + 1)) := Lib.hid (fun a1 a2 i hi => by
            by_cases e : i = k
            · subst e; exact ⟨a1, a2⟩
            · exact hto i (by omega))
          have wk : IntKind.i64.wrap (k : Int) = k := IntWalk.i64_in _ (by omega)
          clear hto hcb
          generalize gI T (k + 1) = y at c1 HN HE HT
          generalize gI T k = x at ck hnum HN HT
          generalize eI T k = e at hE hE2 HG HE HT
          have wx : IntKind.i64.wrap (x + 1) = x + 1 := IntWalk.i64_in _ (by omega)
          cases hin : inB y (x + 1) 2000
          · have HF := Lib.hid (HN.out hin)
            clear HN HG HE HT
            go_wp2_with fail
            go_quiet ((go_at_call 77; exact quiet_eq ((l01In_c _ _ _ _).mono fun e w' ⟨he, hw'⟩ => ⟨by rw [he, hin], hw'⟩)))
            go_wp2
            go_ret
            exact ⟨ret_bool HF.out.symm, hx.below.trans ((hd.trans (by first | exact Drew.refl _ | exact Drew.one _ _ | exact Drew.two _ _ _)).below _)⟩
          · have hin' := inB_iff.1 hin
            by_cases hee : gcdI e y = e
            · have HF := Lib.hid (HG.out (HE.out.trans hee))
              clear HN HG HE HT
              go_wp2_with fail
              go_quiet ((go_at_call 77; exact quiet_eq ((l01In_c _ _ _ _).mono fun e w' ⟨he, hw'⟩ => ⟨by rw [he, hin], hw'⟩)))
              go_wp2_with fail
              refine (l01Gcd_c e y _ (by omega) (by omega) (by omega) (by omega)).mono ?_
              rintro e' w2 ⟨rfl, rfl⟩
              rw [hee]
              go_wp2
              go_ret
              exact ⟨ret_bool HF.out.symm, hx.below.trans ((hd.trans (by first | exact Drew.refl _ | exact Drew.one _ _ | exact Drew.two _ _ _)).below _)⟩
            · have HA := Lib.hid (HT.out hin (by rw [HE.out]; exact hee))
              have HE' := Lib.hid HE.out.symm
              clear HN HG HE HT
              go_wp2_with fail
              go_quiet ((go_at_call 77; exact quiet_eq ((l01In_c _ _ _ _).mono fun e w' ⟨he, hw'⟩ => ⟨by rw [he, hin], hw'⟩)))
              go_wp2_with fail
              refine (l01Gcd_c e y _ (by omega) (by omega) (by omega) (by omega)).mono ?_
              rintro e1 w2 ⟨rfl, rfl⟩
              generalize gcdI e y = g at hee HE'
              go_wp2
              go_roundw
              case rel => exact ⟨k + 1, by omega, by go_num, by rw [HE'.out], HA.out, hd.trans (by first | exact Drew.refl _ | exact Drew.one _ _ | exact Drew.two _ _ _)⟩
              case measure => simp [intOf]; omega
        · have hk' : T.length - 1 = k := by omega
          rw [← hk'] at hto
          have HA := Lib.hid (braTo_end hp h2 hto)
          rw [hk'] at HA
          have hk1 : (T.length : Int) ≤ (k : Int) + 1 := by omega
          clear hto hk'
          generalize eI T k = z at HA
          go_wp2
          go_ret
          exact ⟨ret_bool HA.out.symm, hx.below.trans ((hd.trans (by first | exact Drew.refl _ | exact Drew.one _ _ | exact Drew.two _ _ _)).below _)⟩
  · obtain ⟨a, k, rfl⟩ := h.len0
    have hlen : (T.length : Int) = 0 := by omega
    have hT : T = [] := List.eq_nil_of_length_eq_zero (by omega)
    subst hT
    rw [braB_nil hp]
    go_enter Try.func76, Try.ntmps76
    have q0 := hx.cell 0
    go_wp2
    go_ret
    exact ⟨rfl, hx.below⟩
end Go.Proofs.Ythpnmkghjnipoaa
