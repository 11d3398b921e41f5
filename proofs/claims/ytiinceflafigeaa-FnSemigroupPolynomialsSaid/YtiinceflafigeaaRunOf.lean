/- Contract: impl.runOf. -/
import Derived.Test.YtiinceflafigeaaSteps
import Derived.Test.YtiinceflafigeaaPushS
namespace Go.Proofs.Ytiinceflafigeaa
open Go.RowKit

/-- What was there first may have been written in M alone; later blocks do not count. -/
theorem Keeps.join {M N : Nat → Prop} {a b c : World} (h : Keeps M a b) (h' : Keeps N b c) (hMN : ∀ k, k < a.heap.size → N k → M k) : Keeps M a c :=
  ⟨h'.os.trans h.os, h'.tape.trans h.tape, h'.output.trans h.output, Nat.le_trans h.size h'.size, fun k hk hn => (h'.block k (Nat.lt_of_lt_of_le hk h.size) (fun e => hn (hMN k hk e))).trans (h.block k hk hn)⟩
theorem gR_rowsOf {R : List (Int × Int)} {i : Nat} (h : i < R.length) : gR (rowsOf R) i = [(R.getD i (0, 0)).1, (R.getD i (0, 0)).2] := by
  rw [gR_lt (by simpa using h)]
  simp [rowsOf, List.getD, h]
/-- The numbers of the first m steps. -/
def flatTo (R : List (Int × Int)) (m : Nat) : List Int := flat (R.take m)
theorem flatTo_zero (R : List (Int × Int)) : flatTo R 0 = [] := rfl
theorem flatTo_all (R : List (Int × Int)) : flatTo R R.length = flat R := by unfold flatTo; rw [List.take_length]
theorem flatTo_succ {R : List (Int × Int)} {m : Nat} (h : m < R.length) : flatTo R (m + 1) = flatTo R m ++ List.replicate (R.getD m (0, 0)).1.toNat (R.getD m (0, 0)).2 := by
  unfold flatTo
  rw [List.take_succ_eq_append_getElem h, flat_app, flat_cons, flat_nil, List.append_nil]
  simp [rep, List.getD, h]
theorem flat_len_le (R : List (Int × Int)) (B : Nat) (h : ∀ s, s ∈ R → s.1.toNat ≤ B) : (flat R).length ≤ R.length * B := by
  induction R with
  | nil => simp [flat]
  | cons s R ih =>
    rw [flat_cons, List.length_append, List.length_cons, Nat.succ_mul]
    have h1 := ih (fun x hx => h x (List.mem_cons_of_mem _ hx))
    have h2 := h s (List.mem_cons_self ..)
    simp [rep]; omega
theorem flatTo_len_le (R : List (Int × Int)) (B m : Nat) (h : ∀ s, s ∈ R → s.1.toNat ≤ B) : (flatTo R m).length ≤ R.length * B := by
  have h1 := flat_len_le (R.take m) B (fun s hs => h s (List.mem_of_mem_take hs))
  have h2 : (R.take m).length ≤ R.length := by simp; omega
  exact Nat.le_trans h1 (Nat.mul_le_mul_right B h2)
/-- The steps are small. -/
theorem stp_bd : ∀ n (a b : Int), 0 ≤ a → a ≤ 100000 → b ≤ 100000 → ∀ s, s ∈ stp n a b → 0 ≤ s.1 ∧ s.1 ≤ 100000 ∧ 0 < s.2 ∧ s.2 ≤ 100000 := by
  intro n
  induction n with
  | zero => intro a b _ _ _ s hs; simp [stp] at hs
  | succ n ih =>
    intro a b h1 h2 h3 s hs
    rw [stp_succ] at hs
    by_cases hb : 0 < b
    · rw [if_pos hb] at hs
      have hq0 : 0 ≤ a / b := Int.ediv_nonneg h1 (by omega)
      have hq1 : a / b ≤ a := Int.ediv_le_self _ h1
      have hm0 := Int.emod_nonneg a (show b ≠ 0 by omega)
      have hm1 := Int.emod_lt_of_pos a hb
      rcases List.mem_cons.1 hs with rfl | hs
      · exact ⟨hq0, by omega, hb, h3⟩
      · exact ih b (a % b) (by omega) h3 (by omega) s hs
    · rw [if_neg hb] at hs; simp at hs

set_option maxRecDepth 100000 in
set_option maxHeartbeats 4000000 in
theorem runOf_c (v : Value) (xs : List Int) (a b : Int) (base : Nat) (w : World) (h : OwnI w base v xs) (hb0 : base ≤ w.heap.size) (hxl : xs.length ≤ 1000000000) (ha : 0 ≤ a) (ha2 : a ≤ 100000) (hb : 0 ≤ b) (hb2 : b ≤ 1000) :
    Calls Try.prog 198 #[v, .int .i64 a, .int .i64 b] w fun e w' => ∃ v', e = .returned v' ∧ OwnI w' base v' (xs ++ flat (stB a b)) ∧ Keeps (fun k => v.ownBlock = some k) w w' ∧ (∀ g, v'.ownBlock = some g → v.ownBlock = some g ∨ w.heap.size ≤ g) := by
  obtain ⟨i0, hi, hz0, hz1, hz2⟩ := info_parts Try.infoI
  obtain ⟨av, cv, rfl⟩ := h.form
  have hsl := stB_len a b
  have hsb := stp_bd b.toNat a b ha ha2 (by omega)
  have hfl : ∀ m, (flatTo (stB a b) m).length ≤ 100000000 := fun m => by
    have h1 := flatTo_len_le (stB a b) 100000 m (fun s hs => by have := hsb s hs; omega)
    have h2 := Nat.mul_le_mul_right 100000 (show (stB a b).length ≤ 1000 by omega)
    omega
  go_enter Try.func198, Try.ntmps198
  go_wp2_with fail
  refine (steps_c a b _ ha ha2 hb (by omega)).mono ?_
  rintro e w1 ⟨ar, kr, V, rfl, hM, hb1⟩
  rw [rowsOf_len] at hM ⊢
  have hO1 := h.below hb1 (Nat.le_refl _)
  have hsz := hb1.size
  have hgb := h.block
  have hFA := Lib.hid (flatTo_all (stB a b))
  have hF0 := Lib.hid (flatTo_zero (stB a b))
  have hFS := Lib.hid (fun m (hm : m < (stB a b).length) => flatTo_succ hm)
  have hRS := Lib.hid (fun m (hm : m < (stB a b).length) => gR_rowsOf hm)
  have hSB := Lib.hid (fun m (hm : m < (stB a b).length) => hsb ((stB a b).getD m (0, 0)) (by simp [List.getD, hm]; exact List.getElem_mem hm))
  have hML := hM
  generalize hgR : stB a b = R at *
  have HGR := Lib.hid hgR
  clear hgR hsb
  have hblk := hML.block
  clear h
  go_wp2_with fail
  go_loopw [0, 8, 9, 14] (fun lv _ _ iv wr => ∃ m : Nat, m ≤ R.length ∧ iv = .int .i64 m ∧ OwnI wr base lv (xs ++ flatTo R m) ∧ Keeps (fun k => (Value.slice av xs.length cv).ownBlock = some k) w1 wr ∧ (∀ g, lv.ownBlock = some g → (Value.slice av xs.length cv).ownBlock = some g ∨ w1.heap.size ≤ g)) (fun _ _ _ iv _ => R.length - (intOf iv).toNat)
  case atStart => exact ⟨0, Nat.zero_le _, rfl, by rw [hF0.out, List.append_nil]; exact hO1, Keeps.refl _ _, fun g hg => .inl hg⟩
  case round =>
    obtain ⟨m, hm, rfl, hO, hkp, hlies⟩ := hrel
    clear hO1
    obtain ⟨wo, rfl⟩ : ∃ wo : World, wo = wr := ⟨_, rfl⟩
    have hm0 : (0 : Int) ≤ (m : Int) := Int.natCast_nonneg _
    by_cases hlt : m < R.length
    · have hmi : (m : Int) < (R.length : Int) := by omega
      obtain ⟨bq, hbq, hbql, hcq⟩ : ∃ bq, ar = some ⟨bq, 0, none⟩ ∧ (w.heap.size ≤ bq ∧ bq < w1.heap.size) ∧ w1.cell? ⟨bq, m, none⟩ = some (V m) := by
        rcases hML.shape with ⟨_, he⟩ | ⟨g, cap, he, h1, h2, _, _, h5⟩
        · have := congrArg List.length he; rw [rowsOf_len, List.length_nil] at this; omega
        · injection he with he1 _ _
          exact ⟨g, he1, ⟨h1, h2⟩, h5 m (by simpa using hlt)⟩
      subst hbq
      have hrow := hML.row m (by simpa using hlt)
      rw [hRS.out m hlt] at hrow
      have hsb := hSB.out m hlt
      have HS := Lib.hid (hFS.out m hlt)
      obtain ⟨bu, cu, hVe, hbu1, hbu2, _, _⟩ := Own.pos hrow (by simp)
      rw [hVe] at hrow hcq
      have du0 := Own.cell hrow 0 (by simp)
      have du1 := Own.cell hrow 1 (by simp)
      have g0 : gI [(R.getD m (0, 0)).1, (R.getD m (0, 0)).2] 0 = (R.getD m (0, 0)).1 := rfl
      have g1 : gI [(R.getD m (0, 0)).1, (R.getD m (0, 0)).2] 1 = (R.getD m (0, 0)).2 := rfl
      rw [g0] at du0
      rw [g1] at du1
      have hl2 : [(R.getD m (0, 0)).1, (R.getD m (0, 0)).2].length = 2 := rfl
      rw [hl2] at hcq
      clear g0 g1 hl2 hrow hVe
      generalize (R.getD m (0, 0)).1 = q at *
      generalize (R.getD m (0, 0)).2 = r at *
      have nb : ∀ b, w.heap.size ≤ b → ¬ (Value.slice av xs.length cv).ownBlock = some b := fun b h1 h2 => by have := hgb b h2; omega
      have dq := (hkp.cell (p := ⟨bq, m, none⟩) hbql.2 (nb bq hbql.1)).trans hcq
      have HNB := Lib.hid nb
      go_wp2_with fail
      go_loopw [0, 9] (fun lv iv wr => ∃ c : Nat, (c : Int) ≤ q ∧ iv = .int .i64 c ∧ OwnI wr base lv (xs ++ flatTo R m ++ List.replicate c r) ∧ Keeps (fun k => (Value.slice av xs.length cv).ownBlock = some k) w1 wr ∧ (∀ g, lv.ownBlock = some g → (Value.slice av xs.length cv).ownBlock = some g ∨ w1.heap.size ≤ g)) (fun _ iv _ => q.toNat - (intOf iv).toNat)
      case atStart => exact ⟨0, by simp; omega, rfl, by simpa using hO, hkp, hlies⟩
      case round =>
        obtain ⟨c, hc, rfl, hO2, hkp2, hlies2⟩ := hrel
        clear hO dq
        obtain ⟨wi, rfl⟩ : ∃ wi : World, wi = wr := ⟨_, rfl⟩
        have d0 := (hkp2.cell (p := ⟨bu, 0, none⟩) hbu2 (HNB.out bu hbu1)).trans du0
        have d1 := (hkp2.cell (p := ⟨bu, 1, none⟩) hbu2 (HNB.out bu hbu1)).trans du1
        by_cases hct : (c : Int) < q
        · have hsz2 := hkp2.size
          have hll : (xs ++ flatTo R m ++ List.replicate c r).length ≤ 1000000000000 := by have := hfl m; simp; omega
          have HY : Hid (xs ++ flatTo R m ++ List.replicate (c + 1) r = xs ++ flatTo R m ++ List.replicate c r ++ [r]) := Lib.hid (by rw [List.replicate_succ', ← List.append_assoc])
          have hbs : base ≤ wi.heap.size := by omega
          have HH2 := Lib.hid hlies2
          clear hlies2 du0 du1 hkp hlies nb
          generalize xs ++ flatTo R m ++ List.replicate c r = L at *
          go_wp2_with (at_builtin; refine wpList_pushL rfl (.tmp 25) (.tmp 29) 24 rfl base 2 i0 Try.underlying24 hi hz0 hz1 hz2 u0 L r rfl hO2 rfl (by omega) hbs ?_; intro g3 c3 w3 hown' hkp3 hlies3)
          have hkk := hkp2.join hkp3 (fun k hk hn => (HH2.out k hn).elim id (fun h => by omega))
          have hl4 : ∀ g, (Value.slice (some ⟨g3, 0, none⟩) (L.length + 1) c3).ownBlock = some g → (Value.slice av xs.length cv).ownBlock = some g ∨ w1.heap.size ≤ g := fun g hg => by
            simp only [Value.ownBlock, Option.some.injEq] at hg
            subst hg
            rcases hlies3 with h | h
            · exact HH2.out _ h
            · exact .inr (by omega)
          have HL4 := Lib.hid hl4
          rw [← HY.out] at hown'
          clear hl4 hlies3 hkp3
          go_roundw
          case rel => exact ⟨c + 1, by omega, by go_num, hown', hkk, HL4.out⟩
          case measure => simp [intOf]; omega
        · have hce : c = q.toNat := by omega
          subst hce
          rw [List.append_assoc, ← HS.out] at hO2
          have HH2 := Lib.hid hlies2
          have hqq : ((q.toNat : Nat) : Int) = q := by omega
          have hnq : ¬ ((q.toNat : Nat) : Int) < q := by omega
          have hnq2 : ¬ q < q := by omega
          clear hlies2 hlies du0 du1
          go_wp2
          go_roundw
          case rel => exact ⟨m + 1, by omega, by go_num, hO2, hkp2, HH2.out⟩
          case measure => simp [intOf]; omega
    · have hme : m = R.length := by omega
      subst hme
      rw [hFA.out] at hO
      have hfin : ∃ v', Ending.returned u0 = .returned v' ∧ OwnI wo base v' (xs ++ flat R) ∧ Keeps (fun k => (Value.slice av xs.length cv).ownBlock = some k) w wo ∧ (∀ g, v'.ownBlock = some g → (Value.slice av xs.length cv).ownBlock = some g ∨ w.heap.size ≤ g) :=
        ⟨u0, rfl, hO, (Keeps.of_below (M := fun k => (Value.slice av xs.length cv).ownBlock = some k) hb1).trans hkp, fun g hg => (hlies g hg).imp id (fun h => by omega)⟩
      rw [← HGR.out] at hfin
      have HF := Lib.hid hfin
      clear hfin hlies
      go_wp2
      go_ret
      exact HF.out
end Go.Proofs.Ytiinceflafigeaa
