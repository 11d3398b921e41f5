/- Contract: impl.runOf. -/
import Derived.Test.YtglghdkjppcedaaDoorPart18
import Derived.Test.YtglghdkjppcedaaDoorPart3
import Derived.Test.YtglghdkjppcedaaDoorPart15
import Derived.Test.YtglghdkjppcedaaDoorPart14
import Derived.Test.YtglghdkjppcedaaDoorPart17
import Derived.Test.YtglghdkjppcedaaDoorPart16
import Derived.Test.YtglghdkjppcedaaDoorPart6
namespace Go.Proofs.YtglghdkjppcedaaDoor
open Go.RowKit

/-- What was there first may have been written in M alone; later blocks do not count. -/
theorem Keeps.join {M N : Nat → Prop} {a b c : World} (h : Keeps M a b) (h' : Keeps N b c) (hMN : ∀ k, k < a.heap.size → N k → M k) : Keeps M a c :=
  ⟨h'.os.trans h.os, h'.tape.trans h.tape, h'.output.trans h.output, Nat.le_trans h.size h'.size, fun k hk hn => (h'.block k (Nat.lt_of_lt_of_le hk h.size) (fun e => hn (hMN k hk e))).trans (h.block k hk hn)⟩
theorem gR_rowsOf {R : List (Int × Int)} {i : Nat} (h : i < R.length) : gR (rowsOf R) i = [(R.getD i (0, 0)).1, (R.getD i (0, 0)).2] := by
  rw [gR_lt (by simpa using h)]
  simp [rowsOf, List.getD, h]
/-- The numbers of the first m steps. -/
def flatTo (R : List (Int × Int)) (m : Nat) : List Int := flat (R.take m)
theorem flatTo_zero (R : List (Int × Int)) : flatTo R 0 = [] := rfl
theorem flatTo_all (R : List (Int × Int)) : flatTo R R.length = flat R := by unfold flatTo; rw [List.take_length]
theorem flatTo_succ {R : List (Int × Int)} {m : Nat} (h : m < R.length) : flatTo R (m + 1) = flatTo R m ++ List.replicate (R.getD m (0, 0)).1.toNat (R.getD m (0, 0)).2 := by
  unfold flatTo
  rw [List.take_succ_eq_append_getElem h, flat_app, flat_cons, flat_nil, List.append_nil]
  simp [rep, List.getD, h]
theorem flat_len_le (R : List (Int × Int)) (B : Nat) (h : ∀ s, s ∈ R → s.1.toNat ≤ B) : (flat R).length ≤ R.length * B := by
  induction R with
  | nil => simp [flat]
  | cons s R ih =>
    rw [flat_cons, List.length_append, List.length_cons, Nat.succ_mul]
    have h1 := ih (fun x hx => h x (List.mem_cons_of_mem _ hx))
    have h2 := h s (List.mem_cons_self ..)
    simp [rep]; omega
theorem flatTo_len_le (R : List (Int × Int)) (B m : Nat) (h : ∀ s, s ∈ R → s.1.toNat ≤ B) : (flatTo R m).length ≤ R.length * B := by
  have h1 := flat_len_le (R.take m) B (fun s hs => h s (List.mem_of_mem_take hs))
  have h2 : (R.take m).length ≤ R.length := by simp; omega
  exact Nat.le_trans h1 (Nat.mul_le_mul_right B h2)
/-- The steps are small. -/
theorem stp_bd : ∀ n (a b : Int), 0 ≤ a → a ≤ 100000 → b ≤ 100000 → ∀ s, s ∈ stp n a b → 0 ≤ s.1 ∧ s.1 ≤ 100000 ∧ 0 < s.2 ∧ s.2 ≤ 100000 := by
  intro n
  induction n with
  | zero => intro a b _ _ _ s hs; simp [stp] at hs
  | succ n ih =>
    intro a b h1 h2 h3 s hs
    rw [stp_succ] at hs
    by_cases hb : 0 < b
    · rw [if_pos hb] at hs
      have hq0 : 0 ≤ a / b := Int.ediv_nonneg h1 (by omega)
      have hq1 : a / b ≤ a := Int.ediv_le_self _ h1
      have hm0 := Int.emod_nonneg a (show b ≠ 0 by omega)
      have hm1 := Int.emod_lt_of_pos a hb
      rcases List.mem_cons.1 hs with rfl | hs
      · exact ⟨hq0, by omega, hb, h3⟩
      · exact ih b (a % b) (by omega) h3 (by omega) s hs
    · rw [if_neg hb] at hs; simp at hs

set_option maxRecDepth 100000 in
set_option maxHeartbeats 4000000 in
theorem runOf_c (v : Value) (xs : List Int) (a b : Int) (base : Nat) (w : World) (h : OwnI w base v xs) (hb0 : base ≤ w.heap.size) (hxl : xs.length ≤ 1000000000) (ha : 0 ≤ a) (ha2 : a ≤ 100000) (hb : 0 ≤ b) (hb2 : b ≤ 1000) :
    Calls Tryd.prog 61 #[v, .int .i64 a, .int .i64 b] w fun e w' => ∃ v', e = .returned v' ∧ OwnI w' base v' (xs ++ flat (stB a b)) ∧ Keeps (fun k => v.ownBlock = some k) w w' ∧ (∀ g, v'.ownBlock = some g → v.ownBlock = some g ∨ w.heap.size ≤ g) := by
  obtain ⟨i0, hi, hz0, hz1, hz2⟩ := info_parts Tryd.infoI
  obtain ⟨av, cv, rfl⟩ := h.form
  have hsl := stB_len a b
  have hsb := stp_bd b.toNat a b ha ha2 (by omega)
  have hfl : ∀ m, (flatTo (stB a b) m).length ≤ 100000000 := fun m => by
    have h1 := flatTo_len_le (stB a b) 100000 m (fun s hs => by have := hsb s hs; omega)
    have h2 := Nat.mul_le_mul_right 100000 (show (stB a b).length ≤ 1000 by omega)
    omega
  go_enter Tryd.func61, Tryd.ntmps61
  go_wp2_with fail
  refine (steps_c a b _ ha ha2 hb (by omega)).mono ?_
  rintro e w1 ⟨ar, kr, V, rfl, hM, hb1⟩
  rw [rowsOf_len] at hM ⊢
  have hO1 := h.below hb1 (Nat.le_refl _)
  have hsz := hb1.size
  have hgb := h.block
  have hFA := Lib.hid (flatTo_all (stB a b))
  have hF0 := Lib.hid (flatTo_zero (stB a b))
  have hFS := Lib.hid (fun m (hm : m < (stB a b).length) => flatTo_succ hm)
  have hRS := Lib.hid (fun m (hm : m < (stB a b).length) => gR_rowsOf hm)
  have hSB := Lib.hid (fun m (hm : m < (stB a b).length) => hsb ((stB a b).getD m (0, 0)) (by simp [List.getD, hm]; exact List.getElem_mem hm))
  have hML := hM
  generalize hgR : stB a b = R at *
  have HGR := Lib.hid hgR
  clear hgR hsb
  have hblk := hML.block
  clear h
  go_wp2_with fail
  go_loopw [0, 8, 9, 14] (fun lv _ _ iv wr => ∃ m : Nat, m ≤ R.length ∧ iv = .int .i64 m ∧ OwnI wr base lv (xs ++ flatTo R m) ∧ Keeps (fun k => (Value.slice av xs.length cv).ownBlock = some k) w1 wr ∧ (∀ g, lv.ownBlock = some g → (Value.slice av xs.length cv).ownBlock = some g ∨ w1.heap.size ≤ g)) (fun _ _ _ iv _ => R.length - (intOf iv).toNat)
  case atStart => exact ⟨0, Nat.zero_le _, rfl, by rw [hF0.out, List.append_nil]; exact hO1, Keeps.refl _ _, fun g hg => .inl hg⟩
  case round =>
    obtain ⟨m, hm, rfl, hO, hkp, hlies⟩ := hrel
    clear hO1
    obtain ⟨wo, rfl⟩ : ∃ wo : World, wo = wr := ⟨_, rfl⟩
    have hm0 : (0 : Int) ≤ (m : Int) := Int.natCast_nonneg _
    by_cases hlt : m < R.length
    · have hmi : (m : Int) < (R.length : Int) := by omega
      obtain ⟨bq, hbq, hbql, hcq⟩ : ∃ bq, ar = some ⟨bq, 0, none⟩ ∧ (w.heap.size ≤ bq ∧ bq < w1.heap.size) ∧ w1.cell? ⟨bq, m, none⟩ = some (V m) := by
        rcases hML.shape with ⟨_, he⟩ | ⟨g, cap, he, h1, h2, _, _, h5⟩
        · have := congrArg List.length he; rw [rowsOf_len, List.length_nil] at this; omega
        · injection he with he1 _ _
          exact ⟨g, he1, ⟨h1, h2⟩, h5 m (by simpa using hlt)⟩
      subst hbq
      have hrow := hML.row m (by simpa using hlt)
      rw [hRS.out m hlt] at hrow
      have hsb := hSB.out m hlt
      have HS := Lib.hid (hFS.out m hlt)
      obtain ⟨bu, cu, hVe, hbu1, hbu2, _, _⟩ := Own.pos hrow (by simp)
      rw [hVe] at hrow hcq
      have du0 := Own.cell hrow 0 (by simp)
      have du1 := Own.cell hrow 1 (by simp)
      have g0 : gI [(R.getD m (0, 0)).1, (R.getD m (0, 0)).2] 0 = (R.getD m (0, 0)).1 := rfl
      have g1 : gI [(R.getD m (0, 0)).1, (R.getD m (0, 0)).2] 1 = (R.getD m (0, 0)).2 := rfl
      rw [g0] at du0
      rw [g1] at du1
      have hl2 : [(R.getD m (0, 0)).1, (R.getD m (0, 0)).2].length = 2 := rfl
      rw [hl2] at hcq
      clear g0 g1 hl2 hrow hVe
      generalize (R.getD m (0, 0)).1 = q at *
      generalize (R.getD m (0, 0)).2 = r at *
      have nb : ∀ b, w.heap.size ≤ b → ¬ (Value.slice av xs.length cv).ownBlock = some b := fun b h1 h2 => by have := hgb b h2; omega
      have dq := (hkp.cell (p := ⟨bq, m, none⟩) hbql.2 (nb bq hbql.1)).trans hcq
      have HNB := Lib.hid nb
      go_wp2_with fail
      go_loopw [0, 9] (fun lv iv wr => ∃ c : Nat, (c : Int) ≤ q ∧ iv = .int .i64 c ∧ OwnI wr base lv (xs ++ flatTo R m ++ List.replicate c r) ∧ Keeps (fun k => (Value.slice av xs.length cv).ownBlock = some k) w1 wr ∧ (∀ g, lv.ownBlock = some g → (Value.slice av xs.length cv).ownBlock = some g ∨ w1.heap.size ≤ g)) (fun _ iv _ => q.toNat - (intOf iv).toNat)
      case atStart => exact ⟨0, by simp; omega, rfl, by simpa using hO, hkp, hlies⟩
      case round =>
        obtain ⟨c, hc, rfl, hO2, hkp2, hlies2⟩ := hrel
        clear hO dq
        obtain ⟨wi, rfl⟩ : ∃ wi : World, wi = wr := ⟨_, rfl⟩
        have d0 := (hkp2.cell (p := ⟨bu, 0, none⟩) hbu2 (HNB.out bu hbu1)).trans du0
        have d1 := (hkp2.cell (p := ⟨bu, 1, none⟩) hbu2 (HNB.out bu hbu1)).trans du1
        by_cases hct : (c : Int) < q
        · have hsz2 := hkp2.size
          have hll : (xs ++ flatTo R m ++ List.replicate c r).length ≤ 1000000000000 := by have := hfl m; simp; omega
          have HY : Hid (xs ++ flatTo R m ++ List.replicate (c + 1) r = xs ++ flatTo R m ++ List.replicate c r ++ [r]) := Lib.hid (by rw [List.replicate_succ', ← List.append_assoc])
          have hbs : base ≤ wi.heap.size := by omega
          have HH2 := Lib.hid hlies2
          clear hlies2 du0 du1 hkp hlies nb
          generalize xs ++ flatTo R m ++ List.replicate c r = L at *
          go_wp2_with (at_builtin; refine wpList_pushL rfl (.tmp 25) (.tmp 29) 24 rfl base 2 i0 Tryd.underlying24 hi hz0 hz1 hz2 u0 L r rfl hO2 rfl (by omega) hbs ?_; intro g3 c3 w3 hown' hkp3 hlies3)
          have hkk := hkp2.join hkp3 (fun k hk hn => (HH2.out k hn).elim id (fun h => by omega))
          have hl4 : ∀ g, (Value.slice (some ⟨g3, 0, none⟩) (L.length + 1) c3).ownBlock = some g → (Value.slice av xs.length cv).ownBlock = some g ∨ w1.heap.size ≤ g := fun g hg => by
            simp only [Value.ownBlock, Option.some.injEq] at hg
            subst hg
            rcases hlies3 with h | h
            · exact HH2.out _ h
            · exact .inr (by omega)
          have HL4 := Lib.hid hl4
          rw [← HY.out] at hown'
          clear hl4 hlies3 hkp3
          go_roundw
          case rel => exact ⟨c + 1, by omega, by go_num, hown', hkk, HL4.out⟩
          case measure => simp [intOf]; omega
        · have hce : c = q.toNat := by omega
          subst hce
          rw [List.append_assoc, ← HS.out] at hO2
          have HH2 := Lib.hid hlies2
          have hqq : ((q.toNat : Nat) : Int) = q := by omega
          have hnq : ¬ ((q.toNat : Nat) : Int) < q := by omega
          have hnq2 : ¬ q < q := by omega
          clear hlies2 hlies du0 du1
          go_wp2
          go_roundw
          case rel => exact ⟨m + 1, by omega, by go_num, hO2, hkp2, HH2.out⟩
          case measure => simp [intOf]; omega
    · have hme : m = R.length := by omega
      subst hme
      rw [hFA.out] at hO
      have hfin : ∃ v', Ending.returned u0 = .returned v' ∧ OwnI wo base v' (xs ++ flat R) ∧ Keeps (fun k => (Value.slice av xs.length cv).ownBlock = some k) w wo ∧ (∀ g, v'.ownBlock = some g → (Value.slice av xs.length cv).ownBlock = some g ∨ w.heap.size ≤ g) :=
        ⟨u0, rfl, hO, (Keeps.of_below (M := fun k => (Value.slice av xs.length cv).ownBlock = some k) hb1).trans hkp, fun g hg => (hlies g hg).imp id (fun h => by omega)⟩
      rw [← HGR.out] at hfin
      have HF := Lib.hid hfin
      clear hfin hlies
      go_wp2
      go_ret
      exact HF.out
end Go.Proofs.YtglghdkjppcedaaDoor

/- Contracts: impl.sequence, impl.firstOf. -/
namespace Go.Proofs.YtglghdkjppcedaaDoor
open Go.RowKit

theorem divisorsI_p (v : Value) (T : List Int) (w : World) (h : Rd w v T) (hok : BraOk T) :
    Calls Tryd.prog 56 #[v] w fun e w' => ∃ g c, e = .returned (.slice (some ⟨g, 0, none⟩) T.length c) ∧ OwnI w' w.heap.size (.slice (some ⟨g, 0, none⟩) T.length c) (eTo T T.length) ∧ Below w.heap.size w w' := by
  have hl := bra_len hok
  refine (divisors_c v T w h (by omega) (fun i hi => by have := hok.num i hi; omega)).mono ?_
  rintro e w1 ⟨ge, ke, rfl, ho, hb1⟩
  obtain ⟨g, c, hge, h1⟩ := Own.pos ho (by have := hok.len; simp; omega)
  rw [hge] at ho ⊢
  rw [eTo_len] at ho ⊢
  exact ⟨g, c, rfl, ho, hb1⟩
theorem pairsOfI_c (v : Value) (T : List Int) (w : World) (h : Rd w v T) (hp : 0 < T.length) (hl : T.length ≤ 1000) :
    Calls Tryd.prog 60 #[.agg #[v]] w fun e w' => e = .returned (.int .i64 ((T.length : Int) - 1)) ∧ Below w.heap.size w w' := by
  have hx := Boxed.start w 26 #[v]
  obtain ⟨a, k, rfl⟩ := h.len0
  have c0 := hx.cell 0
  have ww : IntKind.i64.wrap ((T.length : Int) - 1) = (T.length : Int) - 1 := IntWalk.i64_in _ (by omega)
  go_enter Tryd.func60, Tryd.ntmps60
  go_wp2
  go_ret
  exact ⟨rfl, hx.below⟩

/-- The sequence, as the program makes it. -/
def seqP (T : List Int) : List Int := if T.length = 1 then [1] else flat (pre T (T.length - 1))
theorem pre_bd {T : List Int} (h : BraOk T) : ∀ n, n < T.length → (flat (pre T n)).length ≤ 6400000 * n := by
  intro n
  induction n with
  | zero => intro _; simp [pre, flat]
  | succ n ih =>
    intro hn
    have ih := ih (by omega)
    have he := eI_bd h n
    have hk := kI_bd h hn
    rw [pre_succ, flat_app, List.length_append]
    have h1 := flat_len_le (stB (kI T n) (eI T n)) 100000 (fun s hs => by have := stp_bd _ _ _ (by omega) (by omega) (by omega) s hs; omega)
    have h2 := stB_len (kI T n) (eI T n)
    have h3 := Nat.mul_le_mul_right 100000 (show (stB (kI T n) (eI T n)).length ≤ 64 by omega)
    omega
/-- The term before. -/
def lastV (T : List Int) (n : Nat) : Int := if n = 0 then 0 else gI T n
theorem lastI (T : List Int) (n : Nat) : kI T n = gI T (n + 1) - lastV T n := by
  cases n with
  | zero => simp [kI, lastV]
  | succ n => simp [kI, lastV]
theorem lastV_succ (T : List Int) (n : Nat) : lastV T (n + 1) = gI T (n + 1) := by simp [lastV]

set_option maxRecDepth 100000 in
set_option maxHeartbeats 4000000 in
theorem sequence_c (v : Value) (T : List Int) (w : World) (h : Rd w v T) (hok : BraOk T) :
    Calls Tryd.prog 55 #[.agg #[v]] w fun e w' => ∃ u, e = .returned u ∧ OwnI w' w.heap.size u (seqP T) ∧ Below w.heap.size w w' := by
  obtain ⟨i0, hi, hz0, hz1, hz2⟩ := info_parts Tryd.infoI
  have hp := hok.len
  have hl7 := bra_len hok
  have hx := Boxed.start w 26 #[v]
  obtain ⟨b, off, cap, rfl, hc1, hc2, hb0, hcc⟩ := h.cells hp
  have hTl : (0 : Int) < (T.length : Int) := by omega
  have c0 := hx.cell 0
  by_cases h1 : T.length = 1
  · have he : ((T.length : Int) - 1 == 0) = true := by simp; omega
    have HS := Lib.hid (show seqP T = [1] by simp [seqP, h1])
    clear h1
    go_enter Tryd.func55, Tryd.ntmps55
    go_wp2_with fail
    refine (pairsOfI_c _ T _ (hx.rd h) hp (by omega)).mono ?_
    rintro e w1 ⟨rfl, hb1⟩
    have hx1 := hx.trans hb1
    have hs1 := hx1.size
    have hO := own_one (e := 2) w1 w.heap.size (by omega) 1
    rw [← HS.out] at hO
    have HO := Lib.hid hO
    have HF := Lib.hid ((hx1.trans ((Below.refl w1.heap.size w1).alloc (Nat.le_refl _) (.cells #[.int .i64 1] 2))).below)
    clear hO
    go_wp2
    go_ret
    exact ⟨_, rfl, HO.out, HF.out⟩
  · have he : ((T.length : Int) - 1 == 0) = false := beq_false_of_ne (by omega)
    have HS := Lib.hid (show seqP T = flat (pre T (T.length - 1)) by simp [seqP, h1])
    go_enter Tryd.func55, Tryd.ntmps55
    go_wp2_with fail
    refine (pairsOfI_c _ T _ (hx.rd h) hp (by omega)).mono ?_
    rintro e w1 ⟨rfl, hb1⟩
    have hx1 := hx.trans hb1
    have c1 := hx1.cell 0
    clear c0
    go_wp2_with fail
    refine (divisorsI_p _ T _ (hx1.rd h) hok).mono ?_
    rintro e w2 ⟨ge, ce, rfl, oE, hb2⟩
    have hx2 := hx1.trans hb2
    have hge := oE.block ge rfl
    have hE : OwnI (w2.alloc (.cells #[] 2)) w2.heap.size (.slice (some ⟨w2.heap.size, 0, none⟩) 0 0) [] := own_empty w2 _ (Nat.le_refl _)
    have hal : Below w2.heap.size w2 (w2.alloc (.cells #[] 2)) := (Below.refl _ _).alloc (Nat.le_refl _) _
    have oE' := (show OwnI w2 w1.heap.size (.slice (some ⟨ge, 0, none⟩) (eTo T T.length).length ce) (eTo T T.length) by rw [eTo_len]; exact oE)
    have dE : ∀ i, i < T.length → w2.cell? ⟨ge, i, none⟩ = some (.int .i64 (eI T i)) := fun i hi => by have := oE'.cell i (by simpa using hi); rwa [gI_eTo hi] at this
    have HDE := Lib.hid dE
    have HCC := Lib.hid hcc
    clear c1 oE oE' dE hcc h1
    go_wp2_with fail
    go_loopw [4, 5, 6] (fun lv tv iv wr => ∃ n : Nat, n < T.length ∧ iv = .int .i64 ((n : Int) + 1) ∧ tv = .int .i64 (lastV T n) ∧ OwnI wr w2.heap.size lv (flat (pre T n)) ∧ Below w2.heap.size w2 wr) (fun _ _ iv _ => T.length - (intOf iv).toNat)
    case atStart => exact ⟨0, hp, rfl, rfl, hE, hal⟩
    case round =>
      obtain ⟨n, hn, rfl, rfl, hO, hbl⟩ := hrel
      clear hE hal
      obtain ⟨wo, rfl⟩ : ∃ wo : World, wo = wr := ⟨_, rfl⟩
      have f1 : (n : Int) + 1 - 1 = (n : Int) := by omega
      have f2 : IntKind.i64.wrap (n : Int) = (n : Int) := IntWalk.i64_in _ (by omega)
      have f3 : (0 : Int) ≤ (n : Int) := by omega
      have f5 : (0 : Int) ≤ (n : Int) + 1 := by omega
      have f7 : ((n : Int) + 1).toNat = n + 1 := by omega
      by_cases hlt : n + 1 < T.length
      · have f8 : (n : Int) + 1 < (T.length : Int) := by omega
        have f9 : (n : Int) < (T.length : Int) := by omega
        have hbx := hx2.trans (hbl.mono (Nat.le_refl _))
        have q0 := hbx.cell 0
        have dT : wo.cell? ⟨b, off + (n + 1), none⟩ = some (.int .i64 (gI T (n + 1))) := by rw [hbx.below.cell (p := ⟨b, off + (n + 1), none⟩) hb0]; exact HCC.out _ hlt
        have dE := (hbl.cell (p := ⟨ge, n, none⟩) hge.2).trans (HDE.out n (by omega))
        have hk := kI_bd hok hlt
        have he' := eI_bd hok n
        have hlen := pre_bd hok n hn
        have HK := Lib.hid (lastI T n)
        have HP := Lib.hid (pre_succ T n)
        have hkk : gI T (n + 1) - lastV T n = kI T n := (lastI T n).symm
        have hsz := hbl.size
        clear HK
        generalize lastV T n = y at *
        have hwk : IntKind.i64.wrap (kI T n) = kI T n := IntWalk.i64_in _ (by omega)
        generalize hxx : gI T (n + 1) = x at *
        have HXX := Lib.hid hxx
        clear hxx
        generalize kI T n = k1 at *
        generalize eI T n = e1 at *
        generalize hL : flat (pre T n) = L at *
        have HLL := Lib.hid hL
        clear hL
        go_wp2_with fail
        have SS : ∀ W : World, Below wo.heap.size wo W → W.cell? ⟨w.heap.size, 0, none⟩ = some (.slice (some ⟨b, off, none⟩) T.length cap) ∧ W.cell? ⟨b, off + (n + 1), none⟩ = some (.int .i64 x) ∧ W.cell? ⟨ge, n, none⟩ = some (.int .i64 e1) := fun W hW => by
          have hszx := hbx.size
          exact ⟨(hW.cell (p := ⟨w.heap.size, 0, none⟩) (show w.heap.size < wo.heap.size by omega)).trans q0, (hW.cell (p := ⟨b, off + (n + 1), none⟩) (show b < wo.heap.size by omega)).trans dT, (hW.cell (p := ⟨ge, n, none⟩) (show ge < wo.heap.size by omega)).trans dE⟩
        have k0 := SS wo.drew (Below.refl _ _).drew
        have hOd : OwnI wo.drew w2.heap.size u4 L := hO.below (Below.refl wo.heap.size wo).drew (Nat.le_refl _)
        have hszx := hx2.size
        have hszd : w2.heap.size ≤ wo.drew.heap.size := hsz
        have nb5 : ∀ g, g < w2.heap.size → ¬ u4.ownBlock = some g := fun g hg he => by have := (hOd.block g he).1; omega
        have hb2 : b < w2.heap.size := by omega
        have hw2 : w.heap.size < w2.heap.size := by omega
        have hbo : b < wo.heap.size := by omega
        have hwo : w.heap.size < wo.heap.size := by omega
        have hgo : ge < wo.heap.size := by omega
        clear q0 dT dE
        go_region_held3 (fun w' => w'.cell? ⟨w.heap.size, 0, none⟩ = some (.slice (some ⟨b, off, none⟩) T.length cap) ∧ w'.cell? ⟨b, off + (n + 1), none⟩ = some (.int .i64 x) ∧ w'.cell? ⟨ge, n, none⟩ = some (.int .i64 e1))
          (first | assumption | exact k0 | exact HD)
          (first | (go_at_call 61; (with_reducible refine (runOf_c u4 L k1 e1 w2.heap.size wo.drew hOd hszd (by omega) (by omega) (by omega) (by omega) (by omega)).mono ?_); rintro e w5 ⟨v5, rfl, hO5, hk5, hl5⟩; have HD : w5.cell? ⟨w.heap.size, 0, none⟩ = some (.slice (some ⟨b, off, none⟩) T.length cap) ∧ w5.cell? ⟨b, off + (n + 1), none⟩ = some (.int .i64 x) ∧ w5.cell? ⟨ge, n, none⟩ = some (.int .i64 e1) := ⟨(hk5.cell (p := ⟨w.heap.size, 0, none⟩) hwo (nb5 _ hw2)).trans k0.1, (hk5.cell (p := ⟨b, off + (n + 1), none⟩) hbo (nb5 _ hb2)).trans k0.2.1, (hk5.cell (p := ⟨ge, n, none⟩) hgo (nb5 _ hge.2)).trans k0.2.2⟩))
        have hbl5 : Below w2.heap.size w2 w5 := (hbl.trans ((Below.refl wo.heap.size wo).drew.mono hsz)).trans (hk5.below hsz (fun g hg => (hOd.block g hg).1))
        have hO6 : OwnI w5 w2.heap.size v5 (flat (pre T (n + 1))) := by rw [HP.out, flat_app, HLL.out]; exact hO5
        have q0 := HD.1
        have dT := HD.2.1
        clear hO hOd hk5 hO5 hl5 nb5 k0 SS HD
        go_wp2
        go_roundw
        case rel => exact ⟨n + 1, hlt, by go_num, by rw [lastV_succ, HXX.out], hO6, hbl5⟩
        case measure => simp [intOf]; omega
      · have hne : n = T.length - 1 := by omega
        have f8 : ¬ (n : Int) + 1 < (T.length : Int) := by omega
        have f9 : (T.length : Int) ≤ (n : Int) + 1 := by omega
        rw [hne, ← HS.out] at hO
        have HO := Lib.hid (hO.base_le (base' := w.heap.size) (by have := hx2.size; omega))
        have HF := Lib.hid (hx2.trans (hbl.mono (Nat.le_refl _))).below
        clear hO hne
        go_wp2
        go_ret
        exact ⟨_, rfl, HO.out, HF.out⟩

/-- The first k numbers, in cells of a new block that may be written. -/
def RetQ (w : World) (T : List Int) (k : Nat) (e : Ending) (w' : World) : Prop :=
  ∃ g, e = .returned (.slice (some ⟨g, 0, none⟩) k k) ∧ w.heap.size ≤ g ∧ g < w'.heap.size ∧ (∀ i, i < k → w'.cell? ⟨g, i, none⟩ = some (.int .i64 (gI (seqL T k) i))) ∧ (∀ i, w'.frozen? ⟨g, i, none⟩ = false) ∧ Below w.heap.size w w'
end Go.Proofs.YtglghdkjppcedaaDoor

/- Contracts: spec.l04Runs, spec.l06Sequence. -/
namespace Go.Proofs.YtglghdkjppcedaaDoor
open Go.RowKit

end Go.Proofs.YtglghdkjppcedaaDoor

/- Contract: spec.l06Sequence. -/
namespace Go.Proofs.YtglghdkjppcedaaDoor
open Go.RowKit

end Go.Proofs.YtglghdkjppcedaaDoor

/- Contract: impl.proximates. -/
namespace Go.Proofs.YtglghdkjppcedaaDoor
open Go.RowKit

/-- The rows while the point i is looked at, up to j. -/
def inR (M : List Int) (i j : Nat) : Nat → List Int := fun x => rowTo M x (if x < j then i + 1 else i)
end Go.Proofs.YtglghdkjppcedaaDoor

/- Contracts: points of a branch, the program. -/
namespace Go.Proofs.YtglghdkjppcedaaDoor
open Go.RowKit

/-- The code of a branch and a number of points. -/
def ckC (T : List Int) (k : Int) : Int := if braB T = true then (if inB k 1 400 = true then 0 else 2) else 1
/-- A list behind the code. -/
def ckL (T : List Int) (k : Int) (xs : List Int) : List Int := if ckC T k = 0 then xs else []
/-- The rows of the first k points. -/
def rwT (T : List Int) (k : Nat) : Nat → List Int := proxOf (parL k) (secM (seqL T k))

/-- The first j numbers of the code. -/
def cdTo (M : List Int) (j : Nat) : List Int := (List.range j).map (cI M)
end Go.Proofs.YtglghdkjppcedaaDoor

/- Contracts: points of a branch, the reference. -/
namespace Go.Proofs.YtglghdkjppcedaaDoor
open Go.RowKit

/-- The number of the code at x (of the point x + 1), when the first n points have been looked at. -/
def cdA (M : List Int) (n x : Nat) : Int := if 0 ≤ secTo M (x + 1) (min n x) then ((x + 1 : Nat) : Int) - secTo M (x + 1) (min n x) else 0
def cdL (M : List Int) (n : Nat) : List Int := (List.range (M.length - 1)).map (cdA M n)
@[simp] theorem cdL_len (M : List Int) (n : Nat) : (cdL M n).length = M.length - 1 := by simp [cdL]
/-- While the point i is looked at: up to j the points have been seen. -/
def cdM (M : List Int) (i j : Nat) : List Int := (List.range (M.length - 1)).map fun x => if x + 1 < j then cdA M (i + 1) x else cdA M i x
@[simp] theorem cdM_len (M : List Int) (i j : Nat) : (cdM M i j).length = M.length - 1 := by simp [cdM]
end Go.Proofs.YtglghdkjppcedaaDoor

/- Contracts: CodeOf, CountSatellites. -/
namespace Go.Proofs.YtglghdkjppcedaaDoor
open Go.RowKit

/-- How many of the first n numbers are not 0. -/
def cnz (xs : List Int) : Nat → Int
  | 0 => 0
  | n + 1 => cnz xs n + (if gI xs n = 0 then 0 else 1)
/-- The number of satellites. -/
def csN (T : List Int) (k : Int) : Int := cnz (ckL T k (codeL (seqL T k.toNat))) (ckL T k (codeL (seqL T k.toNat))).length
end Go.Proofs.YtglghdkjppcedaaDoor

/- Contracts: MultiplicitiesAt. What is handed back lies in the first cells of a block of the call's own that has more. -/
namespace Go.Proofs.YtglghdkjppcedaaDoor
open Go.RowKit

/-- The slice v has the numbers xs, in cells of a block from base on that may be written. -/
def OwnQ (w : World) (base : Nat) (v : Value) (xs : List Int) : Prop :=
  (v = .slice none 0 0 ∧ xs = []) ∨ ∃ g, v = .slice (some ⟨g, 0, none⟩) xs.length xs.length ∧ base ≤ g ∧ g < w.heap.size ∧ xs.length ≤ 1000000000 ∧ (∀ i, i < xs.length → w.cell? ⟨g, i, none⟩ = some (.int .i64 (gI xs i))) ∧ ∀ i, w.frozen? ⟨g, i, none⟩ = false
theorem OwnQ.nil (w : World) (base : Nat) : OwnQ w base (.slice none 0 0) [] := .inl ⟨rfl, rfl⟩
theorem OwnQ.block {w : World} {base : Nat} {v : Value} {xs : List Int} (h : OwnQ w base v xs) : ∀ g, v.ownBlock = some g → base ≤ g ∧ g < w.heap.size := by
  intro g hg
  rcases h with ⟨rfl, _⟩ | ⟨g', rfl, h1, h2, _⟩
  · simp [Value.ownBlock] at hg
  · simp [Value.ownBlock] at hg; omega
theorem OwnQ.rd {w : World} {base : Nat} {v : Value} {xs : List Int} (h : OwnQ w base v xs) : Rd w v xs := by
  rcases h with ⟨rfl, rfl⟩ | ⟨g, rfl, h1, h2, h3, h4, _⟩
  · exact rd_nil w
  · exact ⟨_, _, rfl, Nat.le_refl _, by omega, fun _ => ⟨g, 0, rfl, h2, fun i hi => by rw [Nat.zero_add]; exact h4 i hi⟩⟩
theorem OwnQ.keeps {w w' : World} {base : Nat} {v : Value} {xs : List Int} {M : Nat → Prop} (h : OwnQ w base v xs) (hk : Keeps M w w') (hn : ∀ g, v.ownBlock = some g → ¬ M g) : OwnQ w' base v xs := by
  rcases h with h | ⟨g, rfl, h1, h2, h3, h4, h5⟩
  · exact .inl h
  · have hg := hn g rfl
    exact .inr ⟨g, rfl, h1, Nat.lt_of_lt_of_le h2 hk.size, h3, fun i hi => by rw [hk.cell (p := ⟨g, i, none⟩) h2 hg]; exact h4 i hi, fun i => by rw [hk.frozen (p := ⟨g, i, none⟩) h2 hg]; exact h5 i⟩
theorem OwnQ.below {w w' : World} {base : Nat} {v : Value} {xs : List Int} {B : Nat} (h : OwnQ w base v xs) (hb : Below B w w') (hB : w.heap.size ≤ B) : OwnQ w' base v xs :=
  h.keeps (M := fun _ => False) (Keeps.of_below (hb.mono hB)) (fun _ _ => id)
theorem OwnQ.base_le {w : World} {base base' : Nat} {v : Value} {xs : List Int} (h : OwnQ w base v xs) (hB : base' ≤ base) : OwnQ w base' v xs := by
  rcases h with h | ⟨g, h0, h1, h2⟩
  · exact .inl h
  · exact .inr ⟨g, h0, Nat.le_trans hB h1, h2⟩

/-- What MultiplicitiesAt hands back. -/
def RetQC (w : World) (xs : List Int) (c : Int) (e : Ending) (w' : World) : Prop :=
  ∃ a k, e = .returned (.tuple #[.slice a xs.length k, .int .i64 c]) ∧ OwnQ w' w.heap.size (.slice a xs.length k) xs ∧ Below w.heap.size w w'
end Go.Proofs.YtglghdkjppcedaaDoor

/- Contracts: ProximatesOf. -/
namespace Go.Proofs.YtglghdkjppcedaaDoor
open Go.RowKit

/-- The rows behind the code. -/
def ckM (T : List Int) (k : Int) (R : List (List Int)) : List (List Int) := if ckC T k = 0 then R else []
def rwL (T : List Int) (k : Nat) : List (List Int) := (List.range k).map (rwT T k)
@[simp] theorem rwL_len (T : List Int) (k : Nat) : (rwL T k).length = k := by simp [rwL]
end Go.Proofs.YtglghdkjppcedaaDoor

/- Contracts of the helpers of laws.go: likeInts, likeRows5, hasInt, big. -/
namespace Go.Proofs.YtglghdkjppcedaaDoor
open Go.RowKit

set_option maxHeartbeats 400000 in
theorem likeInts_c (v u : Value) (xs ys : List Int) (w : World) (h : Rd w v xs) (h' : Rd w u ys) :
    Calls Tryd.prog 9 #[v, u] w fun e w' => e = .returned (.bool (eqB xs ys)) ∧ Drew w w' := by
  obtain ⟨a, cap, rfl, hcap1, hcap2, hrd⟩ := h
  obtain ⟨a', cap', rfl, hcap1', hcap2', hrd'⟩ := h'
  by_cases hl : xs.length = ys.length
  · have HL := Lib.hid hl
    have hd : ((xs.length : Int) != (ys.length : Int)) = false := by simp [hl]
    clear hl
    go_enter Tryd.func9, Tryd.ntmps9
    go_wp2
    go_loopw [5] (fun i wr => ∃ k : Nat, k ≤ xs.length ∧ i = .int .i64 k ∧ xs.take k = ys.take k ∧ Drew w wr) (fun i _ => xs.length - (intOf i).toNat)
    case atStart => exact ⟨0, Nat.zero_le _, rfl, rfl, Drew.refl _⟩
    case round =>
      obtain ⟨k, hk, rfl, ht, n, rfl⟩ := hrel
      by_cases hlt : k < xs.length
      · have hlt' : k < ys.length := by have := HL.out; omega
        obtain ⟨b, off, rfl, hbl, hcs⟩ := hrd (ne_of_lt_len hlt)
        obtain ⟨b', off', rfl, hbl', hcs'⟩ := hrd' (ne_of_lt_len hlt')
        have hc := hcs k hlt
        have hc' := hcs' k hlt'
        have HT := Lib.hid (take_eq_step ht hlt hlt')
        have HN : Hid (gI xs k ≠ gI ys k → eqB xs ys = false) := Lib.hid (by
          intro hne; simp only [eqB, decide_eq_false_iff_not]; intro e; exact hne (by rw [e]))
        clear ht hcs hcs' hrd hrd'
        generalize gI xs k = x at hc HT HN
        generalize gI ys k = y at hc' HT HN
        by_cases hxy : x = y
        · subst hxy
          have HT' := Lib.hid (HT.out rfl)
          clear HT HN
          go_wp2
          go_quiet (fail)
          go_wp2
          go_roundw
          case rel => exact ⟨k + 1, by omega, by go_num, HT'.out, by first | exact Drew.one _ _ | exact Drew.two _ _ _ | exact Drew.refl _⟩
          case measure => simp [intOf]; omega
        · have hf := Lib.hid (HN.out hxy)
          have hxb : (x != y) = true := by simp [hxy]
          clear HT HN hxy
          go_wp2
          go_quiet (fail)
          go_wp2
          go_ret
          exact ⟨ret_bool hf.out.symm, by first | exact Drew.one _ _ | exact Drew.two _ _ _ | exact Drew.refl _⟩
      · go_wp2
        go_ret
        refine ⟨ret_bool ?_, Drew.one _ _⟩
        have hl := HL.out
        rw [List.take_of_length_le (by omega), List.take_of_length_le (by omega)] at ht
        simp [eqB, ht]
  · have HE : Hid (eqB xs ys = false) := Lib.hid (by simp only [eqB, decide_eq_false_iff_not]; intro e; exact hl (by rw [e]))
    have hd : ((xs.length : Int) != (ys.length : Int)) = true := by simp; omega
    clear hl
    go_enter Tryd.func9, Tryd.ntmps9
    go_wp2
    go_ret
    exact ⟨ret_bool HE.out.symm, Drew.refl _⟩

theorem big_no (v : Value) (C : List Int) (w : World) (h : Rd8w w v C) (hC : C.length ≤ 4096) :
    Calls Tryd.prog 4 #[v] w fun e w' => e = .returned (.bool false) ∧ w = w' := by
  obtain ⟨a, cap, rfl, _⟩ := h
  have hb : decide ((C.length : Int) > 4096) = false := decide_eq_false (by omega)
  go_enter Tryd.func4, Tryd.ntmps4
  go_wp2
  go_ret
  exact ⟨rfl, rfl⟩
theorem big_yes (v : Value) (C : List Int) (w : World) (h : Rd8w w v C) (hC : ¬ C.length ≤ 4096) :
    Calls Tryd.prog 4 #[v] w fun e w' => e = .returned (.bool true) ∧ w = w' := by
  obtain ⟨a, cap, rfl, _⟩ := h
  have hb : decide ((C.length : Int) > 4096) = true := decide_eq_true (by omega)
  go_enter Tryd.func4, Tryd.ntmps4
  go_wp2
  go_ret
  exact ⟨rfl, rfl⟩
/-- The list has the number. -/
def hasB (xs : List Int) (x : Int) : Bool := decide (∃ i, i < xs.length ∧ gI xs i = x)
theorem hasB_iff {xs : List Int} {x : Int} : hasB xs x = true ↔ ∃ i, i < xs.length ∧ gI xs i = x := by simp only [hasB, decide_eq_true_eq]
theorem hasB_no {xs : List Int} {x : Int} : hasB xs x = false ↔ ∀ i, i < xs.length → gI xs i ≠ x := by
  simp only [hasB, decide_eq_false_iff_not]
  exact ⟨fun h i hi e => h ⟨i, hi, e⟩, fun h ⟨i, hi, e⟩ => h i hi e⟩
set_option maxHeartbeats 400000 in
theorem hasInt_c (v : Value) (xs : List Int) (x : Int) (w : World) (h : Rd w v xs) :
    Calls Tryd.prog 15 #[v, .int .i64 x] w fun e w' => e = .returned (.bool (hasB xs x)) ∧ w = w' := by
  obtain ⟨a, cap, rfl, hcap1, hcap2, hrd⟩ := h
  go_enter Tryd.func15, Tryd.ntmps15
  go_wp2
  go_loop [5] (fun i => ∃ k : Nat, k ≤ xs.length ∧ i = .int .i64 k ∧ ∀ j, j < k → gI xs j ≠ x) (fun i => xs.length - (intOf i).toNat)
  case atStart => exact ⟨0, Nat.zero_le _, rfl, fun j hj => absurd hj (by omega)⟩
  case round =>
    obtain ⟨k, hk, rfl, hno⟩ := hrel
    by_cases hlt : k < xs.length
    · obtain ⟨b, off, rfl, hbl, hcs⟩ := hrd (ne_of_lt_len hlt)
      have hc := hcs k hlt
      by_cases hx : gI xs k = x
      · have HF : Hid (hasB xs x = true) := Lib.hid (hasB_iff.2 ⟨k, hlt, hx⟩)
        have hb : (gI xs k == x) = true := by simpa using hx
        clear hno hcs hrd hx
        generalize gI xs k = y at *
        go_wp2
        go_ret
        exact ⟨ret_bool HF.out.symm, rfl⟩
      · have hb : (gI xs k == x) = false := by simpa using hx
        have HN : Hid (∀ j, j < k + 1 → gI xs j ≠ x) := Lib.hid (fun j hj => by
          by_cases e : j = k
          · rw [e]; exact hx
          · exact hno j (by omega))
        clear hno hcs hrd hx
        generalize gI xs k = y at hc hb
        go_wp2
        go_round
        case rel => exact ⟨k + 1, by omega, by go_num, HN.out⟩
        case measure => simp [intOf]; omega
    · have HF : Hid (hasB xs x = false) := Lib.hid (hasB_no.2 (fun i hi => hno i (by omega)))
      clear hno
      go_wp2
      go_ret
      exact ⟨ret_bool HF.out.symm, rfl⟩
end Go.Proofs.YtglghdkjppcedaaDoor

/- What the laws of laws.go need of the contracts: slices that read as lists, no ownership. -/
namespace Go.Proofs.YtglghdkjppcedaaDoor
open Go.RowKit

/-- A list of n numbers and a code. -/
def RvC (w : World) (n : Nat) (xs : List Int) (c : Int) (e : Ending) (w' : World) : Prop :=
  ∃ a k, e = .returned (.tuple #[.slice a n k, .int .i64 c]) ∧ Rd w' (.slice a n k) xs ∧ Below w.heap.size w w'
/-- A list of n lists and a code. -/
def RvMC (w : World) (n : Nat) (R : List (List Int)) (c : Int) (e : Ending) (w' : World) : Prop :=
  ∃ a k, e = .returned (.tuple #[.slice a n k, .int .i64 c]) ∧ RdR w' (.slice a n k) R ∧ Below w.heap.size w w'
end Go.Proofs.YtglghdkjppcedaaDoor

/- The laws of the representations in plain words; contracts of product5 and DivisorsOf. -/
namespace Go.Proofs.YtglghdkjppcedaaDoor
open Go.RowKit

/-- The terms of the sum. -/
def rpF (T : List Int) (z : Int) (i : Nat) : Int := gI (rpL T z) i * gI (vTo T T.length) i
/-- The products at i. -/
def prF (xs ys : List Int) (i : Nat) : Int := gI xs i * gI ys i
end Go.Proofs.YtglghdkjppcedaaDoor
