/- Contracts: impl.sequence, impl.firstOf. -/
import Derived.Test.YtiinceflafigeaaRunOf
import Derived.Test.YtiinceflafigeaaGenI
namespace Go.Proofs.Ytiinceflafigeaa
open Go.RowKit

theorem divisorsI_p (v : Value) (T : List Int) (w : World) (h : Rd w v T) (hok : BraOk T) :
    Calls Try.prog 143 #[v] w fun e w' => ∃ g c, e = .returned (.slice (some ⟨g, 0, none⟩) T.length c) ∧ OwnI w' w.heap.size (.slice (some ⟨g, 0, none⟩) T.length c) (eTo T T.length) ∧ Below w.heap.size w w' := by
  have hl := bra_len hok
  refine (divisors_c v T w h (by omega) (fun i hi => by have := hok.num i hi; omega)).mono ?_
  rintro e w1 ⟨ge, ke, rfl, ho, hb1⟩
  obtain ⟨g, c, hge, h1⟩ := Own.pos ho (by have := hok.len; simp; omega)
  rw [hge] at ho ⊢
  rw [eTo_len] at ho ⊢
  exact ⟨g, c, rfl, ho, hb1⟩
theorem pairsOfI_c (v : Value) (T : List Int) (w : World) (h : Rd w v T) (hp : 0 < T.length) (hl : T.length ≤ 1000) :
    Calls Try.prog 146 #[.agg #[v]] w fun e w' => e = .returned (.int .i64 ((T.length : Int) - 1)) ∧ Below w.heap.size w w' := by
  have hx := Boxed.start w 26 #[v]
  obtain ⟨a, k, rfl⟩ := h.len0
  have c0 := hx.cell 0
  have ww : IntKind.i64.wrap ((T.length : Int) - 1) = (T.length : Int) - 1 := IntWalk.i64_in _ (by omega)
  go_enter Try.func146, Try.ntmps146
  go_wp2
  go_ret
  exact ⟨rfl, hx.below⟩

/-- The sequence, as the program makes it. -/
def seqP (T : List Int) : List Int := if T.length = 1 then [1] else flat (pre T (T.length - 1))
theorem pre_bd {T : List Int} (h : BraOk T) : ∀ n, n < T.length → (flat (pre T n)).length ≤ 6400000 * n := by
  intro n
  induction n with
  | zero => intro _; simp [pre, flat]
  | succ n ih =>
    intro hn
    have ih := ih (by omega)
    have he := eI_bd h n
    have hk := kI_bd h hn
    rw [pre_succ, flat_app, List.length_append]
    have h1 := flat_len_le (stB (kI T n) (eI T n)) 100000 (fun s hs => by have := stp_bd _ _ _ (by omega) (by omega) (by omega) s hs; omega)
    have h2 := stB_len (kI T n) (eI T n)
    have h3 := Nat.mul_le_mul_right 100000 (show (stB (kI T n) (eI T n)).length ≤ 64 by omega)
    omega
/-- The term before. -/
def lastV (T : List Int) (n : Nat) : Int := if n = 0 then 0 else gI T n
theorem lastI (T : List Int) (n : Nat) : kI T n = gI T (n + 1) - lastV T n := by
  cases n with
  | zero => simp [kI, lastV]
  | succ n => simp [kI, lastV]
theorem lastV_succ (T : List Int) (n : Nat) : lastV T (n + 1) = gI T (n + 1) := by simp [lastV]

set_option maxRecDepth 100000 in
set_option maxHeartbeats 4000000 in
theorem sequence_c (v : Value) (T : List Int) (w : World) (h : Rd w v T) (hok : BraOk T) :
    Calls Try.prog 120 #[.agg #[v]] w fun e w' => ∃ u, e = .returned u ∧ OwnI w' w.heap.size u (seqP T) ∧ Below w.heap.size w w' := by
  obtain ⟨i0, hi, hz0, hz1, hz2⟩ := info_parts Try.infoI
  have hp := hok.len
  have hl7 := bra_len hok
  have hx := Boxed.start w 26 #[v]
  obtain ⟨b, off, cap, rfl, hc1, hc2, hb0, hcc⟩ := h.cells hp
  have hTl : (0 : Int) < (T.length : Int) := by omega
  have c0 := hx.cell 0
  by_cases h1 : T.length = 1
  · have he : ((T.length : Int) - 1 == 0) = true := by simp; omega
    have HS := Lib.hid (show seqP T = [1] by simp [seqP, h1])
    clear h1
    go_enter Try.func120, Try.ntmps120
    go_wp2_with fail
    refine (pairsOfI_c _ T _ (hx.rd h) hp (by omega)).mono ?_
    rintro e w1 ⟨rfl, hb1⟩
    have hx1 := hx.trans hb1
    have hs1 := hx1.size
    have hO := own_one (e := 2) w1 w.heap.size (by omega) 1
    rw [← HS.out] at hO
    have HO := Lib.hid hO
    have HF := Lib.hid ((hx1.trans ((Below.refl w1.heap.size w1).alloc (Nat.le_refl _) (.cells #[.int .i64 1] 2))).below)
    clear hO
    go_wp2
    go_ret
    exact ⟨_, rfl, HO.out, HF.out⟩
  · have he : ((T.length : Int) - 1 == 0) = false := beq_false_of_ne (by omega)
    have HS := Lib.hid (show seqP T = flat (pre T (T.length - 1)) by simp [seqP, h1])
    go_enter Try.func120, Try.ntmps120
    go_wp2_with fail
    refine (pairsOfI_c _ T _ (hx.rd h) hp (by omega)).mono ?_
    rintro e w1 ⟨rfl, hb1⟩
    have hx1 := hx.trans hb1
    have c1 := hx1.cell 0
    clear c0
    go_wp2_with fail
    refine (divisorsI_p _ T _ (hx1.rd h) hok).mono ?_
    rintro e w2 ⟨ge, ce, rfl, oE, hb2⟩
    have hx2 := hx1.trans hb2
    have hge := oE.block ge rfl
    have hE : OwnI (w2.alloc (.cells #[] 2)) w2.heap.size (.slice (some ⟨w2.heap.size, 0, none⟩) 0 0) [] := own_empty w2 _ (Nat.le_refl _)
    have hal : Below w2.heap.size w2 (w2.alloc (.cells #[] 2)) := (Below.refl _ _).alloc (Nat.le_refl _) _
    have oE' := (show OwnI w2 w1.heap.size (.slice (some ⟨ge, 0, none⟩) (eTo T T.length).length ce) (eTo T T.length) by rw [eTo_len]; exact oE)
    have dE : ∀ i, i < T.length → w2.cell? ⟨ge, i, none⟩ = some (.int .i64 (eI T i)) := fun i hi => by have := oE'.cell i (by simpa using hi); rwa [gI_eTo hi] at this
    have HDE := Lib.hid dE
    have HCC := Lib.hid hcc
    clear c1 oE oE' dE hcc h1
    go_wp2_with fail
    go_loopw [4, 5, 6] (fun lv tv iv wr => ∃ n : Nat, n < T.length ∧ iv = .int .i64 ((n : Int) + 1) ∧ tv = .int .i64 (lastV T n) ∧ OwnI wr w2.heap.size lv (flat (pre T n)) ∧ Below w2.heap.size w2 wr) (fun _ _ iv _ => T.length - (intOf iv).toNat)
    case atStart => exact ⟨0, hp, rfl, rfl, hE, hal⟩
    case round =>
      obtain ⟨n, hn, rfl, rfl, hO, hbl⟩ := hrel
      clear hE hal
      obtain ⟨wo, rfl⟩ : ∃ wo : World, wo = wr := ⟨_, rfl⟩
      have f1 : (n : Int) + 1 - 1 = (n : Int) := by omega
      have f2 : IntKind.i64.wrap (n : Int) = (n : Int) := IntWalk.i64_in _ (by omega)
      have f3 : (0 : Int) ≤ (n : Int) := by omega
      have f5 : (0 : Int) ≤ (n : Int) + 1 := by omega
      have f7 : ((n : Int) + 1).toNat = n + 1 := by omega
      by_cases hlt : n + 1 < T.length
      · have f8 : (n : Int) + 1 < (T.length : Int) := by omega
        have f9 : (n : Int) < (T.length : Int) := by omega
        have hbx := hx2.trans (hbl.mono (Nat.le_refl _))
        have q0 := hbx.cell 0
        have dT : wo.cell? ⟨b, off + (n + 1), none⟩ = some (.int .i64 (gI T (n + 1))) := by rw [hbx.below.cell (p := ⟨b, off + (n + 1), none⟩) hb0]; exact HCC.out _ hlt
        have dE := (hbl.cell (p := ⟨ge, n, none⟩) hge.2).trans (HDE.out n (by omega))
        have hk := kI_bd hok hlt
        have he' := eI_bd hok n
        have hlen := pre_bd hok n hn
        have HK := Lib.hid (lastI T n)
        have HP := Lib.hid (pre_succ T n)
        have hkk : gI T (n + 1) - lastV T n = kI T n := (lastI T n).symm
        have hsz := hbl.size
        clear HK
        generalize lastV T n = y at *
        have hwk : IntKind.i64.wrap (kI T n) = kI T n := IntWalk.i64_in _ (by omega)
        generalize hxx : gI T (n + 1) = x at *
        have HXX := Lib.hid hxx
        clear hxx
        generalize kI T n = k1 at *
        generalize eI T n = e1 at *
        generalize hL : flat (pre T n) = L at *
        have HLL := Lib.hid hL
        clear hL
        go_wp2_with fail
        have SS : ∀ W : World, Below wo.heap.size wo W → W.cell? ⟨w.heap.size, 0, none⟩ = some (.slice (some ⟨b, off, none⟩) T.length cap) ∧ W.cell? ⟨b, off + (n + 1), none⟩ = some (.int .i64 x) ∧ W.cell? ⟨ge, n, none⟩ = some (.int .i64 e1) := fun W hW => by
          have hszx := hbx.size
          exact ⟨(hW.cell (p := ⟨w.heap.size, 0, none⟩) (show w.heap.size < wo.heap.size by omega)).trans q0, (hW.cell (p := ⟨b, off + (n + 1), none⟩) (show b < wo.heap.size by omega)).trans dT, (hW.cell (p := ⟨ge, n, none⟩) (show ge < wo.heap.size by omega)).trans dE⟩
        have k0 := SS wo.drew (Below.refl _ _).drew
        have hOd : OwnI wo.drew w2.heap.size u4 L := hO.below (Below.refl wo.heap.size wo).drew (Nat.le_refl _)
        have hszx := hx2.size
        have hszd : w2.heap.size ≤ wo.drew.heap.size := hsz
        have nb5 : ∀ g, g < w2.heap.size → ¬ u4.ownBlock = some g := fun g hg he => by have := (hOd.block g he).1; omega
        have hb2 : b < w2.heap.size := by omega
        have hw2 : w.heap.size < w2.heap.size := by omega
        have hbo : b < wo.heap.size := by omega
        have hwo : w.heap.size < wo.heap.size := by omega
        have hgo : ge < wo.heap.size := by omega
        clear q0 dT dE
        go_region_held3 (fun w' => w'.cell? ⟨w.heap.size, 0, none⟩ = some (.slice (some ⟨b, off, none⟩) T.length cap) ∧ w'.cell? ⟨b, off + (n + 1), none⟩ = some (.int .i64 x) ∧ w'.cell? ⟨ge, n, none⟩ = some (.int .i64 e1))
          (first | assumption | exact k0 | exact HD)
          (first | (go_at_call 198; (with_reducible refine (runOf_c u4 L k1 e1 w2.heap.size wo.drew hOd hszd (by omega) (by omega) (by omega) (by omega) (by omega)).mono ?_); rintro e w5 ⟨v5, rfl, hO5, hk5, hl5⟩; have HD : w5.cell? ⟨w.heap.size, 0, none⟩ = some (.slice (some ⟨b, off, none⟩) T.length cap) ∧ w5.cell? ⟨b, off + (n + 1), none⟩ = some (.int .i64 x) ∧ w5.cell? ⟨ge, n, none⟩ = some (.int .i64 e1) := ⟨(hk5.cell (p := ⟨w.heap.size, 0, none⟩) hwo (nb5 _ hw2)).trans k0.1, (hk5.cell (p := ⟨b, off + (n + 1), none⟩) hbo (nb5 _ hb2)).trans k0.2.1, (hk5.cell (p := ⟨ge, n, none⟩) hgo (nb5 _ hge.2)).trans k0.2.2⟩))
        have hbl5 : Below w2.heap.size w2 w5 := (hbl.trans ((Below.refl wo.heap.size wo).drew.mono hsz)).trans (hk5.below hsz (fun g hg => (hOd.block g hg).1))
        have hO6 : OwnI w5 w2.heap.size v5 (flat (pre T (n + 1))) := by rw [HP.out, flat_app, HLL.out]; exact hO5
        have q0 := HD.1
        have dT := HD.2.1
        clear hO hOd hk5 hO5 hl5 nb5 k0 SS HD
        go_wp2
        go_roundw
        case rel => exact ⟨n + 1, hlt, by go_num, by rw [lastV_succ, HXX.out], hO6, hbl5⟩
        case measure => simp [intOf]; omega
      · have hne : n = T.length - 1 := by omega
        have f8 : ¬ (n : Int) + 1 < (T.length : Int) := by omega
        have f9 : (T.length : Int) ≤ (n : Int) + 1 := by omega
        rw [hne, ← HS.out] at hO
        have HO := Lib.hid (hO.base_le (base' := w.heap.size) (by have := hx2.size; omega))
        have HF := Lib.hid (hx2.trans (hbl.mono (Nat.le_refl _))).below
        clear hO hne
        go_wp2
        go_ret
        exact ⟨_, rfl, HO.out, HF.out⟩

/-- The first k numbers, in cells of a new block that may be written. -/
def RetQ (w : World) (T : List Int) (k : Nat) (e : Ending) (w' : World) : Prop :=
  ∃ g, e = .returned (.slice (some ⟨g, 0, none⟩) k k) ∧ w.heap.size ≤ g ∧ g < w'.heap.size ∧ (∀ i, i < k → w'.cell? ⟨g, i, none⟩ = some (.int .i64 (gI (seqL T k) i))) ∧ (∀ i, w'.frozen? ⟨g, i, none⟩ = false) ∧ Below w.heap.size w w'
theorem seqP_full {T : List Int} (k c : Nat) {i : Nat} (hi : i < (seqP T ++ List.replicate c 1).length) (hk : i < k) : gI (seqP T ++ List.replicate c 1) i = gI (seqL T k) i := by
  rw [gI_seqL hk]
  unfold seqP fullL at *
  by_cases h1 : T.length = 1
  · rw [if_pos h1] at hi ⊢
    have e : T.length - 1 = 0 := by omega
    rw [e]
    have e2 : flat (pre T 0) = [] := rfl
    rw [e2, List.nil_append, gI_rep hk]
    cases i with
    | zero => rfl
    | succ i =>
      rw [gI_app_ge (by simp)]
      simp at hi
      exact gI_rep (by simp; omega)
  · rw [if_neg h1] at hi ⊢
    by_cases hl : i < (flat (pre T (T.length - 1))).length
    · rw [gI_app_lt hl, gI_app_lt hl]
    · rw [gI_app_ge (by omega), gI_app_ge (by omega)]
      simp at hi
      rw [gI_rep (by omega), gI_rep (by omega)]

set_option maxRecDepth 100000 in
set_option maxHeartbeats 4000000 in
theorem firstOf_c (v : Value) (T : List Int) (k : Nat) (w : World) (h : Rd w v T) (hok : BraOk T) (hk1 : 1 ≤ k) (hk : k ≤ 1000) :
    Calls Try.prog 108 #[.agg #[v], .int .i64 (k : Int)] w (RetQ w T k) := by
  obtain ⟨i0, hi, hz0, hz1, hz2⟩ := info_parts Try.infoI
  have hx := Boxed.start w 26 #[v]
  obtain ⟨a, cap, rfl⟩ := h.len0
  have c0 := hx.cell 0
  have hpl := pre_bd hok (T.length - 1) (by have := hok.len; omega)
  have hl7 := bra_len hok
  have hsl : (seqP T).length ≤ 100000000 := by unfold seqP; split <;> (try simp) <;> omega
  go_enter Try.func108, Try.ntmps108
  go_wp2_with fail
  refine (sequence_c _ T _ (hx.rd h) hok).mono ?_
  rintro e w1 ⟨u, rfl, hO, hb1⟩
  have hx1 := hx.trans hb1
  have hsz := hb1.size
  have hxs := hx.size
  go_wp2_with fail
  obtain ⟨ad0, kp0, hu⟩ := hO.form
  subst hu
  go_loopw [5] (fun lv wr => ∃ (c n : Nat) (ad : Option Addr) (kp : Nat), lv = .slice ad n kp ∧ n = (seqP T ++ List.replicate c 1).length ∧ OwnI wr (w.heap.size + 1) (.slice ad n kp) (seqP T ++ List.replicate c 1) ∧ Boxed w wr 26 #[.slice a T.length cap] ∧ c ≤ k) (fun lv _ => match lv with | .slice _ n _ => k - n | _ => 0)
  case atStart => exact ⟨0, _, ad0, kp0, rfl, by simp, by simpa using hO.base_le (base' := w.heap.size + 1) hxs, hx1, Nat.zero_le _⟩
  case round =>
    obtain ⟨c, n, ad, kp, rfl, hn, hO2, hbx, hc⟩ := hrel
    clear hO
    obtain ⟨wo, rfl⟩ : ∃ wo : World, wo = wr := ⟨_, rfl⟩
    have hn2 : n = (seqP T).length + c := by rw [hn]; simp
    have HN := Lib.hid hn
    have HSE := Lib.hid (fun i (h1 : i < (seqP T ++ List.replicate c 1).length) (h2 : i < k) => seqP_full k c h1 h2)
    have HRC : Hid (seqP T ++ List.replicate (c + 1) 1 = seqP T ++ List.replicate c 1 ++ [1]) := Lib.hid (by rw [List.replicate_succ', ← List.append_assoc])
    by_cases hlt : n < k
    · have hnk : (n : Int) < (k : Int) := by omega
      have hsb : w.heap.size + 1 ≤ wo.heap.size := hbx.size
      have hLn : (seqP T ++ List.replicate c 1).length = n := hn.symm
      have hcn : c ≤ n := by omega
      clear hn hn2
      generalize seqP T ++ List.replicate c 1 = L at *
      go_wp2_with (at_builtin; refine wpList_pushL rfl (.tmp 12) (.tmp 13) 24 rfl (w.heap.size + 1) 2 i0 Try.underlying24 hi hz0 hz1 hz2 (.slice ad n kp) L 1 rfl hO2 rfl (by omega) hsb ?_; intro g3 c3 w3 hown' hkp hlies; rw [hLn] at hown' ⊢)
      have hbx3 := hbx.wrote (hkp.mono (fun q hq => by have := (hO2.block q hq).1; omega))
      have hL2 : (seqP T ++ List.replicate (c + 1) 1).length = n + 1 := by rw [HRC.out, List.length_append, hLn]; rfl
      rw [← HRC.out] at hown'
      have HL2 := Lib.hid hL2
      clear hL2 hlies
      go_roundw
      case rel => exact ⟨c + 1, n + 1, _, c3, rfl, HL2.out.symm, hown', hbx3, by omega⟩
      case measure => simp; omega
    · have hnk : ¬ (n : Int) < (k : Int) := by omega
      have hkn : (k : Int) ≤ (n : Int) := by omega
      have hk0 : (0 : Int) ≤ (k : Int) := Int.natCast_nonneg _
      have hk00 : (0 : Int) ≤ 0 := by omega
      have hO3 : OwnI wo (w.heap.size + 1) (.slice ad (seqP T ++ List.replicate c 1).length kp) (seqP T ++ List.replicate c 1) := by rw [← hn]; exact hO2
      obtain ⟨g, kp', he, hg1, hg2, hg3, hg4⟩ := Own.pos hO3 (by omega)
      injection he with he1 he2 he3
      subst he1
      subst he3
      have hkc : (k : Int) ≤ (kp : Int) := by omega
      have hcells : ∀ i, i < k → wo.cell? ⟨g, i, none⟩ = some (.int .i64 (gI (seqL T k) i)) := fun i hi => by rw [hO3.cell i (by omega), HSE.out i (by omega) hi]
      have hfin : RetQ w T k (.returned (.slice (some ⟨g, 0, none⟩) k k)) wo := ⟨g, rfl, by omega, hg2, hcells, fun i => hO3.free i, hbx.below⟩
      have HF := Lib.hid hfin
      clear hfin hcells hO2 hO3 hn hn2 he2
      go_wp2
      go_ret
      exact HF.out
end Go.Proofs.Ytiinceflafigeaa
