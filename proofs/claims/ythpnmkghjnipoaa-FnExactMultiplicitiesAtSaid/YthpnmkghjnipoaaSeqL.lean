/- Contract: spec.l06Sequence. -/
import Derived.Test.YthpnmkghjnipoaaSeqS
namespace Go.Proofs.Ythpnmkghjnipoaa
open Go.RowKit

theorem take_more {X Y : List Int} {k : Nat} (h : k ≤ X.length) : (X ++ Y).take k = X.take k := List.take_append_of_le_length h
theorem take_short {X : List Int} {k : Nat} (h : (X.take k).length < k) : X.take k = X ∧ X.length < k := by
  rw [List.length_take] at h
  exact ⟨List.take_of_length_le (by omega), by omega⟩
/-- One more number, where there is room. -/
theorem take_push {X : List Int} {k : Nat} {y : Int} (h : (X.take k).length < k) : X.take k ++ [y] = (X ++ [y]).take k := by
  obtain ⟨h1, h2⟩ := take_short h
  rw [h1, List.take_of_length_le (by simp; omega)]
theorem pre_mem {T : List Int} (h : BraOk T) : ∀ n, n < T.length → ∀ s, s ∈ pre T n → 0 ≤ s.1 ∧ s.1 ≤ 100000 ∧ 0 < s.2 ∧ s.2 ≤ 100000 := by
  intro n
  induction n with
  | zero => intro _ s hs; simp [pre] at hs
  | succ n ih =>
    intro hn s hs
    rw [pre_succ] at hs
    have he := eI_bd h n
    have hk := kI_bd h hn
    rcases List.mem_append.1 hs with hs | hs
    · exact ih (by omega) s hs
    · exact stp_bd _ _ _ (by omega) (by omega) (by omega) s hs

set_option maxRecDepth 100000 in
set_option maxHeartbeats 4000000 in
theorem l06Sequence_c (v : Value) (T : List Int) (k : Nat) (w : World) (h : Rd w v T) (hok : BraOk T) (hk : k ≤ 1000) :
    Calls Try.prog 86 #[.agg #[v], .int .i64 (k : Int)] w (RetI w (seqL T k)) := by
  obtain ⟨i0, hi, hz0, hz1, hz2⟩ := info_parts Try.infoI
  have hp := hok.len
  have hx := Boxed.start w 28 #[v]
  obtain ⟨a, cap, rfl⟩ := h.len0
  have hal0 : Below (w.alloc (.cells #[.slice a T.length cap] 28)).heap.size (w.alloc (.cells #[.slice a T.length cap] 28)) ((w.alloc (.cells #[.slice a T.length cap] 28)).alloc (.cells #[] 2)) := (Below.refl _ _).alloc (Nat.le_refl _) _
  have hx1 := hx.trans hal0
  have hE0 : OwnI ((w.alloc (.cells #[.slice a T.length cap] 28)).alloc (.cells #[] 2)) (w.heap.size + 1) (.slice (some ⟨w.heap.size + 1, 0, none⟩) 0 0) [] := own_empty_at _ _ _ (by simp) (Nat.le_refl _)
  have c0 := hx1.cell 0
  have hpl := pre_len hok (T.length - 1) (by omega)
  have hl7 := bra_len hok
  have HPM := Lib.hid (pre_mem hok (T.length - 1) (by omega))
  go_enter Try.func86, Try.ntmps86
  go_wp2_with fail
  refine (l04Runs_c _ T _ (hx1.rd h) hok).mono ?_
  rintro e w1 ⟨ar, kr, V, rfl, hM, hb1⟩
  have hx2 := hx1.trans hb1
  have hO1 := hE0.below hb1 (Nat.le_refl _)
  rw [rowsOf_len] at hM ⊢
  have hSq := Lib.hid (show seqL T k = (flat (pre T (T.length - 1)) ++ List.replicate k 1).take k from rfl)
  generalize hgR : pre T (T.length - 1) = R at *
  clear hgR
  have hFA := Lib.hid (flatTo_all R)
  have hF0 := Lib.hid (flatTo_zero R)
  have hFS := Lib.hid (fun m (hm : m < R.length) => flatTo_succ hm)
  have hRS := Lib.hid (fun m (hm : m < R.length) => gR_rowsOf hm)
  have hSB := Lib.hid (fun m (hm : m < R.length) => HPM.out (R.getD m (0, 0)) (by simp [List.getD, hm]))
  have hblk := hM.block
  have hb0 := hx1.size
  clear c0 hE0 hal0
  go_wp2_with fail
  go_loopw [5, 7, 8] (fun lv iv _ wr => ∃ (m n : Nat) (ad : Option Addr) (kp : Nat), m ≤ R.length ∧ iv = .int .i64 m ∧ lv = .slice ad n kp ∧ n = ((flatTo R m).take k).length ∧ OwnI wr (w.heap.size + 1) (.slice ad n kp) ((flatTo R m).take k) ∧ Keeps (fun q => q = w.heap.size + 1) w1 wr ∧ (∀ g, (Value.slice ad n kp).ownBlock = some g → g = w.heap.size + 1 ∨ w1.heap.size ≤ g)) (fun _ iv _ _ => R.length - (intOf iv).toNat)
  case atStart => exact ⟨0, 0, _, 0, Nat.zero_le _, rfl, rfl, by rw [hF0.out, List.take_nil]; rfl, by rw [hF0.out, List.take_nil]; exact hO1, Keeps.refl _ _, fun g hg => by simp [Value.ownBlock] at hg; exact .inl hg.symm⟩
  case round =>
    obtain ⟨m, n, ad, kp, hm, rfl, rfl, hn, hO, hkp, hlies⟩ := hrel
    clear hO1
    obtain ⟨wo, rfl⟩ : ∃ wo : World, wo = wr := ⟨_, rfl⟩
    have hm0 : (0 : Int) ≤ (m : Int) := Int.natCast_nonneg _
    by_cases hlt : m < R.length
    · have hmi : (m : Int) < (R.length : Int) := by omega
      obtain ⟨bq, hbq, hbql, hcq⟩ : ∃ bq, ar = some ⟨bq, 0, none⟩ ∧ (w.heap.size + 2 ≤ bq ∧ bq < w1.heap.size) ∧ w1.cell? ⟨bq, m, none⟩ = some (V m) := by
        rcases hM.shape with ⟨_, he⟩ | ⟨g, cap, he, h1, h2, _, _, h5⟩
        · have := congrArg List.length he; rw [rowsOf_len, List.length_nil] at this; omega
        · injection he with he1 _ _
          simp at h1
          exact ⟨g, he1, ⟨h1, h2⟩, h5 m (by simpa using hlt)⟩
      subst hbq
      have hrow := hM.row m (by simpa using hlt)
      rw [hRS.out m hlt] at hrow
      have hsb := hSB.out m hlt
      have HS := Lib.hid (hFS.out m hlt)
      obtain ⟨bu, cu, hVe, hbu1, hbu2, _, _⟩ := Own.pos hrow (by simp)
      simp at hbu1
      rw [hVe] at hrow hcq
      have du0 : w1.cell? ⟨bu, 0, none⟩ = some (.int .i64 (R.getD m (0, 0)).1) := Own.cell hrow 0 (by simp)
      have du1 : w1.cell? ⟨bu, 1, none⟩ = some (.int .i64 (R.getD m (0, 0)).2) := Own.cell hrow 1 (by simp)
      have hl2 : [(R.getD m (0, 0)).1, (R.getD m (0, 0)).2].length = 2 := rfl
      rw [hl2] at hcq
      clear hl2 hrow hVe
      generalize (R.getD m (0, 0)).1 = q at *
      generalize (R.getD m (0, 0)).2 = r at *
      have dq := (hkp.cell (p := ⟨bq, m, none⟩) hbql.2 (show ¬ bq = w.heap.size + 1 by omega)).trans hcq
      have d0 := (hkp.cell (p := ⟨bu, 0, none⟩) hbu2 (show ¬ bu = w.heap.size + 1 by omega)).trans du0
      go_wp2_with fail
      go_loopw [5, 8] (fun lv qv wr => ∃ (Q : Int) (n : Nat) (ad : Option Addr) (kp : Nat), 0 ≤ Q ∧ Q ≤ q ∧ qv = .int .i64 Q ∧ lv = .slice ad n kp ∧ n = ((flatTo R m ++ List.replicate (q - Q).toNat r).take k).length ∧ OwnI wr (w.heap.size + 1) (.slice ad n kp) ((flatTo R m ++ List.replicate (q - Q).toNat r).take k) ∧ Keeps (fun q => q = w.heap.size + 1) w1 wr ∧ (∀ g, (Value.slice ad n kp).ownBlock = some g → g = w.heap.size + 1 ∨ w1.heap.size ≤ g)) (fun _ qv _ => (intOf qv).toNat)
      case atStart => exact ⟨q, n, ad, kp, hsb.1, Int.le_refl _, rfl, rfl, by rw [Int.sub_self]; simpa using hn, by rw [Int.sub_self]; simpa using hO, hkp, hlies⟩
      case round =>
        obtain ⟨Q, n2, ad2, kp2, hQ0, hQ1, rfl, rfl, hn2, hO2, hkp2, hlies2⟩ := hrel
        clear hO dq d0 hlies hkp hn
        obtain ⟨wi, rfl⟩ : ∃ wi : World, wi = wr := ⟨_, rfl⟩
        have dq2 := (hkp2.cell (p := ⟨bq, m, none⟩) hbql.2 (show ¬ bq = w.heap.size + 1 by omega)).trans hcq
        have d1 := (hkp2.cell (p := ⟨bu, 1, none⟩) hbu2 (show ¬ bu = w.heap.size + 1 by omega)).trans du1
        have HL2 := Lib.hid hlies2
        have hn2k : n2 ≤ k := by rw [hn2, List.length_take]; omega
        by_cases hQ : 0 < Q
        · by_cases hnk : n2 < k
          · have hni : (n2 : Int) < (k : Int) := by omega
            have HY : Hid ((flatTo R m ++ List.replicate (q - Q).toNat r).take k ++ [r] = (flatTo R m ++ List.replicate (q - (Q - 1)).toNat r).take k) := Lib.hid (by
              rw [take_push (by rw [← hn2]; exact hnk), show (q - (Q - 1)).toNat = (q - Q).toNat + 1 by omega, List.replicate_succ', List.append_assoc])
            have hsz2 := hkp2.size
            have hbs : w.heap.size + 1 ≤ wi.heap.size := by have := hx2.size; omega
            have wQ : IntKind.i64.wrap (Q - 1) = Q - 1 := IntWalk.i64_in _ (by omega)
            have hLn : ((flatTo R m ++ List.replicate (q - Q).toNat r).take k).length = n2 := hn2.symm
            clear hlies2 hn2
            generalize (flatTo R m ++ List.replicate (q - Q).toNat r).take k = L at *
            go_wp2_with (at_builtin; refine wpList_pushL rfl (.tmp 34) (.tmp 41) 22 rfl (w.heap.size + 1) 2 i0 Try.underlying22 hi hz0 hz1 hz2 (.slice ad2 n2 kp2) L r rfl hO2 rfl (by omega) hbs ?_; intro g3 c3 w3 hown' hkp3 hlies3; rw [hLn] at hown' ⊢)
            have hkk := hkp2.join hkp3 (fun x hx hn => (HL2.out x hn).elim id (fun h => by omega))
            have hl4 : ∀ g, (Value.slice (some ⟨g3, 0, none⟩) (n2 + 1) c3).ownBlock = some g → g = w.heap.size + 1 ∨ w1.heap.size ≤ g := fun g hg => by
              simp only [Value.ownBlock, Option.some.injEq] at hg
              subst hg
              rcases hlies3 with h | h
              · exact HL2.out _ h
              · exact .inr (by omega)
            have HL4 := Lib.hid hl4
            have hlen2 : n2 + 1 = ((flatTo R m ++ List.replicate (q - (Q - 1)).toNat r).take k).length := by rw [← HY.out, List.length_append, hLn]; rfl
            rw [HY.out] at hown'
            have HLEN := Lib.hid hlen2
            clear hl4 hlies3 hkp3 hlen2
            go_roundw
            case rel => exact ⟨Q - 1, n2 + 1, _, c3, by omega, by omega, rfl, rfl, HLEN.out, hown', hkk, HL4.out⟩
            case measure => simp [intOf]; omega
          · have hni : ¬ (n2 : Int) < (k : Int) := by omega
            have hnk' : n2 = k := by omega
            have hX : k ≤ (flatTo R m ++ List.replicate (q - Q).toNat r).length := by rw [List.length_take] at hn2; omega
            have hfin : (flatTo R m ++ List.replicate (q - Q).toNat r).take k = (flatTo R (m + 1)).take k := by
              rw [HS.out, ← take_more (Y := List.replicate (q.toNat - (q - Q).toNat) r) hX, List.append_assoc, List.replicate_append_replicate, show (q - Q).toNat + (q.toNat - (q - Q).toNat) = q.toNat by omega]
            rw [hfin] at hO2 hn2
            have HN2 := Lib.hid hn2
            clear hlies2 hn2 hfin hX hnk'
            go_wp2
            go_roundw
            case rel => exact ⟨m + 1, n2, ad2, kp2, by omega, by go_num, rfl, HN2.out, hO2, hkp2, HL2.out⟩
            case measure => simp [intOf]; omega
        · have hQe : Q = 0 := by omega
          subst hQe
          rw [Int.sub_zero, ← HS.out] at hO2 hn2
          have HN2 := Lib.hid hn2
          clear hlies2 hn2
          go_wp2
          go_roundw
          case rel => exact ⟨m + 1, n2, ad2, kp2, by omega, by go_num, rfl, HN2.out, hO2, hkp2, HL2.out⟩
          case measure => simp [intOf]; omega
    · have hme : m = R.length := by omega
      subst hme
      rw [hFA.out] at hO hn
      have HL2 := Lib.hid hlies
      have hn' := hn
      clear hlies
      go_wp2_with fail
      go_loopw [5] (fun lv wr => ∃ (c n : Nat) (ad : Option Addr) (kp : Nat), lv = .slice ad n kp ∧ n = ((flat R ++ List.replicate c 1).take k).length ∧ OwnI wr (w.heap.size + 1) (.slice ad n kp) ((flat R ++ List.replicate c 1).take k) ∧ Keeps (fun q => q = w.heap.size + 1) w1 wr ∧ (∀ g, (Value.slice ad n kp).ownBlock = some g → g = w.heap.size + 1 ∨ w1.heap.size ≤ g) ∧ c ≤ k) (fun lv _ => match lv with | .slice _ n _ => k - n | _ => 0)
      case atStart => exact ⟨0, n, ad, kp, rfl, by simpa using hn, by simpa using hO, hkp, HL2.out, Nat.zero_le _⟩
      case round =>
        obtain ⟨c, n2, ad2, kp2, rfl, hn2, hO2, hkp2, hlies2, hck⟩ := hrel
        clear hO hn hn' hkp HL2
        obtain ⟨wi, rfl⟩ : ∃ wi : World, wi = wr := ⟨_, rfl⟩
        have HL2 := Lib.hid hlies2
        have hn2k : n2 ≤ k := by rw [hn2, List.length_take]; omega
        by_cases hnk : n2 < k
        · have hni : (n2 : Int) < (k : Int) := by omega
          have hcn : c ≤ n2 := by rw [hn2, List.length_take]; simp; omega
          have HY : Hid ((flat R ++ List.replicate c 1).take k ++ [1] = (flat R ++ List.replicate (c + 1) 1).take k) := Lib.hid (by
            rw [take_push (by rw [← hn2]; exact hnk), List.replicate_succ', List.append_assoc])
          have hsz2 := hkp2.size
          have hbs : w.heap.size + 1 ≤ wi.heap.size := by have := hx2.size; omega
          have hLn : ((flat R ++ List.replicate c 1).take k).length = n2 := hn2.symm
          clear hlies2 hn2
          generalize (flat R ++ List.replicate c 1).take k = L at *
          go_wp2_with (at_builtin; refine wpList_pushL rfl (.tmp 47) (.tmp 48) 22 rfl (w.heap.size + 1) 2 i0 Try.underlying22 hi hz0 hz1 hz2 (.slice ad2 n2 kp2) L 1 rfl hO2 rfl (by omega) hbs ?_; intro g3 c3 w3 hown' hkp3 hlies3; rw [hLn] at hown' ⊢)
          have hkk := hkp2.join hkp3 (fun x hx hn => (HL2.out x hn).elim id (fun h => by omega))
          have hl4 : ∀ g, (Value.slice (some ⟨g3, 0, none⟩) (n2 + 1) c3).ownBlock = some g → g = w.heap.size + 1 ∨ w1.heap.size ≤ g := fun g hg => by
            simp only [Value.ownBlock, Option.some.injEq] at hg
            subst hg
            rcases hlies3 with h | h
            · exact HL2.out _ h
            · exact .inr (by omega)
          have HL4 := Lib.hid hl4
          have hlen2 : n2 + 1 = ((flat R ++ List.replicate (c + 1) 1).take k).length := by rw [← HY.out, List.length_append, hLn]; rfl
          rw [HY.out] at hown'
          have HLEN := Lib.hid hlen2
          clear hl4 hlies3 hkp3 hlen2
          go_roundw
          case rel => exact ⟨c + 1, n2 + 1, _, c3, rfl, HLEN.out, hown', hkk, HL4.out, by omega⟩
          case measure => simp; omega
        · have hni : ¬ (n2 : Int) < (k : Int) := by omega
          have hkn : (k : Int) ≤ (n2 : Int) := by omega
          have hnk' : n2 = k := by omega
          have hX : k ≤ (flat R ++ List.replicate c 1).length := by rw [List.length_take] at hn2; omega
          have hfin : (flat R ++ List.replicate c 1).take k = seqL T k := by
            rw [hSq.out, ← take_more (Y := List.replicate (k - c) 1) hX, List.append_assoc, List.replicate_append_replicate, show c + (k - c) = k by omega]
          rw [hfin] at hO2 hn2
          have hbl : Below w.heap.size w wi := hx2.below.trans (hkp2.below (by have := hx2.size; omega) (fun x hx => by omega))
          have hret : RetI w (seqL T k) (.returned (.slice ad2 n2 kp2)) wi := retI_mk (hO2.base_le (Nat.le_succ _)) hbl
          have HF := Lib.hid hret
          clear hlies2 hn2 hfin hX hnk' hO2 hret
          go_wp2
          go_ret
          exact HF.out
end Go.Proofs.Ythpnmkghjnipoaa
