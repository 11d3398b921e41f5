/- Contracts: impl.IsCluster and spec.l07Is: both tell whether three lists are a cluster. -/
import Derived.Test.YtiinceflafigeaaDoorBraPure
namespace Go.Proofs.YtiinceflafigeaaDoor
open Go.RowKit

theorem freshOk_step {P S : List Int} {i j : Nat} (h : ∀ x, x < j → ¬ (0 ≤ gI S i ∧ gI S i = gI S x ∧ gI P i = gI P x)) (hj : ¬ (0 ≤ gI S i ∧ gI S i = gI S j ∧ gI P i = gI P j)) :
    ∀ x, x < j + 1 → ¬ (0 ≤ gI S i ∧ gI S i = gI S x ∧ gI P i = gI P x) := by
  intro x hx
  by_cases e : x = j
  · rw [e]; exact hj
  · exact h x (by omega)

theorem goodClu_step {P S : List Int} {i : Nat} (h : ∀ x, x < i → placeOk P S x ∧ freshOk P S x) (h1 : placeB P S i = true) (h2 : freshOk P S i) : ∀ x, x < i + 1 → placeOk P S x ∧ freshOk P S x := by
  intro x hx
  by_cases e : x = i
  · rw [e]; exact ⟨by simpa [placeB] using h1, h2⟩
  · exact h x (by omega)

set_option maxHeartbeats 1000000 in
theorem implIsCluster_c (p s q : Value) (P S W : List Int) (w : World) (hp : Rd w p P) (hs : Rd w s S) (hq : Rd w q W) :
    Calls Tryd.prog 56 #[.agg #[p, s, q]] w fun e w' => e = .returned (.bool (cluB P S W)) ∧ Below w.heap.size w w' := by
  by_cases hsh : 0 < P.length ∧ P.length ≤ 24 ∧ S.length = P.length ∧ W.length = P.length
  · obtain ⟨hk0, hk24, hS, hW⟩ := hsh
    have e1 : ((S.length : Int) != (P.length : Int)) = false := by simp; omega
    have e2 : ((W.length : Int) != (P.length : Int)) = false := by simp; omega
    have HS := Lib.hid hS
    have HW := Lib.hid hW
    have hS1 : P.length ≤ S.length := by omega
    have hS2 : S.length ≤ P.length := by omega
    clear hS hW
    have HP := Lib.hid hp
    have HSr := Lib.hid hs
    have HQ := Lib.hid hq
    obtain ⟨bp, op, kp, rfl, hpc1, hpc2, hpb, hpc⟩ := hp.cells hk0
    obtain ⟨bs, os, ks, rfl, hsc1, hsc2, hsb, hsc⟩ := hs.cells (by omega)
    obtain ⟨aq, kq, rfl⟩ := hq.len0
    clear hp hs hq
    by_cases hwi : allIn W (-100000) 100000 = true
    · go_enter Tryd.func56, Tryd.ntmps56
      go_wp2_with fail
      refine (within_c _ W _ _ _ (HQ.out.below (Boxed.start _ _ _).below (Nat.le_refl _))).mono ?_
      rintro e w' ⟨rfl, rfl⟩
      go_wp2_with fail
      go_loopw [4, 5, 34, 42] (fun _ _ i _ wr => ∃ k : Nat, k ≤ P.length ∧ i = .int .i64 k ∧ (∀ x, x < k → placeOk P S x ∧ freshOk P S x) ∧ Boxed w wr 47 #[.slice (some ⟨bp, op, none⟩) P.length kp, .slice (some ⟨bs, os, none⟩) S.length ks, .slice aq W.length kq]) (fun _ _ i _ _ => P.length - (intOf i).toNat)
      case atStart => exact ⟨0, Nat.zero_le _, rfl, fun x hx => absurd hx (by omega), Boxed.start _ _ _⟩
      case round =>
        obtain ⟨k, hk, rfl, hg, hbx⟩ := hrel
        obtain ⟨wo, rfl⟩ : ∃ wo : World, wo = wr := ⟨_, rfl⟩
        by_cases hlt : k < P.length
        · have HG := Lib.hid hg
          clear hg
          have c0 := hbx.cell 0
          have c1 := hbx.cell 1
          have c2 := hbx.cell 2
          by_cases hpl : placeB P S k = true
          · go_wp2_with fail
            refine (isPlace_c _ _ _ P S k _ (hbx.rd HP.out) (hbx.rd HSr.out) HS.out hlt hk24).mono ?_
            rintro e w2 ⟨rfl, hb2⟩
            have hbx2 := hbx.trans hb2
            clear hbx hb2 c0 c1 c2
            go_wp2_with fail
            go_loopw [5, 42] (fun _ j w3 => ∃ m : Nat, m ≤ k ∧ j = .int .i64 m ∧ (∀ x, x < m → ¬ (0 ≤ gI S k ∧ gI S k = gI S x ∧ gI P k = gI P x)) ∧ Boxed w w3 47 #[.slice (some ⟨bp, op, none⟩) P.length kp, .slice (some ⟨bs, os, none⟩) S.length ks, .slice aq W.length kq]) (fun _ j _ => k - (intOf j).toNat)
            case atStart => exact ⟨0, Nat.zero_le _, rfl, fun x hx => absurd hx (by omega), hbx2⟩
            case round =>
              obtain ⟨m, hm, rfl, hf, hbx⟩ := hrel
              clear hbx2
              obtain ⟨w4, rfl⟩ : ∃ wo : World, wo = wr := ⟨_, rfl⟩
              by_cases hmk : m < k
              · have c0 := hbx.cell 0
                have c1 := hbx.cell 1
                have dPk : w4.cell? ⟨bp, op + k, none⟩ = some (.int .i64 (gI P k)) := by rw [hbx.below.cell (p := ⟨bp, op + k, none⟩) hpb]; exact hpc k hlt
                have dPm : w4.cell? ⟨bp, op + m, none⟩ = some (.int .i64 (gI P m)) := by rw [hbx.below.cell (p := ⟨bp, op + m, none⟩) hpb]; exact hpc m (by omega)
                have dSk : w4.cell? ⟨bs, os + k, none⟩ = some (.int .i64 (gI S k)) := by rw [hbx.below.cell (p := ⟨bs, os + k, none⟩) hsb]; exact hsc k (by omega)
                have dSm : w4.cell? ⟨bs, os + m, none⟩ = some (.int .i64 (gI S m)) := by rw [hbx.below.cell (p := ⟨bs, os + m, none⟩) hsb]; exact hsc m (by omega)
                have HF := Lib.hid (@freshOk_step P S k m hf)
                have HBad : Hid ((0 ≤ gI S k ∧ gI S k = gI S m ∧ gI P k = gI P m) → cluB P S W = false) := Lib.hid (fun hbad => cluB_no (fun h => (h.2.2 k hlt).2 m hmk hbad))
                have HX := Lib.hid hbx
                have HPC := Lib.hid hpc
                have HSC := Lib.hid hsc
                clear hf hbx hpc hsc
                generalize gI S k = sk at dSk HF HBad
                generalize gI S m = sm at dSm HF HBad
                generalize gI P k = pk at dPk HF HBad
                generalize gI P m = pm at dPm HF HBad
                by_cases h1 : 0 ≤ sk
                · have h1' : decide (0 ≤ sk) = true := by simpa using h1
                  by_cases h2 : (sk == sm) = true
                  · by_cases h3 : (pk == pm) = true
                    · have hbad := Lib.hid (HBad.out ⟨h1, by simpa using h2, by simpa using h3⟩)
                      clear HF HBad
                      go_wp2
                      go_quiet (fail)
                      go_wp2
                      go_ret
                      exact ⟨ret_bool hbad.out.symm, (HX.out.drewN _).below⟩
                    · have h3' : (pk == pm) = false := by simpa using h3
                      have HF' := Lib.hid (HF.out (by intro h; simp [h.2.2] at h3'))
                      clear HF HBad h3
                      go_wp2
                      go_quiet (fail)
                      go_wp2
                      go_roundw
                      case rel => exact ⟨m + 1, by omega, by go_num, HF'.out, HX.out.drewN _⟩
                      case measure => simp [intOf]; omega
                  · have h2' : (sk == sm) = false := by simpa using h2
                    have HF' := Lib.hid (HF.out (by intro h; simp [h.2.1] at h2'))
                    clear HF HBad h2
                    go_wp2
                    go_quiet (fail)
                    go_wp2
                    go_roundw
                    case rel => exact ⟨m + 1, by omega, by go_num, HF'.out, HX.out.drewN _⟩
                    case measure => simp [intOf]; omega
                · have h1' : decide (0 ≤ sk) = false := by simpa using h1
                  have HF' := Lib.hid (HF.out (by intro h; exact h1 h.1))
                  clear HF HBad h1
                  go_wp2
                  go_quiet (fail)
                  go_wp2
                  go_roundw
                  case rel => exact ⟨m + 1, by omega, by go_num, HF'.out, HX.out.drewN _⟩
                  case measure => simp [intOf]; omega
              · have hmk' : m = k := by omega
                have HF := Lib.hid (goodClu_step HG.out hpl (fun x hx => hf x (by omega)))
                clear hf hmk'
                go_wp2
                go_roundw
                case rel => exact ⟨k + 1, by omega, by go_num, HF.out, hbx⟩
                case measure => simp [intOf]; omega
          · have hpl' : placeB P S k = false := by simpa using hpl
            clear hpl
            have HF := Lib.hid (cluB_no (P := P) (S := S) (W := W) (fun h => by have := (h.2.2 k hlt).1; rw [placeB_yes this] at hpl'; cases hpl'))
            go_wp2_with fail
            refine (isPlace_c _ _ _ P S k _ (hbx.rd HP.out) (hbx.rd HSr.out) HS.out hlt hk24).mono ?_
            rintro e w2 ⟨rfl, hb2⟩
            go_wp2
            go_ret
            exact ⟨ret_bool HF.out.symm, (hbx.trans hb2).below⟩
        · go_wp2
          have hk' : k = P.length := by omega
          subst hk'
          go_ret
          exact ⟨ret_bool (cluB_iff.2 ⟨⟨hk0, hk24, HS.out, HW.out⟩, allIn_iff.1 hwi, hg⟩).symm, hbx.below⟩
    · have hwi' : allIn W (-100000) 100000 = false := by simpa using hwi
      have HF := Lib.hid (cluB_no (P := P) (S := S) (W := W) (fun h => by rw [allIn_iff.2 h.2.1] at hwi'; cases hwi'))
      clear hwi
      go_enter Tryd.func56, Tryd.ntmps56
      go_wp2_with fail
      refine (within_c _ W _ _ _ (HQ.out.below (Boxed.start _ _ _).below (Nat.le_refl _))).mono ?_
      rintro e w' ⟨rfl, rfl⟩
      go_wp2
      go_ret
      exact ⟨ret_bool HF.out.symm, (Boxed.start _ _ _).below⟩
  · have HF := Lib.hid (cluB_no (P := P) (S := S) (W := W) (fun h => hsh h.1))
    obtain ⟨ap, kp, rfl⟩ := hp.len0
    obtain ⟨a', ks, rfl⟩ := hs.len0
    obtain ⟨aq, kq, rfl⟩ := hq.len0
    have hsh' : ¬ (0 < P.length) ∨ ¬ (P.length ≤ 24) ∨ ((0 < P.length ∧ P.length ≤ 24) ∧ ((S.length : Int) != (P.length : Int)) = true) ∨ ((0 < P.length ∧ P.length ≤ 24) ∧ ((S.length : Int) != (P.length : Int)) = false ∧ ((W.length : Int) != (P.length : Int)) = true) := by
      by_cases a1 : 0 < P.length
      · by_cases a2 : P.length ≤ 24
        · by_cases a3 : S.length = P.length
          · exact .inr (.inr (.inr ⟨⟨a1, a2⟩, by simp [a3], by simp; intro e; exact hsh ⟨a1, a2, a3, by omega⟩⟩))
          · exact .inr (.inr (.inl ⟨⟨a1, a2⟩, by simp; omega⟩))
        · exact .inr (.inl a2)
      · exact .inl a1
    clear hsh hp hs hq
    rcases hsh' with h | h | h | h
    all_goals
      go_enter Tryd.func56, Tryd.ntmps56
      go_wp2
      go_ret
      exact ⟨ret_bool HF.out.symm, (Boxed.start _ _ _).below⟩
end Go.Proofs.YtiinceflafigeaaDoor
