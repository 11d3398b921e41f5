/- Contracts: spec.l07Near and spec.l07Is. -/
import Derived.Test.YtglghdkjppcedaaGreatDoorPart3
import Derived.Lib.QuietBelow
import Derived.Test.YtglghdkjppcedaaGreatDoorPart2
namespace Go.Proofs.YtglghdkjppcedaaGreatDoor
open Go.RowKit Go.Sort

/-- Is the point i proximate to j? -/
def nearB (P S : List Int) (i : Nat) (j : Int) : Bool := decide (0 ≤ j ∧ (gI P i = j ∨ gI S i = j))
theorem nearB_iff {P S : List Int} {i : Nat} {j : Int} : nearB P S i j = true ↔ (0 ≤ j ∧ (gI P i = j ∨ gI S i = j)) := by simp [nearB]
theorem nearB_not {P S : List Int} {i : Nat} {j : Int} : nearB P S i j = false ↔ ¬ (0 ≤ j ∧ (gI P i = j ∨ gI S i = j)) := by simp only [nearB, decide_eq_false_iff_not]

set_option maxHeartbeats 400000 in
theorem l07Near_c (p s q : Value) (P S : List Int) (i j : Int) (w : World) (hp : Rd w p P) (hs : Rd w s S) (hl : S.length = P.length) (h0 : 0 ≤ i) (hi : i < P.length) :
    Calls Tryz.prog 66 #[.agg #[p, s, q], .int .i64 i, .int .i64 j] w fun e w' => e = .returned (.bool (nearB P S i.toNat j)) ∧ Below w.heap.size w w' := by
  obtain ⟨i, rfl⟩ := Int.eq_ofNat_of_zero_le h0
  have hi' : i < P.length := by omega
  obtain ⟨bp, op, kp, rfl, hpc1, hpc2, hpb, hpc⟩ := hp.cells (by omega)
  obtain ⟨bs, os, ks, rfl, hsc1, hsc2, hsb, hsc⟩ := hs.cells (by omega)
  have hP := hpc i hi'
  have hS := hsc i (by omega)
  have hl1 : (i : Int) < S.length := by omega
  have HY := Lib.hid (@nearB_iff P S i j)
  have HN := Lib.hid (@nearB_not P S i j)
  rw [Int.toNat_natCast]
  clear hpc hsc hl h0
  generalize gI P i = pi at hP HY HN
  generalize gI S i = si at hS HY HN
  by_cases h1 : 0 ≤ j
  · by_cases h2 : (pi == j) = true
    · go_enter Tryz.func66, Tryz.ntmps66
      go_wp2
      go_ret
      refine ⟨ret_bool ?_, (Boxed.start _ _ _).below⟩
      rw [HY.out.2 ⟨h1, .inl (by simpa using h2)⟩]
    · have h2' : (pi == j) = false := by simpa using h2
      clear h2
      go_enter Tryz.func66, Tryz.ntmps66
      go_wp2
      go_ret
      refine ⟨ret_bool ?_, (Boxed.start _ _ _).below⟩
      by_cases h3 : si = j
      · rw [HY.out.2 ⟨h1, .inr h3⟩]; simp [h3]
      · rw [HN.out.2 (by intro h; rcases h.2 with h | h <;> simp_all)]; simp [h3]
  · have h1' : decide (0 ≤ j) = false := by simpa using h1
    go_enter Tryz.func66, Tryz.ntmps66
    go_wp2
    go_ret
    refine ⟨ret_bool ?_, (Boxed.start _ _ _).below⟩
    rw [HN.out.2 (fun h => by omega)]

/-- What spec.l07Is asks of the point k is what is asked of a cluster. -/
theorem place_iff {P S : List Int} {k : Nat} (hk : 0 < k) (h : ∀ x, x < k → placeOk P S x) :
    placeOk P S k ↔ (inB (gI P k) 0 ((k : Int) - 1) = true ∧ (gI S k = -1 ∨ (inB (gI S k) 0 ((k : Int) - 1) = true ∧ nearB P S (gI P k).toNat (gI S k) = true))) := by
  rw [inB_iff, inB_iff, nearB_iff]
  constructor
  · intro hp
    rcases hp with ⟨h0, _⟩ | ⟨h0, h1, h2, h3⟩
    · omega
    · refine ⟨by omega, ?_⟩
      rcases h3 with h3 | ⟨h3, h4⟩
      · exact .inl h3
      · have hlt := second_lt h (gI P k).toNat (by omega)
        exact .inr ⟨by rcases h4 with h4 | h4 <;> omega, by omega, by omega⟩
  · rintro ⟨h1, h2⟩
    refine .inr ⟨hk, by omega, by omega, ?_⟩
    rcases h2 with h2 | ⟨h2, h3, h4⟩
    · exact .inl h2
    · exact .inr ⟨h3, by omega⟩

theorem fresh_of_one {P S : List Int} {k : Nat} (h0 : gI S 0 = -1) (h : ∀ x, 1 ≤ x → x < k → ¬ (gI P x = gI P k ∧ gI S x = gI S k)) : freshOk P S k := by
  intro x hx hbad
  by_cases e : x = 0
  · subst e; omega
  · exact h x (by omega) hx ⟨hbad.2.2.symm, hbad.2.1.symm⟩

/-- What the loop of spec.l07Is has seen. -/
def seenClu (P S W : List Int) (k : Nat) : Prop := ∀ x, x < k → (-100000 ≤ gI W x ∧ gI W x ≤ 100000) ∧ placeOk P S x ∧ freshOk P S x
theorem seenClu_step {P S W : List Int} {k : Nat} (h : seenClu P S W k) (h1 : inB (gI W k) (-100000) 100000 = true) (h2 : placeOk P S k) (h3 : freshOk P S k) : seenClu P S W (k + 1) := by
  intro x hx
  by_cases e : x = k
  · rw [e]; exact ⟨inB_iff.1 h1, h2, h3⟩
  · exact h x (by omega)

set_option maxRecDepth 100000 in
set_option maxHeartbeats 2000000 in
theorem l07Is_c (p s q : Value) (P S W : List Int) (w : World) (hp : Rd w p P) (hs : Rd w s S) (hq : Rd w q W) :
    Calls Tryz.prog 37 #[.agg #[p, s, q]] w fun e w' => e = .returned (.bool (cluB P S W)) ∧ Below w.heap.size w w' := by
  by_cases hsh : (0 < P.length ∧ P.length ≤ 24 ∧ S.length = P.length ∧ W.length = P.length) ∧ gI P 0 = -1 ∧ gI S 0 = -1
  · obtain ⟨⟨hk0, hk24, hS, hW⟩, hP0, hS0⟩ := hsh
    have e1 : ((S.length : Int) != (P.length : Int)) = false := by simp; omega
    have e2 : ((W.length : Int) != (P.length : Int)) = false := by simp; omega
    have e3 : inB (P.length : Int) 1 24 = true := inB_iff.2 (by omega)
    have HS := Lib.hid hS
    have HW := Lib.hid hW
    have hS1 : P.length ≤ S.length := by omega
    have hS2 : S.length ≤ P.length := by omega
    have hW1 : P.length ≤ W.length := by omega
    have hW2 : W.length ≤ P.length := by omega
    clear hS hW
    have HP := Lib.hid hp
    have HSr := Lib.hid hs
    have HQ := Lib.hid hq
    obtain ⟨bp, op, kp, rfl, hpc1, hpc2, hpb, hpc⟩ := hp.cells hk0
    obtain ⟨bs, os, ks, rfl, hsc1, hsc2, hsb, hsc⟩ := hs.cells (by omega)
    obtain ⟨bq, oq, kq, rfl, hqc1, hqc2, hqb, hqc⟩ := hq.cells (by omega)
    clear hp hs hq
    have hc0 : w.cell? ⟨bp, op, none⟩ = some (.int .i64 (-1)) := by have := hpc 0 hk0; rw [hP0] at this; exact this
    have hd0 : w.cell? ⟨bs, os, none⟩ = some (.int .i64 (-1)) := by have := hsc 0 (by omega); rw [hS0] at this; exact this
    have HP0 := Lib.hid hP0
    have HS0 := Lib.hid hS0
    clear hP0 hS0
    go_enter Tryz.func37, Tryz.ntmps37
    go_wp2_with (go_at_call 38; refine (l01In_c _ _ _ _).mono ?_; rintro e w' ⟨rfl, rfl⟩)
    go_loopw [4, 5] (fun i _ wr => ∃ k : Nat, k ≤ P.length ∧ i = .int .i64 k ∧ seenClu P S W k ∧ Boxed w wr 26 #[.slice (some ⟨bp, op, none⟩) P.length kp, .slice (some ⟨bs, os, none⟩) S.length ks, .slice (some ⟨bq, oq, none⟩) W.length kq]) (fun i _ _ => P.length - (intOf i).toNat)
    case atStart => exact ⟨0, Nat.zero_le _, rfl, fun x hx => absurd hx (by omega), Boxed.start _ _ _⟩
    case round =>
      obtain ⟨k, hk, rfl, hg, hbx⟩ := hrel
      obtain ⟨wo, rfl⟩ : ∃ wo : World, wo = wr := ⟨_, rfl⟩
      clear hc0 hd0
      by_cases hlt : k < P.length
      · have HG := Lib.hid hg
        clear hg
        have c0 := hbx.cell 0
        have c1 := hbx.cell 1
        have c2 := hbx.cell 2
        have dP : wo.cell? ⟨bp, op + k, none⟩ = some (.int .i64 (gI P k)) := by rw [hbx.below.cell (p := ⟨bp, op + k, none⟩) hpb]; exact hpc k hlt
        have dS : wo.cell? ⟨bs, os + k, none⟩ = some (.int .i64 (gI S k)) := by rw [hbx.below.cell (p := ⟨bs, os + k, none⟩) hsb]; exact hsc k (by omega)
        have dW : wo.cell? ⟨bq, oq + k, none⟩ = some (.int .i64 (gI W k)) := by rw [hbx.below.cell (p := ⟨bq, oq + k, none⟩) hqb]; exact hqc k (by omega)
        have HX := Lib.hid hbx
        have hxs := hbx.size
        clear hbx
        by_cases hw : inB (gI W k) (-100000) 100000 = true
        · by_cases hk00 : k = 0
          · subst hk00
            have HG' := Lib.hid (seenClu_step HG.out hw (.inl ⟨rfl, HP0.out, HS0.out⟩) (fun x hx => absurd hx (by omega)))
            simp only [Nat.add_zero] at dP dS dW
            go_wp2_with (go_at_call 38; refine (l01In_c _ _ _ _).mono ?_; rintro e w' ⟨rfl, rfl⟩)
            go_roundw
            case rel => exact ⟨1, by omega, by go_num, HG'.out, HX.out⟩
            case measure => simp [intOf]; omega
          · have hkp : 0 < k := by omega
            have hkb : ((k : Int) == 0) = false := by simp; omega
            have HPL := Lib.hid (place_iff hkp (fun x hx => (HG.out x hx).2.1))
            clear hk00
            by_cases hpr : inB (gI P k) 0 ((k : Int) - 1) = true
            · by_cases hs1 : (gI S k == -1) = true
              · have HG' := Lib.hid (seenClu_step HG.out hw (HPL.out.2 ⟨hpr, .inl (by simpa using hs1)⟩) (fun x hx h => by simp at hs1; omega))
                clear HPL
                go_wp2_with (go_at_call 38; refine (l01In_c _ _ _ _).mono ?_; rintro e w' ⟨rfl, rfl⟩)
                go_roundw
                case rel => exact ⟨k + 1, by omega, by go_num, HG'.out, HX.out⟩
                case measure => simp [intOf]; omega
              · have hs1' : (gI S k == -1) = false := by simpa using hs1
                clear hs1
                by_cases hsr : inB (gI S k) 0 ((k : Int) - 1) = true
                · have hpr' := inB_iff.1 hpr
                  by_cases hn : nearB P S (gI P k).toNat (gI S k) = true
                  · have HPK := Lib.hid (HPL.out.2 ⟨hpr, .inr ⟨hsr, hn⟩⟩)
                    have HBad : Hid (∀ m, m < k → (gI P m = gI P k ∧ gI S m = gI S k) → cluB P S W = false) := Lib.hid (fun m hm hbad => cluB_no (fun h => (h.2.2 k hlt).2 m hm ⟨(inB_iff.1 hsr).1, hbad.2.symm, hbad.1.symm⟩))
                    clear HPL
                    go_wp2_with (go_at_call 38; refine (l01In_c _ _ _ _).mono ?_; rintro e w' ⟨rfl, rfl⟩)
                    have k0 := cell_regrown c0
                    have k1 := cell_regrown c1
                    have k2 := cell_regrown c2
                    have kP := cell_regrown dP
                    have kS := cell_regrown dS
                    have kA : ∀ d os', Calls Tryz.prog 38 #[.int .i64 (gI S k), .int .i64 0, .int .i64 ((k : Int) - 1)] (grow (redrawn wo d) os') fun e w'' => e = .returned (.bool true) ∧ ∃ p : Regrown, w'' = grow (redrawn wo p.d) p.os :=
                      fun d os' => Calls.regrown_of ((l01In_c _ _ _ _).mono fun e w' ⟨he, hw'⟩ => ⟨by rw [he, hsr], by rw [← hw']; exact Below.refl _ _⟩)
                    have kN : ∀ d os', Calls Tryz.prog 66 #[.agg #[.slice (some ⟨bp, op, none⟩) P.length kp, .slice (some ⟨bs, os, none⟩) S.length ks, .slice (some ⟨bq, oq, none⟩) W.length kq], .int .i64 (gI P k), .int .i64 (gI S k)] (grow (redrawn wo d) os') fun e w'' => e = .returned (.bool true) ∧ ∃ p : Regrown, w'' = grow (redrawn wo p.d) p.os :=
                      fun d os' => Calls.regrown_of (by
                        refine (l07Near_c _ _ _ P S _ _ _ ((HX.out.rd HP.out).below (below_regrown wo d os') (Nat.le_refl _)) ((HX.out.rd HSr.out).below (below_regrown wo d os') (Nat.le_refl _)) HS.out hpr'.1 (by omega)).mono fun e w' ⟨he, hb⟩ => ⟨by rw [he, hn], hb⟩)
                    refine wp_region_quiet_below (by kernel_rfl) (by kernel_rfl) ?_
                    repeat (first | go_big_quiet_step (first | exact kA _ _ | exact kN _ _) | quiet_step (first | exact kA _ _ | exact kN _ _))
                    refine wpQuiet_nil ?_
                    intro w5 hw5
                    have hb5 : Below wo.heap.size wo w5 := by obtain ⟨pp, rfl⟩ := hw5; exact below_regrown _ _ _
                    clear hw5 k0 k1 k2 kP kS kA kN
                    have HX5 := Lib.hid (HX.out.trans hb5)
                    clear HX hb5 c0 c1 c2 dP dS dW
                    go_wp2
                    go_loopw [5] (fun j w3 => ∃ m : Nat, 1 ≤ m ∧ m ≤ k ∧ j = .int .i64 m ∧ (∀ x, 1 ≤ x → x < m → ¬ (gI P x = gI P k ∧ gI S x = gI S k)) ∧ Boxed w w3 26 #[.slice (some ⟨bp, op, none⟩) P.length kp, .slice (some ⟨bs, os, none⟩) S.length ks, .slice (some ⟨bq, oq, none⟩) W.length kq]) (fun j _ => k - (intOf j).toNat)
                    case atStart => exact ⟨1, by omega, by omega, rfl, fun x h1 h2 => absurd h1 (by omega), HX5.out⟩
                    case round =>
                      obtain ⟨m, hm1, hm, rfl, hf, hbx⟩ := hrel
                      clear HX5
                      obtain ⟨w6, rfl⟩ : ∃ wo : World, wo = wr := ⟨_, rfl⟩
                      by_cases hmk : m < k
                      · have c0 := hbx.cell 0
                        have c1 := hbx.cell 1
                        have hi1 : (k : Int) < (S.length : Int) := by omega
                        have hi2 : (m : Int) < (S.length : Int) := by omega
                        have dPk : w6.cell? ⟨bp, op + k, none⟩ = some (.int .i64 (gI P k)) := by rw [hbx.below.cell (p := ⟨bp, op + k, none⟩) hpb]; exact hpc k hlt
                        have dPm : w6.cell? ⟨bp, op + m, none⟩ = some (.int .i64 (gI P m)) := by rw [hbx.below.cell (p := ⟨bp, op + m, none⟩) hpb]; exact hpc m (by omega)
                        have dSk : w6.cell? ⟨bs, os + k, none⟩ = some (.int .i64 (gI S k)) := by rw [hbx.below.cell (p := ⟨bs, os + k, none⟩) hsb]; exact hsc k (by omega)
                        have dSm : w6.cell? ⟨bs, os + m, none⟩ = some (.int .i64 (gI S m)) := by rw [hbx.below.cell (p := ⟨bs, os + m, none⟩) hsb]; exact hsc m (by omega)
                        have HX := Lib.hid hbx
                        have HB' := Lib.hid (HBad.out m hmk)
                        have HF : Hid (¬ (gI P m = gI P k ∧ gI S m = gI S k) → ∀ x, 1 ≤ x → x < m + 1 → ¬ (gI P x = gI P k ∧ gI S x = gI S k)) := Lib.hid (fun h x h1 h2 => by
                          by_cases e : x = m
                          · rw [e]; exact h
                          · exact hf x h1 (by omega))
                        have HPC := Lib.hid hpc
                        have HSC := Lib.hid hsc
                        clear hf hbx hpc hsc
                        by_cases h1 : (gI P m == gI P k) = true
                        · by_cases h2 : (gI S m == gI S k) = true
                          · have hbad := Lib.hid (HB'.out ⟨by simpa using h1, by simpa using h2⟩)
                            go_wp2
                            go_quiet (fail)
                            go_wp2
                            go_ret
                            exact ⟨ret_bool hbad.out.symm, (HX.out.drewN _).below⟩
                          · have h2' : (gI S m == gI S k) = false := by simpa using h2
                            have HF' := Lib.hid (HF.out (by intro h; simp [h.2] at h2'))
                            clear h2
                            go_wp2
                            go_quiet (fail)
                            go_wp2
                            go_roundw
                            case rel => exact ⟨m + 1, by omega, by omega, by go_num, HF'.out, HX.out.drewN _⟩
                            case measure => simp [intOf]; omega
                        · have h1' : (gI P m == gI P k) = false := by simpa using h1
                          have HF' := Lib.hid (HF.out (by intro h; simp [h.1] at h1'))
                          clear h1
                          go_wp2
                          go_quiet (fail)
                          go_wp2
                          go_roundw
                          case rel => exact ⟨m + 1, by omega, by omega, by go_num, HF'.out, HX.out.drewN _⟩
                          case measure => simp [intOf]; omega
                      · have HG' := Lib.hid (seenClu_step HG.out hw HPK.out (fresh_of_one HS0.out (fun x h1 h2 => hf x h1 (by omega))))
                        clear hf
                        go_wp2
                        go_roundw
                        case rel => exact ⟨k + 1, by omega, by go_num, HG'.out, hbx⟩
                        case measure => simp [intOf]; omega
                  · have hn' : nearB P S (gI P k).toNat (gI S k) = false := by simpa using hn
                    have HF := Lib.hid (cluB_no (P := P) (S := S) (W := W) (fun h => by
                      rcases (HPL.out.1 (h.2.2 k hlt).1).2 with h' | h'
                      · rw [h'] at hs1'; cases hs1'
                      · exact hn h'.2))
                    clear HPL hn
                    go_wp2_with (go_at_call 38; refine (l01In_c _ _ _ _).mono ?_; rintro e w' ⟨rfl, rfl⟩)
                    have k0 := cell_regrown c0
                    have k1 := cell_regrown c1
                    have k2 := cell_regrown c2
                    have kP := cell_regrown dP
                    have kS := cell_regrown dS
                    have kA : ∀ d os', Calls Tryz.prog 38 #[.int .i64 (gI S k), .int .i64 0, .int .i64 ((k : Int) - 1)] (grow (redrawn wo d) os') fun e w'' => e = .returned (.bool true) ∧ ∃ p : Regrown, w'' = grow (redrawn wo p.d) p.os :=
                      fun d os' => Calls.regrown_of ((l01In_c _ _ _ _).mono fun e w' ⟨he, hw'⟩ => ⟨by rw [he, hsr], by rw [← hw']; exact Below.refl _ _⟩)
                    have kN : ∀ d os', Calls Tryz.prog 66 #[.agg #[.slice (some ⟨bp, op, none⟩) P.length kp, .slice (some ⟨bs, os, none⟩) S.length ks, .slice (some ⟨bq, oq, none⟩) W.length kq], .int .i64 (gI P k), .int .i64 (gI S k)] (grow (redrawn wo d) os') fun e w'' => e = .returned (.bool false) ∧ ∃ p : Regrown, w'' = grow (redrawn wo p.d) p.os :=
                      fun d os' => Calls.regrown_of (by
                        refine (l07Near_c _ _ _ P S _ _ _ ((HX.out.rd HP.out).below (below_regrown wo d os') (Nat.le_refl _)) ((HX.out.rd HSr.out).below (below_regrown wo d os') (Nat.le_refl _)) HS.out hpr'.1 (by omega)).mono fun e w' ⟨he, hb⟩ => ⟨by rw [he, hn'], hb⟩)
                    refine wp_region_quiet_below (by kernel_rfl) (by kernel_rfl) ?_
                    repeat (first | go_big_quiet_step (first | exact kA _ _ | exact kN _ _) | quiet_step (first | exact kA _ _ | exact kN _ _))
                    refine wpQuiet_nil ?_
                    intro w5 hw5
                    have hb5 : Below wo.heap.size wo w5 := by obtain ⟨pp, rfl⟩ := hw5; exact below_regrown _ _ _
                    clear hw5 k0 k1 k2 kP kS kA kN
                    go_wp2
                    go_ret
                    exact ⟨ret_bool HF.out.symm, (HX.out.trans hb5).below⟩
                · have hsr' : inB (gI S k) 0 ((k : Int) - 1) = false := by simpa using hsr
                  have HF := Lib.hid (cluB_no (P := P) (S := S) (W := W) (fun h => by
                    rcases (HPL.out.1 (h.2.2 k hlt).1).2 with h' | h'
                    · rw [h'] at hs1'; cases hs1'
                    · exact hsr h'.1))
                  clear HPL hsr
                  go_wp2_with (go_at_call 38; refine (l01In_c _ _ _ _).mono ?_; rintro e w' ⟨rfl, rfl⟩)
                  go_quiet ((go_at_call 38; exact quiet_eq ((l01In_c _ _ _ _).mono fun e w' ⟨he, hw'⟩ => ⟨by rw [he, hsr'], hw'⟩)))
                  go_wp2
                  go_ret
                  exact ⟨ret_bool HF.out.symm, (HX.out.drewN _).below⟩
            · have hpr' : inB (gI P k) 0 ((k : Int) - 1) = false := by simpa using hpr
              have HF := Lib.hid (cluB_no (P := P) (S := S) (W := W) (fun h => hpr (HPL.out.1 (h.2.2 k hlt).1).1))
              clear HPL hpr
              go_wp2_with (go_at_call 38; refine (l01In_c _ _ _ _).mono ?_; rintro e w' ⟨rfl, rfl⟩)
              go_ret
              exact ⟨ret_bool HF.out.symm, HX.out.below⟩
        · have hw' : inB (gI W k) (-100000) 100000 = false := by simpa using hw
          have HF := Lib.hid (cluB_no (P := P) (S := S) (W := W) (fun h => inB_not.1 hw' (h.2.1 k (by omega))))
          clear hw
          go_wp2_with (go_at_call 38; refine (l01In_c _ _ _ _).mono ?_; rintro e w' ⟨rfl, rfl⟩)
          go_ret
          exact ⟨ret_bool HF.out.symm, HX.out.below⟩
      · have HF := Lib.hid (cluB_iff.2 ⟨⟨hk0, hk24, HS.out, HW.out⟩, fun i hi => (hg i (by have := HW.out; omega)).1, fun i hi => (hg i (by omega)).2⟩)
        clear hg
        go_wp2
        go_ret
        exact ⟨ret_bool HF.out.symm, hbx.below⟩
  · have HF := Lib.hid (cluB_no (P := P) (S := S) (W := W) (fun h => hsh ⟨h.1, by
      have h1 := (h.2.2 0 h.1.1).1
      rcases h1 with h1 | h1
      · exact h1.2
      · omega⟩))
    by_cases h1 : inB (P.length : Int) 1 24 = true
    · have h1' := inB_iff.1 h1
      obtain ⟨bp, op, kp, rfl, hpc1, hpc2, hpb, hpc⟩ := hp.cells (by omega)
      have hc0 : w.cell? ⟨bp, op, none⟩ = some (.int .i64 (gI P 0)) := hpc 0 (by omega)
      obtain ⟨aq, kq, rfl⟩ := hq.len0
      by_cases h2 : ((S.length : Int) != (P.length : Int)) = true
      · obtain ⟨a', ks, rfl⟩ := hs.len0
        clear hsh hp hs hq hpc
        go_enter Tryz.func37, Tryz.ntmps37
        go_wp2_with (go_at_call 38; refine (l01In_c _ _ _ _).mono ?_; rintro e w' ⟨rfl, rfl⟩)
        go_ret
        exact ⟨ret_bool HF.out.symm, (Boxed.start _ _ _).below⟩
      · have h2' : ((S.length : Int) != (P.length : Int)) = false := by simpa using h2
        have h2'' : S.length = P.length := by simp at h2'; omega
        obtain ⟨bs, os, ks, rfl, hsc1, hsc2, hsb, hsc⟩ := hs.cells (by omega)
        have hd0 : w.cell? ⟨bs, os, none⟩ = some (.int .i64 (gI S 0)) := hsc 0 (by omega)
        have hsl : 0 < S.length := by omega
        by_cases h3 : ((W.length : Int) != (P.length : Int)) = true
        · clear hsh hp hs hq hpc hsc h2 h2''
          go_enter Tryz.func37, Tryz.ntmps37
          go_wp2_with (go_at_call 38; refine (l01In_c _ _ _ _).mono ?_; rintro e w' ⟨rfl, rfl⟩)
          go_ret
          exact ⟨ret_bool HF.out.symm, (Boxed.start _ _ _).below⟩
        · have h3' : ((W.length : Int) != (P.length : Int)) = false := by simpa using h3
          have h3'' : W.length = P.length := by simp at h3'; omega
          by_cases h4 : (gI P 0 != -1) = true
          · clear hsh hp hs hq hpc hsc h2 h2'' h3 h3''
            go_enter Tryz.func37, Tryz.ntmps37
            go_wp2_with (go_at_call 38; refine (l01In_c _ _ _ _).mono ?_; rintro e w' ⟨rfl, rfl⟩)
            go_ret
            exact ⟨ret_bool HF.out.symm, (Boxed.start _ _ _).below⟩
          · have h4' : (gI P 0 != -1) = false := by simpa using h4
            have h5 : (gI S 0 != -1) = true := by
              simp only [bne_iff_ne]; intro e; simp at h4'; exact hsh ⟨⟨by omega, by omega, h2'', h3''⟩, h4', e⟩
            clear hsh hp hs hq hpc hsc h2 h2'' h3 h3'' h4
            go_enter Tryz.func37, Tryz.ntmps37
            go_wp2_with (go_at_call 38; refine (l01In_c _ _ _ _).mono ?_; rintro e w' ⟨rfl, rfl⟩)
            go_ret
            exact ⟨ret_bool HF.out.symm, (Boxed.start _ _ _).below⟩
    · have h1' : inB (P.length : Int) 1 24 = false := by simpa using h1
      obtain ⟨ap, kp, rfl⟩ := hp.len0
      obtain ⟨a', ks, rfl⟩ := hs.len0
      obtain ⟨aq, kq, rfl⟩ := hq.len0
      clear hsh hp hs hq h1
      go_enter Tryz.func37, Tryz.ntmps37
      go_wp2_with (go_at_call 38; refine (l01In_c _ _ _ _).mono ?_; rintro e w' ⟨rfl, rfl⟩)
      go_ret
      exact ⟨ret_bool HF.out.symm, (Boxed.start _ _ _).below⟩
end Go.Proofs.YtglghdkjppcedaaGreatDoor
