/- Contracts: the dice of laws.go: roll, below. -/
import Derived.Test.YtiinceflafigeaaDrwW
namespace Go.Proofs.Ytiinceflafigeaa
open Go.RowKit

/-- The block g is a pair of dice: the code C, the place a in it and the number h. -/
structure DicC (w : World) (g : Nat) (C : List Int) (a : Nat) (h : Int) : Prop where
  src : ∃ (p : Option Addr) (c : Nat), Blk w g 119 #[.slice p C.length c, .int .i64 (a : Int), .int .u64 h] ∧ (0 < C.length → ∃ b off, p = some ⟨b, off, none⟩ ∧ b < g ∧ ∀ i, i < C.length → w.cell? ⟨b, off + i, none⟩ = some (.int .u8 (gI C i)))
  at_le : a ≤ C.length
  len : C.length ≤ 9223372036854775807
  num : ∀ i, i < C.length → 0 ≤ gI C i ∧ gI C i ≤ 255
  h0 : 0 ≤ h ∧ h < 18446744073709551616
theorem DicC.lt {w : World} {g : Nat} {C : List Int} {a : Nat} {h : Int} (s : DicC w g C a h) : g < w.heap.size := by
  obtain ⟨p, c, hB, _⟩ := s.src; exact hB.lt
theorem DicC.keeps {w w' : World} {g : Nat} {C : List Int} {a : Nat} {h : Int} {M : Nat → Prop} (s : DicC w g C a h) (hk : Keeps M w w') (hM : ∀ q, q ≤ g → ¬ M q) : DicC w' g C a h := by
  obtain ⟨p, c, hB, hc⟩ := s.src
  refine ⟨⟨p, c, hB.keeps hk (hM g (Nat.le_refl _)), fun h0 => ?_⟩, s.at_le, s.len, s.num, s.h0⟩
  obtain ⟨b, off, h1, h2, h3⟩ := hc h0
  have hl := hB.lt
  exact ⟨b, off, h1, h2, fun i hi => by rw [hk.cell (p := ⟨b, off + i, none⟩) (by show b < _; omega) (hM b (by omega))]; exact h3 i hi⟩
theorem DicC.below {w w' : World} {g : Nat} {C : List Int} {a : Nat} {h : Int} (s : DicC w g C a h) (hb : Below w.heap.size w w') : DicC w' g C a h :=
  s.keeps (M := fun _ => False) (Keeps.of_below hb) (fun _ _ => id)
set_option maxHeartbeats 1000000 in
theorem below_no (g : Nat) (n : Int) (w : World) (hn : n < 1) :
    Calls Try.prog 58 #[.pointer (some ⟨g, 0, none⟩), .int .i64 n] w fun e w' => e = .returned (.int .i64 0) ∧ w = w' := by
  go_enter Try.func58, Try.ntmps58
  go_wp2
  go_ret
  exact ⟨rfl, rfl⟩
set_option maxHeartbeats 4000000 in
theorem belowC_c (g : Nat) (n : Int) (C : List Int) (a : Nat) (h : Int) (w : World) (s : DicC w g C a h) (hn : 1 ≤ n) (hn2 : n ≤ 9223372036854775807) :
    Calls Try.prog 58 #[.pointer (some ⟨g, 0, none⟩), .int .i64 n] w fun e w' => e = .returned (.int .i64 (drwX C a h % n)) ∧ DicC w' g C (nxtA C a) (nxtH h) ∧ Keeps (fun q => q = g) w w' := by
  obtain ⟨p, c, B, hc⟩ := s.src
  have hlen := s.len
  have hle := s.at_le
  have c0 := B.cell 0
  have c1 := B.cell 1
  have c2 := B.cell 2
  have f1 := B.free 1
  have f2 := B.free 2
  have hB1 := B.set 2 (.int .u64 (nxtH h))
  have hK1 : Keeps (fun q => q = g) w (w.setCell ⟨g, 2, none⟩ (.int .u64 (nxtH h))) := (Keeps.refl (fun q => q = g) w).setCell (p := ⟨g, 2, none⟩) rfl _
  have hxb := xiH_bd h
  have hxe : wrap64 (bits .and .u64 (IntKind.u64.wrap (IntKind.u64.wrap (h * 6364136223846793005) + 1442695040888963407) / 8589934592) 16777215) = xiH h := by
    show wrap64 (xiH h) = xiH h
    exact IntWalk.wrap64_in _ ⟨by omega, by omega⟩
  have hne : IntKind.u64.wrap (IntKind.u64.wrap (h * 6364136223846793005) + 1442695040888963407) = nxtH h := rfl
  have HXE := Lib.hid hxe
  have HNE := Lib.hid hne
  clear hxe hne
  go_enter Try.func58, Try.ntmps58
  go_wp2_with fail
  rw [HXE.out, HNE.out]
  have hs := s
  clear s c0 c1 c2 f1 f2
  generalize hw1 : w.setCell ⟨g, 2, none⟩ (.int .u64 (nxtH h)) = w1 at *
  have B1 : Blk w1 g 119 #[.slice p C.length c, .int .i64 (a : Int), .int .u64 (nxtH h)] := hB1
  clear hB1 hw1
  have c0 := B1.cell 0
  have c1 := B1.cell 1
  have f1 := B1.free 1
  by_cases hlt : a < C.length
  · obtain ⟨b, off, rfl, hbg, hcs⟩ := hc (by omega)
    have hgl := B.lt
    have dC : w1.cell? ⟨b, off + a, none⟩ = some (.int .u8 (gI C a)) := (hK1.cell (p := ⟨b, off + a, none⟩) (by show b < _; omega) (by show ¬ b = g; omega)).trans (hcs a hlt)
    have hnum := hs.num a hlt
    have hai : (a : Int) < (C.length : Int) := by omega
    have ha0 : (0 : Int) ≤ (a : Int) := by omega
    have hfin : ∀ W, Drew w1 W → (Ending.returned (.int .i64 ((xiH h + gI C a) % n)) = .returned (.int .i64 (drwX C a h % n))) ∧ DicC (W.setCell ⟨g, 1, none⟩ (.int .i64 ((a : Int) + 1))) g C (nxtA C a) (nxtH h) ∧ Keeps (fun q => q = g) w (W.setCell ⟨g, 1, none⟩ (.int .i64 ((a : Int) + 1))) := by
      rintro W ⟨m, rfl⟩
      have e1 : nxtA C a = a + 1 := by unfold nxtA; rw [if_pos hlt]
      have e2 : drwX C a h = xiH h + gI C a := by unfold drwX; rw [if_pos hlt]
      have hK2 : Keeps (fun q => q = g) w ((w1.drewN m).setCell ⟨g, 1, none⟩ (.int .i64 ((a : Int) + 1))) := (hK1.drewN m).setCell (p := ⟨g, 1, none⟩) rfl _
      refine ⟨by rw [e2], ?_, hK2⟩
      have hB3 : Blk ((w1.drewN m).setCell ⟨g, 1, none⟩ (.int .i64 ((a : Int) + 1))) g 119 #[.slice (some ⟨b, off, none⟩) C.length c, .int .i64 ((a + 1 : Nat) : Int), .int .u64 (nxtH h)] := (B1.drewN m).set 1 (.int .i64 ((a : Int) + 1))
      rw [e1]
      exact ⟨⟨_, c, hB3, fun _ => ⟨b, off, rfl, hbg, fun i hi => (hK2.cell (p := ⟨b, off + i, none⟩) (by show b < _; omega) (by show ¬ b = g; omega)).trans (hcs i hi)⟩⟩, by omega, hlen, hs.num, nxtH_bd h⟩
    have HF := Lib.hid hfin
    clear hfin hcs hc hs B hK1
    generalize xiH h = x at *
    generalize gI C a = y at *
    have hm : Int.tmod (x + y) n = (x + y) % n := Int.tmod_eq_emod_of_nonneg (by omega)
    have hnz : ¬ n = 0 := by omega
    go_wp2_with fail
    go_quiet (fail)
    have HF2 := Lib.hid (fun W (hW : Drew (w1.drewN nq) W) => HF.out W ((Drew.one w1 nq).trans hW))
    have B2 := B1.drewN nq
    have dC2 : (w1.drewN nq).cell? ⟨b, off + a, none⟩ = some (.int .u8 y) := dC
    generalize w1.drewN nq = w2 at *
    clear c0 c1 f1 dC HF B1
    have c0 := B2.cell 0
    have c1 := B2.cell 1
    go_wp2_with fail
    go_quiet (fail)
    have HF3 := Lib.hid (fun W (hW : Drew (w2.drewN nq) W) => HF2.out W ((Drew.one w2 nq).trans hW))
    have B3 := B2.drewN nq
    generalize w2.drewN nq = w3 at *
    clear c0 c1 dC2 HF2 B2
    have c1 := B3.cell 1
    have f1 := B3.free 1
    go_wp2
    go_ret
    exact HF3.out w3 (Drew.refl _)
  · have hae : a = C.length := by omega
    have hai : ¬ (a : Int) < (C.length : Int) := by omega
    have hfin : ∀ W, Drew w1 W → (Ending.returned (.int .i64 (xiH h % n)) = .returned (.int .i64 (drwX C a h % n))) ∧ DicC W g C (nxtA C a) (nxtH h) ∧ Keeps (fun q => q = g) w W := by
      rintro W ⟨m, rfl⟩
      have e1 : nxtA C a = a := by unfold nxtA; rw [if_neg hlt]
      have e2 : drwX C a h = xiH h := by unfold drwX; rw [if_neg hlt]; omega
      have hK2 := hK1.drewN m
      refine ⟨by rw [e2], ?_, hK2⟩
      rw [e1]
      refine ⟨⟨_, c, B1.drewN m, fun h0 => ?_⟩, hle, hlen, hs.num, nxtH_bd h⟩
      obtain ⟨b, off, q1, q2, q3⟩ := hc h0
      have hgl := B.lt
      exact ⟨b, off, q1, q2, fun i hi => (hK2.cell (p := ⟨b, off + i, none⟩) (by show b < _; omega) (by show ¬ b = g; omega)).trans (q3 i hi)⟩
    have HF := Lib.hid hfin
    clear hfin hc hs B hK1 hae
    generalize xiH h = x at *
    have hm : Int.tmod x n = x % n := Int.tmod_eq_emod_of_nonneg (by omega)
    have hnz : ¬ n = 0 := by omega
    go_wp2_with fail
    go_quiet (fail)
    go_wp2
    go_ret
    exact HF.out _ (Drew.one _ _)

/-- The block g is a pair of dice. -/
def Dic (w : World) (g : Nat) : Prop := ∃ C a h, DicC w g C a h
theorem Dic.below {w w' : World} {g : Nat} (s : Dic w g) (hb : Below w.heap.size w w') : Dic w' g := by obtain ⟨C, a, h, hs⟩ := s; exact ⟨C, a, h, hs.below hb⟩
theorem Dic.keeps {w w' : World} {g : Nat} {M : Nat → Prop} (s : Dic w g) (hk : Keeps M w w') (hM : ∀ q, q ≤ g → ¬ M q) : Dic w' g := by obtain ⟨C, a, h, hs⟩ := s; exact ⟨C, a, h, hs.keeps hk hM⟩
/-- A number below n. -/
def RetDi (w : World) (g : Nat) (n : Int) (e : Ending) (w' : World) : Prop := ∃ x : Int, e = .returned (.int .i64 x) ∧ 0 ≤ x ∧ x < n ∧ Dic w' g ∧ Keeps (fun q => q = g) w w'
theorem below_w (g : Nat) (n : Int) (w : World) (s : Dic w g) (hn : 1 ≤ n) (hn2 : n ≤ 9223372036854775807) :
    Calls Try.prog 58 #[.pointer (some ⟨g, 0, none⟩), .int .i64 n] w (RetDi w g n) := by
  obtain ⟨C, a, h, hs⟩ := s
  refine (belowC_c g n C a h w hs hn hn2).mono fun e w' ⟨h1, h2, h3⟩ => ⟨_, h1, Int.emod_nonneg _ (by omega), Int.emod_lt_of_pos _ (by omega), ⟨_, _, _, h2⟩, h3⟩
set_option maxHeartbeats 2000000 in
theorem roll_w (v : Value) (C : List Int) (sd : Int) (w : World) (h : Rd8 w v C) :
    Calls Try.prog 57 #[v, .int .u64 sd] w fun e w' => ∃ g, e = .returned (.pointer (some ⟨g, 0, none⟩)) ∧ w.heap.size ≤ g ∧ g < w'.heap.size ∧ Dic w' g ∧ Below w.heap.size w w' := by
  obtain ⟨a, cap, rfl, h1, h2, hn, h4⟩ := h
  have hal : ∀ h0 : Int, Below w.heap.size w (w.alloc (.cells #[.slice a C.length cap, .int .i64 0, .int .u64 h0] 119)) := fun h0 => (Below.refl _ _).alloc (Nat.le_refl _) _
  have hB : ∀ h0 : Int, Blk (w.alloc (.cells #[.slice a C.length cap, .int .i64 0, .int .u64 h0] 119)) w.heap.size 119 #[.slice a C.length cap, .int .i64 0, .int .u64 h0] := fun h0 => Blk.new w _ _
  have HAL := Lib.hid hal
  have HB := Lib.hid hB
  have H4 := Lib.hid h4
  have HN := Lib.hid hn
  have hub := u64_bd (IntKind.u64.wrap (sd * 6257) + IntKind.u64.wrap (C.length : Int))
  have HUB := Lib.hid hub
  clear hal hB h4 hn hub
  go_enter Try.func57, Try.ntmps57
  go_wp2_with fail
  have hcl : C.length ≤ 9223372036854775807 := by omega
  go_loopw [6] (fun iv wr => ∃ (k : Nat) (h0 : Int), k ≤ C.length ∧ iv = .int .i64 (k : Int) ∧ 0 ≤ h0 ∧ h0 < 18446744073709551616 ∧ Blk wr w.heap.size 119 #[.slice a C.length cap, .int .i64 0, .int .u64 h0] ∧ Below w.heap.size w wr) (fun iv _ => C.length - (intOf iv).toNat)
  case atStart => exact ⟨0, _, by omega, rfl, (u64_bd _).1, (u64_bd _).2, HB.out _, HAL.out _⟩
  case round =>
    obtain ⟨k, h0, hk, rfl, hh0, hh1, B, hbl⟩ := hrel
    obtain ⟨wo, rfl⟩ : ∃ wo : World, wo = wr := ⟨_, rfl⟩
    by_cases hlt : k < C.length
    · obtain ⟨b, off, rfl, hb, hc⟩ := H4.out (ne_of_lt_len hlt)
      have d := hc k hlt
      rw [← hbl.cell (p := ⟨b, off + k, none⟩) hb] at d
      have hnk := HN.out k hlt
      have c0 := B.cell 0
      have c1 := B.cell 1
      have c2 := B.cell 2
      have f2 := B.free 2
      have g1 : (k : Int) < (C.length : Int) := by omega
      have hz : IntKind.u64.wrap (gI C k) = gI C k := by
        have e : IntKind.u64.wrap (gI C k) = gI C k % 18446744073709551616 := by simp [IntKind.wrap, IntKind.bits, IntKind.signed]
        rw [e]; omega
      have hbd := u64_bd (IntKind.u64.wrap (IntKind.u64.wrap (h0 * 1099511628211) + gI C k) + 5)
      have hfin : ∀ W, Drew (wo.setCell ⟨w.heap.size, 2, none⟩ (.int .u64 (IntKind.u64.wrap (IntKind.u64.wrap (IntKind.u64.wrap (h0 * 1099511628211) + gI C k) + 5)))) W → Blk W w.heap.size 119 #[.slice (some ⟨b, off, none⟩) C.length cap, .int .i64 0, .int .u64 (IntKind.u64.wrap (IntKind.u64.wrap (IntKind.u64.wrap (h0 * 1099511628211) + gI C k) + 5))] ∧ Below w.heap.size w W := by
        rintro W ⟨m, rfl⟩
        exact ⟨(B.set 2 _).drewN m, below_drewN (hbl.setCell (p := ⟨w.heap.size, 2, none⟩) (Nat.le_refl _) _) m⟩
      have HF := Lib.hid hfin
      have HBD := Lib.hid hbd
      clear hfin hc B hbl hbd
      generalize gI C k = y at *
      go_wp2_with fail
      go_region
      go_wp2_with fail
      go_roundw
      case rel =>
        have hD := HF.out _ (by first | exact ⟨1, rfl⟩ | exact ⟨2, rfl⟩)
        exact ⟨k + 1, _, by omega, by go_num, HBD.out.1, HBD.out.2, hD.1, hD.2⟩
      case measure => simp [intOf]; omega
    · have hfin : Dic wo w.heap.size := ⟨C, 0, h0, ⟨⟨a, cap, B, fun hp => by
        obtain ⟨b, off, q1, q2, q3⟩ := H4.out (by intro e; rw [e] at hp; simp at hp)
        exact ⟨b, off, q1, q2, fun i hi => by rw [hbl.cell (p := ⟨b, off + i, none⟩) q2]; exact q3 i hi⟩⟩, Nat.zero_le _, hcl, HN.out, hh0, hh1⟩⟩
      have HF := Lib.hid hfin
      have HBL := Lib.hid hbl
      have hlt2 := B.lt
      clear hfin B hbl
      have g1 : ¬ (k : Int) < (C.length : Int) := by omega
      go_wp2
      go_ret
      exact ⟨_, rfl, Nat.le_refl _, hlt2, HF.out, HBL.out⟩
end Go.Proofs.Ytiinceflafigeaa
