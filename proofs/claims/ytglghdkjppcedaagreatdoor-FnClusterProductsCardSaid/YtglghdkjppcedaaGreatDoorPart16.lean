/- Contracts: the source of drawn numbers. -/
import Derived.Test.YtglghdkjppcedaaGreatDoorPart2
import Derived.BigQuiet
import Derived.Laws.BitsAllLaws
import Derived.Test.YtglghdkjppcedaaGreatDoorPart6
namespace Go.Proofs.YtglghdkjppcedaaGreatDoor
open Go.RowKit

/-- The next number of a source. -/
def nxtH (h : Int) : Int := IntKind.u64.wrap (IntKind.u64.wrap (h * 6364136223846793005) + 1442695040888963407)
/-- What is drawn from it. -/
def xiH (h : Int) : Int := bits .and .u64 (nxtH h / 8589934592) 16777215
theorem nxtH_bd (h : Int) : 0 ≤ nxtH h ∧ nxtH h < 18446744073709551616 := by
  unfold nxtH
  have e : ∀ n, IntKind.u64.wrap n = n % 18446744073709551616 := fun n => by simp [IntKind.wrap, IntKind.bits, IntKind.signed]
  rw [e]
  omega
theorem xiH_eq (h : Int) : xiH h = nxtH h / 8589934592 % 16777216 := by
  have hb := nxtH_bd h
  unfold xiH
  generalize nxtH h = z at *
  have h1 : 0 ≤ z / 8589934592 := by omega
  have h2 : z / 8589934592 < 18446744073709551616 := by omega
  rw [u64_and _ _ h1 h2 (by omega) (by omega)]
  obtain ⟨m, hm⟩ := Int.eq_ofNat_of_zero_le h1
  rw [hm]
  show ((m &&& 16777215 : Nat) : Int) = _
  rw [show (16777215 : Nat) = 2 ^ 24 - 1 by decide, Nat.and_two_pow_sub_one_eq_mod]
  omega
theorem xiH_bd (h : Int) : 0 ≤ xiH h ∧ xiH h ≤ 16777215 := by rw [xiH_eq]; omega
/-- The block g is a source: the code C, the place a in it and the number h. -/
structure SrcC (w : World) (g : Nat) (C : List Int) (a : Nat) (h : Int) : Prop where
  src : ∃ (p : Option Addr) (c : Nat), Blk w g 80 #[.slice p C.length c, .int .i64 (a : Int), .int .u64 h] ∧ (0 < C.length → ∃ b off, p = some ⟨b, off, none⟩ ∧ b < g ∧ ∀ i, i < C.length → w.cell? ⟨b, off + i, none⟩ = some (.int .u8 (gI C i)))
  at_le : a ≤ C.length
  len : C.length ≤ 4096
  num : ∀ i, i < C.length → 0 ≤ gI C i ∧ gI C i ≤ 255
  h0 : 0 ≤ h ∧ h < 18446744073709551616
theorem SrcC.lt {w : World} {g : Nat} {C : List Int} {a : Nat} {h : Int} (s : SrcC w g C a h) : g < w.heap.size := by
  obtain ⟨p, c, hB, _⟩ := s.src; exact hB.lt
theorem SrcC.keeps {w w' : World} {g : Nat} {C : List Int} {a : Nat} {h : Int} {M : Nat → Prop} (s : SrcC w g C a h) (hk : Keeps M w w') (hM : ∀ q, q ≤ g → ¬ M q) : SrcC w' g C a h := by
  obtain ⟨p, c, hB, hc⟩ := s.src
  refine ⟨⟨p, c, hB.keeps hk (hM g (Nat.le_refl _)), fun h0 => ?_⟩, s.at_le, s.len, s.num, s.h0⟩
  obtain ⟨b, off, h1, h2, h3⟩ := hc h0
  have hl := hB.lt
  exact ⟨b, off, h1, h2, fun i hi => by rw [hk.cell (p := ⟨b, off + i, none⟩) (by show b < _; omega) (hM b (by omega))]; exact h3 i hi⟩
theorem SrcC.below {w w' : World} {g : Nat} {C : List Int} {a : Nat} {h : Int} (s : SrcC w g C a h) (hb : Below w.heap.size w w') : SrcC w' g C a h :=
  s.keeps (M := fun _ => False) (Keeps.of_below hb) (fun _ _ => id)
/-- The next place. -/
def nxtA (C : List Int) (a : Nat) : Nat := if a < C.length then a + 1 else a
/-- The number that is drawn. -/
def drwX (C : List Int) (a : Nat) (h : Int) : Int := xiH h + if a < C.length then gI C a else 0
set_option maxHeartbeats 4000000 in
theorem l01Next_c (g : Nat) (n : Int) (C : List Int) (a : Nat) (h : Int) (w : World) (s : SrcC w g C a h) (hn : 1 ≤ n) (hn2 : n ≤ 9223372036854775807) :
    Calls Tryz.prog 31 #[.pointer (some ⟨g, 0, none⟩), .int .i64 n] w fun e w' => e = .returned (.int .i64 (drwX C a h % n)) ∧ SrcC w' g C (nxtA C a) (nxtH h) ∧ Keeps (fun q => q = g) w w' := by
  obtain ⟨p, c, B, hc⟩ := s.src
  have hlen := s.len
  have hle := s.at_le
  have c0 := B.cell 0
  have c1 := B.cell 1
  have c2 := B.cell 2
  have f1 := B.free 1
  have f2 := B.free 2
  have hB1 := B.set 2 (.int .u64 (nxtH h))
  have hK1 : Keeps (fun q => q = g) w (w.setCell ⟨g, 2, none⟩ (.int .u64 (nxtH h))) := (Keeps.refl (fun q => q = g) w).setCell (p := ⟨g, 2, none⟩) rfl _
  have hxb := xiH_bd h
  have hxe : wrap64 (bits .and .u64 (IntKind.u64.wrap (IntKind.u64.wrap (h * 6364136223846793005) + 1442695040888963407) / 8589934592) 16777215) = xiH h := by
    show wrap64 (xiH h) = xiH h
    exact IntWalk.wrap64_in _ ⟨by omega, by omega⟩
  have hne : IntKind.u64.wrap (IntKind.u64.wrap (h * 6364136223846793005) + 1442695040888963407) = nxtH h := rfl
  have HXE := Lib.hid hxe
  have HNE := Lib.hid hne
  clear hxe hne
  go_enter Tryz.func31, Tryz.ntmps31
  go_wp2_with fail
  rw [HXE.out, HNE.out]
  have hs := s
  clear s c0 c1 c2 f1 f2
  generalize hw1 : w.setCell ⟨g, 2, none⟩ (.int .u64 (nxtH h)) = w1 at *
  have B1 : Blk w1 g 80 #[.slice p C.length c, .int .i64 (a : Int), .int .u64 (nxtH h)] := hB1
  clear hB1 hw1
  have c0 := B1.cell 0
  have c1 := B1.cell 1
  have f1 := B1.free 1
  by_cases hlt : a < C.length
  · obtain ⟨b, off, rfl, hbg, hcs⟩ := hc (by omega)
    have hgl := B.lt
    have dC : w1.cell? ⟨b, off + a, none⟩ = some (.int .u8 (gI C a)) := (hK1.cell (p := ⟨b, off + a, none⟩) (by show b < _; omega) (by show ¬ b = g; omega)).trans (hcs a hlt)
    have hnum := hs.num a hlt
    have hai : (a : Int) < (C.length : Int) := by omega
    have ha0 : (0 : Int) ≤ (a : Int) := by omega
    have hfin : ∀ W, Drew w1 W → (Ending.returned (.int .i64 ((xiH h + gI C a) % n)) = .returned (.int .i64 (drwX C a h % n))) ∧ SrcC (W.setCell ⟨g, 1, none⟩ (.int .i64 ((a : Int) + 1))) g C (nxtA C a) (nxtH h) ∧ Keeps (fun q => q = g) w (W.setCell ⟨g, 1, none⟩ (.int .i64 ((a : Int) + 1))) := by
      rintro W ⟨m, rfl⟩
      have e1 : nxtA C a = a + 1 := by unfold nxtA; rw [if_pos hlt]
      have e2 : drwX C a h = xiH h + gI C a := by unfold drwX; rw [if_pos hlt]
      have hK2 : Keeps (fun q => q = g) w ((w1.drewN m).setCell ⟨g, 1, none⟩ (.int .i64 ((a : Int) + 1))) := (hK1.drewN m).setCell (p := ⟨g, 1, none⟩) rfl _
      refine ⟨by rw [e2], ?_, hK2⟩
      have hB3 : Blk ((w1.drewN m).setCell ⟨g, 1, none⟩ (.int .i64 ((a : Int) + 1))) g 80 #[.slice (some ⟨b, off, none⟩) C.length c, .int .i64 ((a + 1 : Nat) : Int), .int .u64 (nxtH h)] := (B1.drewN m).set 1 (.int .i64 ((a : Int) + 1))
      rw [e1]
      exact ⟨⟨_, c, hB3, fun _ => ⟨b, off, rfl, hbg, fun i hi => (hK2.cell (p := ⟨b, off + i, none⟩) (by show b < _; omega) (by show ¬ b = g; omega)).trans (hcs i hi)⟩⟩, by omega, hlen, hs.num, nxtH_bd h⟩
    have HF := Lib.hid hfin
    clear hfin hcs hc hs B hK1
    generalize xiH h = x at *
    generalize gI C a = y at *
    have hm : Int.tmod (x + y) n = (x + y) % n := Int.tmod_eq_emod_of_nonneg (by omega)
    have hnz : ¬ n = 0 := by omega
    go_wp2_with fail
    go_quiet (fail)
    have HF2 := Lib.hid (fun W (hW : Drew (w1.drewN nq) W) => HF.out W ((Drew.one w1 nq).trans hW))
    have B2 := B1.drewN nq
    have dC2 : (w1.drewN nq).cell? ⟨b, off + a, none⟩ = some (.int .u8 y) := dC
    generalize w1.drewN nq = w2 at *
    clear c0 c1 f1 dC HF B1
    have c0 := B2.cell 0
    have c1 := B2.cell 1
    go_wp2_with fail
    go_quiet (fail)
    have HF3 := Lib.hid (fun W (hW : Drew (w2.drewN nq) W) => HF2.out W ((Drew.one w2 nq).trans hW))
    have B3 := B2.drewN nq
    generalize w2.drewN nq = w3 at *
    clear c0 c1 dC2 HF2 B2
    have c1 := B3.cell 1
    have f1 := B3.free 1
    go_wp2
    go_ret
    exact HF3.out w3 (Drew.refl _)
  · have hae : a = C.length := by omega
    have hai : ¬ (a : Int) < (C.length : Int) := by omega
    have hfin : ∀ W, Drew w1 W → (Ending.returned (.int .i64 (xiH h % n)) = .returned (.int .i64 (drwX C a h % n))) ∧ SrcC W g C (nxtA C a) (nxtH h) ∧ Keeps (fun q => q = g) w W := by
      rintro W ⟨m, rfl⟩
      have e1 : nxtA C a = a := by unfold nxtA; rw [if_neg hlt]
      have e2 : drwX C a h = xiH h := by unfold drwX; rw [if_neg hlt]; omega
      have hK2 := hK1.drewN m
      refine ⟨by rw [e2], ?_, hK2⟩
      rw [e1]
      refine ⟨⟨_, c, B1.drewN m, fun h0 => ?_⟩, hle, hlen, hs.num, nxtH_bd h⟩
      obtain ⟨b, off, q1, q2, q3⟩ := hc h0
      have hgl := B.lt
      exact ⟨b, off, q1, q2, fun i hi => (hK2.cell (p := ⟨b, off + i, none⟩) (by show b < _; omega) (by show ¬ b = g; omega)).trans (q3 i hi)⟩
    have HF := Lib.hid hfin
    clear hfin hc hs B hK1 hae
    generalize xiH h = x at *
    have hm : Int.tmod x n = x % n := Int.tmod_eq_emod_of_nonneg (by omega)
    have hnz : ¬ n = 0 := by omega
    go_wp2_with fail
    go_quiet (fail)
    go_wp2
    go_ret
    exact HF.out _ (Drew.one _ _)
end Go.Proofs.YtglghdkjppcedaaGreatDoor

/- Contracts: sources by what is needed of them; l01From, l01Pick. -/
namespace Go.Proofs.YtglghdkjppcedaaGreatDoor
open Go.RowKit

/-- The slice value v reads as the bytes C. -/
def Rd8w (w : World) (v : Value) (C : List Int) : Prop :=
  ∃ a cap, v = .slice a C.length cap ∧ C.length ≤ cap ∧ cap ≤ 9223372036854775807 ∧ (∀ i, i < C.length → 0 ≤ gI C i ∧ gI C i ≤ 255) ∧ (C ≠ [] → ∃ b off, a = some ⟨b, off, none⟩ ∧ b < w.heap.size ∧ ∀ i, i < C.length → w.cell? ⟨b, off + i, none⟩ = some (.int .u8 (gI C i)))
theorem Rd8w.below {w w' : World} {v : Value} {C : List Int} {B : Nat} (h : Rd8w w v C) (hb : Below B w w') (hB : w.heap.size ≤ B) : Rd8w w' v C := by
  obtain ⟨a, cap, h1, h2, h3, hn, h4⟩ := h
  refine ⟨a, cap, h1, h2, h3, hn, fun hx => ?_⟩
  obtain ⟨b, off, e1, e2, e3⟩ := h4 hx
  refine ⟨b, off, e1, Nat.lt_of_lt_of_le e2 hb.size, fun i hi => ?_⟩
  rw [hb.cell (p := ⟨b, off + i, none⟩) (by simp; omega)]
  exact e3 i hi
/-- The same of a code that is not too long. -/
def Rd8 (w : World) (v : Value) (C : List Int) : Prop := Rd8w w v C ∧ C.length ≤ 4096
theorem Rd8.below {w w' : World} {v : Value} {C : List Int} {B : Nat} (h : Rd8 w v C) (hb : Below B w w') (hB : w.heap.size ≤ B) : Rd8 w' v C := ⟨h.1.below hb hB, h.2⟩
/-- The block g is a source. -/
def Src (w : World) (g : Nat) : Prop := ∃ C a h, SrcC w g C a h
theorem Src.lt {w : World} {g : Nat} (s : Src w g) : g < w.heap.size := by obtain ⟨C, a, h, hs⟩ := s; exact hs.lt
theorem Src.below {w w' : World} {g : Nat} (s : Src w g) (hb : Below w.heap.size w w') : Src w' g := by obtain ⟨C, a, h, hs⟩ := s; exact ⟨C, a, h, hs.below hb⟩
theorem Src.keeps {w w' : World} {g : Nat} {M : Nat → Prop} (s : Src w g) (hk : Keeps M w w') (hM : ∀ q, q ≤ g → ¬ M q) : Src w' g := by obtain ⟨C, a, h, hs⟩ := s; exact ⟨C, a, h, hs.keeps hk hM⟩
/-- A number below n is drawn. -/
def RetX (w : World) (g : Nat) (n : Int) (e : Ending) (w' : World) : Prop := ∃ x : Int, e = .returned (.int .i64 x) ∧ 0 ≤ x ∧ x < n ∧ Src w' g ∧ Keeps (fun q => q = g) w w'
theorem next_w (g : Nat) (n : Int) (w : World) (s : Src w g) (hn : 1 ≤ n) (hn2 : n ≤ 9223372036854775807) :
    Calls Tryz.prog 31 #[.pointer (some ⟨g, 0, none⟩), .int .i64 n] w (RetX w g n) := by
  obtain ⟨C, a, h, hs⟩ := s
  refine (l01Next_c g n C a h w hs hn hn2).mono fun e w' ⟨h1, h2, h3⟩ => ⟨_, h1, Int.emod_nonneg _ (by omega), Int.emod_lt_of_pos _ (by omega), ⟨_, _, _, h2⟩, h3⟩
/-- A number of the list is drawn. -/
def RetP (w : World) (g : Nat) (xs : List Int) (e : Ending) (w' : World) : Prop := ∃ j : Nat, j < xs.length ∧ e = .returned (.int .i64 (gI xs j)) ∧ Src w' g ∧ Keeps (fun q => q = g) w w'
set_option maxHeartbeats 1000000 in
theorem pick_w (g : Nat) (v : Value) (xs : List Int) (w : World) (s : Src w g) (h : Rd w v xs) (hp : 0 < xs.length) (hl : xs.length ≤ 1000) (hv : ∀ b off, v = .slice (some ⟨b, off, none⟩) xs.length xs.length → b ≠ g) (hc : ∃ a, v = .slice a xs.length xs.length) :
    Calls Tryz.prog 30 #[.pointer (some ⟨g, 0, none⟩), v] w (RetP w g xs) := by
  obtain ⟨a, rfl⟩ := hc
  obtain ⟨b, off, cap, he, h1, h2, hb, hcell⟩ := h.cells hp
  injection he with he1 he2 he3
  subst he1
  have hbg := hv b off rfl
  have hn0 : (1 : Int) ≤ (xs.length : Int) := by omega
  have HC := Lib.hid hcell
  clear hcell hv he3 h
  go_enter Tryz.func30, Tryz.ntmps30
  go_wp2_with fail
  refine (next_w g (xs.length : Int) _ s hn0 (by omega)).mono ?_
  rintro e w1 ⟨x, rfl, hx0, hx1, hs1, hk⟩
  obtain ⟨j, rfl⟩ := Int.eq_ofNat_of_zero_le hx0
  have hj : j < xs.length := by omega
  have d := HC.out j hj
  rw [← hk.cell (p := ⟨b, off + j, none⟩) hb hbg] at d
  have HF := Lib.hid (show RetP w g xs (.returned (.int .i64 (gI xs j))) w1 from ⟨j, hj, rfl, hs1, hk⟩)
  clear hk hs1 s
  generalize gI xs j = y at *
  go_wp2
  go_ret
  exact HF.out

/-- The hash after a code's byte. -/
theorem u64_bd (n : Int) : 0 ≤ IntKind.u64.wrap n ∧ IntKind.u64.wrap n < 18446744073709551616 := by
  have e : IntKind.u64.wrap n = n % 18446744073709551616 := by simp [IntKind.wrap, IntKind.bits, IntKind.signed]
  rw [e]; omega
set_option maxHeartbeats 2000000 in
theorem from_w (v : Value) (C : List Int) (w : World) (h : Rd8 w v C) :
    Calls Tryz.prog 28 #[v] w fun e w' => ∃ g, e = .returned (.pointer (some ⟨g, 0, none⟩)) ∧ w.heap.size ≤ g ∧ Src w' g ∧ Below w.heap.size w w' := by
  obtain ⟨⟨a, cap, rfl, h1, h2, hn, h4⟩, h4096⟩ := h
  have hal : ∀ h0 : Int, Below w.heap.size w (w.alloc (.cells #[.slice a C.length cap, .int .i64 0, .int .u64 h0] 80)) := fun h0 => (Below.refl _ _).alloc (Nat.le_refl _) _
  have hB : ∀ h0 : Int, Blk (w.alloc (.cells #[.slice a C.length cap, .int .i64 0, .int .u64 h0] 80)) w.heap.size 80 #[.slice a C.length cap, .int .i64 0, .int .u64 h0] := fun h0 => Blk.new w _ _
  have HAL := Lib.hid hal
  have HB := Lib.hid hB
  have H4 := Lib.hid h4
  have HN := Lib.hid hn
  clear hal hB h4 hn
  go_enter Tryz.func28, Tryz.ntmps28
  go_wp2_with fail
  have hcl : C.length ≤ 4096 := h4096
  go_loopw [4] (fun iv wr => ∃ (k : Nat) (h0 : Int), k ≤ C.length ∧ k ≤ 4096 ∧ iv = .int .i64 (k : Int) ∧ 0 ≤ h0 ∧ h0 < 18446744073709551616 ∧ Blk wr w.heap.size 80 #[.slice a C.length cap, .int .i64 0, .int .u64 h0] ∧ Below w.heap.size w wr) (fun iv _ => 4096 - (intOf iv).toNat)
  case atStart => exact ⟨0, _, by omega, by omega, rfl, by omega, by omega, HB.out _, HAL.out _⟩
  case round =>
    obtain ⟨k, h0, hk, hk2, rfl, hh0, hh1, B, hbl⟩ := hrel
    obtain ⟨wo, rfl⟩ : ∃ wo : World, wo = wr := ⟨_, rfl⟩
    by_cases hlt : k < C.length
    · by_cases hlt2 : k < 4096
      · obtain ⟨b, off, rfl, hb, hc⟩ := H4.out (ne_of_lt_len hlt)
        have d := hc k hlt
        rw [← hbl.cell (p := ⟨b, off + k, none⟩) hb] at d
        have hnk := HN.out k hlt
        have c0 := B.cell 0
        have c1 := B.cell 1
        have c2 := B.cell 2
        have f2 := B.free 2
        have g1 : (k : Int) < (C.length : Int) := by omega
        have g2 : (k : Int) < 4096 := by omega
        have hz : IntKind.u64.wrap (gI C k) = gI C k := by
          have e : IntKind.u64.wrap (gI C k) = gI C k % 18446744073709551616 := by simp [IntKind.wrap, IntKind.bits, IntKind.signed]
          rw [e]; omega
        have hbd := u64_bd (IntKind.u64.wrap (IntKind.u64.wrap (h0 * 1099511628211) + gI C k) + 11)
        have hfin : ∀ W, Drew (wo.setCell ⟨w.heap.size, 2, none⟩ (.int .u64 (IntKind.u64.wrap (IntKind.u64.wrap (IntKind.u64.wrap (h0 * 1099511628211) + gI C k) + 11)))) W → Blk W w.heap.size 80 #[.slice (some ⟨b, off, none⟩) C.length cap, .int .i64 0, .int .u64 (IntKind.u64.wrap (IntKind.u64.wrap (IntKind.u64.wrap (h0 * 1099511628211) + gI C k) + 11))] ∧ Below w.heap.size w W := by
          rintro W ⟨m, rfl⟩
          exact ⟨(B.set 2 _).drewN m, below_drewN (hbl.setCell (p := ⟨w.heap.size, 2, none⟩) (Nat.le_refl _) _) m⟩
        have HF := Lib.hid hfin
        have HBD := Lib.hid hbd
        clear hfin hc B hbl hbd
        generalize gI C k = y at *
        go_wp2_with fail
        go_region
        go_wp2_with fail
        go_roundw
        case rel =>
          have hD := HF.out _ (by first | exact ⟨1, rfl⟩ | exact ⟨2, rfl⟩)
          exact ⟨k + 1, _, by omega, by omega, by go_num, HBD.out.1, HBD.out.2, hD.1, hD.2⟩
        case measure => simp [intOf]; omega
      · have hfin : Src wo w.heap.size := ⟨C, 0, h0, ⟨⟨a, cap, B, fun hp => by
          obtain ⟨b, off, q1, q2, q3⟩ := H4.out (by intro e; rw [e] at hp; simp at hp)
          exact ⟨b, off, q1, q2, fun i hi => by rw [hbl.cell (p := ⟨b, off + i, none⟩) q2]; exact q3 i hi⟩⟩, Nat.zero_le _, hcl, HN.out, hh0, hh1⟩⟩
        have HF := Lib.hid hfin
        have HBL := Lib.hid hbl
        clear hfin B hbl
        have g1 : (k : Int) < (C.length : Int) := by omega
        have g2 : ¬ (k : Int) < 4096 := by omega
        go_wp2
        go_ret
        exact ⟨_, rfl, Nat.le_refl _, HF.out, HBL.out⟩
    · have hfin : Src wo w.heap.size := ⟨C, 0, h0, ⟨⟨a, cap, B, fun hp => by
        obtain ⟨b, off, q1, q2, q3⟩ := H4.out (by intro e; rw [e] at hp; simp at hp)
        exact ⟨b, off, q1, q2, fun i hi => by rw [hbl.cell (p := ⟨b, off + i, none⟩) q2]; exact q3 i hi⟩⟩, Nat.zero_le _, hcl, HN.out, hh0, hh1⟩⟩
      have HF := Lib.hid hfin
      have HBL := Lib.hid hbl
      clear hfin B hbl
      have g1 : ¬ (k : Int) < (C.length : Int) := by omega
      go_wp2
      go_ret
      exact ⟨_, rfl, Nat.le_refl _, HF.out, HBL.out⟩
end Go.Proofs.YtglghdkjppcedaaGreatDoor
