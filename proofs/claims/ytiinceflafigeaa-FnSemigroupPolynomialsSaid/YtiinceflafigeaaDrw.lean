/- Contracts: the source of drawn numbers. -/
import Derived.Test.YtiinceflafigeaaOrdPure
import Derived.BigQuiet
import Derived.Laws.BitsAllLaws
namespace Go.Proofs.Ytiinceflafigeaa
open Go.RowKit

/-- The next number of a source. -/
def nxtH (h : Int) : Int := IntKind.u64.wrap (IntKind.u64.wrap (h * 6364136223846793005) + 1442695040888963407)
/-- What is drawn from it. -/
def xiH (h : Int) : Int := bits .and .u64 (nxtH h / 8589934592) 16777215
theorem nxtH_bd (h : Int) : 0 ≤ nxtH h ∧ nxtH h < 18446744073709551616 := by
  unfold nxtH
  have e : ∀ n, IntKind.u64.wrap n = n % 18446744073709551616 := fun n => by simp [IntKind.wrap, IntKind.bits, IntKind.signed]
  rw [e]
  omega
theorem xiH_eq (h : Int) : xiH h = nxtH h / 8589934592 % 16777216 := by
  have hb := nxtH_bd h
  unfold xiH
  generalize nxtH h = z at *
  have h1 : 0 ≤ z / 8589934592 := by omega
  have h2 : z / 8589934592 < 18446744073709551616 := by omega
  rw [u64_and _ _ h1 h2 (by omega) (by omega)]
  obtain ⟨m, hm⟩ := Int.eq_ofNat_of_zero_le h1
  rw [hm]
  show ((m &&& 16777215 : Nat) : Int) = _
  rw [show (16777215 : Nat) = 2 ^ 24 - 1 by decide, Nat.and_two_pow_sub_one_eq_mod]
  omega
theorem xiH_bd (h : Int) : 0 ≤ xiH h ∧ xiH h ≤ 16777215 := by rw [xiH_eq]; omega
/-- The block g is a source: the code C, the place a in it and the number h. -/
structure SrcC (w : World) (g : Nat) (C : List Int) (a : Nat) (h : Int) : Prop where
  src : ∃ (p : Option Addr) (c : Nat), Blk w g 148 #[.slice p C.length c, .int .i64 (a : Int), .int .u64 h] ∧ (0 < C.length → ∃ b off, p = some ⟨b, off, none⟩ ∧ b < g ∧ ∀ i, i < C.length → w.cell? ⟨b, off + i, none⟩ = some (.int .u8 (gI C i)))
  at_le : a ≤ C.length
  len : C.length ≤ 9223372036854775807
  num : ∀ i, i < C.length → 0 ≤ gI C i ∧ gI C i ≤ 255
  h0 : 0 ≤ h ∧ h < 18446744073709551616
theorem SrcC.lt {w : World} {g : Nat} {C : List Int} {a : Nat} {h : Int} (s : SrcC w g C a h) : g < w.heap.size := by
  obtain ⟨p, c, hB, _⟩ := s.src; exact hB.lt
theorem SrcC.keeps {w w' : World} {g : Nat} {C : List Int} {a : Nat} {h : Int} {M : Nat → Prop} (s : SrcC w g C a h) (hk : Keeps M w w') (hM : ∀ q, q ≤ g → ¬ M q) : SrcC w' g C a h := by
  obtain ⟨p, c, hB, hc⟩ := s.src
  refine ⟨⟨p, c, hB.keeps hk (hM g (Nat.le_refl _)), fun h0 => ?_⟩, s.at_le, s.len, s.num, s.h0⟩
  obtain ⟨b, off, h1, h2, h3⟩ := hc h0
  have hl := hB.lt
  exact ⟨b, off, h1, h2, fun i hi => by rw [hk.cell (p := ⟨b, off + i, none⟩) (by show b < _; omega) (hM b (by omega))]; exact h3 i hi⟩
theorem SrcC.below {w w' : World} {g : Nat} {C : List Int} {a : Nat} {h : Int} (s : SrcC w g C a h) (hb : Below w.heap.size w w') : SrcC w' g C a h :=
  s.keeps (M := fun _ => False) (Keeps.of_below hb) (fun _ _ => id)
/-- The next place. -/
def nxtA (C : List Int) (a : Nat) : Nat := if a < C.length then a + 1 else a
/-- The number that is drawn. -/
def drwX (C : List Int) (a : Nat) (h : Int) : Int := xiH h + if a < C.length then gI C a else 0
theorem drwX_bd {C : List Int} (hn : ∀ i, i < C.length → 0 ≤ gI C i ∧ gI C i ≤ 255) (a : Nat) (h : Int) : 0 ≤ drwX C a h ∧ drwX C a h ≤ 16777470 := by
  have hx := xiH_bd h
  unfold drwX
  split
  · rename_i c; have := hn a c; omega
  · omega

set_option maxHeartbeats 1000000 in
theorem l01Next_no (g : Nat) (n : Int) (w : World) (hn : n < 1) :
    Calls Try.prog 151 #[.pointer (some ⟨g, 0, none⟩), .int .i64 n] w fun e w' => e = .returned (.int .i64 0) ∧ w = w' := by
  go_enter Try.func151, Try.ntmps151
  go_wp2
  go_ret
  exact ⟨rfl, rfl⟩
set_option maxHeartbeats 4000000 in
theorem l01Next_c (g : Nat) (n : Int) (C : List Int) (a : Nat) (h : Int) (w : World) (s : SrcC w g C a h) (hn : 1 ≤ n) (hn2 : n ≤ 9223372036854775807) :
    Calls Try.prog 151 #[.pointer (some ⟨g, 0, none⟩), .int .i64 n] w fun e w' => e = .returned (.int .i64 (drwX C a h % n)) ∧ SrcC w' g C (nxtA C a) (nxtH h) ∧ Keeps (fun q => q = g) w w' := by
  obtain ⟨p, c, B, hc⟩ := s.src
  have hlen := s.len
  have hle := s.at_le
  have c0 := B.cell 0
  have c1 := B.cell 1
  have c2 := B.cell 2
  have f1 := B.free 1
  have f2 := B.free 2
  have hB1 := B.set 2 (.int .u64 (nxtH h))
  have hK1 : Keeps (fun q => q = g) w (w.setCell ⟨g, 2, none⟩ (.int .u64 (nxtH h))) := (Keeps.refl (fun q => q = g) w).setCell (p := ⟨g, 2, none⟩) rfl _
  have hxb := xiH_bd h
  have hxe : wrap64 (bits .and .u64 (IntKind.u64.wrap (IntKind.u64.wrap (h * 6364136223846793005) + 1442695040888963407) / 8589934592) 16777215) = xiH h := by
    show wrap64 (xiH h) = xiH h
    exact IntWalk.wrap64_in _ ⟨by omega, by omega⟩
  have hne : IntKind.u64.wrap (IntKind.u64.wrap (h * 6364136223846793005) + 1442695040888963407) = nxtH h := rfl
  have HXE := Lib.hid hxe
  have HNE := Lib.hid hne
  clear hxe hne
  go_enter Try.func151, Try.ntmps151
  go_wp2_with fail
  rw [HXE.out, HNE.out]
  have hs := s
  clear s c0 c1 c2 f1 f2
  generalize hw1 : w.setCell ⟨g, 2, none⟩ (.int .u64 (nxtH h)) = w1 at *
  have B1 : Blk w1 g 148 #[.slice p C.length c, .int .i64 (a : Int), .int .u64 (nxtH h)] := hB1
  clear hB1 hw1
  have c0 := B1.cell 0
  have c1 := B1.cell 1
  have f1 := B1.free 1
  by_cases hlt : a < C.length
  · obtain ⟨b, off, rfl, hbg, hcs⟩ := hc (by omega)
    have hgl := B.lt
    have dC : w1.cell? ⟨b, off + a, none⟩ = some (.int .u8 (gI C a)) := (hK1.cell (p := ⟨b, off + a, none⟩) (by show b < _; omega) (by show ¬ b = g; omega)).trans (hcs a hlt)
    have hnum := hs.num a hlt
    have hai : (a : Int) < (C.length : Int) := by omega
    have ha0 : (0 : Int) ≤ (a : Int) := by omega
    have hfin : ∀ W, Drew w1 W → (Ending.returned (.int .i64 ((xiH h + gI C a) % n)) = .returned (.int .i64 (drwX C a h % n))) ∧ SrcC (W.setCell ⟨g, 1, none⟩ (.int .i64 ((a : Int) + 1))) g C (nxtA C a) (nxtH h) ∧ Keeps (fun q => q = g) w (W.setCell ⟨g, 1, none⟩ (.int .i64 ((a : Int) + 1))) := by
      rintro W ⟨m, rfl⟩
      have e1 : nxtA C a = a + 1 := by unfold nxtA; rw [if_pos hlt]
      have e2 : drwX C a h = xiH h + gI C a := by unfold drwX; rw [if_pos hlt]
      have hK2 : Keeps (fun q => q = g) w ((w1.drewN m).setCell ⟨g, 1, none⟩ (.int .i64 ((a : Int) + 1))) := (hK1.drewN m).setCell (p := ⟨g, 1, none⟩) rfl _
      refine ⟨by rw [e2], ?_, hK2⟩
      have hB3 : Blk ((w1.drewN m).setCell ⟨g, 1, none⟩ (.int .i64 ((a : Int) + 1))) g 148 #[.slice (some ⟨b, off, none⟩) C.length c, .int .i64 ((a + 1 : Nat) : Int), .int .u64 (nxtH h)] := (B1.drewN m).set 1 (.int .i64 ((a : Int) + 1))
      rw [e1]
      exact ⟨⟨_, c, hB3, fun _ => ⟨b, off, rfl, hbg, fun i hi => (hK2.cell (p := ⟨b, off + i, none⟩) (by show b < _; omega) (by show ¬ b = g; omega)).trans (hcs i hi)⟩⟩, by omega, hlen, hs.num, nxtH_bd h⟩
    have HF := Lib.hid hfin
    clear hfin hcs hc hs B hK1
    generalize xiH h = x at *
    generalize gI C a = y at *
    have hm : Int.tmod (x + y) n = (x + y) % n := Int.tmod_eq_emod_of_nonneg (by omega)
    have hnz : ¬ n = 0 := by omega
    go_wp2_with fail
    go_quiet (fail)
    have HF2 := Lib.hid (fun W (hW : Drew (w1.drewN nq) W) => HF.out W ((Drew.one w1 nq).trans hW))
    have B2 := B1.drewN nq
    have dC2 : (w1.drewN nq).cell? ⟨b, off + a, none⟩ = some (.int .u8 y) := dC
    generalize w1.drewN nq = w2 at *
    clear c0 c1 f1 dC HF B1
    have c0 := B2.cell 0
    have c1 := B2.cell 1
    go_wp2_with fail
    go_quiet (fail)
    have HF3 := Lib.hid (fun W (hW : Drew (w2.drewN nq) W) => HF2.out W ((Drew.one w2 nq).trans hW))
    have B3 := B2.drewN nq
    generalize w2.drewN nq = w3 at *
    clear c0 c1 dC2 HF2 B2
    have c1 := B3.cell 1
    have f1 := B3.free 1
    go_wp2
    go_ret
    exact HF3.out w3 (Drew.refl _)
  · have hae : a = C.length := by omega
    have hai : ¬ (a : Int) < (C.length : Int) := by omega
    have hfin : ∀ W, Drew w1 W → (Ending.returned (.int .i64 (xiH h % n)) = .returned (.int .i64 (drwX C a h % n))) ∧ SrcC W g C (nxtA C a) (nxtH h) ∧ Keeps (fun q => q = g) w W := by
      rintro W ⟨m, rfl⟩
      have e1 : nxtA C a = a := by unfold nxtA; rw [if_neg hlt]
      have e2 : drwX C a h = xiH h := by unfold drwX; rw [if_neg hlt]; omega
      have hK2 := hK1.drewN m
      refine ⟨by rw [e2], ?_, hK2⟩
      rw [e1]
      refine ⟨⟨_, c, B1.drewN m, fun h0 => ?_⟩, hle, hlen, hs.num, nxtH_bd h⟩
      obtain ⟨b, off, q1, q2, q3⟩ := hc h0
      have hgl := B.lt
      exact ⟨b, off, q1, q2, fun i hi => (hK2.cell (p := ⟨b, off + i, none⟩) (by show b < _; omega) (by show ¬ b = g; omega)).trans (q3 i hi)⟩
    have HF := Lib.hid hfin
    clear hfin hc hs B hK1 hae
    generalize xiH h = x at *
    have hm : Int.tmod x n = x % n := Int.tmod_eq_emod_of_nonneg (by omega)
    have hnz : ¬ n = 0 := by omega
    go_wp2_with fail
    go_quiet (fail)
    go_wp2
    go_ret
    exact HF.out _ (Drew.one _ _)
end Go.Proofs.Ytiinceflafigeaa
