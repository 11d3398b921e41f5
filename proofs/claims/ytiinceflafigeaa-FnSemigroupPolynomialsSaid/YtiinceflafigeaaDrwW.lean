/- Contracts: sources by what is needed of them; l01From, l01Pick. -/
import Derived.Test.YtiinceflafigeaaDrw
import Derived.Test.YtiinceflafigeaaPath
namespace Go.Proofs.Ytiinceflafigeaa
open Go.RowKit

/-- The slice value v reads as the bytes C. -/
def Rd8 (w : World) (v : Value) (C : List Int) : Prop :=
  ∃ a cap, v = .slice a C.length cap ∧ C.length ≤ cap ∧ cap ≤ 9223372036854775807 ∧ (∀ i, i < C.length → 0 ≤ gI C i ∧ gI C i ≤ 255) ∧ (C ≠ [] → ∃ b off, a = some ⟨b, off, none⟩ ∧ b < w.heap.size ∧ ∀ i, i < C.length → w.cell? ⟨b, off + i, none⟩ = some (.int .u8 (gI C i)))
theorem Rd8.below {w w' : World} {v : Value} {C : List Int} {B : Nat} (h : Rd8 w v C) (hb : Below B w w') (hB : w.heap.size ≤ B) : Rd8 w' v C := by
  obtain ⟨a, cap, h1, h2, h3, hn, h4⟩ := h
  refine ⟨a, cap, h1, h2, h3, hn, fun hx => ?_⟩
  obtain ⟨b, off, e1, e2, e3⟩ := h4 hx
  refine ⟨b, off, e1, Nat.lt_of_lt_of_le e2 hb.size, fun i hi => ?_⟩
  rw [hb.cell (p := ⟨b, off + i, none⟩) (by simp; omega)]
  exact e3 i hi
/-- The block g is a source. -/
def Src (w : World) (g : Nat) : Prop := ∃ C a h, SrcC w g C a h
theorem Src.lt {w : World} {g : Nat} (s : Src w g) : g < w.heap.size := by obtain ⟨C, a, h, hs⟩ := s; exact hs.lt
theorem Src.below {w w' : World} {g : Nat} (s : Src w g) (hb : Below w.heap.size w w') : Src w' g := by obtain ⟨C, a, h, hs⟩ := s; exact ⟨C, a, h, hs.below hb⟩
theorem Src.keeps {w w' : World} {g : Nat} {M : Nat → Prop} (s : Src w g) (hk : Keeps M w w') (hM : ∀ q, q ≤ g → ¬ M q) : Src w' g := by obtain ⟨C, a, h, hs⟩ := s; exact ⟨C, a, h, hs.keeps hk hM⟩
/-- A number below n is drawn. -/
def RetX (w : World) (g : Nat) (n : Int) (e : Ending) (w' : World) : Prop := ∃ x : Int, e = .returned (.int .i64 x) ∧ 0 ≤ x ∧ x < n ∧ Src w' g ∧ Keeps (fun q => q = g) w w'
theorem next_w (g : Nat) (n : Int) (w : World) (s : Src w g) (hn : 1 ≤ n) (hn2 : n ≤ 9223372036854775807) :
    Calls Try.prog 151 #[.pointer (some ⟨g, 0, none⟩), .int .i64 n] w (RetX w g n) := by
  obtain ⟨C, a, h, hs⟩ := s
  refine (l01Next_c g n C a h w hs hn hn2).mono fun e w' ⟨h1, h2, h3⟩ => ⟨_, h1, Int.emod_nonneg _ (by omega), Int.emod_lt_of_pos _ (by omega), ⟨_, _, _, h2⟩, h3⟩
/-- A number of the list is drawn. -/
def RetP (w : World) (g : Nat) (xs : List Int) (e : Ending) (w' : World) : Prop := ∃ j : Nat, j < xs.length ∧ e = .returned (.int .i64 (gI xs j)) ∧ Src w' g ∧ Keeps (fun q => q = g) w w'
set_option maxHeartbeats 1000000 in
theorem pick_w (g : Nat) (v : Value) (xs : List Int) (w : World) (s : Src w g) (h : Rd w v xs) (hp : 0 < xs.length) (hl : xs.length ≤ 1000) (hv : ∀ b off, v = .slice (some ⟨b, off, none⟩) xs.length xs.length → b ≠ g) (hc : ∃ a, v = .slice a xs.length xs.length) :
    Calls Try.prog 158 #[.pointer (some ⟨g, 0, none⟩), v] w (RetP w g xs) := by
  obtain ⟨a, rfl⟩ := hc
  obtain ⟨b, off, cap, he, h1, h2, hb, hcell⟩ := h.cells hp
  injection he with he1 he2 he3
  subst he1
  have hbg := hv b off rfl
  have hn0 : (1 : Int) ≤ (xs.length : Int) := by omega
  have HC := Lib.hid hcell
  clear hcell hv he3 h
  go_enter Try.func158, Try.ntmps158
  go_wp2_with fail
  refine (next_w g (xs.length : Int) _ s hn0 (by omega)).mono ?_
  rintro e w1 ⟨x, rfl, hx0, hx1, hs1, hk⟩
  obtain ⟨j, rfl⟩ := Int.eq_ofNat_of_zero_le hx0
  have hj : j < xs.length := by omega
  have d := HC.out j hj
  rw [← hk.cell (p := ⟨b, off + j, none⟩) hb hbg] at d
  have HF := Lib.hid (show RetP w g xs (.returned (.int .i64 (gI xs j))) w1 from ⟨j, hj, rfl, hs1, hk⟩)
  clear hk hs1 s
  generalize gI xs j = y at *
  go_wp2
  go_ret
  exact HF.out

/-- The hash after a code's byte. -/
theorem u64_bd (n : Int) : 0 ≤ IntKind.u64.wrap n ∧ IntKind.u64.wrap n < 18446744073709551616 := by
  have e : IntKind.u64.wrap n = n % 18446744073709551616 := by simp [IntKind.wrap, IntKind.bits, IntKind.signed]
  rw [e]; omega
set_option maxHeartbeats 2000000 in
theorem from_w (v : Value) (C : List Int) (w : World) (h : Rd8 w v C) :
    Calls Try.prog 145 #[v] w fun e w' => ∃ g, e = .returned (.pointer (some ⟨g, 0, none⟩)) ∧ w.heap.size ≤ g ∧ Src w' g ∧ Below w.heap.size w w' := by
  obtain ⟨a, cap, rfl, h1, h2, hn, h4⟩ := h
  have hal : ∀ h0 : Int, Below w.heap.size w (w.alloc (.cells #[.slice a C.length cap, .int .i64 0, .int .u64 h0] 148)) := fun h0 => (Below.refl _ _).alloc (Nat.le_refl _) _
  have hB : ∀ h0 : Int, Blk (w.alloc (.cells #[.slice a C.length cap, .int .i64 0, .int .u64 h0] 148)) w.heap.size 148 #[.slice a C.length cap, .int .i64 0, .int .u64 h0] := fun h0 => Blk.new w _ _
  have HAL := Lib.hid hal
  have HB := Lib.hid hB
  have H4 := Lib.hid h4
  have HN := Lib.hid hn
  clear hal hB h4 hn
  go_enter Try.func145, Try.ntmps145
  go_wp2_with fail
  have hcl : C.length ≤ 9223372036854775807 := by omega
  go_loopw [4] (fun iv wr => ∃ (k : Nat) (h0 : Int), k ≤ C.length ∧ k ≤ 4096 ∧ iv = .int .i64 (k : Int) ∧ 0 ≤ h0 ∧ h0 < 18446744073709551616 ∧ Blk wr w.heap.size 148 #[.slice a C.length cap, .int .i64 0, .int .u64 h0] ∧ Below w.heap.size w wr) (fun iv _ => 4096 - (intOf iv).toNat)
  case atStart => exact ⟨0, _, by omega, by omega, rfl, by omega, by omega, HB.out _, HAL.out _⟩
  case round =>
    obtain ⟨k, h0, hk, hk2, rfl, hh0, hh1, B, hbl⟩ := hrel
    obtain ⟨wo, rfl⟩ : ∃ wo : World, wo = wr := ⟨_, rfl⟩
    by_cases hlt : k < C.length
    · by_cases hlt2 : k < 4096
      · obtain ⟨b, off, rfl, hb, hc⟩ := H4.out (ne_of_lt_len hlt)
        have d := hc k hlt
        rw [← hbl.cell (p := ⟨b, off + k, none⟩) hb] at d
        have hnk := HN.out k hlt
        have c0 := B.cell 0
        have c1 := B.cell 1
        have c2 := B.cell 2
        have f2 := B.free 2
        have g1 : (k : Int) < (C.length : Int) := by omega
        have g2 : (k : Int) < 4096 := by omega
        have hz : IntKind.u64.wrap (gI C k) = gI C k := by
          have e : IntKind.u64.wrap (gI C k) = gI C k % 18446744073709551616 := by simp [IntKind.wrap, IntKind.bits, IntKind.signed]
          rw [e]; omega
        have hbd := u64_bd (IntKind.u64.wrap (IntKind.u64.wrap (h0 * 1099511628211) + gI C k) + 11)
        have hfin : ∀ W, Drew (wo.setCell ⟨w.heap.size, 2, none⟩ (.int .u64 (IntKind.u64.wrap (IntKind.u64.wrap (IntKind.u64.wrap (h0 * 1099511628211) + gI C k) + 11)))) W → Blk W w.heap.size 148 #[.slice (some ⟨b, off, none⟩) C.length cap, .int .i64 0, .int .u64 (IntKind.u64.wrap (IntKind.u64.wrap (IntKind.u64.wrap (h0 * 1099511628211) + gI C k) + 11))] ∧ Below w.heap.size w W := by
          rintro W ⟨m, rfl⟩
          exact ⟨(B.set 2 _).drewN m, below_drewN (hbl.setCell (p := ⟨w.heap.size, 2, none⟩) (Nat.le_refl _) _) m⟩
        have HF := Lib.hid hfin
        have HBD := Lib.hid hbd
        clear hfin hc B hbl hbd
        generalize gI C k = y at *
        go_wp2_with fail
        go_region
        go_wp2_with fail
        go_roundw
        case rel =>
          have hD := HF.out _ (by first | exact ⟨1, rfl⟩ | exact ⟨2, rfl⟩)
          exact ⟨k + 1, _, by omega, by omega, by go_num, HBD.out.1, HBD.out.2, hD.1, hD.2⟩
        case measure => simp [intOf]; omega
      · have hfin : Src wo w.heap.size := ⟨C, 0, h0, ⟨⟨a, cap, B, fun hp => by
          obtain ⟨b, off, q1, q2, q3⟩ := H4.out (by intro e; rw [e] at hp; simp at hp)
          exact ⟨b, off, q1, q2, fun i hi => by rw [hbl.cell (p := ⟨b, off + i, none⟩) q2]; exact q3 i hi⟩⟩, Nat.zero_le _, hcl, HN.out, hh0, hh1⟩⟩
        have HF := Lib.hid hfin
        have HBL := Lib.hid hbl
        clear hfin B hbl
        have g1 : (k : Int) < (C.length : Int) := by omega
        have g2 : ¬ (k : Int) < 4096 := by omega
        go_wp2
        go_ret
        exact ⟨_, rfl, Nat.le_refl _, HF.out, HBL.out⟩
    · have hfin : Src wo w.heap.size := ⟨C, 0, h0, ⟨⟨a, cap, B, fun hp => by
        obtain ⟨b, off, q1, q2, q3⟩ := H4.out (by intro e; rw [e] at hp; simp at hp)
        exact ⟨b, off, q1, q2, fun i hi => by rw [hbl.cell (p := ⟨b, off + i, none⟩) q2]; exact q3 i hi⟩⟩, Nat.zero_le _, hcl, HN.out, hh0, hh1⟩⟩
      have HF := Lib.hid hfin
      have HBL := Lib.hid hbl
      clear hfin B hbl
      have g1 : ¬ (k : Int) < (C.length : Int) := by omega
      go_wp2
      go_ret
      exact ⟨_, rfl, Nat.le_refl _, HF.out, HBL.out⟩
end Go.Proofs.Ytiinceflafigeaa
