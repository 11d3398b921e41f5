/- General words for the contracts: a slice value that reads as a list of integers, a slice value that a call owns. No program in sight. -/
import Derived.WalkKit
import Derived.WalkSpells
import Derived.Lib.Hide
import Derived.Deep.Draws
import Derived.Test.YtglghdkjppcedaaDoorProg
import Derived.Deep.QuietTactic
import Derived.BigQuiet
import Derived.Deep.DeepCutAuto
import Derived.StillTailTactics
namespace Go.Proofs.YtglghdkjppcedaaDoor
open Go.RowKit

/-- The number of xs at i. -/
def gI (xs : List Int) (i : Nat) : Int := xs.getD i 0
theorem gI_lt {xs : List Int} {i : Nat} (h : i < xs.length) : gI xs i = xs[i] := by simp [gI, List.getD, h]
theorem gI_some {xs : List Int} {i : Nat} (h : i < xs.length) : xs[i]? = some (gI xs i) := by simp [gI, List.getD, h]
theorem gI_mem {xs : List Int} {i : Nat} (h : i < xs.length) : gI xs i ∈ xs := by rw [gI_lt h]; exact List.getElem_mem h
theorem gI_take {xs : List Int} {i k : Nat} (h : i < k) : gI (xs.take k) i = gI xs i := by simp [gI, List.getD, h]
theorem gI_drop {xs : List Int} {i k : Nat} : gI (xs.drop k) i = gI xs (k + i) := by simp [gI, List.getD, List.getElem?_drop]
theorem gI_ext {xs ys : List Int} (hl : xs.length = ys.length) (h : ∀ i, i < xs.length → gI xs i = gI ys i) : xs = ys := by
  apply List.ext_getElem hl
  intro i h1 h2
  rw [← gI_lt h1, ← gI_lt h2]; exact h i h1
theorem gI_app_lt {xs ys : List Int} {i : Nat} (h : i < xs.length) : gI (xs ++ ys) i = gI xs i := by simp [gI, List.getD, List.getElem?_append_left h]
theorem gI_app_at {xs : List Int} {y : Int} {i : Nat} (h : i = xs.length) : gI (xs ++ [y]) i = y := by subst h; simp [gI, List.getD]
theorem gI_set_at {xs : List Int} {i : Nat} {y : Int} (h : i < xs.length) : gI (xs.set i y) i = y := by simp [gI, List.getD, h]
theorem gI_set_ne {xs : List Int} {i j : Nat} {y : Int} (h : i ≠ j) : gI (xs.set i y) j = gI xs j := by simp [gI, List.getD, List.getElem?_set_ne h]
/-- The slice value v reads, in w, as the integers xs. -/
def Rd (w : World) (v : Value) (xs : List Int) : Prop :=
  ∃ a cap, v = .slice a xs.length cap ∧ xs.length ≤ cap ∧ cap ≤ 9223372036854775807 ∧ (xs ≠ [] → ∃ b off, a = some ⟨b, off, none⟩ ∧ b < w.heap.size ∧ ∀ i, i < xs.length → w.cell? ⟨b, off + i, none⟩ = some (.int .i64 (gI xs i)))

/-- The slice value v owns, from block 'base' on, the integers xs. e: the number of the type int64. -/
def Own (e : TypeId) (w : World) (base : Nat) (v : Value) (xs : List Int) : Prop :=
  w.ownsRow base e 1 v xs.length (xs.map (Value.int .i64))

theorem Own.shape {e : TypeId} {w : World} {base : Nat} {v : Value} {xs : List Int} (h : Own e w base v xs) :
    (v = .slice none 0 0 ∧ xs = []) ∨ ∃ g cap, v = .slice (some ⟨g, 0, none⟩) xs.length cap ∧ base ≤ g ∧ g < w.heap.size ∧ xs.length ≤ cap ∧ cap ≤ 9223372036854775807 := by
  rcases h.2 with ⟨h1, h2⟩ | ⟨g, cap, cur, h1, h2, h3, h4, h5, _⟩
  · exact .inl ⟨h1, List.eq_nil_of_length_eq_zero h2⟩
  · exact .inr ⟨g, cap, h1, h2, (Array.getElem?_eq_some_iff.1 h3).1, h4, by unfold maxLen at h5; omega⟩

theorem Own.rd {e : TypeId} {w : World} {base : Nat} {v : Value} {xs : List Int} (h : Own e w base v xs) : Rd w v xs := by
  rcases h.shape with ⟨h1, h2⟩ | ⟨g, cap, h1, h2, h3, h4, h5⟩
  · subst h2; exact ⟨none, 0, h1, by simp, by simp, fun h => absurd rfl h⟩
  · subst h1
    refine ⟨_, cap, rfl, h4, h5, fun _ => ⟨g, 0, rfl, h3, fun i hi => ?_⟩⟩
    have := World.ownsRow.cellAt h i (by omega)
    rw [Nat.zero_add, this]
    simp [List.getElem?_map, List.getElem?_eq_getElem hi, gI_lt hi]

theorem Rd.below {w w' : World} {v : Value} {xs : List Int} {B : Nat} (h : Rd w v xs) (hb : Below B w w') (hB : w.heap.size ≤ B) : Rd w' v xs := by
  obtain ⟨a, cap, h1, h2, h3, h4⟩ := h
  refine ⟨a, cap, h1, h2, h3, fun hx => ?_⟩
  obtain ⟨b, off, e1, e2, e3⟩ := h4 hx
  refine ⟨b, off, e1, Nat.lt_of_lt_of_le e2 hb.size, fun i hi => ?_⟩
  rw [hb.cell (p := ⟨b, off + i, none⟩) (by simp; omega)]
  exact e3 i hi

theorem Own.below {e : TypeId} {w w' : World} {base : Nat} {v : Value} {xs : List Int} {B : Nat} (h : Own e w base v xs) (hb : Below B w w') (hB : w.heap.size ≤ B) : Own e w' base v xs := by
  refine ⟨h.1, ?_⟩
  rcases h.2 with hn | ⟨g, cap, cur, hv, hbg, hg, rest⟩
  · exact .inl hn
  · refine .inr ⟨g, cap, cur, hv, hbg, ?_, rest⟩
    have hlt := (Array.getElem?_eq_some_iff.1 hg).1
    rw [hb.block g (by omega)]; exact hg

theorem Own.base_le {e : TypeId} {w : World} {base base' : Nat} {v : Value} {xs : List Int} (h : Own e w base v xs) (hB : base' ≤ base) : Own e w base' v xs := by
  refine ⟨h.1, ?_⟩
  rcases h.2 with hn | ⟨g, cap, cur, hv, hbg, rest⟩
  · exact .inl hn
  · exact .inr ⟨g, cap, cur, hv, by omega, rest⟩

/-- One number of a slice is stored. -/
theorem Own.set {e : TypeId} {w : World} {base g cap : Nat} {xs : List Int} (h : Own e w base (.slice (some ⟨g, 0, none⟩) xs.length cap) xs) (j : Nat) (x : Int) :
    Own e (w.setCell ⟨g, j, none⟩ (.int .i64 x)) base (.slice (some ⟨g, 0, none⟩) xs.length cap) (xs.set j x) := by
  have := (World.ownsRow.stored h j (.int .i64 x)).1
  unfold Own
  rw [List.length_set, List.map_set]
  exact this

theorem Own.cell {e : TypeId} {w : World} {base g cap : Nat} {xs : List Int} (h : Own e w base (.slice (some ⟨g, 0, none⟩) xs.length cap) xs) (j : Nat) (hj : j < xs.length) :
    w.cell? ⟨g, j, none⟩ = some (.int .i64 (gI xs j)) := by
  rw [World.ownsRow.cellAt h j (by omega)]
  simp [List.getElem?_map, List.getElem?_eq_getElem hj, gI_lt hj]

theorem Own.free {e : TypeId} {w : World} {base g cap : Nat} {xs : List Int} (h : Own e w base (.slice (some ⟨g, 0, none⟩) xs.length cap) xs) (j : Nat) : w.frozen? ⟨g, j, none⟩ = false :=
  World.ownsRow.frozenAt h j

theorem Rd.len0 {w : World} {v : Value} {xs : List Int} (h : Rd w v xs) : ∃ a cap, v = .slice a xs.length cap := by
  obtain ⟨a, cap, rfl, _⟩ := h; exact ⟨a, cap, rfl⟩

theorem rd_nil (w : World) : Rd w (.slice none 0 0) [] := ⟨none, 0, rfl, by simp, by simp, fun h => absurd rfl h⟩
theorem own_nil (e : TypeId) (w : World) (base : Nat) : Own e w base (.slice none 0 0) [] := World.ownsRow_nil w base e 1

/-- w' is w but for some draws. -/
def Drew (w w' : World) : Prop := ∃ n, w' = w.drewN n
theorem Drew.refl (w : World) : Drew w w := ⟨0, rfl⟩
theorem Drew.one (w : World) (n : Nat) : Drew w (w.drewN n) := ⟨n, rfl⟩
theorem Drew.two (w : World) (n m : Nat) : Drew w ((w.drewN n).drewN m) := ⟨n + m, World.drewN_drewN _ _ _⟩
theorem Drew.trans {a b c : World} (h : Drew a b) (h' : Drew b c) : Drew a c := by
  obtain ⟨n, rfl⟩ := h
  obtain ⟨m, rfl⟩ := h'
  exact Drew.two _ _ _
theorem below_drewN {B : Nat} {a w : World} (h : Below B a w) (n : Nat) : Below B a (w.drewN n) := ⟨h.os, h.tape, h.output, h.size, h.block⟩
theorem Drew.below {w w' : World} (h : Drew w w') (B : Nat) : Below B w w' := by
  obtain ⟨n, rfl⟩ := h
  exact below_drewN (Below.refl B w) n
theorem Drew.size {w w' : World} (h : Drew w w') : w'.heap.size = w.heap.size := by
  obtain ⟨n, rfl⟩ := h
  rfl

/-- A callee's contract inside a region that only reads: 'w = w'' or some draws. -/
theorem quiet_eq {P : Program} {f : FuncId} {args : Array Value} {w : World} {n : Nat} {v : Value}
    (h : Calls P f args (w.drewN n) fun e w' => e = .returned v ∧ w.drewN n = w') : Calls P f args (w.drewN n) fun e w'' => e = .returned v ∧ ∃ m, w'' = w.drewN m :=
  h.mono fun _ _ ⟨he, hm⟩ => ⟨he, n, hm.symm⟩
theorem quiet_drew {P : Program} {f : FuncId} {args : Array Value} {w : World} {n : Nat} {v : Value}
    (h : Calls P f args (w.drewN n) fun e w' => e = .returned v ∧ Drew (w.drewN n) w') : Calls P f args (w.drewN n) fun e w'' => e = .returned v ∧ ∃ m, w'' = w.drewN m :=
  h.mono fun _ _ ⟨he, m, hm⟩ => ⟨he, n + m, by rw [hm, World.drewN_drewN]⟩

theorem ret_int {k : IntKind} {a b : Int} (h : a = b) : Ending.returned (.int k a) = .returned (.int k b) := by rw [h]
theorem ret_bool {a b : Bool} (h : a = b) : Ending.returned (.bool a) = .returned (.bool b) := by rw [h]

end Go.Proofs.YtglghdkjppcedaaDoor

/- Contracts of the functions on single numbers: ranges, absolute values, greatest common divisors. -/
namespace Go.Proofs.YtglghdkjppcedaaDoor
open Go.RowKit

/-- n lies from a to b. -/
def inB (n a b : Int) : Bool := decide (a ≤ n ∧ n ≤ b)
theorem inB_iff {n a b : Int} : inB n a b = true ↔ a ≤ n ∧ n ≤ b := by simp [inB]
theorem inB_not {n a b : Int} : inB n a b = false ↔ ¬ (a ≤ n ∧ n ≤ b) := by simp only [inB, decide_eq_false_iff_not]

theorem inRange_c (n a b : Int) (w : World) :
    Calls Tryd.prog 36 #[.int .i64 n, .int .i64 a, .int .i64 b] w fun e w' => e = .returned (.bool (inB n a b)) ∧ w = w' := by
  go_enter Tryd.func36, Tryd.ntmps36
  go_wp2
  · have h : a ≤ n := by assumption
    go_ret
    exact ⟨ret_bool (by simp [inB, h]), rfl⟩
  · have h : n < a := by assumption
    go_ret
    exact ⟨ret_bool (by simp [inB]; omega), rfl⟩

theorem l01In_c (n a b : Int) (w : World) :
    Calls Tryd.prog 40 #[.int .i64 n, .int .i64 a, .int .i64 b] w fun e w' => e = .returned (.bool (inB n a b)) ∧ w = w' := by
  go_enter Tryd.func40, Tryd.ntmps40
  go_wp2
  · have h : a ≤ n := by assumption
    go_ret
    exact ⟨ret_bool (by simp [inB, h]), rfl⟩
  · have h : n < a := by assumption
    go_ret
    exact ⟨ret_bool (by simp [inB]; omega), rfl⟩

def absI (n : Int) : Int := if n < 0 then -n else n
theorem absI_nn (n : Int) : 0 ≤ absI n := by unfold absI; split <;> omega
theorem absI_le (n b : Int) (h : -b ≤ n) (h' : n ≤ b) : absI n ≤ b := by unfold absI; split <;> omega
theorem abs_c (n : Int) (w : World) (h1 : -9000000000000000000 ≤ n) (h2 : n ≤ 9000000000000000000) :
    Calls Tryd.prog 53 #[.int .i64 n] w fun e w' => e = .returned (.int .i64 (absI n)) ∧ w = w' := by
  go_enter Tryd.func53, Tryd.ntmps53
  go_wp2
  · have h : n < 0 := by assumption
    go_ret
    exact ⟨ret_int (by simp [absI, h]), rfl⟩
  · have h : 0 ≤ n := by assumption
    go_ret
    exact ⟨ret_int (by unfold absI; rw [if_neg (by omega)]), rfl⟩

/-- The greatest common divisor as an integer. -/
def gcdI (a b : Int) : Int := (Nat.gcd a.natAbs b.natAbs : Nat)

theorem gcd_step (p q : Nat) : Nat.gcd p q = Nat.gcd q (p % q) := by
  rw [Nat.gcd_comm p q, Nat.gcd_rec q p, Nat.gcd_comm]

theorem gcdI_step (g p q : Int) (hp : 0 ≤ p) (hq : 0 < q) (h : gcdI p q = g) : gcdI q (p % q) = g := by
  rw [← h]
  unfold gcdI
  obtain ⟨m, rfl⟩ := Int.eq_ofNat_of_zero_le hp
  obtain ⟨n, rfl⟩ := Int.eq_ofNat_of_zero_le (Int.le_of_lt hq)
  rw [gcd_step (Int.natAbs m) (Int.natAbs n)]
  rfl
theorem gcdI_zero (g p q : Int) (hp : 0 ≤ p) (hq : q = 0) (h : gcdI p q = g) : p = g := by
  rw [← h, hq]
  unfold gcdI
  simp; omega
theorem gcdI_abs (a b : Int) : gcdI (absI a) (absI b) = gcdI a b := by
  unfold gcdI
  have e : ∀ n : Int, (absI n).natAbs = n.natAbs := fun n => by unfold absI; split <;> simp
  rw [e, e]

theorem divisor_c (a b : Int) (w : World) (h1 : -9000000000000000000 ≤ a) (h2 : a ≤ 9000000000000000000) (h3 : -9000000000000000000 ≤ b) (h4 : b ≤ 9000000000000000000) :
    Calls Tryd.prog 39 #[.int .i64 a, .int .i64 b] w fun e w' => e = .returned (.int .i64 (gcdI a b)) ∧ Drew w w' := by
  have ea := absI_nn a
  have eb := absI_nn b
  have fa := absI_le a _ h1 h2
  have fb := absI_le b _ h3 h4
  go_enter Tryd.func39, Tryd.ntmps39
  go_wp2_with (go_at_call 53; refine (abs_c _ _ (by assumption) (by assumption)).mono ?_; rintro e w' ⟨rfl, rfl⟩)
  go_loopw [0, 1] (fun s t wr => ∃ p q : Int, 0 ≤ p ∧ p ≤ 9000000000000000000 ∧ 0 ≤ q ∧ q ≤ 9000000000000000000 ∧ s = .int .i64 p ∧ t = .int .i64 q ∧ gcdI p q = gcdI a b ∧ Drew w wr) (fun _ t _ => (intOf t).toNat)
  case atStart => exact ⟨_, _, ea, fa, eb, fb, rfl, rfl, gcdI_abs a b, Drew.refl _⟩
  case round =>
    clear ea eb fa fb
    obtain ⟨p, q, hp0, hp1, hq0, hq1, rfl, rfl, hg, n, rfl⟩ := hrel
    have HG := Lib.hid hg
    clear hg
    by_cases hq : 0 < q
    · have hr0 : 0 ≤ p % q := Int.emod_nonneg _ (by omega)
      have hr1 : p % q < q := Int.emod_lt_of_pos _ hq
      go_wp2
      go_quiet (fail)
      go_wp2
      go_roundw
      case rel => exact ⟨_, _, by omega, by omega, by omega, by omega, rfl, rfl, gcdI_step _ _ _ hp0 hq HG.out, by first | exact Drew.one _ _ | exact Drew.two _ _ _ | exact Drew.refl _⟩
      case measure => simp [intOf]; omega
    · go_wp2
      go_ret
      exact ⟨ret_int (gcdI_zero _ _ _ hp0 (by omega) HG.out), Drew.one _ _⟩

theorem l01Gcd_c (a b : Int) (w : World) (h1 : -9000000000000000000 ≤ a) (h2 : a ≤ 9000000000000000000) (h3 : -9000000000000000000 ≤ b) (h4 : b ≤ 9000000000000000000) :
    Calls Tryd.prog 41 #[.int .i64 a, .int .i64 b] w fun e w' => e = .returned (.int .i64 (gcdI a b)) ∧ w = w' := by
  have ea := absI_nn a
  have eb := absI_nn b
  have fa := absI_le a _ h1 h2
  have fb := absI_le b _ h3 h4
  go_enter Tryd.func41, Tryd.ntmps41
  go_upto_if 7 with (fail)
  go_cut [0] from 8 to 9 (fun s wc => s = .int .i64 (absI a) ∧ w = wc)
  case first =>
    go_wp2
    · have h : a < 0 := by assumption
      go_meet
      exact ⟨by simp [absI, h], rfl⟩
    · have h : 0 ≤ a := by assumption
      go_meet
      exact ⟨by unfold absI; rw [if_neg (by omega)], rfl⟩
  case rest =>
    obtain ⟨rfl, rfl⟩ := hcut
    go_upto_if 11 with (fail)
    go_cut [1] from 12 to 13 (fun s wc => s = .int .i64 (absI b) ∧ w = wc)
    case first =>
      go_wp2
      · have h : b < 0 := by assumption
        go_meet
        exact ⟨by simp [absI, h], rfl⟩
      · have h : 0 ≤ b := by assumption
        go_meet
        exact ⟨by unfold absI; rw [if_neg (by omega)], rfl⟩
    case rest =>
      obtain ⟨rfl, rfl⟩ := hcut
      go_wp2
      go_loop [0, 1, 5] (fun s t _ => ∃ p q : Int, 0 ≤ p ∧ p ≤ 9000000000000000000 ∧ 0 ≤ q ∧ q ≤ 9000000000000000000 ∧ s = .int .i64 p ∧ t = .int .i64 q ∧ gcdI p q = gcdI a b) (fun _ t _ => (intOf t).toNat)
      case atStart => exact ⟨_, _, ea, fa, eb, fb, rfl, rfl, gcdI_abs a b⟩
      case round =>
        clear ea eb fa fb
        obtain ⟨p, q, hp0, hp1, hq0, hq1, rfl, rfl, hg⟩ := hrel
        have HG := Lib.hid hg
        clear hg
        by_cases hq : 0 < q
        · have hr0 : 0 ≤ p % q := Int.emod_nonneg _ (by omega)
          have hr1 : p % q < q := Int.emod_lt_of_pos _ hq
          go_wp2
          go_round
          case rel => exact ⟨_, _, by omega, by omega, by omega, by omega, rfl, rfl, gcdI_step _ _ _ hp0 hq HG.out⟩
          case measure => simp [intOf]; omega
        · go_wp2
          go_ret
          exact ⟨ret_int (gcdI_zero _ _ _ hp0 (by omega) HG.out), rfl⟩
end Go.Proofs.YtglghdkjppcedaaDoor

/- Contracts of the functions on slices of integers: copying, comparing, marking, ranges. -/
namespace Go.Proofs.YtglghdkjppcedaaDoor
open Go.RowKit

theorem Tryd.infoI : (Tryd.prog.info? 2).map (fun i => (i.zero, i.size, i.bytes)) = some (some (.int .i64 0), 1, 8) := by kernel_rfl

abbrev OwnI (w : World) (base : Nat) (v : Value) (xs : List Int) : Prop := Own 2 w base v xs

/-- A new slice that reads as xs is returned; nothing that was there has changed. -/
def RetI (w : World) (xs : List Int) (e : Ending) (w' : World) : Prop :=
  ∃ a k, e = .returned (.slice a xs.length k) ∧ OwnI w' w.heap.size (.slice a xs.length k) xs ∧ Below w.heap.size w w'

/-- The new slice is the first new block, as long as its length. -/
def RetAt (w : World) (xs : List Int) (e : Ending) (w' : World) : Prop :=
  e = .returned (.slice (some ⟨w.heap.size, 0, none⟩) xs.length xs.length) ∧ OwnI w' w.heap.size (.slice (some ⟨w.heap.size, 0, none⟩) xs.length xs.length) xs ∧ Below w.heap.size w w'

/-- Two lists of integers are equal. -/
def eqB (xs ys : List Int) : Bool := decide (xs = ys)
theorem eqB_self (xs : List Int) : eqB xs xs = true := by simp [eqB]
theorem ne_of_lt_len {xs : List Int} {k : Nat} (h : k < xs.length) : xs ≠ [] := by intro e; simp [e] at h

theorem take_eq_step {xs ys : List Int} {k : Nat} (h : xs.take k = ys.take k) (h1 : k < xs.length) (h2 : k < ys.length) (he : gI xs k = gI ys k) : xs.take (k + 1) = ys.take (k + 1) := by
  rw [List.take_succ_eq_append_getElem h1, List.take_succ_eq_append_getElem h2, h]
  rw [gI_lt h1, gI_lt h2] at he
  rw [he]

end Go.Proofs.YtglghdkjppcedaaDoor
