/- Contracts: the steps of Euclid's algorithm. -/
import Derived.Test.YtiinceflafigeaaEuProx
import Derived.Test.YtiinceflafigeaaMatL
import Derived.Test.YtiinceflafigeaaProx
namespace Go.Proofs.Ytiinceflafigeaa
open Go.RowKit

theorem stp_len : ∀ n a b, (stp n a b).length ≤ n := by
  intro n
  induction n with
  | zero => intro a b; simp [stp]
  | succ n ih =>
    intro a b
    rw [stp_succ]
    split
    · have := ih b (a % b); simp; omega
    · simp
theorem stB_len (a b : Int) : (stB a b).length ≤ b.toNat := stp_len _ _ _
/-- The steps as rows. -/
def rowsOf (R : List (Int × Int)) : List (List Int) := R.map fun s => [s.1, s.2]
@[simp] theorem rowsOf_len (R : List (Int × Int)) : (rowsOf R).length = R.length := by simp [rowsOf]
theorem rowsOf_snoc (R : List (Int × Int)) (s : Int × Int) : rowsOf (R ++ [s]) = rowsOf R ++ [[s.1, s.2]] := by simp [rowsOf]

set_option maxRecDepth 100000 in
set_option maxHeartbeats 4000000 in
theorem steps_c (a b : Int) (w : World) (ha : 0 ≤ a) (ha2 : a ≤ 100000) (hb : 0 ≤ b) (hb2 : b ≤ 100000) :
    Calls Try.prog 225 #[.int .i64 a, .int .i64 b] w (RetM 2 w (rowsOf (stB a b))) := by
  obtain ⟨j0, ji, jz0, jz1, jz2⟩ := info_parts Try.infoII
  have hE : GrowM 2 24 (w.alloc (.cells #[] 24)) w.heap.size (.slice (some ⟨w.heap.size, 0, none⟩) 0 0) [] [] := GrowM.empty _ _ w w.heap.size w.heap.size rfl (Nat.le_refl _)
  have hal : Below w.heap.size w (w.alloc (.cells #[] 24)) := (Below.refl _ _).alloc (Nat.le_refl _) _
  have hlen := stB_len a b
  go_enter Try.func225, Try.ntmps225
  go_wp2_with fail
  go_loopw [0, 1, 5] (fun av bv lv wr => ∃ (A B : Int) (R : List (Int × Int)) (g c : Nat) (vs : List Value), av = .int .i64 A ∧ bv = .int .i64 B ∧ 0 ≤ A ∧ A ≤ 100000 ∧ 0 ≤ B ∧ B ≤ 100000 ∧ lv = .slice (some ⟨g, 0, none⟩) (rowsOf R).length c ∧ GrowM 2 24 wr w.heap.size (.slice (some ⟨g, 0, none⟩) (rowsOf R).length c) vs (rowsOf R) ∧ R ++ stB A B = stB a b ∧ Below w.heap.size w wr) (fun _ bv _ _ => (intOf bv).toNat)
  case atStart => exact ⟨a, b, [], w.heap.size, 0, [], rfl, rfl, ha, ha2, hb, hb2, rfl, hE, rfl, hal⟩
  case round =>
    obtain ⟨A, B, R, g, c, vs, rfl, rfl, hA, hA2, hB, hB2, rfl, hG, hR, hbl⟩ := hrel
    clear hE hal
    obtain ⟨wo, rfl⟩ : ∃ wo : World, wo = wr := ⟨_, rfl⟩
    by_cases hlt : 0 < B
    · have hR' : R ++ [(A / B, B)] ++ stB B (A % B) = stB a b := by rw [← hR, stB_pos hlt]; simp
      have hRl : R.length ≤ 100000 := by have h := congrArg List.length hR; simp at h; omega
      have hq : Int.tdiv A B = A / B := Int.tdiv_eq_ediv_of_nonneg hA
      have hm : Int.tmod A B = A % B := Int.tmod_eq_emod_of_nonneg hA
      have hq0 : 0 ≤ A / B := Int.ediv_nonneg hA hB
      have hq1 : A / B ≤ A := Int.ediv_le_self _ hA
      have hm0 := Int.emod_nonneg A (show B ≠ 0 by omega)
      have hm1 := Int.emod_lt_of_pos A hlt
      have hBn : ¬ B = 0 := by omega
      have HR := Lib.hid hR'
      have HY := Lib.hid (rowsOf_snoc R (A / B, B))
      have HRL := Lib.hid hRl
      clear hR hR' hlen hRl
      generalize A / B = q at *
      generalize A % B = r at *
      have wq : IntKind.i64.wrap q = q := IntWalk.i64_in _ (by omega)
      have wr' : IntKind.i64.wrap r = r := IntWalk.i64_in _ (by omega)
      have hsz := hbl.size
      have hgl := (hG.block g rfl).2
      have hal2 : Below wo.heap.size wo (wo.alloc (.cells #[.int .i64 q, .int .i64 B] 2)) := (Below.refl _ _).alloc (Nat.le_refl _) _
      have hG2 := hG.below hal2
      have hu : Own 2 (wo.alloc (.cells #[.int .i64 q, .int .i64 B] 2)) w.heap.size (.slice (some ⟨wo.heap.size, 0, none⟩) 2 2) [q, B] := own_blk2 (Blk.new wo _ _) hsz
      have hua : Apart (.slice (some ⟨wo.heap.size, 0, none⟩) 2 2) (.slice (some ⟨g, 0, none⟩) (rowsOf R).length c) := fun x h1 h2 => by simp [Value.ownBlock] at h1 h2; omega
      have hur : ∀ i, i < (rowsOf R).length → Apart (vs.getD i (.slice none 0 0)) (.slice (some ⟨wo.heap.size, 0, none⟩) 2 2) := fun i hi x h1 h2 => by simp [Value.ownBlock] at h2; have := ((hG.row i hi).block x h1).2; omega
      go_wp2_with (at_builtin; refine wpList_pushR rfl (.tmp 9) (.tmp 15) 64 rfl w.heap.size 2 24 j0 Try.underlying64 ji jz0 jz1 jz2 (.slice (some ⟨g, 0, none⟩) (rowsOf R).length c) vs (rowsOf R) (.slice (some ⟨wo.heap.size, 0, none⟩) 2 2) [q, B] (by simp [go_sem]) hG2 (wo.heap.size + 1) (by simp) rfl hu hua hur (by have := HRL.out; simp; omega) (by simp; omega) ?_; intro g3 c3 w2 hG3 hkp hlt3)
      have hbl2 := (hbl.trans (hal2.mono hsz)).trans (hkp.below (by simp; omega) (fun k hk => by simp [Value.ownBlock] at hk; have := (hG.block g rfl).1; omega))
      rw [rowsOf_len] at hG3
      rw [← HY.out] at hG3
      have hl3 : (rowsOf (R ++ [(q, B)])).length = R.length + 1 := by simp
      rw [← hl3] at hG3
      have HL3 := Lib.hid hl3
      clear hkp hG hG2 hl3
      go_quiet (fail)
      go_wp2
      go_roundw
      case rel => exact ⟨B, r, R ++ [(q, B)], g3, c3, _, rfl, rfl, hB, hB2, hm0, by omega, by rw [HL3.out], hG3.below (below_drewN (Below.refl _ _) _), HR.out, below_drewN hbl2 _⟩
      case measure => simp [intOf]; omega
    · have hz : stB A B = [] := stB_zero hlt
      rw [hz, List.append_nil] at hR
      subst hR
      have hret := retM_mk hG.own hbl
      rw [rowsOf_len] at hret
      have HR := Lib.hid hret
      clear hG hz hret
      go_wp2
      go_ret
      exact HR.out

set_option maxRecDepth 100000 in
set_option maxHeartbeats 4000000 in
theorem l01Steps_c (a b : Int) (w : World) (ha : 0 ≤ a) (ha2 : a ≤ 100000) (hb : 0 ≤ b) (hb2 : b ≤ 100000) :
    Calls Try.prog 224 #[.int .i64 a, .int .i64 b] w (RetM 2 w (rowsOf (stB a b))) := by
  obtain ⟨j0, ji, jz0, jz1, jz2⟩ := info_parts Try.infoII
  have hE : GrowM 2 24 (w.alloc (.cells #[] 24)) w.heap.size (.slice (some ⟨w.heap.size, 0, none⟩) 0 0) [] [] := GrowM.empty _ _ w w.heap.size w.heap.size rfl (Nat.le_refl _)
  have hal : Below w.heap.size w (w.alloc (.cells #[] 24)) := (Below.refl _ _).alloc (Nat.le_refl _) _
  have hlen := stB_len a b
  go_enter Try.func224, Try.ntmps224
  go_wp2_with fail
  go_loopw [0, 1, 5, 6] (fun av bv lv _ wr => ∃ (A B : Int) (R : List (Int × Int)) (g c : Nat) (vs : List Value), av = .int .i64 A ∧ bv = .int .i64 B ∧ 0 ≤ A ∧ A ≤ 100000 ∧ 0 ≤ B ∧ B ≤ 100000 ∧ lv = .slice (some ⟨g, 0, none⟩) (rowsOf R).length c ∧ GrowM 2 24 wr w.heap.size (.slice (some ⟨g, 0, none⟩) (rowsOf R).length c) vs (rowsOf R) ∧ R ++ stB A B = stB a b ∧ Below w.heap.size w wr) (fun _ bv _ _ _ => (intOf bv).toNat)
  case atStart => exact ⟨a, b, [], w.heap.size, 0, [], rfl, rfl, ha, ha2, hb, hb2, rfl, hE, rfl, hal⟩
  case round =>
    obtain ⟨A, B, R, g, c, vs, rfl, rfl, hA, hA2, hB, hB2, rfl, hG, hR, hbl⟩ := hrel
    clear hE hal
    obtain ⟨wo, rfl⟩ : ∃ wo : World, wo = wr := ⟨_, rfl⟩
    by_cases hlt : 0 < B
    · have hR' : R ++ [(A / B, B)] ++ stB B (A % B) = stB a b := by rw [← hR, stB_pos hlt]; simp
      have hRl : R.length ≤ 100000 := by have h := congrArg List.length hR; simp at h; omega
      have hq : Int.tdiv A B = A / B := Int.tdiv_eq_ediv_of_nonneg hA
      have hm : Int.tmod A B = A % B := Int.tmod_eq_emod_of_nonneg hA
      have hq0 : 0 ≤ A / B := Int.ediv_nonneg hA hB
      have hq1 : A / B ≤ A := Int.ediv_le_self _ hA
      have hm0 := Int.emod_nonneg A (show B ≠ 0 by omega)
      have hm1 := Int.emod_lt_of_pos A hlt
      have hBn : ¬ B = 0 := by omega
      have HR := Lib.hid hR'
      have HY := Lib.hid (rowsOf_snoc R (A / B, B))
      have HRL := Lib.hid hRl
      clear hR hR' hlen hRl
      generalize A / B = q at *
      generalize A % B = r at *
      have wq : IntKind.i64.wrap q = q := IntWalk.i64_in _ (by omega)
      have wr' : IntKind.i64.wrap r = r := IntWalk.i64_in _ (by omega)
      have hsz := hbl.size
      have hgl := (hG.block g rfl).2
      have hal2 : Below wo.heap.size wo (wo.alloc (.cells #[.int .i64 q, .int .i64 B] 2)) := (Below.refl _ _).alloc (Nat.le_refl _) _
      have hG2 := hG.below hal2
      have hu : Own 2 (wo.alloc (.cells #[.int .i64 q, .int .i64 B] 2)) w.heap.size (.slice (some ⟨wo.heap.size, 0, none⟩) 2 2) [q, B] := own_blk2 (Blk.new wo _ _) hsz
      have hua : Apart (.slice (some ⟨wo.heap.size, 0, none⟩) 2 2) (.slice (some ⟨g, 0, none⟩) (rowsOf R).length c) := fun x h1 h2 => by simp [Value.ownBlock] at h1 h2; omega
      have hur : ∀ i, i < (rowsOf R).length → Apart (vs.getD i (.slice none 0 0)) (.slice (some ⟨wo.heap.size, 0, none⟩) 2 2) := fun i hi x h1 h2 => by simp [Value.ownBlock] at h2; have := ((hG.row i hi).block x h1).2; omega
      go_wp2_with (at_builtin; refine wpList_pushR rfl (.tmp 10) (.tmp 16) 64 rfl w.heap.size 2 24 j0 Try.underlying64 ji jz0 jz1 jz2 (.slice (some ⟨g, 0, none⟩) (rowsOf R).length c) vs (rowsOf R) (.slice (some ⟨wo.heap.size, 0, none⟩) 2 2) [q, B] (by simp [go_sem]) hG2 (wo.heap.size + 1) (by simp) rfl hu hua hur (by have := HRL.out; simp; omega) (by simp; omega) ?_; intro g3 c3 w2 hG3 hkp hlt3)
      have hbl2 := (hbl.trans (hal2.mono hsz)).trans (hkp.below (by simp; omega) (fun k hk => by simp [Value.ownBlock] at hk; have := (hG.block g rfl).1; omega))
      rw [rowsOf_len] at hG3
      rw [← HY.out] at hG3
      have hl3 : (rowsOf (R ++ [(q, B)])).length = R.length + 1 := by simp
      rw [← hl3] at hG3
      have HL3 := Lib.hid hl3
      clear hkp hG hG2 hl3
      go_roundw
      case rel => exact ⟨B, r, R ++ [(q, B)], g3, c3, _, rfl, rfl, hB, hB2, hm0, by omega, by rw [HL3.out], hG3, HR.out, hbl2⟩
      case measure => simp [intOf]; omega
    · have hz : stB A B = [] := stB_zero hlt
      rw [hz, List.append_nil] at hR
      subst hR
      have hret := retM_mk hG.own hbl
      rw [rowsOf_len] at hret
      have HR := Lib.hid hret
      clear hG hz hret
      go_wp2
      go_ret
      exact HR.out
end Go.Proofs.Ytiinceflafigeaa
