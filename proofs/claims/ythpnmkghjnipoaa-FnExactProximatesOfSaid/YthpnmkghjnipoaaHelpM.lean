/- Contracts of the laws' own helpers on lists of lists: comparison, marks. -/
import Derived.Test.YthpnmkghjnipoaaMatL
import Derived.Test.YthpnmkghjnipoaaHelp
namespace Go.Proofs.Ythpnmkghjnipoaa
open Go.RowKit

set_option maxHeartbeats 1000000 in
theorem eqInt64SS_c (v u : Value) (R : List (List Int)) (w : World) (h : RdR w v R) (h' : RdR w u R) :
    Calls Try.prog 50 #[v, u] w fun e w' => e = .returned (.bool true) ∧ Below w.heap.size w w' := by
  obtain ⟨a, cap, rfl, hcap1, hcap2, hrd⟩ := h
  obtain ⟨a', cap', rfl, hcap1', hcap2', hrd'⟩ := h'
  go_enter Try.func50, Try.ntmps50
  go_wp2
  go_loopw [5] (fun i wr => ∃ k : Nat, k ≤ R.length ∧ i = .int .i64 k ∧ Drew w wr) (fun i _ => R.length - (intOf i).toNat)
  case atStart => exact ⟨0, Nat.zero_le _, rfl, Drew.refl _⟩
  case round =>
    obtain ⟨k, hk, rfl, hd⟩ := hrel
    obtain ⟨wo, rfl⟩ : ∃ wo : World, wo = wr := ⟨_, rfl⟩
    have hdb := hd.below w.heap.size
    by_cases hlt : k < R.length
    · obtain ⟨b, off, rfl, hbl, hcs⟩ := hrd (by intro e; simp [e] at hlt)
      obtain ⟨b', off', rfl, hbl', hcs'⟩ := hrd' (by intro e; simp [e] at hlt)
      obtain ⟨x, hx0, hrx0⟩ := hcs k hlt
      obtain ⟨y, hy0, hry0⟩ := hcs' k hlt
      have hx : wo.cell? ⟨b, off + k, none⟩ = some x := by rw [hdb.cell (p := ⟨b, off + k, none⟩) hbl]; exact hx0
      have hy : wo.cell? ⟨b', off' + k, none⟩ = some y := by rw [hdb.cell (p := ⟨b', off' + k, none⟩) hbl']; exact hy0
      have hrx := hrx0.below hdb (Nat.le_refl _)
      have hry := hry0.below hdb (Nat.le_refl _)
      have hs := eqB_self (gR R k)
      clear hcs hcs' hrd hrd'
      go_wp2
      go_quiet ((go_at_call 28; exact quiet_drew ((eqInt64S_c _ _ (gR R k) (gR R k) _ (hrx.below (below_drewN (Below.refl _ _) _) (Nat.le_refl _)) (hry.below (below_drewN (Below.refl _ _) _) (Nat.le_refl _))).mono fun e w' ⟨he, hw'⟩ => ⟨by rw [he, hs], hw'⟩)))
      go_wp2
      go_roundw
      case rel => exact ⟨k + 1, by omega, by go_num, by first | exact hd | exact hd.trans (Drew.one _ _) | exact hd.trans (Drew.two _ _ _)⟩
      case measure => simp [intOf]; omega
    · go_wp2
      go_ret
      exact ⟨rfl, hdb⟩

/-- What the marks have turned: the first j rows are marked. -/
def markTo (k : Int) (R : List (List Int)) (j : Nat) : List (List Int) := (List.range R.length).map fun i => if i < j then iotaI (k + totR R i) (gR R i).length else gR R i
@[simp] theorem markTo_len (k : Int) (R : List (List Int)) (j : Nat) : (markTo k R j).length = R.length := by simp [markTo]
theorem gR_markTo {k : Int} {R : List (List Int)} {j i : Nat} (h : i < R.length) : gR (markTo k R j) i = if i < j then iotaI (k + totR R i) (gR R i).length else gR R i := gR_map h
theorem markTo_zero (k : Int) (R : List (List Int)) : markTo k R 0 = R := gR_ext (by simp) (fun i hi => by rw [gR_markTo (by simpa using hi), if_neg (by omega)])
theorem markTo_all (k : Int) (R : List (List Int)) : markTo k R R.length = iotaR k R := gR_ext (by simp) (fun i hi => by rw [gR_markTo (by simpa using hi), if_pos (by simpa using hi), gR_iotaR (by simpa using hi)])

/-- A row is marked. -/
theorem OwnM.mark {e : TypeId} {w w' : World} {base : Nat} {v : Value} {V : Nat → Value} {k : Int} {R : List (List Int)} {j : Nat} (h : OwnM e w base v V (markTo k R j)) (hj : j < R.length)
    (ho : Own e w' base (V j) (iotaI (k + totR R j) (gR R j).length)) (hk : Keeps (fun b => (V j).ownBlock = some b) w w') : OwnM e w' base v V (markTo k R (j + 1)) := by
  refine ⟨?_, fun i hi => ?_, fun i i' hi hi' => h.apart i i' (by simpa using hi) (by simpa using hi'), fun i hi => h.self i (by simpa using hi)⟩
  · rcases h.shape with ⟨h1, h2⟩ | ⟨g, cap, h1, h2, h3, h4, h5, h6⟩
    · have := congrArg List.length h2; rw [markTo_len, List.length_nil] at this; omega
    · refine .inr ⟨g, cap, by rw [h1]; simp, h2, Nat.lt_of_lt_of_le h3 hk.size, by simpa using h4, h5, fun i hi => ?_⟩
      rw [hk.cell (p := ⟨g, i, none⟩) h3 (fun hb => by have := h.self j (by simpa using hj) g hb; rw [h1] at this; exact this rfl)]
      exact h6 i (by simpa using hi)
  · have hi' : i < R.length := by simpa using hi
    by_cases e1 : i = j
    · subst e1
      rw [gR_markTo hi', if_pos (by omega)]
      exact ho
    · have := (h.row i (by simpa using hi')).keeps hk (fun g h1 h2 => h.apart i j (by simpa using hi') (by simpa using hj) e1 g h1 h2)
      rw [gR_markTo hi'] at this ⊢
      by_cases e2 : i < j
      · rw [if_pos e2] at this; rw [if_pos (by omega)]; exact this
      · rw [if_neg e2] at this; rw [if_neg (by omega)]; exact this

set_option maxHeartbeats 1000000 in
theorem markM_c (v : Value) (V : Nat → Value) (R : List (List Int)) (k : Int) (base : Nat) (w : World) (h : OwnM 2 w base v V R) (h0 : 0 ≤ k) (h1 : k ≤ 1000000) (hn : R.length ≤ 1048576) (hr : ∀ j, j < R.length → (gR R j).length ≤ 1000) :
    Calls Try.prog 51 #[v, .int .i64 k] w fun e w' => e = .returned (.int .i64 (k + totR R R.length)) ∧ OwnM 2 w' base v V (iotaR k R) ∧ Keeps (OwnM.mine v V R) w w' := by
  obtain ⟨a, cap, rfl⟩ := h.form
  go_enter Try.func51, Try.ntmps51
  go_wp2
  go_loopw [1, 5] (fun s i wr => ∃ j : Nat, j ≤ R.length ∧ i = .int .i64 j ∧ s = .int .i64 (k + totR R j) ∧ OwnM 2 wr base (.slice a R.length cap) V (markTo k R j) ∧ Keeps (OwnM.mine (.slice a R.length cap) V R) w wr) (fun _ i _ => R.length - (intOf i).toNat)
  case atStart => exact ⟨0, Nat.zero_le _, rfl, by simp [totR], by rw [markTo_zero]; exact h, Keeps.refl _ _⟩
  case round =>
    obtain ⟨j, hj, rfl, rfl, hown, hkp⟩ := hrel
    clear h
    obtain ⟨wo, rfl⟩ : ∃ wo : World, wo = wr := ⟨_, rfl⟩
    by_cases hlt : j < R.length
    · obtain ⟨b, off, cap', he, hb1, hb2, hb3, hbc⟩ := hown.rd.cells (by simp; omega)
      have hrow := hown.row j (by simpa using hlt)
      rw [gR_markTo hlt, if_neg (by omega)] at hrow
      rcases hown.shape with ⟨e1, e2⟩ | ⟨g, c2, e1, e2, e3, e4, e5, e6⟩
      · have := congrArg List.length e2; rw [markTo_len, List.length_nil] at this; omega
      · injection e1 with e11 e12 e13
        subst e11
        have hc := e6 j (by simpa using hlt)
        have ht := totR_le hr hj
        have hrj := hr j hlt
        clear he hb1 hb2 hb3 hbc e12 e13 e4 e6
        go_wp2_with fail
        refine (mark_c _ (gR R j) _ _ _ hrow (by omega) (by omega) (by omega)).mono ?_
        rintro e w1 ⟨rfl, ho, hk2⟩
        have hm := hown.mark hlt ho hk2
        have hkp2 := hkp.trans (hk2.mono (fun b hb => .inr ⟨j, hlt, hb⟩))
        go_wp2
        go_roundw
        case rel => exact ⟨j + 1, by omega, by go_num, by rw [totR_succ]; go_num, hm, hkp2⟩
        case measure => simp [intOf]; omega
    · have hj' : j = R.length := by omega
      subst hj'
      go_wp2
      go_ret
      rw [markTo_all] at hown
      exact ⟨rfl, hown, hkp⟩

set_option maxHeartbeats 1000000 in
theorem heldM_c (v : Value) (R : List (List Int)) (k : Int) (w : World) (h : RdR w v (iotaR k R)) (h0 : 0 ≤ k) (h1 : k ≤ 1000000) (hn : R.length ≤ 1048576) (hr : ∀ j, j < R.length → (gR R j).length ≤ 1000) :
    Calls Try.prog 52 #[v, .int .i64 k] w fun e w' => e = .returned (.int .i64 (k + totR R R.length)) ∧ Below w.heap.size w w' := by
  obtain ⟨a, cap, rfl, hcap1, hcap2, hrd⟩ := h
  rw [iotaR_len] at hcap1 hrd ⊢
  go_enter Try.func52, Try.ntmps52
  go_wp2
  go_loop [1, 5] (fun s i => ∃ j : Nat, j ≤ R.length ∧ i = .int .i64 j ∧ s = .int .i64 (k + totR R j)) (fun _ i => R.length - (intOf i).toNat)
  case atStart => exact ⟨0, Nat.zero_le _, rfl, by simp [totR]⟩
  case round =>
    obtain ⟨j, hj, rfl, rfl⟩ := hrel
    by_cases hlt : j < R.length
    · obtain ⟨b, off, rfl, hbl, hcs⟩ := hrd (by intro e; have := congrArg List.length e; rw [iotaR_len, List.length_nil] at this; omega)
      obtain ⟨x, hx, hrx⟩ := hcs j hlt
      rw [gR_iotaR hlt] at hrx
      have ht := totR_le hr hj
      have hrj := hr j hlt
      clear hcs hrd
      go_wp2_with fail
      refine (held_c _ (gR R j).length (k + totR R j) _ hrx (by omega) (by omega) (by omega)).mono ?_
      rintro e w1 ⟨rfl, rfl⟩
      have hge : ¬ (k + (totR R j : Int) + ((gR R j).length : Int)) < 0 := by omega
      go_wp2
      go_round
      case rel => exact ⟨j + 1, by omega, by go_num, by rw [totR_succ]; go_num⟩
      case measure => simp [intOf]; omega
    · have hj' : j = R.length := by omega
      subst hj'
      go_wp2
      go_ret
      exact ⟨rfl, Below.refl _ _⟩
end Go.Proofs.Ythpnmkghjnipoaa
