/- Contracts of the laws' own helpers on slices, branches and clusters: sizes, copies, comparisons, marks. -/
import Derived.Test.YthpnmkghjnipoaaSlc
import Derived.Test.YthpnmkghjnipoaaMem
namespace Go.Proofs.Ythpnmkghjnipoaa
open Go.RowKit

/-- What is left of l places behind n. -/
def szI (l : Int) (n : Nat) : Int := if l < n then -1 else l - n
theorem szI_lt {l : Int} {n : Nat} (h : l < n) : szI l n = -1 := by simp [szI, h]
theorem szI_ge {l : Int} {n : Nat} (h : ¬ l < n) : szI l n = l - n := by simp [szI, h]

theorem szInt64S_c (v : Value) (xs : List Int) (l : Int) (w : World) (h : Rd w v xs) (h0 : 0 ≤ l) (h1 : l ≤ 1048576) :
    Calls Try.prog 75 #[v, .int .i64 l] w fun e w' => e = .returned (.int .i64 (szI l xs.length)) ∧ w = w' := by
  obtain ⟨a, cap, rfl, hcap1, hcap2, _⟩ := h
  by_cases hl : l < xs.length
  · go_enter Try.func75, Try.ntmps75
    go_wp2
    go_ret
    exact ⟨ret_int (by rw [szI_lt hl]), rfl⟩
  · go_enter Try.func75, Try.ntmps75
    go_wp2
    go_ret
    exact ⟨ret_int (by rw [szI_ge (by omega)]), rfl⟩

theorem iota_step (k : Int) (n j : Nat) (xs : List Int) (hn : n = xs.length) (hj : j < n) :
    (iotaI k j ++ xs.drop j).set j (k + j) = iotaI k (j + 1) ++ xs.drop (j + 1) := by
  subst hn
  apply List.ext_getElem
  · simp; omega
  · intro i h1 h2
    simp only [List.getElem_set, List.getElem_append, iotaI_length]
    split
    · subst_vars; simp [iotaI]
    · split
      · rw [dif_pos (by omega)]; simp [iotaI]
      · rw [dif_neg (by omega)]; simp only [List.getElem_drop]; congr 1; omega

set_option maxHeartbeats 400000 in
theorem mark_c (v : Value) (xs : List Int) (k : Int) (base : Nat) (w : World) (h : OwnI w base v xs) (h0 : 0 ≤ k) (h1 : k ≤ 1000000000000) (hn : xs.length ≤ 1000000000000) :
    Calls Try.prog 30 #[v, .int .i64 k] w fun e w' => e = .returned (.int .i64 (k + xs.length)) ∧ OwnI w' base v (iotaI k xs.length) ∧ Keeps (fun b => v.ownBlock = some b) w w' := by
  rcases h.shape with ⟨rfl, rfl⟩ | ⟨g, cap, rfl, hb0, hb1, hb2, hb3⟩
  · go_enter Try.func30, Try.ntmps30
    go_wp2
    refine wp_loop_rounds 1 ?_
    rw [rounds_succ]
    go_wp2
    go_ret
    exact ⟨ret_int (by simp), own_nil _ _ _, Keeps.refl _ _⟩
  · go_enter Try.func30, Try.ntmps30
    go_wp2
    go_loopw [1, 5] (fun s i wr => ∃ j : Nat, j ≤ xs.length ∧ i = .int .i64 j ∧ s = .int .i64 (k + j) ∧ OwnI wr base (.slice (some ⟨g, 0, none⟩) xs.length cap) (iotaI k j ++ xs.drop j) ∧ Keeps (fun b => g = b) w wr) (fun _ i _ => xs.length - (intOf i).toNat)
    case atStart => exact ⟨0, Nat.zero_le _, rfl, by simp, by simpa [iotaI] using h, Keeps.refl _ _⟩
    case round =>
      obtain ⟨j, hj, rfl, rfl, hown, hkp⟩ := hrel
      clear h
      have hlen : (iotaI k j ++ xs.drop j).length = xs.length := by simp; omega
      by_cases hlt : j < xs.length
      · have hown' : OwnI wr base (.slice (some ⟨g, 0, none⟩) (iotaI k j ++ xs.drop j).length cap) (iotaI k j ++ xs.drop j) := by rw [hlen]; exact hown
        have hc := hown'.cell j (by omega)
        have hf := hown'.free j
        have hset := hown'.set j (k + j)
        rw [iota_step k xs.length j xs rfl hlt, hlen] at hset
        have hkp' := hkp.setCell (p := ⟨g, j, none⟩) rfl (.int .i64 (k + j))
        have HS := Lib.hid hset
        clear hown hown' hset hlen hkp
        go_wp2
        go_roundw
        case rel => exact ⟨j + 1, by omega, by go_num, by go_num, HS.out, hkp'⟩
        case measure => simp [intOf]; omega
      · have hj' : j = xs.length := by omega
        subst hj'
        go_wp2
        go_ret
        refine ⟨rfl, by simpa using hown, hkp.mono (fun b hb => by simp [Value.ownBlock, hb])⟩

set_option maxHeartbeats 400000 in
theorem held_c (v : Value) (n : Nat) (k : Int) (w : World) (h : Rd w v (iotaI k n)) (h0 : 0 ≤ k) (h1 : k ≤ 1000000000000) (hn : n ≤ 1000000000000) :
    Calls Try.prog 31 #[v, .int .i64 k] w fun e w' => e = .returned (.int .i64 (k + n)) ∧ w = w' := by
  obtain ⟨a, cap, rfl, hcap1, hcap2, hrd⟩ := h
  rw [iotaI_length] at hcap1 hrd ⊢
  go_enter Try.func31, Try.ntmps31
  go_wp2
  go_loop [1, 5] (fun s i => ∃ j : Nat, j ≤ n ∧ i = .int .i64 j ∧ s = .int .i64 (k + j)) (fun _ i => n - (intOf i).toNat)
  case atStart => exact ⟨0, Nat.zero_le _, rfl, by simp⟩
  case round =>
    obtain ⟨j, hj, rfl, rfl⟩ := hrel
    by_cases hlt : j < n
    · obtain ⟨b, off, rfl, hbl, hcs⟩ := hrd (by intro e; have := congrArg List.length e; simp at this; omega)
      have hc := hcs j hlt
      rw [gI_iota hlt] at hc
      clear hcs hrd
      go_wp2
      go_round
      case rel => exact ⟨j + 1, by omega, by go_num, by go_num⟩
      case measure => simp [intOf]; omega
    · have hj' : j = n := by omega
      subst hj'
      go_wp2
      go_ret
      exact ⟨rfl, rfl⟩
end Go.Proofs.Ythpnmkghjnipoaa
