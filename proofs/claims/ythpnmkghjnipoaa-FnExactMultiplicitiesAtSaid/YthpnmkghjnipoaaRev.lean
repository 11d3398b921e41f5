/- Contract: slices.Reverse of an owned slice of integers. -/
import Derived.Test.YthpnmkghjnipoaaExPure
import Derived.Test.YthpnmkghjnipoaaClone
namespace Go.Proofs.Ythpnmkghjnipoaa
open Go.RowKit

theorem gI_mapr {n i : Nat} {f : Nat → Int} (h : i < n) : gI ((List.range n).map f) i = f i := by rw [gI_lt (by simpa using h)]; simp
theorem gI_rev {xs : List Int} {i : Nat} (h : i < xs.length) : gI xs.reverse i = gI xs (xs.length - 1 - i) := by
  rw [gI_lt (by simpa using h), gI_lt (by omega), List.getElem_reverse]

/-- The list after k exchanges. -/
def revTo (xs : List Int) (k : Nat) : List Int := (List.range xs.length).map fun i => if i < k ∨ xs.length ≤ i + k then gI xs (xs.length - 1 - i) else gI xs i
@[simp] theorem revTo_len (xs : List Int) (k : Nat) : (revTo xs k).length = xs.length := by simp [revTo]
theorem gI_revTo {xs : List Int} {k i : Nat} (h : i < xs.length) : gI (revTo xs k) i = if i < k ∨ xs.length ≤ i + k then gI xs (xs.length - 1 - i) else gI xs i := gI_mapr h
theorem revTo_zero (xs : List Int) : revTo xs 0 = xs := by
  apply gI_ext (by simp)
  intro i hi
  rw [revTo_len] at hi
  rw [gI_revTo hi, if_neg (by omega)]
theorem revTo_end {xs : List Int} {k : Nat} (h : xs.length ≤ 2 * k + 1) : revTo xs k = xs.reverse := by
  apply gI_ext (by simp)
  intro i hi
  rw [revTo_len] at hi
  rw [gI_revTo hi, gI_rev hi]
  by_cases c : i < k ∨ xs.length ≤ i + k
  · rw [if_pos c]
  · rw [if_neg c]; congr 1; omega
theorem revTo_step {xs : List Int} {k j : Nat} (h : k < j) (hj : j + k + 1 = xs.length) : ((revTo xs k).set k (gI (revTo xs k) j)).set j (gI (revTo xs k) k) = revTo xs (k + 1) := by
  apply gI_ext (by simp)
  intro i hi
  have hi : i < xs.length := by simpa using hi
  rw [gI_revTo hi]
  by_cases e : j = i
  · subst e
    rw [gI_set_at (by simp; omega), gI_revTo (by omega), if_neg (by omega), if_pos (by omega)]
    congr 1; omega
  · rw [gI_set_ne e]
    by_cases e2 : k = i
    · subst e2
      rw [gI_set_at (by simp; omega), gI_revTo (by omega), if_neg (by omega), if_pos (by omega)]
      congr 1; omega
    · rw [gI_set_ne e2, gI_revTo hi]
      by_cases c : i < k ∨ xs.length ≤ i + k
      · rw [if_pos c, if_pos (by omega)]
      · rw [if_neg c, if_neg (by omega)]

set_option maxHeartbeats 1600000 in
theorem reverse_c (v : Value) (xs : List Int) (base : Nat) (w : World) (h : OwnI w base v xs) (hn : xs.length ≤ 1000000) :
    Calls Try.prog 171 #[v] w fun e w' => e = .returned (.tuple #[]) ∧ OwnI w' base v xs.reverse ∧ Keeps (fun k => v.ownBlock = some k) w w' := by
  rcases h.shape with ⟨rfl, rfl⟩ | ⟨g, cap, rfl, h1, h2, h3, h4⟩
  · go_enter Try.func171, Try.ntmps171
    go_wp2
    go_loop [2, 3] (fun i j => i = .int .i64 0 ∧ j = .int .i64 (-1)) (fun _ _ => 0)
    case atStart => exact ⟨rfl, rfl⟩
    case round =>
      obtain ⟨rfl, rfl⟩ := hrel
      go_wp2
      go_end0
      exact ⟨rfl, h, Keeps.refl _ _⟩
  · go_enter Try.func171, Try.ntmps171
    go_wp2
    go_loopw [2, 3] (fun i j wr => ∃ k : Nat, 2 * k ≤ xs.length + 1 ∧ i = .int .i64 k ∧ j = .int .i64 ((xs.length : Int) - 1 - k) ∧ OwnI wr base (.slice (some ⟨g, 0, none⟩) xs.length cap) (revTo xs k) ∧ Keeps (fun k => k = g) w wr) (fun i _ _ => xs.length + 1 - (intOf i).toNat)
    case atStart => exact ⟨0, by omega, rfl, by simp, by rw [revTo_zero]; exact h, Keeps.refl _ _⟩
    case round =>
      obtain ⟨k, hk, rfl, rfl, hown, hkp⟩ := hrel
      by_cases hlt : (k : Int) < (xs.length : Int) - 1 - k
      · obtain ⟨j, hj⟩ : ∃ j : Nat, (xs.length : Int) - 1 - k = j := ⟨((xs.length : Int) - 1 - k).toNat, by omega⟩
        have hjk : k < j := by omega
        have hjl : j + k + 1 = xs.length := by omega
        have hO : OwnI wr base (.slice (some ⟨g, 0, none⟩) (revTo xs k).length cap) (revTo xs k) := by rw [revTo_len]; exact hown
        have ck := hO.cell k (by simp; omega)
        have cj := hO.cell j (by simp; omega)
        have fk := hO.free k
        have fj := hO.free j
        have s1 := hO.set k (gI (revTo xs k) j)
        have s2 := Own.set (xs := (revTo xs k).set k (gI (revTo xs k) j)) (by rw [List.length_set]; exact s1) j (gI (revTo xs k) k)
        rw [revTo_step hjk hjl, List.length_set, revTo_len] at s2
        have hkp2 := (hkp.setCell (p := ⟨g, k, none⟩) rfl (.int .i64 (gI (revTo xs k) j))).setCell (p := ⟨g, j, none⟩) rfl (.int .i64 (gI (revTo xs k) k))
        have HS := Lib.hid s2
        have HK := Lib.hid hkp2
        generalize gI (revTo xs k) k = x at ck HS HK
        generalize gI (revTo xs k) j = y at cj HS HK
        have i1 : (k : Int) < (xs.length : Int) := by omega
        have i2 : (j : Int) < (xs.length : Int) := by omega
        have hlt' : (k : Int) < (j : Int) := by omega
        rw [hj]
        clear s1 s2 hkp2 hO hown hlt hkp
        go_wp2_with fail
        go_region
        go_wp2
        go_roundw
        case rel => exact ⟨k + 1, by omega, by go_num, by rw [← hj]; push_cast; congr 1; omega, HS.out, HK.out.trans (Keeps.of_below (Below.refl _ _).drew)⟩
        case measure => simp [intOf]; omega
      · go_wp2
        go_end0
        rw [revTo_end (by omega)] at hown
        exact ⟨rfl, hown, hkp.mono (fun k hk => by simp [Value.ownBlock, hk])⟩
end Go.Proofs.Ythpnmkghjnipoaa
