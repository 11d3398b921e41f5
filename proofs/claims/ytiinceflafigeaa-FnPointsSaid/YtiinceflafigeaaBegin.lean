/- Contract: impl.begins, where a list begins with another one. -/
import Derived.Test.YtiinceflafigeaaEq
namespace Go.Proofs.Ytiinceflafigeaa
open Go.RowKit

theorem gI_app_front {xs ys : List Int} {i : Nat} (h : i < xs.length) : gI (xs ++ ys) i = gI xs i := gI_app_lt h
set_option maxHeartbeats 1000000 in
theorem begins_c (b off cap : Nat) (u : Value) (hd ys : List Int) (w : World) (hp : 0 < hd.length) (h : Rd w (.slice (some ⟨b, off, none⟩) (hd ++ ys).length cap) (hd ++ ys)) (h' : Rd w u hd) :
    Calls Try.prog 223 #[.slice (some ⟨b, off, none⟩) (hd ++ ys).length cap, u] w fun e w' => e = .returned (.bool true) ∧ Drew w w' := by
  obtain ⟨a', cap', rfl⟩ := h'.len0
  obtain ⟨a1, c1, he, h1, h2, h3⟩ := h
  injection he with he1 he2 he3
  subst he1 he3
  have hle : hd.length ≤ (hd ++ ys).length := by simp
  have hrd : Rd w (.slice (some ⟨b, off, none⟩) hd.length cap) hd := by
    refine ⟨some ⟨b, off, none⟩, cap, rfl, by omega, h2, fun _ => ?_⟩
    obtain ⟨b2, off2, e1, e2, e3⟩ := h3 (by intro e; have h0 := congrArg List.length e; rw [List.length_append, List.length_nil] at h0; omega)
    injection e1 with e1
    injection e1 with e4 e5 _
    subst e4 e5
    exact ⟨b, off, rfl, e2, fun i hi => by rw [e3 i (by omega), gI_app_front hi]⟩
  have hse := eqB_self hd
  generalize (hd ++ ys).length = n at *
  have g1 : (hd.length : Int) ≤ (n : Int) := by omega
  have g2 : (hd.length : Int) ≤ (cap : Int) := by omega
  have g3 : (0 : Int) ≤ (hd.length : Int) := by omega
  have hHd := Lib.hid hrd
  have hH' := Lib.hid h'
  have hS := Lib.hid hse
  clear h3 hrd h' hse he2 hle
  generalize hm : hd.length = m at *
  have HM := Lib.hid hm
  clear hm
  go_enter Try.func223, Try.ntmps223
  go_wp2_with fail
  refine (slicesEqual_c _ _ hd hd _ (by have := hHd.out; exact this) (by have := hH'.out; exact this)).mono ?_
  rintro e w1 ⟨rfl, hb⟩
  rw [hS.out]
  go_wp2
  go_ret
  exact ⟨rfl, hb⟩
end Go.Proofs.Ytiinceflafigeaa
