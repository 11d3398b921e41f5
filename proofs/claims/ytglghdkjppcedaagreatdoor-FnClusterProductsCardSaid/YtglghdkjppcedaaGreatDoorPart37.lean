/- From the reading of an argument to what a walk is told: slices of integers, alone or as the fields of a struct. -/
import Derived.Test.YtglghdkjppcedaaGreatDoorRows
import Derived.Test.YtglghdkjppcedaaGreatDoorPart0
import Derived.ProofKit
import Derived.OpenShut
import Derived.ShutString
import Derived.ChangeOld
import Derived.Lib.SmallJoins
import Derived.Test.YtglghdkjppcedaaGreatDoorPart16
import Derived.WalkKit
import Derived.JoinedTies
namespace Go.Proofs.YtglghdkjppcedaaGreatDoor
open Go.ChangeShapes Go.WideShapes Go.ChangeAt Go.RowKit Go.Deep

section
variable {H : Type} {enc : TypeId × Value → H} {P : Program} {W : World}

end

theorem own : ownKnob Tryz.prog.godebug = none := by kernel_rfl
theorem laidOut : laidOutB Tryz.prog = true := by kernel_rfl

end Go.Proofs.YtglghdkjppcedaaGreatDoor

/- From the reading of an argument to what a walk is told: slices of bytes. -/
namespace Go.Proofs.YtglghdkjppcedaaGreatDoor
open Go.ChangeShapes Go.WideShapes Go.ChangeAt Go.RowKit Go.Deep

theorem wf_u8 {k : Int} (h : (Lit.int .u8 k).wf = true) : 0 ≤ k ∧ k ≤ 255 := by
  have e : (Lit.int .u8 k).wf = (decide (IntKind.u8.min ≤ k) && decide (k ≤ IntKind.u8.max)) := rfl
  have e1 : IntKind.u8.min = 0 := by decide
  have e2 : IntKind.u8.max = 255 := by decide
  rw [e, e1, e2] at h
  simpa using h
section
variable {H : Type} {enc : TypeId × Value → H} {P : Program} {W : World}
theorem rdb_of_trod {t e : TypeId} {n : Nat} {v : Value} {y : DataW H × List MemPlace} (ht : P.underlying t = some (.slice e)) (he : P.underlying e = some (.int .u8)) (hc : P.cellsOf e = 1)
    (h : DataW.trod enc P W 0 (fun _ => true) true n t [v] = some y) : ∃ xs, Rd8w W v xs := by
  rcases open_ints ht he hc h with ⟨hcs, _⟩ | ⟨a, len, cap, zs, hcs, _, hl, hm, hz, _, hcell, hwz⟩
  · simp at hcs
    subst hcs
    exact ⟨[], none, 0, rfl, by simp, by simp, by simp, fun h => absurd rfl h⟩
  · simp at hcs
    subst hcs
    have hz' : zs.length = cap := by simpa using hz
    have hlen : (zs.take len).length = len := by simp; omega
    refine ⟨zs.take len, some a, cap, by rw [hlen], by omega, by unfold maxLen at hm; omega, fun i hi => wf_u8 (hwz _ (List.mem_of_mem_take (gI_mem hi))), fun hne => ?_⟩
    have hpos : 0 < len := by
      rcases Nat.eq_zero_or_pos len with h0 | h0
      · exact absurd (List.eq_nil_of_length_eq_zero (hlen.trans h0)) hne
      · exact h0
    obtain ⟨b, off, rfl, hcs⟩ := ints_at hcell (by omega)
    have hb : b < W.heap.size := World.block_lt_of_cell? W ⟨b, off + 0, none⟩ (hcs 0 (by omega))
    refine ⟨b, off, rfl, hb, fun i hi => ?_⟩
    rw [hcs i (by omega)]
    have hi' : i < len := by omega
    simp [gI, List.getD, hi']
theorem rdb_of_Trod {t e : TypeId} {v : Value} {d : DataW H} {p : List MemPlace} {base : Nat} (ht : P.underlying t = some (.slice e)) (he : P.underlying e = some (.int .u8)) (hc : P.cellsOf e = 1)
    (hv : Value.okWide P W .any base t v) (h : DataW.Trod enc P W 0 (fun _ => true) true t v d p) : ∃ xs, Rd8w W v xs := by
  obtain ⟨a, len, cap, rfl⟩ := okWide_slice ht hv
  obtain ⟨n, hn⟩ := h
  exact rdb_of_trod ht he hc hn
end
end Go.Proofs.YtglghdkjppcedaaGreatDoor

/- What the translation's head says, read word by word. -/
namespace Go.Proofs.YtglghdkjppcedaaGreatDoor
open Go.RowKit

def chars (l : List Nat) : List Char := l.map Char.ofNat
theorem ws_word (a : List Nat) (b : List Char) (h : ∀ n ∈ a, Char.ofNat n ≠ Char.ofNat 32) : wordsSigns (chars a ++ Char.ofNat 32 :: b) = chars a :: wordsSigns b := by
  induction a with
  | nil => rfl
  | cons n a ih =>
    have h1 := ih (fun m hm => h m (List.mem_cons_of_mem _ hm))
    have h2 := h n List.mem_cons_self
    show wordsSigns (Char.ofNat n :: (chars a ++ Char.ofNat 32 :: b)) = _
    rw [wordsSigns.eq_def]
    split
    · rename_i e; cases e
    · rename_i e; injection e with e1 e2; exact absurd e1 h2
    · rename_i e1 e2; injection e2 with e3 e4; subst e3 e4
      rw [h1]; rfl
def wordA : List Nat := [104, 97, 114, 110, 101, 115, 115]
def wordB : List Nat := [98, 54, 52, 53, 101, 53, 55, 56, 57, 100, 99, 56, 99, 48, 53, 56, 100, 53, 99, 53, 101, 54, 57, 57, 49, 50, 57, 101, 48, 51, 55, 51, 50, 97, 55, 53, 101, 51, 54, 101, 51, 50, 98, 99, 57, 99, 98, 57, 100, 98, 100, 50, 102, 56, 55, 56, 99, 98, 99, 48, 53, 101, 54, 100]
def wordC : List Nat := [99, 117, 116]
def wordsR : List Nat := [97, 116, 32, 108, 111, 111, 112, 46, 101, 120, 97, 109, 112, 108, 101, 47, 103, 48, 49, 49, 52, 48, 47, 108, 97, 119, 115, 46, 70, 110, 67, 108, 117, 115, 116, 101, 114, 80, 114, 111, 100, 117, 99, 116, 115]
theorem headL : Tryz.prog.initOrder = String.ofList (chars wordA ++ Char.ofNat 32 :: (chars wordB ++ Char.ofNat 32 :: (chars wordC ++ Char.ofNat 32 :: chars wordsR))) := by kernel_rfl
theorem headW : wordsSigns Tryz.prog.initOrder.toList = chars wordA :: chars wordB :: chars wordC :: wordsSigns (chars wordsR) := by
  rw [headL, String.toList_ofList, ws_word _ _ (by decide), ws_word _ _ (by decide), ws_word _ _ (by decide)]
theorem behind (R : List (List Char)) : behindMainWord (chars wordA :: chars wordB :: chars wordC :: R) = "cut".toList :: R := by
  have h : (chars wordA == "harness".toList) = true := by decide +kernel
  have h2 : isSumSigns (chars wordB) = true := by decide +kernel
  have h3 : chars wordC = "cut".toList := by decide +kernel
  unfold behindMainWord
  simp only [h, h2, h3, Bool.true_or, Bool.and_self, if_true]
theorem headB : behindMainWord (wordsSigns Tryz.prog.initOrder.toList) = "cut".toList :: wordsSigns (chars wordsR) := (congrArg behindMainWord headW).trans (behind _)
theorem make_of (P : Program) (R : List (List Char)) (h : behindMainWord (wordsSigns P.initOrder.toList) = "cut".toList :: R) : P.make = some Make.cut := by
  unfold Program.make
  rw [h]
  have e : ("cut".toList == "cut".toList) = true := by decide +kernel
  have e1 : ("cut".toList == "gc".toList) = false := by decide +kernel
  have e2 : ("cut".toList == "spec".toList) = false := by decide +kernel
  simp only [e, e1, e2, Bool.or_self, Bool.true_or, if_true, Bool.false_eq_true, if_false]
theorem hdStrip (R : List (List Char)) : stripLifts liftWords ("cut".toList :: R) = ([], "cut".toList :: R) := by
  generalize hx : "cut".toList = x
  have this : ∀ o ∈ liftWords, (x == o.toList) = false := by subst hx; decide +kernel
  have gen : ∀ l : List String, (∀ o ∈ l, (x == o.toList) = false) → stripLifts l (x :: R) = ([], x :: R) := by
    intro l
    induction l with
    | nil => intro _; rfl
    | cons o l ih =>
      intro h
      unfold stripLifts
      rw [h o List.mem_cons_self]
      exact ih (fun o' h' => h o' (List.mem_cons_of_mem _ h'))
  exact gen _ this
theorem lifts_of (P : Program) (R : List (List Char)) (h : behindMainWord (wordsSigns P.initOrder.toList) = "cut".toList :: R) : P.headLifts = [] := by
  unfold Program.headLifts
  rw [h, hdStrip]
  simp
theorem final_of (P : Program) (R : List (List Char)) (h : behindMainWord (wordsSigns P.initOrder.toList) = "cut".toList :: R) : P.liftsFinal = false := by
  unfold Program.liftsFinal
  rw [lifts_of P R h, h]
  simp
theorem enter_of (P : Program) (R : List (List Char)) (h : behindMainWord (wordsSigns P.initOrder.toList) = "cut".toList :: R) (h1 : P.laysLater = false) (h2 : P.bearsReflect = false) (h3 : P.doorFits [] = true) : P.mayEnter = true := by
  unfold Program.mayEnter
  rw [h]
  simp only [hdStrip]
  simp [h1, h2, h3]
theorem mayEnter_eq : Tryz.prog.mayEnter = true := enter_of _ _ headB (by kernel_rfl) (by kernel_rfl) (by kernel_rfl)
theorem liftsFinal_eq : Tryz.prog.liftsFinal = false := final_of _ _ headB
theorem make_eq : Tryz.prog.make = some Make.cut := make_of _ _ headB
end Go.Proofs.YtglghdkjppcedaaGreatDoor
