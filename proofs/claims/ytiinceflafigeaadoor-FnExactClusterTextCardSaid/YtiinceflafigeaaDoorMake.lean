/- What the translation's head says, read word by word. -/
import Derived.Test.YtiinceflafigeaaDoorRows
import Derived.WalkKit
import Derived.JoinedTies
namespace Go.Proofs.YtiinceflafigeaaDoor
open Go.RowKit

def chars (l : List Nat) : List Char := l.map Char.ofNat
theorem ws_word (a : List Nat) (b : List Char) (h : ∀ n ∈ a, Char.ofNat n ≠ Char.ofNat 32) : wordsSigns (chars a ++ Char.ofNat 32 :: b) = chars a :: wordsSigns b := by
  induction a with
  | nil => rfl
  | cons n a ih =>
    have h1 := ih (fun m hm => h m (List.mem_cons_of_mem _ hm))
    have h2 := h n List.mem_cons_self
    show wordsSigns (Char.ofNat n :: (chars a ++ Char.ofNat 32 :: b)) = _
    rw [wordsSigns.eq_def]
    split
    · rename_i e; cases e
    · rename_i e; injection e with e1 e2; exact absurd e1 h2
    · rename_i e1 e2; injection e2 with e3 e4; subst e3 e4
      rw [h1]; rfl
def wordA : List Nat := [104, 97, 114, 110, 101, 115, 115]
def wordB : List Nat := [50, 50, 99, 97, 49, 101, 55, 97, 51, 50, 50, 98, 53, 49, 101, 56, 99, 50, 54, 51, 52, 55, 50, 51, 51, 100, 52, 97, 98, 100, 99, 53, 98, 50, 48, 54, 54, 48, 51, 53, 48, 100, 99, 48, 99, 48, 54, 52, 99, 97, 53, 53, 56, 55, 101, 57, 56, 98, 57, 52, 48, 52, 53, 101]
def wordC : List Nat := [99, 117, 116]
def wordsR : List Nat := [97, 116, 32, 108, 111, 111, 112, 46, 101, 120, 97, 109, 112, 108, 101, 47, 103, 48, 49, 49, 52, 48, 47, 108, 97, 119, 115, 46, 70, 110, 66, 114, 97, 110, 99, 104, 84, 101, 120, 116, 115, 32, 108, 111, 111, 112, 46, 101, 120, 97, 109, 112, 108, 101, 47, 103, 48, 49, 49, 52, 48, 47, 108, 97, 119, 115, 46, 70, 110, 69, 120, 97, 99, 116, 67, 108, 117, 115, 116, 101, 114, 84, 101, 120, 116]
theorem headL : Tryd.prog.initOrder = String.ofList (chars wordA ++ Char.ofNat 32 :: (chars wordB ++ Char.ofNat 32 :: (chars wordC ++ Char.ofNat 32 :: chars wordsR))) := by kernel_rfl
theorem headW : wordsSigns Tryd.prog.initOrder.toList = chars wordA :: chars wordB :: chars wordC :: wordsSigns (chars wordsR) := by
  rw [headL, String.toList_ofList, ws_word _ _ (by decide), ws_word _ _ (by decide), ws_word _ _ (by decide)]
theorem behind (R : List (List Char)) : behindMainWord (chars wordA :: chars wordB :: chars wordC :: R) = "cut".toList :: R := by
  have h : (chars wordA == "harness".toList) = true := by decide +kernel
  have h2 : isSumSigns (chars wordB) = true := by decide +kernel
  have h3 : chars wordC = "cut".toList := by decide +kernel
  unfold behindMainWord
  simp only [h, h2, h3, Bool.true_or, Bool.and_self, if_true]
theorem headB : behindMainWord (wordsSigns Tryd.prog.initOrder.toList) = "cut".toList :: wordsSigns (chars wordsR) := (congrArg behindMainWord headW).trans (behind _)
theorem make_of (P : Program) (R : List (List Char)) (h : behindMainWord (wordsSigns P.initOrder.toList) = "cut".toList :: R) : P.make = some Make.cut := by
  unfold Program.make
  rw [h]
  have e : ("cut".toList == "cut".toList) = true := by decide +kernel
  have e1 : ("cut".toList == "gc".toList) = false := by decide +kernel
  have e2 : ("cut".toList == "spec".toList) = false := by decide +kernel
  simp only [e, e1, e2, Bool.or_self, Bool.true_or, if_true, Bool.false_eq_true, if_false]
theorem hdStrip (R : List (List Char)) : stripLifts liftWords ("cut".toList :: R) = ([], "cut".toList :: R) := by
  generalize hx : "cut".toList = x
  have this : ∀ o ∈ liftWords, (x == o.toList) = false := by subst hx; decide +kernel
  have gen : ∀ l : List String, (∀ o ∈ l, (x == o.toList) = false) → stripLifts l (x :: R) = ([], x :: R) := by
    intro l
    induction l with
    | nil => intro _; rfl
    | cons o l ih =>
      intro h
      unfold stripLifts
      rw [h o List.mem_cons_self]
      exact ih (fun o' h' => h o' (List.mem_cons_of_mem _ h'))
  exact gen _ this
theorem lifts_of (P : Program) (R : List (List Char)) (h : behindMainWord (wordsSigns P.initOrder.toList) = "cut".toList :: R) : P.headLifts = [] := by
  unfold Program.headLifts
  rw [h, hdStrip]
  simp
theorem final_of (P : Program) (R : List (List Char)) (h : behindMainWord (wordsSigns P.initOrder.toList) = "cut".toList :: R) : P.liftsFinal = false := by
  unfold Program.liftsFinal
  rw [lifts_of P R h, h]
  simp
theorem enter_of (P : Program) (R : List (List Char)) (h : behindMainWord (wordsSigns P.initOrder.toList) = "cut".toList :: R) (h1 : P.laysLater = false) (h2 : P.bearsReflect = false) (h3 : P.doorFits [] = true) : P.mayEnter = true := by
  unfold Program.mayEnter
  rw [h]
  simp only [hdStrip]
  simp [h1, h2, h3]
theorem mayEnter_eq : Tryd.prog.mayEnter = true := enter_of _ _ headB (by kernel_rfl) (by kernel_rfl) (by kernel_rfl)
theorem liftsFinal_eq : Tryd.prog.liftsFinal = false := final_of _ _ headB
theorem make_eq : Tryd.prog.make = some Make.cut := make_of _ _ headB
end Go.Proofs.YtiinceflafigeaaDoor
