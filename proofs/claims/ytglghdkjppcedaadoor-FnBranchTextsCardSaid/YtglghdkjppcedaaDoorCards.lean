/-
  DERIVED. GIVEN WITH THE SEED: THE CARDS: each row of YtglghdkjppcedaaDoorRows.lean that lists a variable, with what it lists TIED to the program's text (the seventh form; the later family's looks); each row that meets fmt, with fmt's text TOLD by the authors' own Lean function (tested against real Go, not proved from fmt's source: count such statements apart). THE CARD IS WHAT COUNTS. Prove the row's statement (the work); the ties are given (YtglghdkjppcedaaDoorTie.lean); close each card by the builder's one call (the guide's Derived/Test/ToyasCard.lean, 'card_holds'). Laid BY PROGRAM, IN A SANDBOX (cutbox-door.mjs). By AI agents, Wed Nov 11 2026. No macro, syntax, notation, axiom, sorry.
-/
import Derived.Test.YtglghdkjppcedaaDoorRows
import GoSem.ClaimSeven
namespace Go.Proofs.YtglghdkjppcedaaDoor
namespace Rows

/-- THE TIED CARD OF 'laws.FnBranchTexts'. -/
def fnBranchTextsCard : Claim7 := { stood := { row := fnBranchTextsRow, standIns := [], harness := (true, "42503a6e7505ff3f22d22aa9d646a87d16ac13c63aa1c46ae5ae0979f30d0914"), looks := false }, kinds := [], alts := [], laidByText := true, laidKinds := [.data, .data, .data], laidTests := true, laidLooks := .later }
def FnBranchTextsCardSaid : Prop := Claim7.holds Tryd.pinned (.plain (OpenSpec.ofChange fnBranchTextsSpec)) fnBranchTextsCard

/-- THE SECOND FORM's CARD OF 'laws.FnBranchTexts'. -/
def fnBranchTextsUptoCard : Claim7 := { stood := { row := fnBranchTextsUptoRow, standIns := [], harness := (true, "42503a6e7505ff3f22d22aa9d646a87d16ac13c63aa1c46ae5ae0979f30d0914"), looks := false }, kinds := [], alts := [], laidByText := true, laidKinds := [.data, .data, .data], laidTests := true, laidLooks := .later }
def FnBranchTextsUptoCardSaid : Prop := Claim7.holds Tryd.pinned (.plain (OpenSpec.upto fnBranchTextsSpec)) fnBranchTextsUptoCard
end Rows
end Go.Proofs.YtglghdkjppcedaaDoor
