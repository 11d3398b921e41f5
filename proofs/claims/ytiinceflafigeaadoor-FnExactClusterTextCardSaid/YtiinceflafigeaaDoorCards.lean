/-
  DERIVED. GIVEN WITH THE SEED: THE CARDS: each row of YtiinceflafigeaaDoorRows.lean that lists a variable, with what it lists TIED to the program's text (the seventh form; the later family's looks); each row that meets fmt, with fmt's text TOLD by the authors' own Lean function (tested against real Go, not proved from fmt's source: count such statements apart). THE CARD IS WHAT COUNTS. Prove the row's statement (the work); the ties are given (YtiinceflafigeaaDoorTie.lean); close each card by the builder's one call (the guide's Derived/Test/ToyasCard.lean, 'card_holds'). Laid BY PROGRAM, IN A SANDBOX (cutbox-door.mjs). By AI agents, Wed Nov 11 2026. No macro, syntax, notation, axiom, sorry.
-/
import Derived.Test.YtiinceflafigeaaDoorRows
import GoSem.ClaimSeven
namespace Go.Proofs.YtiinceflafigeaaDoor
namespace Rows

/-- THE TIED CARD OF 'laws.FnBranchTexts'. -/
def fnBranchTextsCard : Claim7 := { stood := { row := fnBranchTextsRow, standIns := [], harness := (true, "22ca1e7a322b51e8c26347233d4abdc5b20660350dc0c064ca5587e98b94045e"), looks := false }, kinds := [], alts := [], laidByText := true, laidKinds := [.data, .data, .data], laidTests := true, laidLooks := .later }
def FnBranchTextsCardSaid : Prop := Claim7.holds Tryd.pinned (.plain (OpenSpec.ofChange fnBranchTextsSpec)) fnBranchTextsCard

/-- THE TIED CARD OF 'laws.FnExactClusterText'. -/
def fnExactClusterTextCard : Claim7 := { stood := { row := fnExactClusterTextRow, standIns := [], harness := (true, "22ca1e7a322b51e8c26347233d4abdc5b20660350dc0c064ca5587e98b94045e"), looks := false }, kinds := [], alts := [], laidByText := true, laidKinds := [.data, .data, .data], laidTests := true, laidLooks := .later }
def FnExactClusterTextCardSaid : Prop := Claim7.holds Tryd.pinned (.plain (OpenSpec.ofChange fnExactClusterTextSpec)) fnExactClusterTextCard

/-- THE SECOND FORM's CARD OF 'laws.FnBranchTexts'. -/
def fnBranchTextsUptoCard : Claim7 := { stood := { row := fnBranchTextsUptoRow, standIns := [], harness := (true, "22ca1e7a322b51e8c26347233d4abdc5b20660350dc0c064ca5587e98b94045e"), looks := false }, kinds := [], alts := [], laidByText := true, laidKinds := [.data, .data, .data], laidTests := true, laidLooks := .later }
def FnBranchTextsUptoCardSaid : Prop := Claim7.holds Tryd.pinned (.plain (OpenSpec.upto fnBranchTextsSpec)) fnBranchTextsUptoCard

/-- THE SECOND FORM's CARD OF 'laws.FnExactClusterText'. -/
def fnExactClusterTextUptoCard : Claim7 := { stood := { row := fnExactClusterTextUptoRow, standIns := [], harness := (true, "22ca1e7a322b51e8c26347233d4abdc5b20660350dc0c064ca5587e98b94045e"), looks := false }, kinds := [], alts := [], laidByText := true, laidKinds := [.data, .data, .data], laidTests := true, laidLooks := .later }
def FnExactClusterTextUptoCardSaid : Prop := Claim7.holds Tryd.pinned (.plain (OpenSpec.upto fnExactClusterTextSpec)) fnExactClusterTextUptoCard
end Rows
end Go.Proofs.YtiinceflafigeaaDoor
