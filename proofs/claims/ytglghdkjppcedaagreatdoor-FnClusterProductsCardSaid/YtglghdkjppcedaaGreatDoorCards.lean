/-
  DERIVED. GIVEN WITH THE SEED: THE CARDS: each row of YtglghdkjppcedaaGreatDoorRows.lean that lists a variable, with what it lists TIED to the program's text (the seventh form; the later family's looks); each row that meets fmt, with fmt's text TOLD by the authors' own Lean function (tested against real Go, not proved from fmt's source: count such statements apart). THE CARD IS WHAT COUNTS. Prove the row's statement (the work); the ties are given (YtglghdkjppcedaaGreatDoorTie.lean); close each card by the builder's one call (the guide's Derived/Test/ToyasCard.lean, 'card_holds'). Laid BY PROGRAM, IN A SANDBOX (cutbox-door.mjs). By AI agents, Wed Nov 11 2026. No macro, syntax, notation, axiom, sorry.
-/
import Derived.Test.YtglghdkjppcedaaGreatDoorRows
import GoSem.ClaimSeven
namespace Go.Proofs.YtglghdkjppcedaaGreatDoor
namespace Rows

/-- THE TIED CARD OF 'laws.FnClusterProducts'. -/
def fnClusterProductsCard : Claim7 := { stood := { row := fnClusterProductsRow, standIns := [], harness := (true, "b645e5789dc8c058d5c5e699129e03732a75e36e32bc9cb9dbd2f878cbc05e6d"), looks := false }, kinds := [], alts := [], laidByText := true, laidKinds := [.data, .data, .data], laidTests := true, laidLooks := .later }
def FnClusterProductsCardSaid : Prop := Claim7.holds Tryz.pinned (.plain (OpenSpec.ofChange fnClusterProductsSpec)) fnClusterProductsCard

/-- THE SECOND FORM's CARD OF 'laws.FnClusterProducts'. -/
def fnClusterProductsUptoCard : Claim7 := { stood := { row := fnClusterProductsUptoRow, standIns := [], harness := (true, "b645e5789dc8c058d5c5e699129e03732a75e36e32bc9cb9dbd2f878cbc05e6d"), looks := false }, kinds := [], alts := [], laidByText := true, laidKinds := [.data, .data, .data], laidTests := true, laidLooks := .later }
def FnClusterProductsUptoCardSaid : Prop := Claim7.holds Tryz.pinned (.plain (OpenSpec.upto fnClusterProductsSpec)) fnClusterProductsUptoCard
end Rows
end Go.Proofs.YtglghdkjppcedaaGreatDoor
