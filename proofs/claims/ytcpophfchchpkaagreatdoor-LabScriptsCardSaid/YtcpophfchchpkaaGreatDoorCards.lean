/-
  DERIVED. GIVEN WITH THE SEED: THE CARDS: each row of YtcpophfchchpkaaGreatDoorRows.lean that lists a variable, with what it lists TIED to the program's text (the seventh form; the later family's looks); each row that meets fmt, with fmt's text TOLD by the authors' own Lean function (tested against real Go, not proved from fmt's source: count such statements apart). THE CARD IS WHAT COUNTS. Prove the row's statement (the work); the ties are given (YtcpophfchchpkaaGreatDoorTie.lean); close each card by the builder's one call (the guide's Derived/Test/ToyasCard.lean, 'card_holds'). Laid BY PROGRAM, IN A SANDBOX (cutbox-door.mjs). By AI agents, Wed Nov 11 2026. No macro, syntax, notation, axiom, sorry.
-/
import Derived.Test.YtcpophfchchpkaaGreatDoorRows
import GoSem.ClaimSeven
namespace Go.Proofs.YtcpophfchchpkaaGreatDoor
namespace Rows

/-- THE TIED CARD OF 'cubbyholelaw51.LabFulls'. -/
def labFullsCard : Claim7 := { stood := { row := labFullsRow, standIns := [], harness := (true, "8a2bd8329baeaf9891833a6db47ae631cb630d8cc5a1c2c17b168227981e6101"), looks := true }, kinds := [], alts := [], laidByText := true, laidKinds := [.data, .widerDeep], laidTests := true, laidLooks := .later }
def LabFullsCardSaid : Prop := Claim7.holds Tryz.pinned (.plain (OpenSpec.ofChange labFullsSpec)) labFullsCard

/-- THE TIED CARD OF 'cubbyholelaw51.LabScripts'. -/
def labScriptsCard : Claim7 := { stood := { row := labScriptsRow, standIns := [], harness := (true, "8a2bd8329baeaf9891833a6db47ae631cb630d8cc5a1c2c17b168227981e6101"), looks := true }, kinds := [], alts := [], laidByText := true, laidKinds := [.data, .widerDeep], laidTests := true, laidLooks := .later }
def LabScriptsCardSaid : Prop := Claim7.holds Tryz.pinned (.plain (OpenSpec.ofChange labScriptsSpec)) labScriptsCard

/-- THE SECOND FORM's CARD OF 'cubbyholelaw51.LabFulls'. -/
def labFullsUptoCard : Claim7 := { stood := { row := labFullsUptoRow, standIns := [], harness := (true, "8a2bd8329baeaf9891833a6db47ae631cb630d8cc5a1c2c17b168227981e6101"), looks := true }, kinds := [], alts := [], laidByText := true, laidKinds := [.data, .widerDeep], laidTests := true, laidLooks := .later }
def LabFullsUptoCardSaid : Prop := Claim7.holds Tryz.pinned (.plain (OpenSpec.upto labFullsSpec)) labFullsUptoCard

/-- THE SECOND FORM's CARD OF 'cubbyholelaw51.LabScripts'. -/
def labScriptsUptoCard : Claim7 := { stood := { row := labScriptsUptoRow, standIns := [], harness := (true, "8a2bd8329baeaf9891833a6db47ae631cb630d8cc5a1c2c17b168227981e6101"), looks := true }, kinds := [], alts := [], laidByText := true, laidKinds := [.data, .widerDeep], laidTests := true, laidLooks := .later }
def LabScriptsUptoCardSaid : Prop := Claim7.holds Tryz.pinned (.plain (OpenSpec.upto labScriptsSpec)) labScriptsUptoCard
end Rows
end Go.Proofs.YtcpophfchchpkaaGreatDoor
