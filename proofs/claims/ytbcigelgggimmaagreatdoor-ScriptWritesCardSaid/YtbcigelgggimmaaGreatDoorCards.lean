/-
  DERIVED. GIVEN WITH THE SEED: THE CARDS: each row of YtbcigelgggimmaaGreatDoorRows.lean that lists a variable, with what it lists TIED to the program's text (the seventh form; the later family's looks); each row that meets fmt, with fmt's text TOLD by the authors' own Lean function (tested against real Go, not proved from fmt's source: count such statements apart). THE CARD IS WHAT COUNTS. Prove the row's statement (the work); the ties are given (YtbcigelgggimmaaGreatDoorTie.lean); close each card by the builder's one call (the guide's Derived/Test/ToyasCard.lean, 'card_holds'). Laid BY PROGRAM, IN A SANDBOX (cutbox-door.mjs). By AI agents, Wed Nov 11 2026. No macro, syntax, notation, axiom, sorry.
-/
import Derived.Test.YtbcigelgggimmaaGreatDoorRows
import GoSem.ClaimSeven
namespace Go.Proofs.YtbcigelgggimmaaGreatDoor
namespace Rows

/-- THE TIED CARD OF 'cubbyholelaw26.ScriptNone'. -/
def scriptNoneCard : Claim7 := { stood := { row := scriptNoneRow, standIns := [], harness := (true, "aad5addaa02ba74956572e283cb09cd5adb4e26db99b6ded84a08380889faf6e"), looks := false }, kinds := [], alts := [], laidByText := true, laidKinds := [.data, .widerDeep], laidTests := true, laidLooks := .later }
def ScriptNoneCardSaid : Prop := Claim7.holds Tryz.pinned (.plain (OpenSpec.ofChange scriptNoneSpec)) scriptNoneCard

/-- THE TIED CARD OF 'cubbyholelaw26.ScriptParses'. -/
def scriptParsesCard : Claim7 := { stood := { row := scriptParsesRow, standIns := [], harness := (true, "aad5addaa02ba74956572e283cb09cd5adb4e26db99b6ded84a08380889faf6e"), looks := false }, kinds := [], alts := [], laidByText := true, laidKinds := [.data, .widerDeep], laidTests := true, laidLooks := .later }
def ScriptParsesCardSaid : Prop := Claim7.holds Tryz.pinned (.plain (OpenSpec.ofChange scriptParsesSpec)) scriptParsesCard

/-- THE TIED CARD OF 'cubbyholelaw26.ScriptWrites'. -/
def scriptWritesCard : Claim7 := { stood := { row := scriptWritesRow, standIns := [], harness := (true, "aad5addaa02ba74956572e283cb09cd5adb4e26db99b6ded84a08380889faf6e"), looks := false }, kinds := [], alts := [], laidByText := true, laidKinds := [.data, .widerDeep], laidTests := true, laidLooks := .later }
def ScriptWritesCardSaid : Prop := Claim7.holds Tryz.pinned (.plain (OpenSpec.ofChange scriptWritesSpec)) scriptWritesCard

/-- THE TIED CARD OF 'cubbyholelaw26.ScriptEquals'. -/
def scriptEqualsCard : Claim7 := { stood := { row := scriptEqualsRow, standIns := [], harness := (true, "aad5addaa02ba74956572e283cb09cd5adb4e26db99b6ded84a08380889faf6e"), looks := false }, kinds := [], alts := [], laidByText := true, laidKinds := [.data, .widerDeep], laidTests := true, laidLooks := .later }
def ScriptEqualsCardSaid : Prop := Claim7.holds Tryz.pinned (.plain (OpenSpec.ofChange scriptEqualsSpec)) scriptEqualsCard

/-- THE SECOND FORM's CARD OF 'cubbyholelaw26.ScriptNone'. -/
def scriptNoneUptoCard : Claim7 := { stood := { row := scriptNoneUptoRow, standIns := [], harness := (true, "aad5addaa02ba74956572e283cb09cd5adb4e26db99b6ded84a08380889faf6e"), looks := false }, kinds := [], alts := [], laidByText := true, laidKinds := [.data, .widerDeep], laidTests := true, laidLooks := .later }
def ScriptNoneUptoCardSaid : Prop := Claim7.holds Tryz.pinned (.plain (OpenSpec.upto scriptNoneSpec)) scriptNoneUptoCard

/-- THE SECOND FORM's CARD OF 'cubbyholelaw26.ScriptParses'. -/
def scriptParsesUptoCard : Claim7 := { stood := { row := scriptParsesUptoRow, standIns := [], harness := (true, "aad5addaa02ba74956572e283cb09cd5adb4e26db99b6ded84a08380889faf6e"), looks := false }, kinds := [], alts := [], laidByText := true, laidKinds := [.data, .widerDeep], laidTests := true, laidLooks := .later }
def ScriptParsesUptoCardSaid : Prop := Claim7.holds Tryz.pinned (.plain (OpenSpec.upto scriptParsesSpec)) scriptParsesUptoCard

/-- THE SECOND FORM's CARD OF 'cubbyholelaw26.ScriptWrites'. -/
def scriptWritesUptoCard : Claim7 := { stood := { row := scriptWritesUptoRow, standIns := [], harness := (true, "aad5addaa02ba74956572e283cb09cd5adb4e26db99b6ded84a08380889faf6e"), looks := false }, kinds := [], alts := [], laidByText := true, laidKinds := [.data, .widerDeep], laidTests := true, laidLooks := .later }
def ScriptWritesUptoCardSaid : Prop := Claim7.holds Tryz.pinned (.plain (OpenSpec.upto scriptWritesSpec)) scriptWritesUptoCard

/-- THE SECOND FORM's CARD OF 'cubbyholelaw26.ScriptEquals'. -/
def scriptEqualsUptoCard : Claim7 := { stood := { row := scriptEqualsUptoRow, standIns := [], harness := (true, "aad5addaa02ba74956572e283cb09cd5adb4e26db99b6ded84a08380889faf6e"), looks := false }, kinds := [], alts := [], laidByText := true, laidKinds := [.data, .widerDeep], laidTests := true, laidLooks := .later }
def ScriptEqualsUptoCardSaid : Prop := Claim7.holds Tryz.pinned (.plain (OpenSpec.upto scriptEqualsSpec)) scriptEqualsUptoCard
end Rows
end Go.Proofs.YtbcigelgggimmaaGreatDoor
