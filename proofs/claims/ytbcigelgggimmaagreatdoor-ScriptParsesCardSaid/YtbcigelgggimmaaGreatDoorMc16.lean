/- ScriptParsesbCard -/
import Derived.Test.YtbcigelgggimmaaGreatDoorTie
import Derived.Test.YtbcigelgggimmaaGreatDoorCards
import Derived.SevenTiedAt
import Derived.ProofKit
import Derived.LaidMore
import Derived.OpenShut
import Derived.Stop.Joined
namespace Go.Proofs.YtbcigelgggimmaaGreatDoor.scriptParses
open Go.ChangeShapes Go.WideShapes Go.ChangeAt Go.RowKit
set_option linter.unusedVariables false
theorem w1 : Rows.scriptParsesRow.wfByText (OpenSpec.ofChange Rows.scriptParsesSpec) = true := by kernel_rfl
theorem w2 : Tryz.pinned.checked.prog.mainIs = some (Rows.scriptParsesCard.stood.harness.1, Rows.scriptParsesCard.stood.harness.2.toList) := by kernel_rfl
theorem w3 : Tryz.prog.funcNamed "cubbyhole/cubbyholelaw26.ScriptParses" = some 4 := by kernel_rfl
theorem w4 : false = Tryz.prog.looks [] := by kernel_rfl
theorem w5 : false = Rows.scriptParsesRow.goesBy Tryz.prog := by kernel_rfl
theorem w6 : ([39, 3].all fun u => !Tryz.prog.wantsStandIn u) = true := by kernel_rfl
end Go.Proofs.YtbcigelgggimmaaGreatDoor.scriptParses
