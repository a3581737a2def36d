/- ScriptParsesaCard -/
import Derived.Test.YtbcigelgggimmaaGreatDoorTie
import Derived.Test.YtbcigelgggimmaaGreatDoorCards
import Derived.SevenTiedAt
import Derived.ProofKit
import Derived.LaidMore
import Derived.OpenShut
import Derived.Stop.Joined
namespace Go.Proofs.YtbcigelgggimmaaGreatDoor.scriptParses
open Go.ChangeShapes Go.WideShapes Go.ChangeAt Go.RowKit
set_option linter.unusedVariables false
theorem own : ownKnob Tryz.prog.godebug = none := by kernel_rfl
theorem laidOut : laidOutB Tryz.prog = true := by kernel_rfl
theorem q3 : mapsRowed Tryz.prog = true := by kernel_rfl
theorem q10 : (Rows.scriptParsesRow.inPlace == Tryz.prog.inPlace 4) = true := by kernel_rfl
theorem q11 : (Rows.scriptParsesRow.unfollowed == Tryz.prog.unfollowed 4) = true := by kernel_rfl
theorem q12 : (Rows.scriptParsesRow.recurses == Tryz.prog.recurses 4) = true := by kernel_rfl
theorem q13 : (Rows.scriptParsesRow.named == Tryz.prog.varsNamed 4) = true := by kernel_rfl
theorem joined : joinedFacts Tryz.prog 4 Tryz.f4 Rows.scriptParsesSpec Rows.scriptParsesRow = true := by
  unfold joinedFacts
  rw [laidOut, q3, q10, q11, q12, q13]
  kernel_rfl
end Go.Proofs.YtbcigelgggimmaaGreatDoor.scriptParses
