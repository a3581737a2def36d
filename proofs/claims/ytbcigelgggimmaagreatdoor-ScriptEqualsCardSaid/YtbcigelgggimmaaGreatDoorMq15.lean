/- ScriptEqualsaCard -/
import Derived.Test.YtbcigelgggimmaaGreatDoorTie
import Derived.Test.YtbcigelgggimmaaGreatDoorCards
import Derived.SevenTiedAt
import Derived.ProofKit
import Derived.LaidMore
import Derived.OpenShut
import Derived.Stop.Joined
namespace Go.Proofs.YtbcigelgggimmaaGreatDoor.scriptEquals
open Go.ChangeShapes Go.WideShapes Go.ChangeAt Go.RowKit
set_option linter.unusedVariables false
theorem own : ownKnob Tryz.prog.godebug = none := by kernel_rfl
theorem laidOut : laidOutB Tryz.prog = true := by kernel_rfl
theorem q3 : mapsRowed Tryz.prog = true := by kernel_rfl
theorem q10 : (Rows.scriptEqualsRow.inPlace == Tryz.prog.inPlace 6) = true := by kernel_rfl
theorem q11 : (Rows.scriptEqualsRow.unfollowed == Tryz.prog.unfollowed 6) = true := by kernel_rfl
theorem q12 : (Rows.scriptEqualsRow.recurses == Tryz.prog.recurses 6) = true := by kernel_rfl
theorem q13 : (Rows.scriptEqualsRow.named == Tryz.prog.varsNamed 6) = true := by kernel_rfl
theorem joined : joinedFacts Tryz.prog 6 Tryz.f6 Rows.scriptEqualsSpec Rows.scriptEqualsRow = true := by
  unfold joinedFacts
  rw [laidOut, q3, q10, q11, q12, q13]
  kernel_rfl
end Go.Proofs.YtbcigelgggimmaaGreatDoor.scriptEquals
