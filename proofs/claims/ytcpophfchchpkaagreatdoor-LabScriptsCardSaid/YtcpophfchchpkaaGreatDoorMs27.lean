/- LabScriptsaCard -/
import Derived.Test.YtcpophfchchpkaaGreatDoorTie
import Derived.Test.YtcpophfchchpkaaGreatDoorCards
import Derived.SevenTiedAt
import Derived.ProofKit
import Derived.LaidMore
import Derived.OpenShut
import Derived.Stop.Joined
namespace Go.Proofs.YtcpophfchchpkaaGreatDoor.labScripts
open Go.ChangeShapes Go.WideShapes Go.ChangeAt Go.RowKit
set_option linter.unusedVariables false
theorem own : ownKnob Tryz.prog.godebug = none := by kernel_rfl
theorem laidOut : laidOutB Tryz.prog = true := by kernel_rfl
theorem q3 : mapsRowed Tryz.prog = true := by kernel_rfl
theorem q10 : (Rows.labScriptsRow.inPlace == Tryz.prog.inPlace 4) = true := by kernel_rfl
theorem q11 : (Rows.labScriptsRow.unfollowed == Tryz.prog.unfollowed 4) = true := by kernel_rfl
theorem q12 : (Rows.labScriptsRow.recurses == Tryz.prog.recurses 4) = true := by kernel_rfl
theorem q13 : (Rows.labScriptsRow.named == Tryz.prog.varsNamed 4) = true := by kernel_rfl
theorem joined : joinedFacts Tryz.prog 4 Tryz.f4 Rows.labScriptsSpec Rows.labScriptsRow = true := by
  unfold joinedFacts
  rw [laidOut, q3, q10, q11, q12, q13]
  kernel_rfl
end Go.Proofs.YtcpophfchchpkaaGreatDoor.labScripts
