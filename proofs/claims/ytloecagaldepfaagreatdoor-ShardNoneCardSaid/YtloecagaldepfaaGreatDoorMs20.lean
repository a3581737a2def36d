/- ShardNoneaCard -/
import Derived.Test.YtloecagaldepfaaGreatDoorTie
import Derived.Test.YtloecagaldepfaaGreatDoorCards
import Derived.SevenTiedAt
import Derived.ProofKit
import Derived.LaidMore
import Derived.OpenShut
import Derived.Stop.Joined
namespace Go.Proofs.YtloecagaldepfaaGreatDoor.shardNone
open Go.ChangeShapes Go.WideShapes Go.ChangeAt Go.RowKit
set_option linter.unusedVariables false
theorem own : ownKnob Tryz.prog.godebug = none := by kernel_rfl
theorem laidOut : laidOutB Tryz.prog = true := by kernel_rfl
theorem q3 : mapsRowed Tryz.prog = true := by kernel_rfl
theorem q10 : (Rows.shardNoneRow.inPlace == Tryz.prog.inPlace 5) = true := by kernel_rfl
theorem q11 : (Rows.shardNoneRow.unfollowed == Tryz.prog.unfollowed 5) = true := by kernel_rfl
theorem q12 : (Rows.shardNoneRow.recurses == Tryz.prog.recurses 5) = true := by kernel_rfl
theorem q13 : (Rows.shardNoneRow.named == Tryz.prog.varsNamed 5) = true := by kernel_rfl
theorem joined : joinedFacts Tryz.prog 5 Tryz.f5 Rows.shardNoneSpec Rows.shardNoneRow = true := by
  unfold joinedFacts
  rw [laidOut, q3, q10, q11, q12, q13]
  kernel_rfl
end Go.Proofs.YtloecagaldepfaaGreatDoor.shardNone
