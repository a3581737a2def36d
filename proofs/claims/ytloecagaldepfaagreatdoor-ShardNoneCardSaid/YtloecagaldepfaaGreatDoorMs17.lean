/- KnShB -/
import Derived.Test.YtloecagaldepfaaGreatDoorMs15
namespace Go.Proofs.YtloecagaldepfaaGreatDoor
open Go Go.RowKit Go.Sy
set_option maxRecDepth 100000 in
set_option maxHeartbeats 0 in
theorem known43_eval (t0 t1 t2 : TypeId) : runP Tryz.prog orcS 100000 15 [] (.b true) (gs43 t0 t1 t2) 0 = (AV.b true = AV.b true ∧ (t0 = t0) ∧ (t1 = t1) ∧ (t2 = t2) ∧ True) := by kernel_rfl
end Go.Proofs.YtloecagaldepfaaGreatDoor
