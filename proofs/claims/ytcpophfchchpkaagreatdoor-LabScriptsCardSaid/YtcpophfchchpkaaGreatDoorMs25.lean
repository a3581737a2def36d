/- KnLbK -/
import Derived.Test.YtcpophfchchpkaaGreatDoorMs24
namespace Go.Proofs.YtcpophfchchpkaaGreatDoor
open Go Go.RowKit Go.Sy
set_option maxRecDepth 100000 in
set_option maxHeartbeats 0 in
theorem known51_eval (t0 t1 : TypeId) : runP Tryz.prog orcB 100000 5 [] (.b true) (gs51 t0 t1) 0 = (AV.b true = AV.b true ∧ (t0 = t0) ∧ (t1 = t1) ∧ True) := by kernel_rfl
end Go.Proofs.YtcpophfchchpkaaGreatDoor
