/- KnLbD -/
import Derived.Test.YtcpophfchchpkaaGreatDoorMs15
namespace Go.Proofs.YtcpophfchchpkaaGreatDoor
open Go Go.RowKit Go.Sy
set_option maxRecDepth 100000 in
set_option maxHeartbeats 0 in
theorem dif_D (t0 t1 t : TypeId) : runB Tryz.prog orcL 100000 53 [.sl 64 0 1 (.u 0), cfg1 100 0, cfg1 48 0] (rI (.negSucc 0)) 65 (glB t0 t1 ++ [(64, .row t opGet false false)]) = (rI (.negSucc 0) = rI (.negSucc 0) ∧ (t0 = t0) ∧ (t1 = t1) ∧ (t = t) ∧ True) := by kernel_rfl
end Go.Proofs.YtcpophfchchpkaaGreatDoor
