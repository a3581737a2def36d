/- KnLbF -/
import Derived.Test.YtcpophfchchpkaaGreatDoorMs15
namespace Go.Proofs.YtcpophfchchpkaaGreatDoor
open Go Go.RowKit Go.Sy
set_option maxRecDepth 100000 in
set_option maxHeartbeats 0 in
theorem dif_F (t0 t1 : TypeId) : runB Tryz.prog orcL 100000 53 [.sl0, cfg1 100 0, cfg1 48 0] (rI (.negSucc 0)) 64 (glB t0 t1) = (rI (.negSucc 0) = rI (.negSucc 0) ∧ (t0 = t0) ∧ (t1 = t1) ∧ True) := by kernel_rfl
end Go.Proofs.YtcpophfchchpkaaGreatDoor
