/- KnLbG -/
import Derived.Test.YtcpophfchchpkaaGreatDoorMs15
namespace Go.Proofs.YtcpophfchchpkaaGreatDoor
open Go Go.RowKit Go.Sy
def chkR : AV := .tup [.agg [.i .i64 (.negSucc 0), .i .i64 (.ofNat 0)], .i .i64 (.ofNat 0)]
set_option maxRecDepth 100000 in
set_option maxHeartbeats 0 in
theorem lab_check (t0 t1 tl tb : TypeId) : runB Tryz.prog orcL 100000 18 [.p 64 0, .s [103], cfg1 100 0] chkR 67 (glB t0 t1 ++ labB tl tb) = (chkR = chkR ∧ (t0 = t0) ∧ (t1 = t1) ∧ (tl = tl) ∧ True ∧ (tb = tb) ∧ True) := by kernel_rfl
end Go.Proofs.YtcpophfchchpkaaGreatDoor
