/- Kn26 -/
import Derived.Test.YtbcigelgggimmaaGreatDoorMw6
import Derived.Test.YtbcigelgggimmaaGreatDoorMw11
namespace Go.Proofs.YtbcigelgggimmaaGreatDoor
open Go Go.RowKit Go.Sy
def gs26 (t0 t1 : TypeId) : List (Nat × GV) := [(0, gInts .i64 t0 kindsN), (1, gInts .u8 t1 bruijnN)]
set_option maxRecDepth 100000 in
set_option maxHeartbeats 0 in
theorem known_eval (t0 t1 : TypeId) : runP Tryz.prog orcL 100000 8 [] (.b true) (gs26 t0 t1) 0 = (AV.b true = AV.b true ∧ (t0 = t0) ∧ (t1 = t1) ∧ True) := by kernel_rfl
end Go.Proofs.YtbcigelgggimmaaGreatDoor
