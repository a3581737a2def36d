/- KnLf51 -/
import Derived.Test.YtcpophfchchpkaaGreatDoorMf24
namespace Go.Proofs.YtcpophfchchpkaaGreatDoor
open Go Go.RowKit Go.Sy
set_option maxRecDepth 1000000 in
set_option maxHeartbeats 0 in
theorem lf_51_4095 (t0 t1 : TypeId) : runP Tryz.prog orcF 100000 3 [.i .i64 (.ofNat 51), .i .i64 (.ofNat 4095)] (.b true) (gs51 t0 t1) 0 = (AV.b true = AV.b true ∧ (t0 = t0) ∧ (t1 = t1) ∧ True) := by kernel_rfl
set_option maxRecDepth 1000000 in
set_option maxHeartbeats 0 in
theorem lf_51_4096 (t0 t1 : TypeId) : runP Tryz.prog orcF 100000 3 [.i .i64 (.ofNat 51), .i .i64 (.ofNat 4096)] (.b true) (gs51 t0 t1) 0 = (AV.b true = AV.b true ∧ (t0 = t0) ∧ (t1 = t1) ∧ True) := by kernel_rfl
set_option maxRecDepth 1000000 in
set_option maxHeartbeats 0 in
theorem lf_51_4097 (t0 t1 : TypeId) : runP Tryz.prog orcF 100000 3 [.i .i64 (.ofNat 51), .i .i64 (.ofNat 4097)] (.b true) (gs51 t0 t1) 0 = (AV.b true = AV.b true ∧ (t0 = t0) ∧ (t1 = t1) ∧ True) := by kernel_rfl
end Go.Proofs.YtcpophfchchpkaaGreatDoor
