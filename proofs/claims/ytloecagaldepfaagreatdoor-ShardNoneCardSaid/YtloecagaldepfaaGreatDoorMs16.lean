/- KnShA -/
import Derived.Test.YtloecagaldepfaaGreatDoorMs15
namespace Go.Proofs.YtloecagaldepfaaGreatDoor
open Go Go.RowKit Go.Sy
set_option maxRecDepth 100000 in
set_option maxHeartbeats 0 in
theorem own_eval (t : TypeId) : runP Tryz.prog orcL 100000 19 [.sl 64 0 1 (.k 1), .i .i64 (.ofNat 64), .i .u64 (.ofNat 77), .s anyB] (.tup [.s oneB, .i .i64 (.ofNat 0)]) [(64, ⟨t, [.s oneB], [.string ⟨⟨oneB⟩⟩]⟩)] 1 = (AV.tup [.s oneB, .i .i64 (.ofNat 0)] = AV.tup [.s oneB, .i .i64 (.ofNat 0)] ∧ (t = t) ∧ True) := by kernel_rfl
set_option maxRecDepth 100000 in
set_option maxHeartbeats 0 in
theorem own_eval2 (t : TypeId) : runP Tryz.prog orcL 100000 19 [.sl 64 0 1 (.k 1), .i .i64 (.ofNat 1), .i .u64 (.ofNat 1), .s kB] (.tup [.s [], .i .i64 (.ofNat 2)]) [(64, ⟨t, [.s badB], [.string ⟨⟨badB⟩⟩]⟩)] 1 = (AV.tup [.s [], .i .i64 (.ofNat 2)] = AV.tup [.s [], .i .i64 (.ofNat 2)] ∧ (t = t) ∧ True) := by kernel_rfl
set_option maxRecDepth 100000 in
set_option maxHeartbeats 0 in
theorem own_eval3 : runP Tryz.prog orcL 100000 19 [.sl0, .i .i64 (.ofNat 1), .i .u64 (.ofNat 1), .s kB] (.tup [.s [], .i .i64 (.ofNat 2)]) [] 0 = (AV.tup [.s [], .i .i64 (.ofNat 2)] = AV.tup [.s [], .i .i64 (.ofNat 2)] ∧ True) := by kernel_rfl
end Go.Proofs.YtloecagaldepfaaGreatDoor
