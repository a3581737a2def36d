/- Kn26 -/
import Derived.Test.YtbcigelgggimmaaGreatDoorMa8
namespace Go.Proofs.YtbcigelgggimmaaGreatDoor
open Go Go.RowKit Go.Sy
def gInts (k : IntKind) (t : TypeId) (l : List Nat) : GV := ⟨t, l.map fun n => .i k (.ofNat n), l.map fun n => .int k (.ofNat n)⟩
theorem gInts_good (k : IntKind) (t : TypeId) (l : List Nat) : (gInts k t l).Good := by
  refine ⟨fun s => ?_, fun v hv => ?_⟩
  · show concL s (l.map fun n => .i k (.ofNat n)) = some (l.map fun n => .int k (.ofNat n))
    induction l with
    | nil => rfl
    | cons a r ih => exact concL_cons.2 ⟨_, _, rfl, ih, rfl⟩
  · simp only [gInts, List.mem_map] at hv
    obtain ⟨n, _, rfl⟩ := hv
    rfl
def kindsN : List Nat := [3,1,2,4,5,6,7,8,9,10,11,12,13,14,3,1]
def bruijnN : List Nat := [0,1,56,2,57,49,28,3,61,58,42,50,38,29,17,4,62,47,59,36,45,43,51,22,53,39,33,30,24,18,12,5,63,55,48,27,60,41,37,16,46,35,44,21,52,32,23,11,54,26,40,15,34,20,31,10,25,14,19,9,13,8,7,6]
def gs26 (t0 t1 : TypeId) : List GV := [gInts .i64 t0 kindsN, gInts .u8 t1 bruijnN]
set_option maxRecDepth 100000 in
set_option maxHeartbeats 0 in
theorem known_eval (t0 t1 : TypeId) : closedP Tryz.prog orcL 100000 8 [] (.b true) (gs26 t0 t1) = ((t0 = t0) ∧ (t1 = t1) ∧ True) := by kernel_rfl
end Go.Proofs.YtbcigelgggimmaaGreatDoor
