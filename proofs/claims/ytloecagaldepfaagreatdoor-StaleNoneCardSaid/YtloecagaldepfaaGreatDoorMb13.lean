/- KnStN -/
import Derived.Test.YtloecagaldepfaaGreatDoorMb11
import Derived.Test.YtloecagaldepfaaGreatDoorMb12
namespace Go.Proofs.YtloecagaldepfaaGreatDoor
open Go Go.RowKit Go.Sy
def gsB (t : TypeId) : List (Nat × GV) := [(2, gInts .u8 t bruijnN)]
def act4 (a0 a1 : Int) (key : ByteArray) (A : Option Addr) (n k : Nat) (t1 t2 : List (Nat × Int × Bool)) : AV := .agg [.ov (.int .i64 a0), .ov (.int .u64 a1), .ol (.string key) key.size t1, .ol (.slice A n k) n t2]
theorem act4_conc (s : Sg) (a0 a1 : Int) (key : ByteArray) (A : Option Addr) (n k : Nat) (t1 t2 : List (Nat × Int × Bool)) (h1 : t1.all (testB key.size) = true) (h2 : t2.all (testB n) = true) :
    (act4 a0 a1 key A n k t1 t2).conc s = some (.agg #[.int .i64 a0, .int .u64 a1, .string key, .slice A n k]) := by
  simp only [act4, AV.conc, concL, h1, h2, Value.oneCell', lenV]
  simp
  exact ⟨rfl, rfl, rfl, rfl⟩
set_option maxRecDepth 100000 in
set_option maxHeartbeats 0 in
theorem st_eval1 (t : TypeId) (a0 a1 : Int) (key : ByteArray) (A : Option Addr) (n k : Nat) : runP Tryz.prog orcL 100000 3 [act4 a0 a1 key A n k [(5, .ofNat 100, true)] []] (.b true) (gsB t) 0 = (AV.b true = AV.b true ∧ (t = t) ∧ True) := by kernel_rfl
set_option maxRecDepth 100000 in
set_option maxHeartbeats 0 in
theorem st_eval2 (t : TypeId) (a0 a1 : Int) (key : ByteArray) (A : Option Addr) (n k : Nat) : runP Tryz.prog orcL 100000 3 [act4 a0 a1 key A n k [(5, .ofNat 100, false)] [(5, .ofNat 100, true)]] (.b true) (gsB t) 0 = (AV.b true = AV.b true ∧ (t = t) ∧ True) := by kernel_rfl
set_option maxRecDepth 100000 in
set_option maxHeartbeats 0 in
theorem st_eval3 (t : TypeId) (a0 a1 : Int) (key : ByteArray) (A : Option Addr) (n k : Nat) : runP Tryz.prog orcL 100000 3 [act4 a0 a1 key A n k [(5, .ofNat 100, false)] [(5, .ofNat 100, false)]] (.b true) (gsB t) 0 = (AV.b true = AV.b true ∧ (t = t) ∧ True) := by kernel_rfl
end Go.Proofs.YtloecagaldepfaaGreatDoor
