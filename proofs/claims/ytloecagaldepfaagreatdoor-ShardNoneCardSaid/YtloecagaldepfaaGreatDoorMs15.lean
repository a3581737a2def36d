/- ShO -/
import Derived.Test.YtloecagaldepfaaGreatDoorMs13
import Derived.Test.YtloecagaldepfaaGreatDoorMs14
namespace Go.Proofs.YtloecagaldepfaaGreatDoor
open Go Go.RowKit Go.Sy
def oneB : List UInt8 := [111, 110, 101]
def anyB : List UInt8 := [97, 110, 121]
def kB : List UInt8 := [107]
def badB : List UInt8 := [49, 97]
noncomputable def ownO (args : List AV) (n : Nat) (H : Heap) : VR := match args with
  | .sl x o m (.k c) :: rest => (match Nat.beq o 0, Nat.beq m 1, Nat.beq c 1, Nat.blt x 65536 with
      | true, true, true, true => (match eq1s rest [.i .i64 (.ofNat 64), .i .u64 (.ofNat 77), .s anyB], readsRow [.s oneB] (Q8.get H x) with
          | true, true => .ok (.tup [.s oneB, .i .i64 (.ofNat 0)]) n H
          | _, _ => (match eq1s rest [.i .i64 (.ofNat 1), .i .u64 (.ofNat 1), .s kB], readsRow [.s badB] (Q8.get H x) with
              | true, true => .ok (.tup [.s [], .i .i64 (.ofNat 2)]) n H
              | _, _ => .er [404]))
      | _, _, _, _ => .er [405])
  | .sl0 :: rest => (match eq1s rest [.i .i64 (.ofNat 1), .i .u64 (.ofNat 1), .s kB] with
      | true => .ok (.tup [.s [], .i .i64 (.ofNat 2)]) n H
      | false => .er [406])
  | _ => .er [407]
noncomputable def orcS : Orc := fun x => match Nat.beq x 19 with | true => some ownO | false => orcL x
def pow10N : List Nat := [1, 10, 100, 1000, 10000, 100000, 1000000, 10000000, 100000000, 1000000000, 10000000000, 100000000000, 1000000000000, 10000000000000, 100000000000000, 1000000000000000, 10000000000000000, 100000000000000000, 1000000000000000000, 10000000000000000000]
def bruijn32N : List Nat := [0, 1, 28, 2, 29, 14, 24, 3, 30, 22, 20, 15, 25, 17, 4, 8, 31, 27, 13, 23, 21, 19, 16, 7, 26, 12, 18, 6, 11, 5, 10, 9]
def gs43 (t0 t1 t2 : TypeId) : List (Nat × GV) := [(0, gInts .u64 t0 pow10N), (1, gInts .u8 t1 bruijn32N), (2, gInts .u8 t2 bruijnN)]
end Go.Proofs.YtloecagaldepfaaGreatDoor
