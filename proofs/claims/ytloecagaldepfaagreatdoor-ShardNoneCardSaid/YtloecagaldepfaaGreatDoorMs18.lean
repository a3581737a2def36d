/- KnShN -/
import Derived.Test.YtloecagaldepfaaGreatDoorMs15
namespace Go.Proofs.YtloecagaldepfaaGreatDoor
open Go Go.RowKit Go.Sy
def pow10L : List AV := pow10N.map fun n => .i .u64 (.ofNat n)
def bru32L : List AV := bruijn32N.map fun n => .i .u8 (.ofNat n)
def bru64L : List AV := bruijnN.map fun n => .i .u8 (.ofNat n)
def gl43 : List (Nat × List AV) := [(0, pow10L), (1, bru32L), (2, bru64L)]
/-- known told. -/
noncomputable def knO (args : List AV) (n : Nat) (H : Heap) : VR := match args with
  | [] => (match readsRows H gl43 with
      | true => .ok (.b true) n H
      | false => .er [410])
  | _ => .er [411]
noncomputable def orcK : Orc := fun x => match Nat.beq x 15 with | true => some knO | false => none
def act6 (a0 a1 a2 : Int) (key name : ByteArray) (A : Option Addr) (n k : Nat) (t1 t2 t3 : List (Nat × Int × Bool)) : AV := .agg [.ov (.int .i64 a0), .ov (.int .u64 a1), .ov (.int .u64 a2), .ol (.string key) key.size t1, .ol (.string name) name.size t3, .ol (.slice A n k) n t2]
theorem act6_conc (s : Sg) (a0 a1 a2 : Int) (key name : ByteArray) (A : Option Addr) (n k : Nat) (t1 t2 t3 : List (Nat × Int × Bool)) (h1 : t1.all (testB key.size) = true) (h2 : t2.all (testB n) = true) (h3 : t3.all (testB name.size) = true) :
    (act6 a0 a1 a2 key name A n k t1 t2 t3).conc s = some (.agg #[.int .i64 a0, .int .u64 a1, .int .u64 a2, .string key, .string name, .slice A n k]) := by
  simp only [act6, AV.conc, concL, h1, h2, h3, Value.oneCell', lenV]
  simp
  exact ⟨rfl, rfl, rfl, rfl, rfl, rfl⟩
set_option maxRecDepth 100000 in
set_option maxHeartbeats 0 in
theorem sh_eval1 (t0 t1 t2 : TypeId) (a0 a1 a2 : Int) (key name : ByteArray) (A : Option Addr) (n k : Nat) : runP Tryz.prog orcK 100000 5 [act6 a0 a1 a2 key name A n k [(5, .ofNat 100, true)] [] []] (.b true) (gs43 t0 t1 t2) 0 = (AV.b true = AV.b true ∧ (t0 = t0) ∧ (t1 = t1) ∧ (t2 = t2) ∧ True) := by kernel_rfl
set_option maxRecDepth 100000 in
set_option maxHeartbeats 0 in
theorem sh_eval2 (t0 t1 t2 : TypeId) (a0 a1 a2 : Int) (key name : ByteArray) (A : Option Addr) (n k : Nat) : runP Tryz.prog orcK 100000 5 [act6 a0 a1 a2 key name A n k [(5, .ofNat 100, false)] [(5, .ofNat 100, true)] []] (.b true) (gs43 t0 t1 t2) 0 = (AV.b true = AV.b true ∧ (t0 = t0) ∧ (t1 = t1) ∧ (t2 = t2) ∧ True) := by kernel_rfl
set_option maxRecDepth 100000 in
set_option maxHeartbeats 0 in
theorem sh_eval3 (t0 t1 t2 : TypeId) (a0 a1 a2 : Int) (key name : ByteArray) (A : Option Addr) (n k : Nat) : runP Tryz.prog orcK 100000 5 [act6 a0 a1 a2 key name A n k [(5, .ofNat 100, false)] [(5, .ofNat 100, false)] [(5, .ofNat 100, true)]] (.b true) (gs43 t0 t1 t2) 0 = (AV.b true = AV.b true ∧ (t0 = t0) ∧ (t1 = t1) ∧ (t2 = t2) ∧ True) := by kernel_rfl
set_option maxRecDepth 100000 in
set_option maxHeartbeats 0 in
theorem sh_eval4 (t0 t1 t2 : TypeId) (a0 a1 a2 : Int) (key name : ByteArray) (A : Option Addr) (n k : Nat) : runP Tryz.prog orcK 100000 5 [act6 a0 a1 a2 key name A n k [(5, .ofNat 100, false)] [(5, .ofNat 100, false)] [(5, .ofNat 100, false)]] (.b true) (gs43 t0 t1 t2) 0 = (AV.b true = AV.b true ∧ (t0 = t0) ∧ (t1 = t1) ∧ (t2 = t2) ∧ True) := by kernel_rfl
end Go.Proofs.YtloecagaldepfaaGreatDoor
