/- Layer 45: Read; the methods of a nil journal. -/
import Derived.Test.YtffigmciclopdaaDoorJouN
namespace Go.Proofs.YtffigmciclopdaaDoor
open Go Go.RowKit

/-- What Read gives. -/
def ReadRet (bs : List UInt8) (w : World) (e : Ending) (w' : World) : Prop :=
  ∃ v ps, e = .returned (.tuple #[v, .int .i64 ((rcvd bs).1.length : Int)]) ∧ (rcvd bs).2.2 = ps.map Prod.fst ∧ OpsAt w' w.heap.size v ps ∧ Below w.heap.size w w'

set_option maxHeartbeats 2000000 in
theorem read_all_any (B : Nat) (V : Value) (bs : List UInt8) (w : World) (hv : Bts w B 5 V bs) (hB : B ≤ w.heap.size) (hk : KG w) (hl : bs.length ≤ 1000000) :
    Calls Tryd.prog 17 #[V] w (ReadRet bs w) := by
  have HR := Lib.hid (recover_any B V bs w hv hB hk hl)
  clear hv hB hk hl
  go_enter Tryd.func17, Tryd.ntmps17
  go_wp2_with fail
  refine HR.out.mono ?_
  rintro e w1 ⟨b, dv, ev, ov, ds, es, ps, rfl, hr, hrep, -, -, -, hb⟩
  have HB := Lib.hid hb
  have HRp := Lib.hid hrep
  have HE := Lib.hid hr
  have x2 := hrep.blk.cell 2 _ rfl
  clear hr hrep hb
  go_wp2_with fail
  go_ret2
  refine ⟨ov, ps, ?_, by rw [HE.out], HRp.out.opsAt, HB.out⟩
  rw [HE.out]
  rfl

theorem nil_Len (w : World) : Calls Tryd.prog 21 #[.pointer none] w fun e w' => e = .returned (.int .i64 0) ∧ w = w' := by
  go_enter Tryd.func21, Tryd.ntmps21
  go_wp2_with fail
  go_ret
  exact ⟨rfl, rfl⟩

theorem nil_Bytes (w : World) : Calls Tryd.prog 12 #[.pointer none] w fun e w' => e = .returned (.slice none 0 0) ∧ w = w' := by
  go_enter Tryd.func12, Tryd.ntmps12
  go_wp2_with fail
  go_ret
  exact ⟨rfl, rfl⟩

theorem nil_Ops (w : World) : Calls Tryd.prog 24 #[.pointer none] w fun e w' => e = .returned (.slice none 0 0) ∧ w = w' := by
  go_enter Tryd.func24, Tryd.ntmps24
  go_wp2_with fail
  go_ret
  exact ⟨rfl, rfl⟩

theorem nil_Sum (w : World) : Calls Tryd.prog 25 #[.pointer none] w fun e w' => e = .returned (.int .u32 0) ∧ w = w' := by
  go_enter Tryd.func25, Tryd.ntmps25
  go_wp2_with fail
  go_ret
  exact ⟨rfl, rfl⟩

theorem nil_Copy (w : World) : Calls Tryd.prog 20 #[.pointer none] w fun e w' => e = .returned (.pointer none) ∧ w = w' := by
  go_enter Tryd.func20, Tryd.ntmps20
  go_wp2_with fail
  go_ret
  exact ⟨rfl, rfl⟩

theorem nil_Record (n : Int) (w : World) : Calls Tryd.prog 23 #[.pointer none, .int .i64 n] w fun e w' => e = .returned (.tuple #[.slice none 0 0, .int .i64 1]) ∧ w = w' := by
  go_enter Tryd.func23, Tryd.ntmps23
  go_wp2_with fail
  go_ret2
  exact ⟨rfl, rfl⟩

theorem nil_Append (o : OpV) (A : Option Addr) (n c : Nat) (w : World) : Calls Tryd.prog 15 #[.pointer none, opv o (.slice A n c)] w fun e w' => e = .returned (.int .i64 1) ∧ Below w.heap.size w w' := by
  unfold opv opc
  go_enter Tryd.func15, Tryd.ntmps15
  go_wp2_with fail
  go_ret
  exact ⟨rfl, (Below.refl _ _).alloc (Nat.le_refl _) _⟩

end Go.Proofs.YtffigmciclopdaaDoor
