/- The walk of JournalReads. -/
import Derived.Test.YtffigmciclopdaaDoorJouX
namespace Go.Proofs.YtffigmciclopdaaDoor
open Go Go.RowKit

set_option maxRecDepth 100000 in
set_option maxHeartbeats 4000000 in
theorem reads_walk (V : Value) (bs : List UInt8) (w : World) (hv : Bts w w.heap.size 5 V bs) (hk : KG w) :
    Calls Tryd.prog 3 #[V] w fun e w' => e = .returned (.bool true) ∧ Below w.heap.size w w' := by
  have hmx := hv.le
  unfold maxLen at hmx
  obtain ⟨A, cap, rfl⟩ := hv.form
  by_cases hl : bs.length ≤ 2000
  · have hlI : ¬ (2000 : Int) < (bs.length : Int) := by omega
    have HR := Lib.hid (right_any _ _ bs w hv (Nat.le_refl _) hk (by omega))
    have HK := Lib.hid hk
    clear hv hk hl
    go_enter Tryd.func3, Tryd.ntmps3
    go_wp2_with fail
    refine HR.out.mono ?_
    rintro e w1 ⟨rfl, hb⟩
    have HB := Lib.hid hb
    clear hb
    go_wp2_with fail
    refine (known_true _ (HK.out.below HB.out HK.out.1)).mono ?_
    rintro e w2 ⟨rfl, hb⟩
    have HB2 := Lib.hid hb
    clear hb
    go_wp2_with fail
    go_ret
    exact ⟨rfl, HB.out.trans (HB2.out.mono HB.out.size)⟩
  · have hlI : (2000 : Int) < (bs.length : Int) := by omega
    have HK := Lib.hid hk
    clear hv hk hl
    go_enter Tryd.func3, Tryd.ntmps3
    go_wp2_with fail
    refine (known_true _ HK.out).mono ?_
    rintro e w2 ⟨rfl, hb⟩
    have HB2 := Lib.hid hb
    clear hb
    go_wp2_with fail
    go_ret
    exact ⟨rfl, HB2.out⟩

end Go.Proofs.YtffigmciclopdaaDoor
