/- The walk of JournalNone. -/
import Derived.Test.YtffigmciclopdaaDoorJouS
namespace Go.Proofs.YtffigmciclopdaaDoor
open Go Go.RowKit

/-- A world with the table of kinds, behind the call's. -/
structure KB (w W : World) (o : OpV) (V : Value) : Prop where
  kg : KG W
  below : Below w.heap.size w W
  box : Blk W w.heap.size 43 (opc o V)
theorem KB.adv {w W W2 : World} {o : OpV} {V : Value} (h : KB w W o V) (hb : Below W.heap.size W W2) : KB w W2 o V := ⟨h.kg.below hb h.kg.1, h.below.trans (hb.mono h.below.size), h.box.below hb⟩

set_option maxRecDepth 100000 in
set_option maxHeartbeats 4000000 in
theorem none_walk (B : Nat) (o : OpV) (V : Value) (n : Int) (w : World) (hv : Bts w B 5 V o.val) (hk : KG w) (hks : o.key.size ≤ maxLen) :
    Calls Tryd.prog 7 #[opv o V, .int .i64 n] w fun e w' => e = .returned (.bool true) ∧ Below w.heap.size w w' := by
  have hle := hv.le
  obtain ⟨VA, vc, rfl⟩ := hv.form
  have K0 : Hid (KB w (w.alloc (.cells (opc o (.slice VA o.val.length vc)) 43)) o (.slice VA o.val.length vc)) := Lib.hid ⟨hk.below ((Below.refl _ _).alloc (Nat.le_refl _) _) hk.1, (Below.refl _ _).alloc (Nat.le_refl _) _, Blk.new _ _ _⟩
  have HL := Lib.hid (fun W => light_any o VA vc W hks hle)
  have HNA := Lib.hid (fun W => nil_Append o VA o.val.length vc W)
  clear hv hk hks hle
  unfold opc at K0
  unfold opv opc at HL HNA
  unfold opv opc
  go_enter Tryd.func7, Tryd.ntmps7
  go_wp2_with fail
  refine (HL.out _).mono ?_
  rintro e w1 ⟨he, hb⟩
  have K1 := Lib.hid (K0.out.adv hb)
  clear hb K0 HL
  cases hl : lightO o with
  | false =>
    rw [hl] at he
    subst he
    clear hl
    go_wp2_with fail
    refine (known_true _ K1.out.kg).mono ?_
    rintro e w2 ⟨rfl, hb⟩
    have K2 := Lib.hid (K1.out.adv hb)
    clear hb
    go_wp2_with fail
    go_ret
    exact ⟨rfl, K2.out.below⟩
  | true =>
    rw [hl] at he
    subst he
    clear hl
    go_wp2_with fail
    refine (nil_Record n _).mono ?_
    rintro e w2 ⟨rfl, rfl⟩
    obtain ⟨z0, z1, z2, z3, z4, z5, z6, z7, z8⟩ := op_cells K1.out.box
    go_wp2_with fail
    refine (HNA.out _).mono ?_
    rintro e w3 ⟨rfl, hb⟩
    have K3 := Lib.hid (K1.out.adv hb)
    clear hb K1 z0 z1 z2 z3 z4 z5 z6 z7 z8 HNA
    go_wp2_with fail
    refine (nil_Len _).mono ?_
    rintro e w4 ⟨rfl, rfl⟩
    go_wp2_with fail
    refine (nil_Bytes _).mono ?_
    rintro e w4 ⟨rfl, rfl⟩
    go_wp2_with fail
    refine (nil_Ops _).mono ?_
    rintro e w4 ⟨rfl, rfl⟩
    go_wp2_with fail
    refine (nil_Sum _).mono ?_
    rintro e w4 ⟨rfl, rfl⟩
    go_wp2_with fail
    refine (nil_Copy _).mono ?_
    rintro e w4 ⟨rfl, rfl⟩
    go_wp2_with fail
    refine (known_true _ K3.out.kg).mono ?_
    rintro e w5 ⟨rfl, hb⟩
    have K5 := Lib.hid (K3.out.adv hb)
    clear hb
    go_wp2_with fail
    go_ret
    exact ⟨rfl, K5.out.below⟩

end Go.Proofs.YtffigmciclopdaaDoor
