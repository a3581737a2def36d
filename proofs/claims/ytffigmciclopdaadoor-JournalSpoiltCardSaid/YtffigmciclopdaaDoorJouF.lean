/- Layer 45: Append. -/
import Derived.Test.YtffigmciclopdaaDoorJouE
import Derived.Test.YtffigmciclopdaaDoorPhase
namespace Go.Proofs.YtffigmciclopdaaDoor
open Go Go.RowKit

/-- What Append reads. -/
structure ApI (w W : World) (B b : Nat) (dv ev ov : Value) (ds : List UInt8) (es : List Nat) (ps : List (OpV × Value)) (o : OpV) (V : Value) : Prop where
  rep : JRep W B b dv ev ov ds es ps
  box : Blk W w.heap.size 43 (opc o V)
  val : Bts W B 5 V o.val
  kg : KG W
  below : Below w.heap.size w W
theorem ApI.adv {w W W' : World} {B b : Nat} {dv ev ov : Value} {ds : List UInt8} {es : List Nat} {ps : List (OpV × Value)} {o : OpV} {V : Value} (h : ApI w W B b dv ev ov ds es ps o V) (hb : Below W.heap.size W W') : ApI w W' B b dv ev ov ds es ps o V :=
  ⟨h.rep.below hb, h.box.below hb, h.val.below hb, h.kg.below hb h.kg.1, h.below.trans (hb.mono h.below.size)⟩

def jAdd (ds : List UInt8) (es : List Nat) (o : OpV) : Int :=
  match recO (sumL ds) o with
  | none => 2
  | some r => if 4096 ≤ es.length ∨ 1048576 < ds.length + r.length then 7 else 0



set_option maxRecDepth 100000 in
set_option maxHeartbeats 4000000 in
theorem append_none (B b : Nat) (dv ev ov : Value) (ds : List UInt8) (es : List Nat) (ps : List (OpV × Value)) (o : OpV) (V : Value) (w : World) (h : JRep w B b dv ev ov ds es ps) (hv : Bts w B 5 V o.val) (hk : KG w) (ht : 0 ≤ o.ticks) (hr : recO (sumL ds) o = none) :
    Calls Tryd.prog 15 #[.pointer (some ⟨b, 0, none⟩), opv o V] w fun e w' => e = .returned (.int .i64 2) ∧ Below w.heap.size w w' := by
  have HR := Lib.hid hr
  clear hr
  obtain ⟨VA, vc, rfl⟩ := hv.form
  obtain ⟨W, hW⟩ : ∃ W, w.alloc (.cells (opc o (.slice VA o.val.length vc)) 43) = W := ⟨_, rfl⟩
  have hbe : Below w.heap.size w W := hW ▸ (Below.refl _ _).alloc (Nat.le_refl _) _
  have hI : ApI w W B b dv ev ov ds es ps o (.slice VA o.val.length vc) := ⟨h.below hbe, hW ▸ Blk.new _ _ _, hv.below hbe, hk.below hbe hk.1, hbe⟩
  have HI := Lib.hid hI
  have HT := Lib.hid ht
  have HH := Lib.hid h
  unfold opc at hW
  unfold opv opc
  clear hI hbe hv hk ht h
  go_enter Tryd.func15, Tryd.ntmps15
  go_wp2_with fail
  try rw [hW]
  clear hW
  refine wp_region_noPanic ?_
  refine wp_region_held_drew (S := fun W => ApI w W B b dv ev ov ds es ps o (.slice VA o.val.length vc)) (by kernel_rfl) (HI.out.adv (Below.refl _ _).drew) (fun hHeld => ?_)
  refine wpAnyH_take (i := 0) (oi := ⟨_, _, _, _, _, _⟩) (v := ?_) rfl (by kernel_rfl) (by kernel_rfl) (by kernel_rfl) (fun _ _ _ h => h) (Or.inl ⟨by rfl, ?_⟩) (by assumption) ?_
  rotate_left 1
  · intro W hSw
    obtain ⟨z0, z1, z2, z3, z4, z5, z6, z7, z8⟩ := op_cells hSw.box
    clear hSw
    go_simp
    try with_reducible rfl
  try simp only [Act.put, List.setIfInBounds_toArray, List.set_cons_zero, List.set_cons_succ]
  refine wpAnyH_take (i := 2) (oi := ⟨_, _, _, _, _, _⟩) (v := ?_) rfl (by kernel_rfl) (by kernel_rfl) (by kernel_rfl) (fun _ _ _ h => h) (Or.inl ⟨by rfl, ?_⟩) (by assumption) ?_
  rotate_left 1
  · intro W hSw
    obtain ⟨z0, z1, z2, z3, z4, z5, z6, z7, z8⟩ := op_cells hSw.box
    clear hSw
    go_simp
    try with_reducible rfl
  try simp only [Act.put, List.setIfInBounds_toArray, List.set_cons_zero, List.set_cons_succ]
  refine wpAnyH_ready (rs := [1]) (by kernel_rfl) (by simp) ?_
  refine AllReadyH.cons (o := ⟨_, _, _, _, _, _⟩) rfl (fun F hF => ?_) AllReadyH.nil
  go_simp
  refine (jSum_any B b dv ev ov ds es ps _ hHeld.rep).mono ?_
  rintro e w1 ⟨rfl, hb1⟩
  have HI1 := Lib.hid (hHeld.adv hb1)
  clear hb1 hHeld HI
  go_wp2_with fail
  refine hF.out _ _ HI1.out (fun hHeld => ?_)
  clear hF F
  try simp only [Act.put, List.setIfInBounds_toArray, List.set_cons_zero, List.set_cons_succ]
  refine wpAnyH_ready (rs := [3]) (by kernel_rfl) (by simp) ?_
  refine AllReadyH.cons (o := ⟨_, _, _, _, _, _⟩) rfl (fun F hF => ?_) AllReadyH.nil
  go_simp
  refine (record_any B (sumL ds) o (.slice VA o.val.length vc) _ hHeld.val hHeld.kg HT.out (sumL_lt ds)).mono ?_
  rw [HR.out]
  rintro e w2 ⟨rfl, hb2⟩
  have HI2 := Lib.hid (hHeld.adv hb2)
  clear hb2 hHeld HI1
  go_wp2_with fail
  refine hF.out _ _ HI2.out (fun hHeld => ?_)
  clear hF F
  try simp only [Act.put, List.setIfInBounds_toArray, List.set_cons_zero, List.set_cons_succ]
  refine wpAnyH_take (i := 4) (oi := ⟨_, _, _, _, _, _⟩) (v := ?_) rfl (by kernel_rfl) (by kernel_rfl) (by kernel_rfl) (fun _ _ _ h => h) (Or.inl ⟨by rfl, ?_⟩) (by assumption) ?_
  rotate_left 1
  · intro W hSw
    obtain ⟨z0, z1, z2, z3, z4, z5, z6, z7, z8⟩ := op_cells hSw.box
    clear hSw
    go_simp
    try with_reducible rfl
  try simp only [Act.put, List.setIfInBounds_toArray, List.set_cons_zero, List.set_cons_succ]
  refine wpAnyH_done (by kernel_rfl) ?_ _
  refine NoPanic.normal ?_
  go_wp2_with fail
  go_ret
  exact ⟨rfl, hHeld.below⟩


theorem recO_len {s : Nat} {o : OpV} {r : List UInt8} (h : recO s o = some r) : 7 ≤ r.length ∧ r.length ≤ 298 := by
  unfold recO at h
  cases hw : wrOp o with
  | none => rw [hw] at h; cases h
  | some b =>
    rw [hw] at h
    simp only [Option.map_some, Option.some.injEq] at h
    subst h
    have := wrOp_pos hw
    rw [recB_len]; omega

set_option maxRecDepth 100000 in
set_option maxHeartbeats 4000000 in
theorem append_full (B b : Nat) (dv ev ov : Value) (ds : List UInt8) (es : List Nat) (ps : List (OpV × Value)) (o : OpV) (V : Value) (w : World) (h : JRep w B b dv ev ov ds es ps) (hv : Bts w B 5 V o.val) (hk : KG w) (ht : 0 ≤ o.ticks) (r : List UInt8) (hr : recO (sumL ds) o = some r) (hf : 4096 ≤ es.length ∨ 1048576 < ds.length + r.length) :
    Calls Tryd.prog 15 #[.pointer (some ⟨b, 0, none⟩), opv o V] w fun e w' => e = .returned (.int .i64 7) ∧ Below w.heap.size w w' := by
  have HR := Lib.hid hr
  have HF := Lib.hid hf
  clear hr hf
  obtain ⟨VA, vc, rfl⟩ := hv.form
  obtain ⟨W, hW⟩ : ∃ W, w.alloc (.cells (opc o (.slice VA o.val.length vc)) 43) = W := ⟨_, rfl⟩
  have hbe : Below w.heap.size w W := hW ▸ (Below.refl _ _).alloc (Nat.le_refl _) _
  have hI : ApI w W B b dv ev ov ds es ps o (.slice VA o.val.length vc) := ⟨h.below hbe, hW ▸ Blk.new _ _ _, hv.below hbe, hk.below hbe hk.1, hbe⟩
  have HI := Lib.hid hI
  have HT := Lib.hid ht
  have HH := Lib.hid h
  unfold opc at hW
  unfold opv opc
  clear hI hbe hv hk ht h
  go_enter Tryd.func15, Tryd.ntmps15
  go_wp2_with fail
  try rw [hW]
  clear hW
  refine wp_region_noPanic ?_
  refine wp_region_held_drew (S := fun W => ApI w W B b dv ev ov ds es ps o (.slice VA o.val.length vc)) (by kernel_rfl) (HI.out.adv (Below.refl _ _).drew) (fun hHeld => ?_)
  refine wpAnyH_take (i := 0) (oi := ⟨_, _, _, _, _, _⟩) (v := ?_) rfl (by kernel_rfl) (by kernel_rfl) (by kernel_rfl) (fun _ _ _ h => h) (Or.inl ⟨by rfl, ?_⟩) (by assumption) ?_
  rotate_left 1
  · intro W hSw
    obtain ⟨z0, z1, z2, z3, z4, z5, z6, z7, z8⟩ := op_cells hSw.box
    clear hSw
    go_simp
    try with_reducible rfl
  try simp only [Act.put, List.setIfInBounds_toArray, List.set_cons_zero, List.set_cons_succ]
  refine wpAnyH_take (i := 2) (oi := ⟨_, _, _, _, _, _⟩) (v := ?_) rfl (by kernel_rfl) (by kernel_rfl) (by kernel_rfl) (fun _ _ _ h => h) (Or.inl ⟨by rfl, ?_⟩) (by assumption) ?_
  rotate_left 1
  · intro W hSw
    obtain ⟨z0, z1, z2, z3, z4, z5, z6, z7, z8⟩ := op_cells hSw.box
    clear hSw
    go_simp
    try with_reducible rfl
  try simp only [Act.put, List.setIfInBounds_toArray, List.set_cons_zero, List.set_cons_succ]
  refine wpAnyH_ready (rs := [1]) (by kernel_rfl) (by simp) ?_
  refine AllReadyH.cons (o := ⟨_, _, _, _, _, _⟩) rfl (fun F hF => ?_) AllReadyH.nil
  go_simp
  refine (jSum_any B b dv ev ov ds es ps _ hHeld.rep).mono ?_
  rintro e w1 ⟨rfl, hb1⟩
  have HI1 := Lib.hid (hHeld.adv hb1)
  clear hb1 hHeld HI
  go_wp2_with fail
  refine hF.out _ _ HI1.out (fun hHeld => ?_)
  clear hF F
  try simp only [Act.put, List.setIfInBounds_toArray, List.set_cons_zero, List.set_cons_succ]
  refine wpAnyH_ready (rs := [3]) (by kernel_rfl) (by simp) ?_
  refine AllReadyH.cons (o := ⟨_, _, _, _, _, _⟩) rfl (fun F hF => ?_) AllReadyH.nil
  go_simp
  refine (record_any B (sumL ds) o (.slice VA o.val.length vc) _ hHeld.val hHeld.kg HT.out (sumL_lt ds)).mono ?_
  rw [HR.out]
  rintro e w2 ⟨v2, rfl, ho2, hb2⟩
  have HI2 := Lib.hid (hHeld.adv hb2)
  obtain ⟨A2, c2, rfl, _, _⟩ := own_form ho2
  have HO2 := Lib.hid ho2
  have HB2 := Lib.hid hb2
  have HS1 := Lib.hid hHeld.box.lt
  clear hb2 hHeld HI1 ho2
  go_wp2_with fail
  refine hF.out _ _ HI2.out (fun hHeld => ?_)
  clear hF F
  try simp only [Act.put, List.setIfInBounds_toArray, List.set_cons_zero, List.set_cons_succ]
  refine wpAnyH_take (i := 4) (oi := ⟨_, _, _, _, _, _⟩) (v := ?_) rfl (by kernel_rfl) (by kernel_rfl) (by kernel_rfl) (fun _ _ _ h => h) (Or.inl ⟨by rfl, ?_⟩) (by assumption) ?_
  rotate_left 1
  · intro W hSw
    obtain ⟨z0, z1, z2, z3, z4, z5, z6, z7, z8⟩ := op_cells hSw.box
    clear hSw
    go_simp
    try with_reducible rfl
  try simp only [Act.put, List.setIfInBounds_toArray, List.set_cons_zero, List.set_cons_succ]
  refine wpAnyH_done (by kernel_rfl) ?_ _
  refine NoPanic.normal ?_
  have hrp := hHeld.rep
  obtain ⟨DA, dc, hDA, hdc1, _⟩ := own_form hrp.data
  obtain ⟨EA, ec, hEA, hec1, _⟩ := own_form hrp.ends
  obtain ⟨OA, oc, hOA, hoc1, _⟩ := own_form hrp.ops
  subst hDA
  subst hEA
  subst hOA
  have x0 : World.cell? w2 ⟨b, 0, none⟩ = some (.slice DA ds.length dc) := hrp.blk.cell 0 _ rfl
  have x1 : World.cell? w2 ⟨b, 1, none⟩ = some (.slice EA es.length ec) := hrp.blk.cell 1 _ rfl
  have hr0 : 7 ≤ r.length ∧ r.length ≤ 298 := recO_len HR.out
  have hrI : (7 : Int) ≤ (r.length : Int) := by omega
  have hrI2 : (r.length : Int) ≤ 298 := by omega
  have hdm := hrp.dmax
  have hem := hrp.emax
  have hdI : (ds.length : Int) ≤ 1048576 := by omega
  have heI : (es.length : Int) ≤ 4096 := by omega
  have hz : ((r.length : Int) == 0) = false := by
    rw [beq_eq_false_iff_ne]; omega
  clear hrp hdm hem hHeld
  by_cases he : 4096 ≤ es.length
  · have heI : (4096 : Int) ≤ (es.length : Int) := by omega
    go_wp2_with fail
    go_ret
    exact ⟨rfl, HI2.out.below⟩
  · have heI : ¬ (4096 : Int) ≤ (es.length : Int) := by omega
    have hd : 1048576 < ds.length + r.length := by
      rcases HF.out with h | h
      · exact absurd h he
      · exact h
    have hdI : (1048576 : Int) < (ds.length : Int) + (r.length : Int) := by omega
    go_wp2_with fail
    go_ret
    exact ⟨rfl, HI2.out.below⟩

end Go.Proofs.YtffigmciclopdaaDoor
