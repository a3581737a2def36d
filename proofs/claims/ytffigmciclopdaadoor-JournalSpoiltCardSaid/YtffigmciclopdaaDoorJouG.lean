/- Layer 45: Append appends. -/
import Derived.Test.YtffigmciclopdaaDoorJouF
namespace Go.Proofs.YtffigmciclopdaaDoor
open Go Go.RowKit

theorem wrOp_small {o : OpV} {bs : List UInt8} (h : wrOp o = some bs) : o.key.size ≤ 31 ∧ o.val.length ≤ 255 := by
  unfold wrOp at h
  split at h
  · cases h
  · rename_i hb
    constructor <;> omega
theorem recO_small {s : Nat} {o : OpV} {r : List UInt8} (h : recO s o = some r) : o.key.size ≤ 31 ∧ o.val.length ≤ 255 := by
  unfold recO at h
  cases hw : wrOp o with
  | none => rw [hw] at h; cases h
  | some b => exact wrOp_small hw

theorem src_cell (w : World) (e : TypeId) (u : Value) : Src (w.alloc (.cells #[u] e)).drew 1 (some ⟨w.heap.size, 0, none⟩) 1 [u] := by
  refine ⟨rfl, (fun h => by cases h), fun a ha j v hu => ?_⟩
  cases ha
  rw [add_plain, Nat.zero_add]
  exact (Blk.new w e #[u]).drew.cell j v (by simpa using hu)
theorem int_one (n : Int) : ∀ u ∈ [Value.int .i64 n], u.oneCell' = true := by
  intro u hu
  have := List.mem_singleton.1 hu
  subst this; rfl

theorem src_blk {w : World} {g : Nat} {o : OpV} {V : Value} (h : Blk w g 43 (opc o V)) : Src w 9 (some ⟨g, 0, none⟩) 1 (opcs o V) := by
  refine ⟨rfl, (fun h => by cases h), fun a ha j u hu => ?_⟩
  cases ha
  rw [add_plain, Nat.zero_add]
  have e : (opc o V) = (opcs o V).toArray := rfl
  exact h.cell j u (by rw [e]; simpa using hu)

/-- What the loads of the two appends read. -/
structure AppR (W : World) (b g : Nat) (dv ev ov : Value) (o : OpV) (V : Value) : Prop where
  blk : Blk W b 35 #[dv, ev, ov]
  box : Blk W g 43 (opc o V)

/-- Append's world while the rows grow: dv is the data's row at the start, v the one now. -/
structure ApX (w W : World) (B b g : Nat) (cs : Array Value) (dv ev ov v : Value) (ds : List UInt8) (es : List Nat) (ps : List (OpV × Value)) (o : OpV) (V : Value) : Prop where
  js : JS W B b cs v ev ov ds es ps
  box : Blk W g 43 (opc o V)
  val : Bts W B 5 V o.val
  hx : ∀ k, V.ownBlock = some k → w.heap.size ≤ k ∧ k < W.heap.size ∧ v.ownBlock ≠ some k
  only : Only (jFp b dv ev ov) w W
  fp : ∀ k, v.ownBlock = some k → dv.ownBlock = some k ∨ w.heap.size ≤ k
  glt : w.heap.size ≤ g ∧ B ≤ g

section
variable {w W W' : World} {B b g : Nat} {cs : Array Value} {dv ev ov v : Value} {ds : List UInt8} {es : List Nat} {ps : List (OpV × Value)} {o : OpV} {V : Value}
theorem ApX.below (h : ApX w W B b g cs dv ev ov v ds es ps o V) (hb : Below W.heap.size W W') : ApX w W' B b g cs dv ev ov v ds es ps o V :=
  ⟨h.js.below hb, h.box.below hb, h.val.below hb, fun k hk => ⟨(h.hx k hk).1, Nat.lt_of_lt_of_le (h.hx k hk).2.1 hb.size, (h.hx k hk).2.2⟩, h.only.trans (Only.of_below (S := jFp b dv ev ov) hb) (fun _ _ e => e), h.fp, h.glt⟩
theorem ApX.data (h : ApX w W B b g cs dv ev ov dv ds es ps o V) {u : Value} {r : List UInt8} (hd : ∀ k, dv.ownBlock = some k → k < w.heap.size) (hg : W.grownBy W' dv.ownBlock) (ho : W'.ownsRow B 5 1 u (ds.length + r.length) (bcells ds ++ bcells r)) (ha : u.ownBlock = dv.ownBlock ∨ u.ownBlock = some W.heap.size) :
    ApX w W' B b g cs dv ev ov u (ds ++ r) es ps o V := by
  have hon := Only.of_grown hg
  refine ⟨h.js.growData hg ho ha, h.box.only hon (blk_differs h.box h.js.data (by decide)), h.val.only hon (fun k hk e => (h.hx k hk).2.2 e), fun k hk => ⟨(h.hx k hk).1, Nat.lt_of_lt_of_le (h.hx k hk).2.1 hon.size, ?_⟩, h.only.trans hon (fun _ _ e => .inr (.inl e)), ?_, h.glt⟩
  · rcases ha with e | e
    · rw [e]; exact (h.hx k hk).2.2
    · rw [e]; intro e2; injection e2 with e2; have := (h.hx k hk).2.1; omega
  · intro k hk
    rcases ha with e | e
    · rw [e] at hk; exact .inl hk
    · rw [e] at hk; injection hk with hk; have := h.only.size; exact .inr (by omega)
theorem ApX.ops (h : ApX w W B b g cs dv ev ov v ds es ps o V) {u : Value} (ht : 0 ≤ o.ticks) (hg : W.grownBy W' ov.ownBlock) (ho : W'.ownsRow B 43 9 u (ps.length + 1) (ocs ps ++ opcs o V)) (hgb : ∀ k, ov.ownBlock = some k → k < w.heap.size) :
    JS W' B b cs v ev u ds es (ps ++ [(o, V)]) ∧ Blk W' g 43 (opc o V) ∧ Only (jFp b dv ev ov) w W' := by
  have hon := Only.of_grown hg
  refine ⟨h.js.growOps hg ho h.val (fun k hk => (h.hx k hk).2) ht, h.box.only hon (fun e => by have := hgb g e; have := h.glt.1; omega), h.only.trans hon (fun _ _ e => .inr (.inr (.inr e)))⟩
end


set_option maxRecDepth 100000 in
set_option maxHeartbeats 4000000 in
theorem append_ok (B b : Nat) (dv ev ov : Value) (ds : List UInt8) (es : List Nat) (ps : List (OpV × Value)) (o : OpV) (V : Value) (w : World) (h : JRep w B b dv ev ov ds es ps) (hv : Bts w B 5 V o.val) (hk : KG w) (ht : 0 ≤ o.ticks) (r : List UInt8) (hr : recO (sumL ds) o = some r) (hf : ¬ (4096 ≤ es.length ∨ 1048576 < ds.length + r.length)) (hB : B ≤ w.heap.size) :
    Calls Tryd.prog 15 #[.pointer (some ⟨b, 0, none⟩), opv o V] w fun e w' => e = .returned (.int .i64 0) ∧ ∃ dv' ev' ov' V', JRep w' B b dv' ev' ov' (ds ++ r) (es ++ [ds.length + r.length]) (ps ++ [(o, V')]) ∧ Only (jFp b dv ev ov) w w' ∧ (∀ k, jFp b dv' ev' ov' k → jFp b dv ev ov k ∨ w.heap.size ≤ k) ∧ (∀ k, V'.ownBlock = some k → w.heap.size ≤ k) := by
  have HR := Lib.hid hr
  have HF := Lib.hid hf
  have HBs := Lib.hid hB
  clear hr hf hB
  obtain ⟨VA, vc, rfl⟩ := hv.form
  obtain ⟨W, hW⟩ : ∃ W, w.alloc (.cells (opc o (.slice VA o.val.length vc)) 43) = W := ⟨_, rfl⟩
  have hbe : Below w.heap.size w W := hW ▸ (Below.refl _ _).alloc (Nat.le_refl _) _
  have hI : ApI w W B b dv ev ov ds es ps o (.slice VA o.val.length vc) := ⟨h.below hbe, hW ▸ Blk.new _ _ _, hv.below hbe, hk.below hbe hk.1, hbe⟩
  have HI := Lib.hid hI
  have HT := Lib.hid ht
  have HH := Lib.hid h
  unfold opc at hW
  unfold opv opc
  clear hI hbe hv hk ht h
  go_enter Tryd.func15, Tryd.ntmps15
  go_wp2_with fail
  try rw [hW]
  clear hW
  refine wp_region_noPanic ?_
  refine wp_region_held_drew (S := fun W => ApI w W B b dv ev ov ds es ps o (.slice VA o.val.length vc)) (by kernel_rfl) (HI.out.adv (Below.refl _ _).drew) (fun hHeld => ?_)
  refine wpAnyH_take (i := 0) (oi := ⟨_, _, _, _, _, _⟩) (v := ?_) rfl (by kernel_rfl) (by kernel_rfl) (by kernel_rfl) (fun _ _ _ h => h) (Or.inl ⟨by rfl, ?_⟩) (by assumption) ?_
  rotate_left 1
  · intro W hSw
    obtain ⟨z0, z1, z2, z3, z4, z5, z6, z7, z8⟩ := op_cells hSw.box
    clear hSw
    go_simp
    try with_reducible rfl
  try simp only [Act.put, List.setIfInBounds_toArray, List.set_cons_zero, List.set_cons_succ]
  refine wpAnyH_take (i := 2) (oi := ⟨_, _, _, _, _, _⟩) (v := ?_) rfl (by kernel_rfl) (by kernel_rfl) (by kernel_rfl) (fun _ _ _ h => h) (Or.inl ⟨by rfl, ?_⟩) (by assumption) ?_
  rotate_left 1
  · intro W hSw
    obtain ⟨z0, z1, z2, z3, z4, z5, z6, z7, z8⟩ := op_cells hSw.box
    clear hSw
    go_simp
    try with_reducible rfl
  try simp only [Act.put, List.setIfInBounds_toArray, List.set_cons_zero, List.set_cons_succ]
  refine wpAnyH_ready (rs := [1]) (by kernel_rfl) (by simp) ?_
  refine AllReadyH.cons (o := ⟨_, _, _, _, _, _⟩) rfl (fun F hF => ?_) AllReadyH.nil
  go_simp
  refine (jSum_any B b dv ev ov ds es ps _ hHeld.rep).mono ?_
  rintro e w1 ⟨rfl, hb1⟩
  have HI1 := Lib.hid (hHeld.adv hb1)
  clear hb1 hHeld HI
  go_wp2_with fail
  refine hF.out _ _ HI1.out (fun hHeld => ?_)
  clear hF F
  try simp only [Act.put, List.setIfInBounds_toArray, List.set_cons_zero, List.set_cons_succ]
  refine wpAnyH_ready (rs := [3]) (by kernel_rfl) (by simp) ?_
  refine AllReadyH.cons (o := ⟨_, _, _, _, _, _⟩) rfl (fun F hF => ?_) AllReadyH.nil
  go_simp
  refine (record_any B (sumL ds) o (.slice VA o.val.length vc) _ hHeld.val hHeld.kg HT.out (sumL_lt ds)).mono ?_
  rw [HR.out]
  rintro e w2 ⟨v2, rfl, ho2, hb2⟩
  have HI2 := Lib.hid (hHeld.adv hb2)
  obtain ⟨A2, c2, rfl, _, _⟩ := own_form ho2
  have HO2 := Lib.hid ho2
  have HB2 := Lib.hid hb2
  have HS1 := Lib.hid hHeld.box.lt
  clear hb2 hHeld HI1 ho2
  go_wp2_with fail
  refine hF.out _ _ HI2.out (fun hHeld => ?_)
  clear hF F
  try simp only [Act.put, List.setIfInBounds_toArray, List.set_cons_zero, List.set_cons_succ]
  refine wpAnyH_take (i := 4) (oi := ⟨_, _, _, _, _, _⟩) (v := ?_) rfl (by kernel_rfl) (by kernel_rfl) (by kernel_rfl) (fun _ _ _ h => h) (Or.inl ⟨by rfl, ?_⟩) (by assumption) ?_
  rotate_left 1
  · intro W hSw
    obtain ⟨z0, z1, z2, z3, z4, z5, z6, z7, z8⟩ := op_cells hSw.box
    clear hSw
    go_simp
    try with_reducible rfl
  try simp only [Act.put, List.setIfInBounds_toArray, List.set_cons_zero, List.set_cons_succ]
  refine wpAnyH_done (by kernel_rfl) ?_ _
  refine NoPanic.normal ?_
  have hrp := hHeld.rep
  obtain ⟨DA, dc, hDA, hdc1, _⟩ := own_form hrp.data
  obtain ⟨EA, ec, hEA, hec1, _⟩ := own_form hrp.ends
  obtain ⟨OA, oc, hOA, hoc1, _⟩ := own_form hrp.ops
  subst hDA
  subst hEA
  subst hOA
  have x0 : World.cell? w2 ⟨b, 0, none⟩ = some (.slice DA ds.length dc) := hrp.blk.cell 0 _ rfl
  have x1 : World.cell? w2 ⟨b, 1, none⟩ = some (.slice EA es.length ec) := hrp.blk.cell 1 _ rfl
  have hr0 : 7 ≤ r.length ∧ r.length ≤ 298 := recO_len HR.out
  have hrI : (7 : Int) ≤ (r.length : Int) := by omega
  have hrI2 : (r.length : Int) ≤ 298 := by omega
  have hdm := hrp.dmax
  have hem := hrp.emax
  have hdI : (ds.length : Int) ≤ 1048576 := by omega
  have heI : (es.length : Int) ≤ 4096 := by omega
  have hz : ((r.length : Int) == 0) = false := by
    rw [beq_eq_false_iff_ne]; omega
  clear hrp hdm hem hHeld
  have heI : ¬ (4096 : Int) ≤ (es.length : Int) := by have := HF.out; omega
  have hdI2 : ¬ (1048576 : Int) < (ds.length : Int) + (r.length : Int) := by have := HF.out; omega
  have y3 : w2.cell? ⟨w.heap.size, 3, none⟩ = some (.slice VA o.val.length vc) := HI2.out.box.cell 3 _ rfl
  have yf := HI2.out.box.frozen 3
  go_wp2_with fail
  refine (bytesClone_any B _ o.val w2 HI2.out.val (by have := (recO_small HR.out).2; omega)).mono ?_
  rintro e w3 ⟨v3, rfl, ho3, hb3⟩
  obtain ⟨A3, c3, rfl, _, _⟩ := own_form ho3
  have HI3 := Lib.hid (HI2.out.adv hb3)
  have HO3 := Lib.hid ho3
  have HB3 := Lib.hid hb3
  have y3 : w3.cell? ⟨w.heap.size, 3, none⟩ = some (.slice VA o.val.length vc) := HI3.out.box.cell 3 _ rfl
  have yf := HI3.out.box.frozen 3
  clear ho3 hb3 x0 x1
  go_upto_region 9 with fail
  obtain ⟨w4, hw4⟩ : ∃ w4, w3.setCell ⟨w.heap.size, 3, none⟩ (.slice A3 o.val.length c3) = w4 := ⟨_, rfl⟩
  have hon4 : Only (fun k => k = w.heap.size) w3 w4 := hw4 ▸ Only.set1 _ _ _ _
  have hkb4 : KeepB B 5 w3 w4 := KeepB.of_blk HI3.out.box (by decide) HBs.out hon4
  have hbx4 : Blk w4 w.heap.size 43 (opc o (.slice A3 o.val.length c3)) := by
    have := HI3.out.box.set_ 3 (.slice A3 o.val.length c3)
    rw [hw4] at this
    have e : (opc o (.slice VA o.val.length vc)).setIfInBounds 3 (.slice A3 o.val.length c3) = opc o (.slice A3 o.val.length c3) := by simp [opc]
    rw [e] at this; exact this
  have hrep4 := HI3.out.rep.only hon4 (fun k hk e => by have := (HH.out.toJS.fp_lt hk).2; omega) hkb4
  have hon04 : Only (fun _ => False) w w4 := (Only.of_below HI3.out.below).trans hon4 (fun i hi e => by omega)
  have hval4 : Bts w4 B 5 (.slice A3 o.val.length c3) o.val := (Bts.of_own HO3.out B).keep hkb4
  have hrow4 : w4.ownsRow w2.heap.size 5 1 (.slice A3 o.val.length c3) o.val.length (bcells o.val) := ownsRow_only HO3.out hon4 (fun k hk e => by
    have := (row_heap HO3.out hk).1
    have := HI2.out.box.lt
    omega)
  have hrr4 : w4.ownsRow w1.heap.size 5 1 (.slice A2 r.length c2) r.length (bcells r) := ownsRow_only (own_later HO2.out HB3.out) hon4 (fun k hk e => by
    have := (row_heap HO2.out hk).1
    have := HS1.out
    omega)
  have HRep4 := Lib.hid hrep4
  have HBx4 := Lib.hid hbx4
  have HOn4 := Lib.hid hon04
  have HVal4 := Lib.hid hval4
  have HRow4 := Lib.hid hrow4
  have HRr4 := Lib.hid hrr4
  try rw [hw4]
  clear hw4 hon4 hkb4 hbx4 hrep4 hon04 hval4 hrow4 hrr4 y3 yf heI hdI2
  refine wp_region_noPanic ?_
  refine wp_region_till [17, 20] (fun W => Blk W b 35 #[.slice DA ds.length dc, .slice EA es.length ec, .slice OA ps.length oc]) (fun W => Blk W w.heap.size 43 (opc o (.slice A3 o.val.length c3))) (by kernel_rfl) HBx4.out.drew HRep4.out.blk.drew (fun hTill => ?_)
  refine wpTill.take (i := 0) (o := ⟨_, _, _, _, _, _⟩) (v := ?_) rfl (by kernel_rfl) (by kernel_rfl) (by kernel_rfl) (by kernel_rfl) (fun _ _ _ h => h) (Or.inl ⟨by rfl, ?_⟩) hTill ?_
  rotate_left 1
  · intro W hSw
    skip
    clear hSw
    go_simp
    try with_reducible rfl
  try simp only [Act.put, List.setIfInBounds_toArray, List.set_cons_zero, List.set_cons_succ]
  clear hTill
  intro hTill
  refine wpTill.takeAny (i := 1) (o := ⟨_, _, _, _, _, _⟩) (v := ?_) rfl (by kernel_rfl) (by kernel_rfl) (by kernel_rfl) (by kernel_rfl) (fun _ _ _ h => h) (Or.inl ⟨by rfl, ?_⟩) hTill ?_
  rotate_left 1
  · intro W hSw
    skip
    clear hSw
    go_simp
    try with_reducible rfl
  try simp only [Act.put, List.setIfInBounds_toArray, List.set_cons_zero, List.set_cons_succ]
  clear hTill
  intro hTill
  refine wpTill.take (i := 2) (o := ⟨_, _, _, _, _, _⟩) (v := ?_) rfl (by kernel_rfl) (by kernel_rfl) (by kernel_rfl) (by kernel_rfl) (fun _ _ _ h => h) (Or.inl ⟨by rfl, ?_⟩) hTill ?_
  rotate_left 1
  · intro W hSw
    skip
    clear hSw
    go_simp
    try with_reducible rfl
  try simp only [Act.put, List.setIfInBounds_toArray, List.set_cons_zero, List.set_cons_succ]
  clear hTill
  intro hTill
  refine wpTill.take (i := 3) (o := ⟨_, _, _, _, _, _⟩) (v := ?_) rfl (by kernel_rfl) (by kernel_rfl) (by kernel_rfl) (by kernel_rfl) (fun _ _ _ h => h) (Or.inl ⟨by rfl, ?_⟩) hTill ?_
  rotate_left 1
  · intro W hSw
    skip
    clear hSw
    go_simp
    try with_reducible rfl
  try simp only [Act.put, List.setIfInBounds_toArray, List.set_cons_zero, List.set_cons_succ]
  clear hTill
  intro hTill
  refine wpTill.take (i := 4) (o := ⟨_, _, _, _, _, _⟩) (v := ?_) rfl (by kernel_rfl) (by kernel_rfl) (by kernel_rfl) (by kernel_rfl) (fun _ _ _ h => h) (Or.inl ⟨by rfl, ?_⟩) hTill ?_
  rotate_left 1
  · intro W hSw
    skip
    clear hSw
    go_simp
    try with_reducible rfl
  try simp only [Act.put, List.setIfInBounds_toArray, List.set_cons_zero, List.set_cons_succ]
  clear hTill
  intro hTill
  refine wpTill.take (i := 5) (o := ⟨_, _, _, _, _, _⟩) (v := ?_) rfl (by kernel_rfl) (by kernel_rfl) (by kernel_rfl) (by kernel_rfl) (fun _ _ _ h => h) (Or.inl ⟨by rfl, ?_⟩) hTill ?_
  rotate_left 1
  · intro W hSw
    have x0 : W.cell? ⟨b, 0, none⟩ = some (.slice DA ds.length dc) := hSw.2.cell 0 _ rfl
    clear hSw
    go_simp
    try with_reducible rfl
  try simp only [Act.put, List.setIfInBounds_toArray, List.set_cons_zero, List.set_cons_succ]
  clear hTill
  intro hTill
  refine wpTill.take (i := 6) (o := ⟨_, _, _, _, _, _⟩) (v := ?_) rfl (by kernel_rfl) (by kernel_rfl) (by kernel_rfl) (by kernel_rfl) (fun _ _ _ h => h) (Or.inl ⟨by rfl, ?_⟩) hTill ?_
  rotate_left 1
  · intro W hSw
    skip
    clear hSw
    go_simp
    try with_reducible rfl
  try simp only [Act.put, List.setIfInBounds_toArray, List.set_cons_zero, List.set_cons_succ]
  clear hTill
  intro hTill
  refine wpTill.takeAny (i := 8) (o := ⟨_, _, _, _, _, _⟩) (v := ?_) rfl (by kernel_rfl) (by kernel_rfl) (by kernel_rfl) (by kernel_rfl) (fun _ _ _ h => h) (Or.inl ⟨by rfl, ?_⟩) hTill ?_
  rotate_left 1
  · intro W hSw
    skip
    clear hSw
    go_simp
    try with_reducible rfl
  try simp only [Act.put, List.setIfInBounds_toArray, List.set_cons_zero, List.set_cons_succ]
  clear hTill
  intro hTill
  refine wpTill.takeAny (i := 9) (o := ⟨_, _, _, _, _, _⟩) (v := ?_) rfl (by kernel_rfl) (by kernel_rfl) (by kernel_rfl) (by kernel_rfl) (fun _ _ _ h => h) (Or.inl ⟨by rfl, ?_⟩) hTill ?_
  rotate_left 1
  · intro W hSw
    skip
    clear hSw
    go_simp
    try with_reducible rfl
  try simp only [Act.put, List.setIfInBounds_toArray, List.set_cons_zero, List.set_cons_succ]
  clear hTill
  intro hTill
  refine wpTill.takeAny (i := 10) (o := ⟨_, _, _, _, _, _⟩) (v := ?_) rfl (by kernel_rfl) (by kernel_rfl) (by kernel_rfl) (by kernel_rfl) (fun _ _ _ h => h) (Or.inl ⟨by rfl, ?_⟩) hTill ?_
  rotate_left 1
  · intro W hSw
    skip
    clear hSw
    go_simp
    try with_reducible rfl
  try simp only [Act.put, List.setIfInBounds_toArray, List.set_cons_zero, List.set_cons_succ]
  clear hTill
  intro hTill
  refine wpTill.take (i := 11) (o := ⟨_, _, _, _, _, _⟩) (v := ?_) rfl (by kernel_rfl) (by kernel_rfl) (by kernel_rfl) (by kernel_rfl) (fun _ _ _ h => h) (Or.inl ⟨by rfl, ?_⟩) hTill ?_
  rotate_left 1
  · intro W hSw
    have x2 : W.cell? ⟨b, 2, none⟩ = some (.slice OA ps.length oc) := hSw.2.cell 2 _ rfl
    clear hSw
    go_simp
    try with_reducible rfl
  try simp only [Act.put, List.setIfInBounds_toArray, List.set_cons_zero, List.set_cons_succ]
  clear hTill
  intro hTill
  refine wpTill.takeAny (i := 12) (o := ⟨_, _, _, _, _, _⟩) (v := ?_) rfl (by kernel_rfl) (by kernel_rfl) (by kernel_rfl) (by kernel_rfl) (fun _ _ _ h => h) (Or.inl ⟨by rfl, ?_⟩) hTill ?_
  rotate_left 1
  · intro W hSw
    obtain ⟨z0, z1, z2, z3, z4, z5, z6, z7, z8⟩ := op_cells hSw
    clear hSw
    go_simp
    try with_reducible rfl
  try simp only [Act.put, List.setIfInBounds_toArray, List.set_cons_zero, List.set_cons_succ]
  clear hTill
  intro hTill
  obtain ⟨i0, hi0, hz0, hz1, hz2⟩ := info_parts u8_info
  obtain ⟨j0, kj0, jz0, jz1, jz2⟩ := info_parts op_info
  have hX4 : ApX w w4.drew B b w.heap.size #[.slice DA ds.length dc, .slice EA es.length ec, .slice OA ps.length oc] (.slice DA ds.length dc) (.slice EA es.length ec) (.slice OA ps.length oc) (.slice DA ds.length dc) ds es ps o (.slice A3 o.val.length c3) :=
    ⟨HRep4.out.drew.toJS, HBx4.out.drew, HVal4.out.drew, fun k hk => by
      obtain ⟨h1, cur, h2⟩ := row_heap HRow4.out hk
      have h5 := HI2.out.below.size
      refine ⟨by omega, lt_of_heap h2, fun e => ?_⟩
      have := (HH.out.toJS.fp_lt (.inr (.inl e))).2
      omega, HOn4.out.drew.mono (fun _ _ e => e.elim), fun k hk => .inl hk, Nat.le_refl _, HBs.out⟩
  have HX4 := Lib.hid hX4
  have HSz4 : Hid (B ≤ w4.heap.size) := Lib.hid (Nat.le_trans HBs.out HOn4.out.size)
  have HLr : Hid (ds.length + r.length ≤ 1048576) := Lib.hid (by have := HF.out; omega)
  have HLp : Hid (ps.length ≤ 4096) := Lib.hid (by have := HRep4.out.elen; have := HRep4.out.emax; omega)
  have HSr := Lib.hid (fun ob => ((Bts.of_own HRr4.out B).drew.alloc ob).src_at.2)
  have HSr4 : Hid (Src w4.drew 1 A2 r.length (bcells r)) := Lib.hid (Bts.of_own HRr4.out B).src_at.2
  have HDl : Hid (∀ k, (Value.slice DA ds.length dc).ownBlock = some k → k < w.heap.size) := Lib.hid (fun k hk => (HH.out.toJS.fp_lt (.inr (.inl hk))).2)
  have HOl : Hid (∀ k, (Value.slice OA ps.length oc).ownBlock = some k → k < w.heap.size) := Lib.hid (fun k hk => (HH.out.toJS.fp_lt (.inr (.inr (.inr hk)))).2)
  have HSrc := Lib.hid (fun wx => src_op wx o (.slice A3 o.val.length c3))
  unfold opc at HSrc
  clear hX4
  refine wpTill.two (i := 7) (j := 13) (o := ⟨_, _, _, _, _, _⟩) (o2 := ⟨_, _, _, _, _, _⟩) (by kernel_rfl) rfl rfl (fun F hF => ?_) (fun F hF => ?_)
  · refine step_append_src _ rfl (.tmp 43) (.tmp 44) 22 rfl B 5 i0 _ 1 1 Tryd.underlying22 hi0 hz0 hz1 hz2 rfl (by decide) _ ds.length (bcells ds) rfl HX4.out.js.data A2 r.length c2 (bcells r) rfl HSr4.out (bcells_one _) (by have := HLr.out; unfold maxLen; omega) (by have := HLr.out; omega) HSz4.out ?_
    intro v7 w7 hown7 hg7 hat7
    have HX7 := Lib.hid (HX4.out.data HDl.out hg7 hown7 hat7)
    clear hown7 hg7 hat7
    refine hF.out _ _ (Till.of HX7.out.box HX7.out.js.blk) (fun hTill => ?_)
    clear hF F
    try simp only [Act.put, List.setIfInBounds_toArray, List.set_cons_zero, List.set_cons_succ]
    refine wpTill.only (i := 13) (o := ⟨_, _, _, _, _, _⟩) (by kernel_rfl) rfl (fun F hF => ?_)
    go_simp
    have HX8 := Lib.hid (HX7.out.below ((Below.refl _ w7).alloc (Nat.le_refl _) (.cells (opc o (.slice A3 o.val.length c3)) 43)))
    unfold opc at HX8
    have HSrc8 := Lib.hid (HSrc.out w7)
    refine hF.out _ _ (Till.of HX8.out.box HX8.out.js.blk) (fun hTill => ?_)
    clear hF F
    try simp only [Act.put, List.setIfInBounds_toArray, List.set_cons_zero, List.set_cons_succ]
    refine wpTill.only (i := 14) (o := ⟨_, _, _, _, _, _⟩) (by kernel_rfl) rfl (fun F hF => ?_)
    refine step_append_src _ rfl (.tmp 49) (.tmp 51) 25 rfl B 43 j0 _ 9 96 Tryd.underlying25 kj0 jz0 jz1 jz2 rfl (by decide) _ ps.length (ocs ps) rfl HX8.out.js.ops (some ⟨(w7).heap.size, 0, none⟩) 1 1 (opcs o (.slice A3 o.val.length c3)) rfl HSrc8.out (opcs_one _ _ _ _) (by have := HLp.out; unfold maxLen; omega) (by have := HLp.out; omega) (Nat.le_trans HBs.out HX8.out.only.size) ?_
    intro v9 w9 hown9 hg9 hat9
    have HG9 := Lib.hid hg9
    have HY9 := Lib.hid (HX8.out.ops HT.out hg9 hown9 HOl.out)
    have HFp : Hid (∀ k, jFp b v7 (.slice EA es.length ec) v9 k → jFp b (.slice DA ds.length dc) (.slice EA es.length ec) (.slice OA ps.length oc) k ∨ w.heap.size ≤ k) := Lib.hid (fun k hk => by
      rcases hk with e | e | e | e
      · exact .inl (.inl e)
      · rcases HX8.out.fp k e with h | h
        · exact .inl (.inr (.inl h))
        · exact .inr h
      · exact .inl (.inr (.inr (.inl e)))
      · rcases hat9 with h | h
        · rw [h] at e; exact .inl (.inr (.inr (.inr e)))
        · rw [h] at e; injection e with e; have := HX8.out.only.size; exact .inr (by omega))
    clear hown9 hg9 hat9
    refine hF.out _ _ (Till.of HY9.out.2.1 HY9.out.1.blk) (fun hTill => ?_)
    clear hF F
    try simp only [Act.put, List.setIfInBounds_toArray, List.set_cons_zero, List.set_cons_succ]
    refine wpTill.takeAny (i := 15) (o := ⟨_, _, _, _, _, _⟩) (v := ?_) rfl (by kernel_rfl) (by kernel_rfl) (by kernel_rfl) (by kernel_rfl) (fun _ _ _ h => h) (Or.inl ⟨by rfl, ?_⟩) hTill ?_
    rotate_left 1
    · intro W hSw
      skip
      clear hSw
      go_simp
      try with_reducible rfl
    try simp only [Act.put, List.setIfInBounds_toArray, List.set_cons_zero, List.set_cons_succ]
    clear hTill
    intro hTill
    refine wpTill.takeAny (i := 16) (o := ⟨_, _, _, _, _, _⟩) (v := ?_) rfl (by kernel_rfl) (by kernel_rfl) (by kernel_rfl) (by kernel_rfl) (fun _ _ _ h => h) (Or.inl ⟨by rfl, ?_⟩) hTill ?_
    rotate_left 1
    · intro W hSw
      skip
      clear hSw
      go_simp
      try with_reducible rfl
    try simp only [Act.put, List.setIfInBounds_toArray, List.set_cons_zero, List.set_cons_succ]
    clear hTill
    intro hTill
    have x0 : w9.cell? ⟨b, 0, none⟩ = some (.slice DA ds.length dc) := HY9.out.1.blk.cell 0 _ rfl
    have f0 := HY9.out.1.blk.frozen 0
    obtain ⟨Aw, cw, hvw, _, _⟩ := own_form HY9.out.1.data
    rw [List.length_append] at hvw
    obtain ⟨Av, cv, hvv, _, _⟩ := own_form HY9.out.1.ops
    rw [List.length_append, List.length_singleton] at hvv
    subst hvw
    subst hvv
    refine wpTill.only (i := 17) (o := ⟨_, _, _, _, _, _⟩) (by kernel_rfl) rfl (fun F hF => ?_)
    go_simp
    have HJ10 := Lib.hid (HY9.out.1.store 0 (.slice Aw (ds.length + r.length) cw))
    have HBx10 := Lib.hid (HY9.out.2.1.far (p := ⟨b, 0, none⟩) (show w.heap.size ≠ b from fun e => by have := HH.out.blk.lt; omega) (.slice Aw (ds.length + r.length) cw))
    have HO10 : Hid (Only (jFp b (.slice DA ds.length dc) (.slice EA es.length ec) (.slice OA ps.length oc)) w (w9.setCell ⟨b, 0, none⟩ (.slice Aw (ds.length + r.length) cw))) := Lib.hid (HY9.out.2.2.setCell (p := ⟨b, 0, none⟩) (.inl (.inl rfl)) _)
    refine hF.out _ _ (Till.stored HBx10.out (by kernel_rfl)) (fun hTill => ?_)
    clear hF F x0 f0
    try simp only [Act.put, List.setIfInBounds_toArray, List.set_cons_zero, List.set_cons_succ]
    obtain ⟨w10, hw10⟩ : ∃ w10, w9.setCell ⟨b, 0, none⟩ (.slice Aw (ds.length + r.length) cw) = w10 := ⟨_, rfl⟩
    rw [hw10] at HJ10 HBx10 HO10 hTill ⊢
    clear hw10
    refine wpTill.takeAny (i := 18) (o := ⟨_, _, _, _, _, _⟩) (v := ?_) rfl (by kernel_rfl) (by kernel_rfl) (by kernel_rfl) (by kernel_rfl) (fun _ _ _ h => h) (Or.inl ⟨by rfl, ?_⟩) hTill ?_
    rotate_left 1
    · intro W hSw
      skip
      clear hSw
      go_simp
      try with_reducible rfl
    try simp only [Act.put, List.setIfInBounds_toArray, List.set_cons_zero, List.set_cons_succ]
    clear hTill
    intro hTill
    refine wpTill.takeAny (i := 19) (o := ⟨_, _, _, _, _, _⟩) (v := ?_) rfl (by kernel_rfl) (by kernel_rfl) (by kernel_rfl) (by kernel_rfl) (fun _ _ _ h => h) (Or.inl ⟨by rfl, ?_⟩) hTill ?_
    rotate_left 1
    · intro W hSw
      skip
      clear hSw
      go_simp
      try with_reducible rfl
    try simp only [Act.put, List.setIfInBounds_toArray, List.set_cons_zero, List.set_cons_succ]
    clear hTill
    intro hTill
    have x2 : w10.cell? ⟨b, 2, none⟩ = some (.slice OA ps.length oc) := HJ10.out.blk.cell 2 _ rfl
    have f2 := HJ10.out.blk.frozen 2
    refine wpTill.only (i := 20) (o := ⟨_, _, _, _, _, _⟩) (by kernel_rfl) rfl (fun F hF => ?_)
    go_simp
    have HJ11 := Lib.hid (HJ10.out.store 2 (.slice Av (ps.length + 1) cv))
    have HBx11 := Lib.hid (HBx10.out.far (p := ⟨b, 2, none⟩) (show w.heap.size ≠ b from fun e => by have := HH.out.blk.lt; omega) (.slice Av (ps.length + 1) cv))
    have HO11 : Hid (Only (jFp b (.slice DA ds.length dc) (.slice EA es.length ec) (.slice OA ps.length oc)) w (w10.setCell ⟨b, 2, none⟩ (.slice Av (ps.length + 1) cv))) := Lib.hid (HO10.out.setCell (p := ⟨b, 2, none⟩) (.inl (.inl rfl)) _)
    refine hF.out _ _ (Till.stored HBx11.out (by kernel_rfl)) (fun hTill => ?_)
    clear hF F x2 f2
    try simp only [Act.put, List.setIfInBounds_toArray, List.set_cons_zero, List.set_cons_succ]
    refine wpTill.done (by kernel_rfl) ?_
    try refine NoPanic.normal ?_
    obtain ⟨w11, hw11⟩ : ∃ w11, w10.setCell ⟨b, 2, none⟩ (.slice Av (ps.length + 1) cv) = w11 := ⟨_, rfl⟩
    rw [hw11] at HJ11 HO11 ⊢
    clear hw11 hTill HBx11 HBx10 HJ10 HO10 HY9 HX8 HSrc8 HG9
    go_upto_region 10 with fail
    obtain ⟨k0, hk0, lz0, lz1, lz2⟩ := info_parts int_info
    refine wp_region_noPanic ?_
    refine wp_region_till [14] (fun W => Blk W b 35 #[.slice Aw (ds.length + r.length) cw, .slice EA es.length ec, .slice Av (ps.length + 1) cv]) (fun _ => True) (by kernel_rfl) trivial HJ11.out.blk.drew (fun hTill => ?_)
    refine wpTill.take (i := 0) (o := ⟨_, _, _, _, _, _⟩) (v := ?_) rfl (by kernel_rfl) (by kernel_rfl) (by kernel_rfl) (by kernel_rfl) (fun _ _ _ h => h) (Or.inl ⟨by rfl, ?_⟩) hTill ?_
    rotate_left 1
    · intro W hSw
      skip
      clear hSw
      go_simp
      try with_reducible rfl
    try simp only [Act.put, List.setIfInBounds_toArray, List.set_cons_zero, List.set_cons_succ]
    clear hTill
    intro hTill
    refine wpTill.take (i := 1) (o := ⟨_, _, _, _, _, _⟩) (v := ?_) rfl (by kernel_rfl) (by kernel_rfl) (by kernel_rfl) (by kernel_rfl) (fun _ _ _ h => h) (Or.inl ⟨by rfl, ?_⟩) hTill ?_
    rotate_left 1
    · intro W hSw
      skip
      clear hSw
      go_simp
      try with_reducible rfl
    try simp only [Act.put, List.setIfInBounds_toArray, List.set_cons_zero, List.set_cons_succ]
    clear hTill
    intro hTill
    refine wpTill.take (i := 2) (o := ⟨_, _, _, _, _, _⟩) (v := ?_) rfl (by kernel_rfl) (by kernel_rfl) (by kernel_rfl) (by kernel_rfl) (fun _ _ _ h => h) (Or.inl ⟨by rfl, ?_⟩) hTill ?_
    rotate_left 1
    · intro W hSw
      skip
      clear hSw
      go_simp
      try with_reducible rfl
    try simp only [Act.put, List.setIfInBounds_toArray, List.set_cons_zero, List.set_cons_succ]
    clear hTill
    intro hTill
    refine wpTill.take (i := 3) (o := ⟨_, _, _, _, _, _⟩) (v := ?_) rfl (by kernel_rfl) (by kernel_rfl) (by kernel_rfl) (by kernel_rfl) (fun _ _ _ h => h) (Or.inl ⟨by rfl, ?_⟩) hTill ?_
    rotate_left 1
    · intro W hSw
      skip
      clear hSw
      go_simp
      try with_reducible rfl
    try simp only [Act.put, List.setIfInBounds_toArray, List.set_cons_zero, List.set_cons_succ]
    clear hTill
    intro hTill
    refine wpTill.take (i := 4) (o := ⟨_, _, _, _, _, _⟩) (v := ?_) rfl (by kernel_rfl) (by kernel_rfl) (by kernel_rfl) (by kernel_rfl) (fun _ _ _ h => h) (Or.inl ⟨by rfl, ?_⟩) hTill ?_
    rotate_left 1
    · intro W hSw
      have x1 : W.cell? ⟨b, 1, none⟩ = some (.slice EA es.length ec) := hSw.2.cell 1 _ rfl
      clear hSw
      go_simp
      try with_reducible rfl
    try simp only [Act.put, List.setIfInBounds_toArray, List.set_cons_zero, List.set_cons_succ]
    clear hTill
    intro hTill
    refine wpTill.take (i := 5) (o := ⟨_, _, _, _, _, _⟩) (v := ?_) rfl (by kernel_rfl) (by kernel_rfl) (by kernel_rfl) (by kernel_rfl) (fun _ _ _ h => h) (Or.inl ⟨by rfl, ?_⟩) hTill ?_
    rotate_left 1
    · intro W hSw
      skip
      clear hSw
      go_simp
      try with_reducible rfl
    try simp only [Act.put, List.setIfInBounds_toArray, List.set_cons_zero, List.set_cons_succ]
    clear hTill
    intro hTill
    refine wpTill.take (i := 6) (o := ⟨_, _, _, _, _, _⟩) (v := ?_) rfl (by kernel_rfl) (by kernel_rfl) (by kernel_rfl) (by kernel_rfl) (fun _ _ _ h => h) (Or.inl ⟨by rfl, ?_⟩) hTill ?_
    rotate_left 1
    · intro W hSw
      skip
      clear hSw
      go_simp
      try with_reducible rfl
    try simp only [Act.put, List.setIfInBounds_toArray, List.set_cons_zero, List.set_cons_succ]
    clear hTill
    intro hTill
    refine wpTill.take (i := 7) (o := ⟨_, _, _, _, _, _⟩) (v := ?_) rfl (by kernel_rfl) (by kernel_rfl) (by kernel_rfl) (by kernel_rfl) (fun _ _ _ h => h) (Or.inl ⟨by rfl, ?_⟩) hTill ?_
    rotate_left 1
    · intro W hSw
      skip
      clear hSw
      go_simp
      try with_reducible rfl
    try simp only [Act.put, List.setIfInBounds_toArray, List.set_cons_zero, List.set_cons_succ]
    clear hTill
    intro hTill
    refine wpTill.take (i := 8) (o := ⟨_, _, _, _, _, _⟩) (v := ?_) rfl (by kernel_rfl) (by kernel_rfl) (by kernel_rfl) (by kernel_rfl) (fun _ _ _ h => h) (Or.inl ⟨by rfl, ?_⟩) hTill ?_
    rotate_left 1
    · intro W hSw
      have x0 : W.cell? ⟨b, 0, none⟩ = some (.slice Aw (ds.length + r.length) cw) := hSw.2.cell 0 _ rfl
      clear hSw
      go_simp
      try with_reducible rfl
    try simp only [Act.put, List.setIfInBounds_toArray, List.set_cons_zero, List.set_cons_succ]
    clear hTill
    intro hTill
    refine wpTill.take (i := 9) (o := ⟨_, _, _, _, _, _⟩) (v := ?_) rfl (by kernel_rfl) (by kernel_rfl) (by kernel_rfl) (by kernel_rfl) (fun _ _ _ h => h) (Or.inl ⟨by rfl, ?_⟩) hTill ?_
    rotate_left 1
    · intro W hSw
      skip
      clear hSw
      go_simp
      try with_reducible rfl
    try simp only [Act.put, List.setIfInBounds_toArray, List.set_cons_zero, List.set_cons_succ]
    clear hTill
    intro hTill
    refine wpTill.only (i := 10) (o := ⟨_, _, _, _, _, _⟩) (by kernel_rfl) rfl (fun F hF => ?_)
    go_simp
    have hb12 : Below w11.heap.size w11 (w11.alloc (.cells #[.int .i64 ((ds.length : Int) + (r.length : Int))] 3)).drew := ((Below.refl _ _).alloc (Nat.le_refl _) _).drew
    have HJ12 := Lib.hid (HJ11.out.below hb12)
    have HO12 : Hid (Only (jFp b (.slice DA ds.length dc) (.slice EA es.length ec) (.slice OA ps.length oc)) w (w11.alloc (.cells #[.int .i64 ((ds.length : Int) + (r.length : Int))] 3)).drew) := Lib.hid (HO11.out.trans (Only.of_below (S := jFp b (.slice DA ds.length dc) (.slice EA es.length ec) (.slice OA ps.length oc)) hb12) (fun _ _ h => h))
    have HC12 := Lib.hid (src_cell w11 3 (.int .i64 ((ds.length : Int) + (r.length : Int))))
    refine hF.out _ _ (Till.of trivial HJ12.out.blk) (fun hTill => ?_)
    clear hF F hb12
    try simp only [Act.put, List.setIfInBounds_toArray, List.set_cons_zero, List.set_cons_succ]
    refine wpTill.only (i := 11) (o := ⟨_, _, _, _, _, _⟩) (by kernel_rfl) rfl (fun F hF => ?_)
    refine step_append_src _ rfl (.tmp 61) (.tmp 67) 29 rfl B 3 k0 _ 1 8 Tryd.underlying29 hk0 lz0 lz1 lz2 rfl (by decide) _ es.length (ncs es) rfl HJ12.out.ends (some ⟨w11.heap.size, 0, none⟩) 1 1 [.int .i64 ((ds.length : Int) + (r.length : Int))] rfl HC12.out (int_one _) (by have := HF.out; unfold maxLen; omega) (by have := HF.out; omega) (Nat.le_trans HBs.out HO12.out.size) ?_
    intro v13 w13 hown13 hg13 hat13
    have hown13' : w13.ownsRow B 3 1 v13 (es.length + 1) (ncs es ++ [.int .i64 ((ds.length + r.length : Nat) : Int)]) := by
      rw [show ((ds.length + r.length : Nat) : Int) = (ds.length : Int) + (r.length : Int) by push_cast; rfl]; exact hown13
    have HG13 := Lib.hid hg13
    have HJ13 := Lib.hid (HJ12.out.growEnds HG13.out hown13')
    have HO13 : Hid (Only (jFp b (.slice DA ds.length dc) (.slice EA es.length ec) (.slice OA ps.length oc)) w w13) := Lib.hid (HO12.out.trans (Only.of_grown HG13.out) (fun _ _ e => .inr (.inr (.inl e))))
    have HFp13 : Hid (∀ k, jFp b (.slice Aw (ds.length + r.length) cw) v13 (.slice Av (ps.length + 1) cv) k → jFp b (.slice DA ds.length dc) (.slice EA es.length ec) (.slice OA ps.length oc) k ∨ w.heap.size ≤ k) := Lib.hid (fun k hk => by
      rcases hk with e | e | e | e
      · exact HFp.out k (.inl e)
      · exact HFp.out k (.inr (.inl e))
      · rcases hat13 with h | h
        · rw [h] at e; exact .inl (.inr (.inr (.inl e)))
        · rw [h] at e; injection e with e; have := HO12.out.size; exact .inr (by rw [← e]; exact this)
      · exact HFp.out k (.inr (.inr (.inr e))))
    obtain ⟨Ae, ce, hve, _, _⟩ := own_form hown13
    clear hown13 hown13' hg13 hat13
    refine hF.out _ _ (Till.of trivial HJ13.out.blk) (fun hTill => ?_)
    clear hF F
    try simp only [Act.put, List.setIfInBounds_toArray, List.set_cons_zero, List.set_cons_succ]
    refine wpTill.takeAny (i := 12) (o := ⟨_, _, _, _, _, _⟩) (v := ?_) rfl (by kernel_rfl) (by kernel_rfl) (by kernel_rfl) (by kernel_rfl) (fun _ _ _ h => h) (Or.inl ⟨by rfl, ?_⟩) hTill ?_
    rotate_left 1
    · intro W hSw
      skip
      clear hSw
      go_simp
      try with_reducible rfl
    try simp only [Act.put, List.setIfInBounds_toArray, List.set_cons_zero, List.set_cons_succ]
    clear hTill
    intro hTill
    refine wpTill.takeAny (i := 13) (o := ⟨_, _, _, _, _, _⟩) (v := ?_) rfl (by kernel_rfl) (by kernel_rfl) (by kernel_rfl) (by kernel_rfl) (fun _ _ _ h => h) (Or.inl ⟨by rfl, ?_⟩) hTill ?_
    rotate_left 1
    · intro W hSw
      skip
      clear hSw
      go_simp
      try with_reducible rfl
    try simp only [Act.put, List.setIfInBounds_toArray, List.set_cons_zero, List.set_cons_succ]
    clear hTill
    intro hTill
    subst hve
    have x1 : w13.cell? ⟨b, 1, none⟩ = some (.slice EA es.length ec) := HJ13.out.blk.cell 1 _ rfl
    have f1 := HJ13.out.blk.frozen 1
    refine wpTill.only (i := 14) (o := ⟨_, _, _, _, _, _⟩) (by kernel_rfl) rfl (fun F hF => ?_)
    go_simp
    have HJ14 := Lib.hid (HJ13.out.store 1 (.slice Ae (es.length + 1) ce))
    have HO14 : Hid (Only (jFp b (.slice DA ds.length dc) (.slice EA es.length ec) (.slice OA ps.length oc)) w (w13.setCell ⟨b, 1, none⟩ (.slice Ae (es.length + 1) ce))) := Lib.hid (HO13.out.setCell (p := ⟨b, 1, none⟩) (.inl (.inl rfl)) _)
    refine hF.out _ _ (Till.stored trivial (by kernel_rfl)) (fun hTill => ?_)
    clear hF F x1 f1
    try simp only [Act.put, List.setIfInBounds_toArray, List.set_cons_zero, List.set_cons_succ]
    refine wpTill.done (by kernel_rfl) ?_
    try refine NoPanic.normal ?_
    go_wp2_with fail
    go_ret
    refine ⟨rfl, _, _, _, _, ⟨HJ14.out, ?_, ?_, ?_, ?_⟩, HO14.out, HFp13.out, fun k hk => (HX4.out.hx k hk).1⟩
    · have := hr0; rw [List.length_append]; omega
    · have := HLr.out; rw [List.length_append]; exact this
    · have := HRep4.out.elen; simp [this]
    · have := HF.out; rw [List.length_append, List.length_singleton]; omega
  · go_simp
    have HX5 : Hid (ApX w (w4.alloc (.cells (opc o (.slice A3 o.val.length c3)) 43)).drew B b w.heap.size #[.slice DA ds.length dc, .slice EA es.length ec, .slice OA ps.length oc] (.slice DA ds.length dc) (.slice EA es.length ec) (.slice OA ps.length oc) (.slice DA ds.length dc) ds es ps o (.slice A3 o.val.length c3)) := Lib.hid (HX4.out.below ((Below.refl _ w4.drew).alloc (Nat.le_refl _) (.cells (opc o (.slice A3 o.val.length c3)) 43)))
    have HN5 : Hid (Blk (w4.alloc (.cells (opc o (.slice A3 o.val.length c3)) 43)).drew w4.heap.size 43 (opc o (.slice A3 o.val.length c3))) := Lib.hid (Blk.new w4 _ _).drew
    have HSr5 : Hid (Src (w4.alloc (.cells (opc o (.slice A3 o.val.length c3)) 43)).drew 1 A2 r.length (bcells r)) := Lib.hid (((Bts.of_own HRr4.out B).alloc _).drew).src_at.2
    have HSz5 : Hid (B ≤ (w4.alloc (.cells (opc o (.slice A3 o.val.length c3)) 43)).drew.heap.size) := Lib.hid (Nat.le_trans HBs.out HX5.out.only.size)
    unfold opc at HX5 HN5 HSr5 HSz5
    refine hF.out _ _ (Till.of HX5.out.box HX5.out.js.blk) (fun hTill => ?_)
    clear hF F
    try simp only [Act.put, List.setIfInBounds_toArray, List.set_cons_zero, List.set_cons_succ]
    refine wpTill.only (i := 7) (o := ⟨_, _, _, _, _, _⟩) (by kernel_rfl) rfl (fun F hF => ?_)
    refine step_append_src _ rfl (.tmp 43) (.tmp 44) 22 rfl B 5 i0 _ 1 1 Tryd.underlying22 hi0 hz0 hz1 hz2 rfl (by decide) _ ds.length (bcells ds) rfl HX5.out.js.data A2 r.length c2 (bcells r) rfl HSr5.out (bcells_one _) (by have := HLr.out; unfold maxLen; omega) (by have := HLr.out; omega) HSz5.out ?_
    intro v7 w7 hown7 hg7 hat7
    have HX8 := Lib.hid (HX5.out.data HDl.out hg7 hown7 hat7)
    have hn7 := HN5.out.only (Only.of_grown hg7) (blk_differs HN5.out HX5.out.js.data (by decide))
    have HSrc8 := Lib.hid (src_blk (o := o) (V := .slice A3 o.val.length c3) hn7)
    clear hown7 hg7 hat7 hn7
    refine hF.out _ _ (Till.of HX8.out.box HX8.out.js.blk) (fun hTill => ?_)
    clear hF F
    try simp only [Act.put, List.setIfInBounds_toArray, List.set_cons_zero, List.set_cons_succ]
    refine wpTill.only (i := 14) (o := ⟨_, _, _, _, _, _⟩) (by kernel_rfl) rfl (fun F hF => ?_)
    refine step_append_src _ rfl (.tmp 49) (.tmp 51) 25 rfl B 43 j0 _ 9 96 Tryd.underlying25 kj0 jz0 jz1 jz2 rfl (by decide) _ ps.length (ocs ps) rfl HX8.out.js.ops (some ⟨(w4).heap.size, 0, none⟩) 1 1 (opcs o (.slice A3 o.val.length c3)) rfl HSrc8.out (opcs_one _ _ _ _) (by have := HLp.out; unfold maxLen; omega) (by have := HLp.out; omega) (Nat.le_trans HBs.out HX8.out.only.size) ?_
    intro v9 w9 hown9 hg9 hat9
    have HG9 := Lib.hid hg9
    have HY9 := Lib.hid (HX8.out.ops HT.out hg9 hown9 HOl.out)
    have HFp : Hid (∀ k, jFp b v7 (.slice EA es.length ec) v9 k → jFp b (.slice DA ds.length dc) (.slice EA es.length ec) (.slice OA ps.length oc) k ∨ w.heap.size ≤ k) := Lib.hid (fun k hk => by
      rcases hk with e | e | e | e
      · exact .inl (.inl e)
      · rcases HX8.out.fp k e with h | h
        · exact .inl (.inr (.inl h))
        · exact .inr h
      · exact .inl (.inr (.inr (.inl e)))
      · rcases hat9 with h | h
        · rw [h] at e; exact .inl (.inr (.inr (.inr e)))
        · rw [h] at e; injection e with e; have := HX8.out.only.size; exact .inr (by omega))
    clear hown9 hg9 hat9
    refine hF.out _ _ (Till.of HY9.out.2.1 HY9.out.1.blk) (fun hTill => ?_)
    clear hF F
    try simp only [Act.put, List.setIfInBounds_toArray, List.set_cons_zero, List.set_cons_succ]
    refine wpTill.takeAny (i := 15) (o := ⟨_, _, _, _, _, _⟩) (v := ?_) rfl (by kernel_rfl) (by kernel_rfl) (by kernel_rfl) (by kernel_rfl) (fun _ _ _ h => h) (Or.inl ⟨by rfl, ?_⟩) hTill ?_
    rotate_left 1
    · intro W hSw
      skip
      clear hSw
      go_simp
      try with_reducible rfl
    try simp only [Act.put, List.setIfInBounds_toArray, List.set_cons_zero, List.set_cons_succ]
    clear hTill
    intro hTill
    refine wpTill.takeAny (i := 16) (o := ⟨_, _, _, _, _, _⟩) (v := ?_) rfl (by kernel_rfl) (by kernel_rfl) (by kernel_rfl) (by kernel_rfl) (fun _ _ _ h => h) (Or.inl ⟨by rfl, ?_⟩) hTill ?_
    rotate_left 1
    · intro W hSw
      skip
      clear hSw
      go_simp
      try with_reducible rfl
    try simp only [Act.put, List.setIfInBounds_toArray, List.set_cons_zero, List.set_cons_succ]
    clear hTill
    intro hTill
    have x0 : w9.cell? ⟨b, 0, none⟩ = some (.slice DA ds.length dc) := HY9.out.1.blk.cell 0 _ rfl
    have f0 := HY9.out.1.blk.frozen 0
    obtain ⟨Aw, cw, hvw, _, _⟩ := own_form HY9.out.1.data
    rw [List.length_append] at hvw
    obtain ⟨Av, cv, hvv, _, _⟩ := own_form HY9.out.1.ops
    rw [List.length_append, List.length_singleton] at hvv
    subst hvw
    subst hvv
    refine wpTill.only (i := 17) (o := ⟨_, _, _, _, _, _⟩) (by kernel_rfl) rfl (fun F hF => ?_)
    go_simp
    have HJ10 := Lib.hid (HY9.out.1.store 0 (.slice Aw (ds.length + r.length) cw))
    have HBx10 := Lib.hid (HY9.out.2.1.far (p := ⟨b, 0, none⟩) (show w.heap.size ≠ b from fun e => by have := HH.out.blk.lt; omega) (.slice Aw (ds.length + r.length) cw))
    have HO10 : Hid (Only (jFp b (.slice DA ds.length dc) (.slice EA es.length ec) (.slice OA ps.length oc)) w (w9.setCell ⟨b, 0, none⟩ (.slice Aw (ds.length + r.length) cw))) := Lib.hid (HY9.out.2.2.setCell (p := ⟨b, 0, none⟩) (.inl (.inl rfl)) _)
    refine hF.out _ _ (Till.stored HBx10.out (by kernel_rfl)) (fun hTill => ?_)
    clear hF F x0 f0
    try simp only [Act.put, List.setIfInBounds_toArray, List.set_cons_zero, List.set_cons_succ]
    obtain ⟨w10, hw10⟩ : ∃ w10, w9.setCell ⟨b, 0, none⟩ (.slice Aw (ds.length + r.length) cw) = w10 := ⟨_, rfl⟩
    rw [hw10] at HJ10 HBx10 HO10 hTill ⊢
    clear hw10
    refine wpTill.takeAny (i := 18) (o := ⟨_, _, _, _, _, _⟩) (v := ?_) rfl (by kernel_rfl) (by kernel_rfl) (by kernel_rfl) (by kernel_rfl) (fun _ _ _ h => h) (Or.inl ⟨by rfl, ?_⟩) hTill ?_
    rotate_left 1
    · intro W hSw
      skip
      clear hSw
      go_simp
      try with_reducible rfl
    try simp only [Act.put, List.setIfInBounds_toArray, List.set_cons_zero, List.set_cons_succ]
    clear hTill
    intro hTill
    refine wpTill.takeAny (i := 19) (o := ⟨_, _, _, _, _, _⟩) (v := ?_) rfl (by kernel_rfl) (by kernel_rfl) (by kernel_rfl) (by kernel_rfl) (fun _ _ _ h => h) (Or.inl ⟨by rfl, ?_⟩) hTill ?_
    rotate_left 1
    · intro W hSw
      skip
      clear hSw
      go_simp
      try with_reducible rfl
    try simp only [Act.put, List.setIfInBounds_toArray, List.set_cons_zero, List.set_cons_succ]
    clear hTill
    intro hTill
    have x2 : w10.cell? ⟨b, 2, none⟩ = some (.slice OA ps.length oc) := HJ10.out.blk.cell 2 _ rfl
    have f2 := HJ10.out.blk.frozen 2
    refine wpTill.only (i := 20) (o := ⟨_, _, _, _, _, _⟩) (by kernel_rfl) rfl (fun F hF => ?_)
    go_simp
    have HJ11 := Lib.hid (HJ10.out.store 2 (.slice Av (ps.length + 1) cv))
    have HBx11 := Lib.hid (HBx10.out.far (p := ⟨b, 2, none⟩) (show w.heap.size ≠ b from fun e => by have := HH.out.blk.lt; omega) (.slice Av (ps.length + 1) cv))
    have HO11 : Hid (Only (jFp b (.slice DA ds.length dc) (.slice EA es.length ec) (.slice OA ps.length oc)) w (w10.setCell ⟨b, 2, none⟩ (.slice Av (ps.length + 1) cv))) := Lib.hid (HO10.out.setCell (p := ⟨b, 2, none⟩) (.inl (.inl rfl)) _)
    refine hF.out _ _ (Till.stored HBx11.out (by kernel_rfl)) (fun hTill => ?_)
    clear hF F x2 f2
    try simp only [Act.put, List.setIfInBounds_toArray, List.set_cons_zero, List.set_cons_succ]
    refine wpTill.done (by kernel_rfl) ?_
    try refine NoPanic.normal ?_
    obtain ⟨w11, hw11⟩ : ∃ w11, w10.setCell ⟨b, 2, none⟩ (.slice Av (ps.length + 1) cv) = w11 := ⟨_, rfl⟩
    rw [hw11] at HJ11 HO11 ⊢
    clear hw11 hTill HBx11 HBx10 HJ10 HO10 HY9 HX8 HSrc8 HG9
    go_upto_region 10 with fail
    obtain ⟨k0, hk0, lz0, lz1, lz2⟩ := info_parts int_info
    refine wp_region_noPanic ?_
    refine wp_region_till [14] (fun W => Blk W b 35 #[.slice Aw (ds.length + r.length) cw, .slice EA es.length ec, .slice Av (ps.length + 1) cv]) (fun _ => True) (by kernel_rfl) trivial HJ11.out.blk.drew (fun hTill => ?_)
    refine wpTill.take (i := 0) (o := ⟨_, _, _, _, _, _⟩) (v := ?_) rfl (by kernel_rfl) (by kernel_rfl) (by kernel_rfl) (by kernel_rfl) (fun _ _ _ h => h) (Or.inl ⟨by rfl, ?_⟩) hTill ?_
    rotate_left 1
    · intro W hSw
      skip
      clear hSw
      go_simp
      try with_reducible rfl
    try simp only [Act.put, List.setIfInBounds_toArray, List.set_cons_zero, List.set_cons_succ]
    clear hTill
    intro hTill
    refine wpTill.take (i := 1) (o := ⟨_, _, _, _, _, _⟩) (v := ?_) rfl (by kernel_rfl) (by kernel_rfl) (by kernel_rfl) (by kernel_rfl) (fun _ _ _ h => h) (Or.inl ⟨by rfl, ?_⟩) hTill ?_
    rotate_left 1
    · intro W hSw
      skip
      clear hSw
      go_simp
      try with_reducible rfl
    try simp only [Act.put, List.setIfInBounds_toArray, List.set_cons_zero, List.set_cons_succ]
    clear hTill
    intro hTill
    refine wpTill.take (i := 2) (o := ⟨_, _, _, _, _, _⟩) (v := ?_) rfl (by kernel_rfl) (by kernel_rfl) (by kernel_rfl) (by kernel_rfl) (fun _ _ _ h => h) (Or.inl ⟨by rfl, ?_⟩) hTill ?_
    rotate_left 1
    · intro W hSw
      skip
      clear hSw
      go_simp
      try with_reducible rfl
    try simp only [Act.put, List.setIfInBounds_toArray, List.set_cons_zero, List.set_cons_succ]
    clear hTill
    intro hTill
    refine wpTill.take (i := 3) (o := ⟨_, _, _, _, _, _⟩) (v := ?_) rfl (by kernel_rfl) (by kernel_rfl) (by kernel_rfl) (by kernel_rfl) (fun _ _ _ h => h) (Or.inl ⟨by rfl, ?_⟩) hTill ?_
    rotate_left 1
    · intro W hSw
      skip
      clear hSw
      go_simp
      try with_reducible rfl
    try simp only [Act.put, List.setIfInBounds_toArray, List.set_cons_zero, List.set_cons_succ]
    clear hTill
    intro hTill
    refine wpTill.take (i := 4) (o := ⟨_, _, _, _, _, _⟩) (v := ?_) rfl (by kernel_rfl) (by kernel_rfl) (by kernel_rfl) (by kernel_rfl) (fun _ _ _ h => h) (Or.inl ⟨by rfl, ?_⟩) hTill ?_
    rotate_left 1
    · intro W hSw
      have x1 : W.cell? ⟨b, 1, none⟩ = some (.slice EA es.length ec) := hSw.2.cell 1 _ rfl
      clear hSw
      go_simp
      try with_reducible rfl
    try simp only [Act.put, List.setIfInBounds_toArray, List.set_cons_zero, List.set_cons_succ]
    clear hTill
    intro hTill
    refine wpTill.take (i := 5) (o := ⟨_, _, _, _, _, _⟩) (v := ?_) rfl (by kernel_rfl) (by kernel_rfl) (by kernel_rfl) (by kernel_rfl) (fun _ _ _ h => h) (Or.inl ⟨by rfl, ?_⟩) hTill ?_
    rotate_left 1
    · intro W hSw
      skip
      clear hSw
      go_simp
      try with_reducible rfl
    try simp only [Act.put, List.setIfInBounds_toArray, List.set_cons_zero, List.set_cons_succ]
    clear hTill
    intro hTill
    refine wpTill.take (i := 6) (o := ⟨_, _, _, _, _, _⟩) (v := ?_) rfl (by kernel_rfl) (by kernel_rfl) (by kernel_rfl) (by kernel_rfl) (fun _ _ _ h => h) (Or.inl ⟨by rfl, ?_⟩) hTill ?_
    rotate_left 1
    · intro W hSw
      skip
      clear hSw
      go_simp
      try with_reducible rfl
    try simp only [Act.put, List.setIfInBounds_toArray, List.set_cons_zero, List.set_cons_succ]
    clear hTill
    intro hTill
    refine wpTill.take (i := 7) (o := ⟨_, _, _, _, _, _⟩) (v := ?_) rfl (by kernel_rfl) (by kernel_rfl) (by kernel_rfl) (by kernel_rfl) (fun _ _ _ h => h) (Or.inl ⟨by rfl, ?_⟩) hTill ?_
    rotate_left 1
    · intro W hSw
      skip
      clear hSw
      go_simp
      try with_reducible rfl
    try simp only [Act.put, List.setIfInBounds_toArray, List.set_cons_zero, List.set_cons_succ]
    clear hTill
    intro hTill
    refine wpTill.take (i := 8) (o := ⟨_, _, _, _, _, _⟩) (v := ?_) rfl (by kernel_rfl) (by kernel_rfl) (by kernel_rfl) (by kernel_rfl) (fun _ _ _ h => h) (Or.inl ⟨by rfl, ?_⟩) hTill ?_
    rotate_left 1
    · intro W hSw
      have x0 : W.cell? ⟨b, 0, none⟩ = some (.slice Aw (ds.length + r.length) cw) := hSw.2.cell 0 _ rfl
      clear hSw
      go_simp
      try with_reducible rfl
    try simp only [Act.put, List.setIfInBounds_toArray, List.set_cons_zero, List.set_cons_succ]
    clear hTill
    intro hTill
    refine wpTill.take (i := 9) (o := ⟨_, _, _, _, _, _⟩) (v := ?_) rfl (by kernel_rfl) (by kernel_rfl) (by kernel_rfl) (by kernel_rfl) (fun _ _ _ h => h) (Or.inl ⟨by rfl, ?_⟩) hTill ?_
    rotate_left 1
    · intro W hSw
      skip
      clear hSw
      go_simp
      try with_reducible rfl
    try simp only [Act.put, List.setIfInBounds_toArray, List.set_cons_zero, List.set_cons_succ]
    clear hTill
    intro hTill
    refine wpTill.only (i := 10) (o := ⟨_, _, _, _, _, _⟩) (by kernel_rfl) rfl (fun F hF => ?_)
    go_simp
    have hb12 : Below w11.heap.size w11 (w11.alloc (.cells #[.int .i64 ((ds.length : Int) + (r.length : Int))] 3)).drew := ((Below.refl _ _).alloc (Nat.le_refl _) _).drew
    have HJ12 := Lib.hid (HJ11.out.below hb12)
    have HO12 : Hid (Only (jFp b (.slice DA ds.length dc) (.slice EA es.length ec) (.slice OA ps.length oc)) w (w11.alloc (.cells #[.int .i64 ((ds.length : Int) + (r.length : Int))] 3)).drew) := Lib.hid (HO11.out.trans (Only.of_below (S := jFp b (.slice DA ds.length dc) (.slice EA es.length ec) (.slice OA ps.length oc)) hb12) (fun _ _ h => h))
    have HC12 := Lib.hid (src_cell w11 3 (.int .i64 ((ds.length : Int) + (r.length : Int))))
    refine hF.out _ _ (Till.of trivial HJ12.out.blk) (fun hTill => ?_)
    clear hF F hb12
    try simp only [Act.put, List.setIfInBounds_toArray, List.set_cons_zero, List.set_cons_succ]
    refine wpTill.only (i := 11) (o := ⟨_, _, _, _, _, _⟩) (by kernel_rfl) rfl (fun F hF => ?_)
    refine step_append_src _ rfl (.tmp 61) (.tmp 67) 29 rfl B 3 k0 _ 1 8 Tryd.underlying29 hk0 lz0 lz1 lz2 rfl (by decide) _ es.length (ncs es) rfl HJ12.out.ends (some ⟨w11.heap.size, 0, none⟩) 1 1 [.int .i64 ((ds.length : Int) + (r.length : Int))] rfl HC12.out (int_one _) (by have := HF.out; unfold maxLen; omega) (by have := HF.out; omega) (Nat.le_trans HBs.out HO12.out.size) ?_
    intro v13 w13 hown13 hg13 hat13
    have hown13' : w13.ownsRow B 3 1 v13 (es.length + 1) (ncs es ++ [.int .i64 ((ds.length + r.length : Nat) : Int)]) := by
      rw [show ((ds.length + r.length : Nat) : Int) = (ds.length : Int) + (r.length : Int) by push_cast; rfl]; exact hown13
    have HG13 := Lib.hid hg13
    have HJ13 := Lib.hid (HJ12.out.growEnds HG13.out hown13')
    have HO13 : Hid (Only (jFp b (.slice DA ds.length dc) (.slice EA es.length ec) (.slice OA ps.length oc)) w w13) := Lib.hid (HO12.out.trans (Only.of_grown HG13.out) (fun _ _ e => .inr (.inr (.inl e))))
    have HFp13 : Hid (∀ k, jFp b (.slice Aw (ds.length + r.length) cw) v13 (.slice Av (ps.length + 1) cv) k → jFp b (.slice DA ds.length dc) (.slice EA es.length ec) (.slice OA ps.length oc) k ∨ w.heap.size ≤ k) := Lib.hid (fun k hk => by
      rcases hk with e | e | e | e
      · exact HFp.out k (.inl e)
      · exact HFp.out k (.inr (.inl e))
      · rcases hat13 with h | h
        · rw [h] at e; exact .inl (.inr (.inr (.inl e)))
        · rw [h] at e; injection e with e; have := HO12.out.size; exact .inr (by rw [← e]; exact this)
      · exact HFp.out k (.inr (.inr (.inr e))))
    obtain ⟨Ae, ce, hve, _, _⟩ := own_form hown13
    clear hown13 hown13' hg13 hat13
    refine hF.out _ _ (Till.of trivial HJ13.out.blk) (fun hTill => ?_)
    clear hF F
    try simp only [Act.put, List.setIfInBounds_toArray, List.set_cons_zero, List.set_cons_succ]
    refine wpTill.takeAny (i := 12) (o := ⟨_, _, _, _, _, _⟩) (v := ?_) rfl (by kernel_rfl) (by kernel_rfl) (by kernel_rfl) (by kernel_rfl) (fun _ _ _ h => h) (Or.inl ⟨by rfl, ?_⟩) hTill ?_
    rotate_left 1
    · intro W hSw
      skip
      clear hSw
      go_simp
      try with_reducible rfl
    try simp only [Act.put, List.setIfInBounds_toArray, List.set_cons_zero, List.set_cons_succ]
    clear hTill
    intro hTill
    refine wpTill.takeAny (i := 13) (o := ⟨_, _, _, _, _, _⟩) (v := ?_) rfl (by kernel_rfl) (by kernel_rfl) (by kernel_rfl) (by kernel_rfl) (fun _ _ _ h => h) (Or.inl ⟨by rfl, ?_⟩) hTill ?_
    rotate_left 1
    · intro W hSw
      skip
      clear hSw
      go_simp
      try with_reducible rfl
    try simp only [Act.put, List.setIfInBounds_toArray, List.set_cons_zero, List.set_cons_succ]
    clear hTill
    intro hTill
    subst hve
    have x1 : w13.cell? ⟨b, 1, none⟩ = some (.slice EA es.length ec) := HJ13.out.blk.cell 1 _ rfl
    have f1 := HJ13.out.blk.frozen 1
    refine wpTill.only (i := 14) (o := ⟨_, _, _, _, _, _⟩) (by kernel_rfl) rfl (fun F hF => ?_)
    go_simp
    have HJ14 := Lib.hid (HJ13.out.store 1 (.slice Ae (es.length + 1) ce))
    have HO14 : Hid (Only (jFp b (.slice DA ds.length dc) (.slice EA es.length ec) (.slice OA ps.length oc)) w (w13.setCell ⟨b, 1, none⟩ (.slice Ae (es.length + 1) ce))) := Lib.hid (HO13.out.setCell (p := ⟨b, 1, none⟩) (.inl (.inl rfl)) _)
    refine hF.out _ _ (Till.stored trivial (by kernel_rfl)) (fun hTill => ?_)
    clear hF F x1 f1
    try simp only [Act.put, List.setIfInBounds_toArray, List.set_cons_zero, List.set_cons_succ]
    refine wpTill.done (by kernel_rfl) ?_
    try refine NoPanic.normal ?_
    go_wp2_with fail
    go_ret
    refine ⟨rfl, _, _, _, _, ⟨HJ14.out, ?_, ?_, ?_, ?_⟩, HO14.out, HFp13.out, fun k hk => (HX4.out.hx k hk).1⟩
    · have := hr0; rw [List.length_append]; omega
    · have := HLr.out; rw [List.length_append]; exact this
    · have := HRep4.out.elen; simp [this]
    · have := HF.out; rw [List.length_append, List.length_singleton]; omega

/-- What Append does. -/
def ApPost (B b : Nat) (dv ev ov : Value) (ds : List UInt8) (es : List Nat) (ps : List (OpV × Value)) (o : OpV) (w : World) (e : Ending) (w' : World) : Prop :=
  match recO (sumL ds) o with
  | none => e = .returned (.int .i64 2) ∧ Below w.heap.size w w'
  | some r => if 4096 ≤ es.length ∨ 1048576 < ds.length + r.length then e = .returned (.int .i64 7) ∧ Below w.heap.size w w'
    else e = .returned (.int .i64 0) ∧ ∃ dv' ev' ov' V', JRep w' B b dv' ev' ov' (ds ++ r) (es ++ [ds.length + r.length]) (ps ++ [(o, V')]) ∧ Only (jFp b dv ev ov) w w' ∧ (∀ k, jFp b dv' ev' ov' k → jFp b dv ev ov k ∨ w.heap.size ≤ k) ∧ (∀ k, V'.ownBlock = some k → w.heap.size ≤ k)

theorem append_any (B b : Nat) (dv ev ov : Value) (ds : List UInt8) (es : List Nat) (ps : List (OpV × Value)) (o : OpV) (V : Value) (w : World) (h : JRep w B b dv ev ov ds es ps) (hv : Bts w B 5 V o.val) (hk : KG w) (ht : 0 ≤ o.ticks) (hB : B ≤ w.heap.size) :
    Calls Tryd.prog 15 #[.pointer (some ⟨b, 0, none⟩), opv o V] w (ApPost B b dv ev ov ds es ps o w) := by
  unfold ApPost
  cases hr : recO (sumL ds) o with
  | none => exact append_none B b dv ev ov ds es ps o V w h hv hk ht hr
  | some r =>
    dsimp only
    by_cases hf : 4096 ≤ es.length ∨ 1048576 < ds.length + r.length
    · refine (append_full B b dv ev ov ds es ps o V w h hv hk ht r hr hf).mono (fun e w' h => ?_)
      rw [if_pos hf]; exact h
    · refine (append_ok B b dv ev ov ds es ps o V w h hv hk ht r hr hf hB).mono (fun e w' h => ?_)
      rw [if_neg hf]; exact h

end Go.Proofs.YtffigmciclopdaaDoor
