/- The walks of layer 26: two operations are equal. -/
import Derived.Test.YtffigmciclopdaaDoorScrE
import Derived.Laws.StructEq
namespace Go.Proofs.YtffigmciclopdaaDoor
open Go Go.RowKit

/-- Two slices of bytes are equal. -/
theorem bytesEqual_any (B1 B2 : Nat) (v u : Value) (xs ys : List UInt8) (w : World) (hv : Bts w B1 5 v xs) (hu : Bts w B2 5 u ys) :
    Calls Tryd.prog 37 #[v, u] w fun e w' => e = .returned (.bool (decide (xs = ys))) ∧ w = w' := by
  have cv := hv.string (P := Tryd.prog) 22 9 Tryd.underlying22 Tryd.underlying5 Tryd.underlying9
  have cu := hu.string (P := Tryd.prog) 22 9 Tryd.underlying22 Tryd.underlying5 Tryd.underlying9
  obtain ⟨A, cap, rfl⟩ := hv.form
  obtain ⟨A2, cap2, rfl⟩ := hu.form
  clear hv hu
  have he : (xs == ys) = decide (xs = ys) := by
    by_cases h : xs = ys
    · subst h; simp
    · simp [h]
  have HE := Lib.hid he
  clear he
  go_enter Tryd.func37, Tryd.ntmps37
  go_wp2_with fail
  go_ret
  exact ⟨by rw [← HE.out]; rfl, rfl⟩

def plc (o : OpV) : Array Value := #[.int .i64 o.kind, .int .u64 o.ticks, .int .u64 o.ttl, .string o.key, .int .i64 o.count, .int .i64 o.bytes, .int .i64 o.cursor, .int .u64 o.birth]
def eqP (a b : OpV) : Bool := decide (a.kind = b.kind ∧ a.ticks = b.ticks ∧ a.ttl = b.ttl ∧ a.key = b.key ∧ a.count = b.count ∧ a.bytes = b.bytes ∧ a.cursor = b.cursor ∧ a.birth = b.birth)

theorem key_eqb (a b : ByteArray) : (a.toList == b.toList) = decide (a = b) := by
  by_cases h : a = b
  · subst h; simp
  · rw [decide_eq_false h, beq_eq_false_iff_ne]
    intro e
    rw [ByteArray.toList_eq, ByteArray.toList_eq] at e
    exact h (WideShapes.bytes_inj e)

set_option maxHeartbeats 1000000 in
theorem eql_plain (a b : OpV) (w : World) : (binOp .eql 78 (.agg (plc a)) (.agg (plc b))).run Tryd.prog w = .ok (.bool (eqP a b)) w := by
  rw [run_eql_struct]
  unfold plc eqP
  by_cases h1 : a.kind = b.kind <;> by_cases h2 : a.ticks = b.ticks <;> by_cases h3 : a.ttl = b.ttl <;> by_cases h4 : a.key = b.key
  all_goals simp [go_sem, key_eqb, *]
  by_cases h5 : a.count = b.count <;> by_cases h6 : a.bytes = b.bytes <;> by_cases h7 : a.cursor = b.cursor <;> by_cases h8 : a.birth = b.birth <;> simp [*]

def plcs (o : OpV) : List Value := [.int .i64 o.kind, .int .u64 o.ticks, .int .u64 o.ttl, .string o.key, .int .i64 o.count, .int .i64 o.bytes, .int .i64 o.cursor, .int .u64 o.birth]

set_option maxHeartbeats 1000000 in
theorem of_any (o : OpV) (A : Option Addr) (n cap : Nat) (w : World) :
    Calls Tryd.prog 41 #[opv o (.slice A n cap)] w fun e w' => e = .returned (.agg (plc o)) ∧ Below w.heap.size w w' := by
  unfold opv opc
  go_enter Tryd.func41, Tryd.ntmps41
  go_wp2_with fail
  have h2 := Blk.new2 w (.cells #[.int .i64 o.kind, .int .u64 o.ticks, .string o.key, .slice A n cap, .int .u64 o.ttl, .int .i64 o.count, .int .i64 o.bytes, .int .i64 o.cursor, .int .u64 o.birth] 43) 78 #[.int .i64 o.kind, .int .u64 o.ticks, .int .u64 o.ttl, .string o.key, .int .i64 o.count, .int .i64 o.bytes, .int .i64 o.cursor, .int .u64 o.birth]
  have hb : Below w.heap.size w ((w.alloc (.cells #[.int .i64 o.kind, .int .u64 o.ticks, .string o.key, .slice A n cap, .int .u64 o.ttl, .int .i64 o.count, .int .i64 o.bytes, .int .i64 o.cursor, .int .u64 o.birth] 43)).alloc (.cells #[.int .i64 o.kind, .int .u64 o.ticks, .int .u64 o.ttl, .string o.key, .int .i64 o.count, .int .i64 o.bytes, .int .i64 o.cursor, .int .u64 o.birth] 78)) := ((Below.refl _ _).alloc (Nat.le_refl _) _).alloc (by simp) _
  generalize World.alloc _ _ = w2 at h2 hb ⊢
  have q0 : w2.cell? ⟨w.heap.size + 1, 0, none⟩ = some (.int .i64 o.kind) := h2.cell 0 _ rfl
  have q1 : w2.cell? ⟨w.heap.size + 1, 1, none⟩ = some (.int .u64 o.ticks) := h2.cell 1 _ rfl
  have q2 : w2.cell? ⟨w.heap.size + 1, 2, none⟩ = some (.int .u64 o.ttl) := h2.cell 2 _ rfl
  have q3 : w2.cell? ⟨w.heap.size + 1, 3, none⟩ = some (.string o.key) := h2.cell 3 _ rfl
  have q4 : w2.cell? ⟨w.heap.size + 1, 4, none⟩ = some (.int .i64 o.count) := h2.cell 4 _ rfl
  have q5 : w2.cell? ⟨w.heap.size + 1, 5, none⟩ = some (.int .i64 o.bytes) := h2.cell 5 _ rfl
  have q6 : w2.cell? ⟨w.heap.size + 1, 6, none⟩ = some (.int .i64 o.cursor) := h2.cell 6 _ rfl
  have q7 : w2.cell? ⟨w.heap.size + 1, 7, none⟩ = some (.int .u64 o.birth) := h2.cell 7 _ rfl
  refine bodyPost_ret (v := .agg (plc o)) (by simp [results, Tryd.results41, go_sem, plc, q0, q1, q2, q3, q4, q5, q6, q7]) rfl ⟨rfl, hb⟩

theorem eqO_and (a b : OpV) : decide (eqO a b) = (eqP a b && decide (a.val = b.val)) := by
  by_cases h : eqO a b
  · rw [decide_eq_true h]
    obtain ⟨h1, h2, h3, h4, h5, h6, h7, h8, h9⟩ := h
    have e1 : eqP a b = true := decide_eq_true ⟨h1, h2, h5, h3, h6, h7, h8, h9⟩
    rw [e1, decide_eq_true h4]; rfl
  · rw [decide_eq_false h]
    by_cases h4 : a.val = b.val
    · have e1 : eqP a b = false := decide_eq_false fun ⟨h1, h2, h5, h3, h6, h7, h8, h9⟩ => h ⟨h1, h2, h3, h4, h5, h6, h7, h8, h9⟩
      rw [e1]; rfl
    · rw [decide_eq_false h4, Bool.and_false]

/-- The cells of an operation in a box. -/
theorem op_cells {W : World} {g : Nat} {a : OpV} {V : Value} (h : Blk W g 43 (opc a V)) : W.cell? ⟨g, 0, none⟩ = some (.int .i64 a.kind) ∧ W.cell? ⟨g, 1, none⟩ = some (.int .u64 a.ticks) ∧ W.cell? ⟨g, 2, none⟩ = some (.string a.key) ∧ W.cell? ⟨g, 3, none⟩ = some (V) ∧ W.cell? ⟨g, 4, none⟩ = some (.int .u64 a.ttl) ∧ W.cell? ⟨g, 5, none⟩ = some (.int .i64 a.count) ∧ W.cell? ⟨g, 6, none⟩ = some (.int .i64 a.bytes) ∧ W.cell? ⟨g, 7, none⟩ = some (.int .i64 a.cursor) ∧ W.cell? ⟨g, 8, none⟩ = some (.int .u64 a.birth) :=
  ⟨h.cell 0 _ rfl, h.cell 1 _ rfl, h.cell 2 _ rfl, h.cell 3 _ rfl, h.cell 4 _ rfl, h.cell 5 _ rfl, h.cell 6 _ rfl, h.cell 7 _ rfl, h.cell 8 _ rfl⟩

/-- What Equal reads. -/
structure EqI (w W : World) (B1 B2 : Nat) (a b : OpV) (VA VB : Value) : Prop where
  ba : Blk W w.heap.size 43 (opc a VA)
  bb : Blk W (w.heap.size + 1) 43 (opc b VB)
  va : Bts W B1 5 VA a.val
  vb : Bts W B2 5 VB b.val
  below : Below w.heap.size w W
theorem EqI.adv {w W W' : World} {B1 B2 : Nat} {a b : OpV} {VA VB : Value} (h : EqI w W B1 B2 a b VA VB) (hb : Below W.heap.size W W') : EqI w W' B1 B2 a b VA VB :=
  ⟨h.ba.below hb, h.bb.below hb, h.va.below hb, h.vb.below hb, h.below.trans (hb.mono h.below.size)⟩


set_option maxHeartbeats 4000000 in
theorem equal_any (B1 B2 : Nat) (a b : OpV) (VA VB : Value) (w : World) (ha : Bts w B1 5 VA a.val) (hb : Bts w B2 5 VB b.val) :
    Calls Tryd.prog 35 #[opv a VA, opv b VB] w fun e w' => e = .returned (.bool (decide (eqO a b))) ∧ Below w.heap.size w w' := by
  obtain ⟨AA, ac, rfl⟩ := ha.form
  obtain ⟨AB, bc, rfl⟩ := hb.form
  unfold opv opc
  obtain ⟨W, hW⟩ : ∃ W, (w.alloc (.cells (opc a (.slice AA a.val.length ac)) 43)).alloc (.cells (opc b (.slice AB b.val.length bc)) 43) = W := ⟨_, rfl⟩
  have hbe : Below w.heap.size w W := hW ▸ ((Below.refl _ _).alloc (Nat.le_refl _) _).alloc (by simp) _
  have hI : EqI w W B1 B2 a b (.slice AA a.val.length ac) (.slice AB b.val.length bc) := ⟨hW ▸ (Blk.new _ _ _).alloc _, hW ▸ Blk.new2 _ _ _ _, ha.below hbe, hb.below hbe, hbe⟩
  unfold opc at hW
  have HI := Lib.hid hI
  clear hI hbe ha hb
  obtain ⟨q, hq⟩ : ∃ q, eqP a b = q := ⟨_, rfl⟩
  obtain ⟨r, hr⟩ : ∃ r, decide (a.val = b.val) = r := ⟨_, rfl⟩
  have hres : decide (eqO a b) = (q && r) := by rw [← hq, ← hr]; exact eqO_and a b
  have heq := fun wx => eql_plain a b wx
  rw [hq] at heq
  unfold plc at heq
  have hbeq := fun wx (x : Bts wx B1 5 (.slice AA a.val.length ac) a.val) (y : Bts wx B2 5 (.slice AB b.val.length bc) b.val) => bytesEqual_any B1 B2 _ _ _ _ wx x y
  rw [hr] at hbeq
  have HBq := Lib.hid hbeq
  rw [hres]
  clear hq hr hbeq hres
  go_enter Tryd.func35, Tryd.ntmps35
  go_upto_region 1 with fail
  try rw [hW]
  clear hW
  refine wp_region_noPanic ?_
  refine wp_region_held_drew (S := fun W => EqI w W B1 B2 a b (.slice AA a.val.length ac) (.slice AB b.val.length bc)) (by kernel_rfl) (HI.out.adv (Below.refl _ _).drew) (fun hHeld => ?_)
  refine wpAnyH_take (i := 0) (oi := ⟨_, _, _, _, _, _⟩) (v := ?_) rfl (by kernel_rfl) (by kernel_rfl) (by kernel_rfl) (fun _ _ _ h => h) (Or.inl ⟨by rfl, ?_⟩) (by assumption) ?_
  rotate_left 1
  · intro W hSw
    obtain ⟨z0, z1, z2, z3, z4, z5, z6, z7, z8⟩ := op_cells hSw.ba; obtain ⟨y0, y1, y2, y3, y4, y5, y6, y7, y8⟩ := op_cells hSw.bb
    clear hSw
    go_simp
    try with_reducible rfl
  try simp only [Act.put, List.setIfInBounds_toArray, List.set_cons_zero, List.set_cons_succ]
  refine wpAnyH_take (i := 2) (oi := ⟨_, _, _, _, _, _⟩) (v := ?_) rfl (by kernel_rfl) (by kernel_rfl) (by kernel_rfl) (fun _ _ _ h => h) (Or.inl ⟨by rfl, ?_⟩) (by assumption) ?_
  rotate_left 1
  · intro W hSw
    obtain ⟨z0, z1, z2, z3, z4, z5, z6, z7, z8⟩ := op_cells hSw.ba; obtain ⟨y0, y1, y2, y3, y4, y5, y6, y7, y8⟩ := op_cells hSw.bb
    clear hSw
    go_simp
    try with_reducible rfl
  try simp only [Act.put, List.setIfInBounds_toArray, List.set_cons_zero, List.set_cons_succ]
  refine wpAnyH_ready (rs := [1]) (by kernel_rfl) (by simp) ?_
  refine AllReadyH.cons (o := ⟨_, _, _, _, _, _⟩) rfl (fun F hF => ?_) AllReadyH.nil
  go_simp
  refine (of_any a AA a.val.length ac _).mono ?_
  rintro e w1 ⟨rfl, hb1⟩
  have HI1 := Lib.hid (hHeld.adv hb1)
  clear hb1 hHeld
  unfold plc
  go_wp2_with fail
  refine hF.out _ _ HI1.out (fun hHeld => ?_)
  clear hF F
  try simp only [Act.put, List.setIfInBounds_toArray, List.set_cons_zero, List.set_cons_succ]
  refine wpAnyH_ready (rs := [3]) (by kernel_rfl) (by simp) ?_
  refine AllReadyH.cons (o := ⟨_, _, _, _, _, _⟩) rfl (fun F hF => ?_) AllReadyH.nil
  go_simp
  refine (of_any b AB b.val.length bc _).mono ?_
  rintro e w2 ⟨rfl, hb2⟩
  have HI2 := Lib.hid (hHeld.adv hb2)
  clear hb2 hHeld
  unfold plc
  go_wp2_with fail
  refine hF.out _ _ HI2.out (fun hHeld => ?_)
  clear hF F HI1
  try simp only [Act.put, List.setIfInBounds_toArray, List.set_cons_zero, List.set_cons_succ]
  refine wpAnyH_take (i := 4) (oi := ⟨_, _, _, _, _, _⟩) (v := ?_) rfl (by kernel_rfl) (by kernel_rfl) (by kernel_rfl) (fun _ _ _ h => h) (Or.inl ⟨by rfl, ?_⟩) (by assumption) ?_
  rotate_left 1
  · intro W hSw
    obtain ⟨z0, z1, z2, z3, z4, z5, z6, z7, z8⟩ := op_cells hSw.ba; obtain ⟨y0, y1, y2, y3, y4, y5, y6, y7, y8⟩ := op_cells hSw.bb
    clear hSw
    go_simp
    try with_reducible rfl
  try simp only [Act.put, List.setIfInBounds_toArray, List.set_cons_zero, List.set_cons_succ]
  refine wpAnyH_take (i := 5) (oi := ⟨_, _, _, _, _, _⟩) (v := ?_) rfl (by kernel_rfl) (by kernel_rfl) (by kernel_rfl) (fun _ _ _ h => h) (Or.inl ⟨by rfl, ?_⟩) (by assumption) ?_
  rotate_left 1
  · intro W hSw
    obtain ⟨z0, z1, z2, z3, z4, z5, z6, z7, z8⟩ := op_cells hSw.ba; obtain ⟨y0, y1, y2, y3, y4, y5, y6, y7, y8⟩ := op_cells hSw.bb
    clear hSw
    go_simp
    try with_reducible rfl
  try simp only [Act.put, List.setIfInBounds_toArray, List.set_cons_zero, List.set_cons_succ]
  cases q with
  | true =>
    refine wpAnyH_take (i := 6) (oi := ⟨_, _, _, _, _, _⟩) (v := ?_) rfl (by kernel_rfl) (by kernel_rfl) (by kernel_rfl) (fun _ _ _ h => h) (Or.inl ⟨by rfl, ?_⟩) (by assumption) ?_
    rotate_left 1
    · intro W hSw
      obtain ⟨z0, z1, z2, z3, z4, z5, z6, z7, z8⟩ := op_cells hSw.ba; obtain ⟨y0, y1, y2, y3, y4, y5, y6, y7, y8⟩ := op_cells hSw.bb
      clear hSw
      go_simp
      try with_reducible rfl
    try simp only [Act.put, List.setIfInBounds_toArray, List.set_cons_zero, List.set_cons_succ]
    refine wpAnyH_take (i := 7) (oi := ⟨_, _, _, _, _, _⟩) (v := ?_) rfl (by kernel_rfl) (by kernel_rfl) (by kernel_rfl) (fun _ _ _ h => h) (Or.inl ⟨by rfl, ?_⟩) (by assumption) ?_
    rotate_left 1
    · intro W hSw
      obtain ⟨z0, z1, z2, z3, z4, z5, z6, z7, z8⟩ := op_cells hSw.ba; obtain ⟨y0, y1, y2, y3, y4, y5, y6, y7, y8⟩ := op_cells hSw.bb
      clear hSw
      go_simp
      try with_reducible rfl
    try simp only [Act.put, List.setIfInBounds_toArray, List.set_cons_zero, List.set_cons_succ]
    refine wpAnyH_take (i := 8) (oi := ⟨_, _, _, _, _, _⟩) (v := ?_) rfl (by kernel_rfl) (by kernel_rfl) (by kernel_rfl) (fun _ _ _ h => h) (Or.inl ⟨by rfl, ?_⟩) (by assumption) ?_
    rotate_left 1
    · intro W hSw
      obtain ⟨z0, z1, z2, z3, z4, z5, z6, z7, z8⟩ := op_cells hSw.ba; obtain ⟨y0, y1, y2, y3, y4, y5, y6, y7, y8⟩ := op_cells hSw.bb
      clear hSw
      go_simp
      try with_reducible rfl
    try simp only [Act.put, List.setIfInBounds_toArray, List.set_cons_zero, List.set_cons_succ]
    refine wpAnyH_take (i := 9) (oi := ⟨_, _, _, _, _, _⟩) (v := ?_) rfl (by kernel_rfl) (by kernel_rfl) (by kernel_rfl) (fun _ _ _ h => h) (Or.inl ⟨by rfl, ?_⟩) (by assumption) ?_
    rotate_left 1
    · intro W hSw
      obtain ⟨z0, z1, z2, z3, z4, z5, z6, z7, z8⟩ := op_cells hSw.ba; obtain ⟨y0, y1, y2, y3, y4, y5, y6, y7, y8⟩ := op_cells hSw.bb
      clear hSw
      go_simp
      try with_reducible rfl
    try simp only [Act.put, List.setIfInBounds_toArray, List.set_cons_zero, List.set_cons_succ]
    refine wpAnyH_ready (rs := [10]) (by kernel_rfl) (by simp) ?_
    refine AllReadyH.cons (o := ⟨_, _, _, _, _, _⟩) rfl (fun F hF => ?_) AllReadyH.nil
    go_simp
    refine (HBq.out _ hHeld.va hHeld.vb).mono ?_
    rintro e w3 ⟨rfl, rfl⟩
    have HI3 := Lib.hid hHeld
    clear hHeld
    go_wp2_with fail
    refine hF.out _ _ HI3.out (fun hHeld => ?_)
    clear hF F HI2
    try simp only [Act.put, List.setIfInBounds_toArray, List.set_cons_zero, List.set_cons_succ]
    refine wpAnyH_take (i := 11) (oi := ⟨_, _, _, _, _, _⟩) (v := ?_) rfl (by kernel_rfl) (by kernel_rfl) (by kernel_rfl) (fun _ _ _ h => h) (Or.inl ⟨by rfl, ?_⟩) (by assumption) ?_
    rotate_left 1
    · intro W hSw
      obtain ⟨z0, z1, z2, z3, z4, z5, z6, z7, z8⟩ := op_cells hSw.ba; obtain ⟨y0, y1, y2, y3, y4, y5, y6, y7, y8⟩ := op_cells hSw.bb
      clear hSw
      go_simp
      try with_reducible rfl
    try simp only [Act.put, List.setIfInBounds_toArray, List.set_cons_zero, List.set_cons_succ]
    refine wpAnyH_take (i := 12) (oi := ⟨_, _, _, _, _, _⟩) (v := ?_) rfl (by kernel_rfl) (by kernel_rfl) (by kernel_rfl) (fun _ _ _ h => h) (Or.inl ⟨by rfl, ?_⟩) (by assumption) ?_
    rotate_left 1
    · intro W hSw
      obtain ⟨z0, z1, z2, z3, z4, z5, z6, z7, z8⟩ := op_cells hSw.ba; obtain ⟨y0, y1, y2, y3, y4, y5, y6, y7, y8⟩ := op_cells hSw.bb
      clear hSw
      go_simp
      try with_reducible rfl
    try simp only [Act.put, List.setIfInBounds_toArray, List.set_cons_zero, List.set_cons_succ]
    refine wpAnyH_done (by kernel_rfl) ?_ _
    refine NoPanic.normal ?_
    go_wp2_with fail
    go_ret
    exact ⟨rfl, hHeld.below⟩
  | false =>
    refine wpAnyH_take (i := 6) (oi := ⟨_, _, _, _, _, _⟩) rfl (by kernel_rfl) (by kernel_rfl) (by kernel_rfl) (fun _ _ _ h => h) (Or.inr ⟨by rfl, rfl⟩) (by assumption) ?_
    try simp only [Act.put, List.setIfInBounds_toArray, List.set_cons_zero, List.set_cons_succ]
    refine wpAnyH_take (i := 7) (oi := ⟨_, _, _, _, _, _⟩) rfl (by kernel_rfl) (by kernel_rfl) (by kernel_rfl) (fun _ _ _ h => h) (Or.inr ⟨by rfl, rfl⟩) (by assumption) ?_
    try simp only [Act.put, List.setIfInBounds_toArray, List.set_cons_zero, List.set_cons_succ]
    refine wpAnyH_take (i := 8) (oi := ⟨_, _, _, _, _, _⟩) rfl (by kernel_rfl) (by kernel_rfl) (by kernel_rfl) (fun _ _ _ h => h) (Or.inr ⟨by rfl, rfl⟩) (by assumption) ?_
    try simp only [Act.put, List.setIfInBounds_toArray, List.set_cons_zero, List.set_cons_succ]
    refine wpAnyH_take (i := 9) (oi := ⟨_, _, _, _, _, _⟩) rfl (by kernel_rfl) (by kernel_rfl) (by kernel_rfl) (fun _ _ _ h => h) (Or.inr ⟨by rfl, rfl⟩) (by assumption) ?_
    try simp only [Act.put, List.setIfInBounds_toArray, List.set_cons_zero, List.set_cons_succ]
    refine wpAnyH_take (i := 10) (oi := ⟨_, _, _, _, _, _⟩) rfl (by kernel_rfl) (by kernel_rfl) (by kernel_rfl) (fun _ _ _ h => h) (Or.inr ⟨by rfl, rfl⟩) (by assumption) ?_
    try simp only [Act.put, List.setIfInBounds_toArray, List.set_cons_zero, List.set_cons_succ]
    refine wpAnyH_take (i := 11) (oi := ⟨_, _, _, _, _, _⟩) (v := ?_) rfl (by kernel_rfl) (by kernel_rfl) (by kernel_rfl) (fun _ _ _ h => h) (Or.inl ⟨by rfl, ?_⟩) (by assumption) ?_
    rotate_left 1
    · intro W hSw
      obtain ⟨z0, z1, z2, z3, z4, z5, z6, z7, z8⟩ := op_cells hSw.ba; obtain ⟨y0, y1, y2, y3, y4, y5, y6, y7, y8⟩ := op_cells hSw.bb
      clear hSw
      go_simp
      try with_reducible rfl
    try simp only [Act.put, List.setIfInBounds_toArray, List.set_cons_zero, List.set_cons_succ]
    refine wpAnyH_take (i := 12) (oi := ⟨_, _, _, _, _, _⟩) (v := ?_) rfl (by kernel_rfl) (by kernel_rfl) (by kernel_rfl) (fun _ _ _ h => h) (Or.inl ⟨by rfl, ?_⟩) (by assumption) ?_
    rotate_left 1
    · intro W hSw
      obtain ⟨z0, z1, z2, z3, z4, z5, z6, z7, z8⟩ := op_cells hSw.ba; obtain ⟨y0, y1, y2, y3, y4, y5, y6, y7, y8⟩ := op_cells hSw.bb
      clear hSw
      go_simp
      try with_reducible rfl
    try simp only [Act.put, List.setIfInBounds_toArray, List.set_cons_zero, List.set_cons_succ]
    refine wpAnyH_done (by kernel_rfl) ?_ _
    refine NoPanic.normal ?_
    go_wp2_with fail
    go_ret
    exact ⟨rfl, hHeld.below⟩

end Go.Proofs.YtffigmciclopdaaDoor
