/- The walk of layer 26: an operation is written. -/
import Derived.Test.YtffigmciclopdaaDoorScrF
import Derived.Test.YtffigmciclopdaaDoorShelf
import Derived.Outline
import Derived.WalkMore
import Derived.ScopeJumps
namespace Go.Proofs.YtffigmciclopdaaDoor
open Go Go.RowKit

theorem jump_ret (l : Nat) (J : Act → World → Prop) (Q : Exit → Act → World → Prop) (a : Act) (w : World) : Exit.jump l J Q .ret a w = Q .ret a w := rfl

/-- What write reads first. -/
structure WrI (w W : World) (B : Nat) (o : OpV) (V : Value) : Prop where
  box : Blk W w.heap.size 43 (opc o V)
  val : Bts W B 5 V o.val
  kg : KG W
  below : Below w.heap.size w W
theorem WrI.adv {w W W' : World} {B : Nat} {o : OpV} {V : Value} (h : WrI w W B o V) (hb : Below W.heap.size W W') : WrI w W' B o V :=
  ⟨h.box.below hb, h.val.below hb, h.kg.below hb h.kg.1, h.below.trans (hb.mono h.below.size)⟩

/-- An operation that can't be written for its parts. -/
def badO (o : OpV) : Prop := codeI o.kind < 0 ∨ 270 < o.ticks ∨ 31 < o.key.size ∨ 255 < o.val.length

theorem index_kinds (k : Int) (w : World) (hk : KG w) :
    Calls Tryd.prog 43 #[.slice (some ⟨0, 0, none⟩) 16 16, .int .i64 k] w fun e w' => e = .returned (.int .i64 (codeI k)) ∧ w = w' := by
  refine (Tryd.slices_Index_int 0 0 16 16 kindL k w (by decide) (by omega) (fun j hj => ?_)).mono ?_
  · rw [Nat.zero_add]; exact hk.2 j hj
  · rintro e w' ⟨rfl, rfl⟩
    exact ⟨rfl, rfl⟩



set_option maxRecDepth 100000 in
set_option maxHeartbeats 2000000 in
theorem write_bad (B : Nat) (o : OpV) (V : Value) (w : World) (hv : Bts w B 5 V o.val) (hk : KG w) (hbad : badO o) :
    Calls Tryd.prog 38 #[opv o V] w fun e w' => e = .returned (.slice none 0 0) ∧ Below w.heap.size w w' := by
  have HBad := Lib.hid hbad
  clear hbad
  obtain ⟨VA, vc, rfl⟩ := hv.form
  unfold opv opc
  obtain ⟨W, hW⟩ : ∃ W, w.alloc (.cells (opc o (.slice VA o.val.length vc)) 43) = W := ⟨_, rfl⟩
  have hbe : Below w.heap.size w W := hW ▸ (Below.refl _ _).alloc (Nat.le_refl _) _
  have hI : WrI w W B o (.slice VA o.val.length vc) := ⟨hW ▸ Blk.new _ _ _, hv.below hbe, hk.below hbe hk.1, hbe⟩
  have HV0 := Lib.hid hv
  unfold opc at hW
  have HI := Lib.hid hI
  clear hI hbe hv hk
  go_enter Tryd.func38, Tryd.ntmps38
  go_wp2_with fail
  refine wp_scope_jumps 0 (fun a W => a.defers = [] ∧ 3 ≤ a.tmps.size ∧ Below w.heap.size w W) (fun _ _ => 0) (by rfl) ?_ ?_
  go_wp2_with fail
  try rw [hW]
  clear hW
  refine wp_region_noPanic ?_
  refine wp_region_held_drew (S := fun W => WrI w W B o (.slice VA o.val.length vc)) (by kernel_rfl) (HI.out.adv (Below.refl _ _).drew) (fun hHeld => ?_)
  refine wpAnyH_take (i := 0) (oi := ⟨_, _, _, _, _, _⟩) (v := ?_) rfl (by kernel_rfl) (by kernel_rfl) (by kernel_rfl) (fun _ _ _ h => h) (Or.inl ⟨by rfl, ?_⟩) (by assumption) ?_
  rotate_left 1
  · intro W hSw
    obtain ⟨z0, z1, z2, z3, z4, z5, z6, z7, z8⟩ := op_cells hSw.box
    clear hSw
    go_simp
    try with_reducible rfl
  try simp only [Act.put, List.setIfInBounds_toArray, List.set_cons_zero, List.set_cons_succ]
  refine wpAnyH_take (i := 1) (oi := ⟨_, _, _, _, _, _⟩) (v := ?_) rfl (by kernel_rfl) (by kernel_rfl) (by kernel_rfl) (fun _ _ _ h => h) (Or.inl ⟨by rfl, ?_⟩) (by assumption) ?_
  rotate_left 1
  · intro W hSw
    obtain ⟨z0, z1, z2, z3, z4, z5, z6, z7, z8⟩ := op_cells hSw.box
    clear hSw
    go_simp
    try with_reducible rfl
  try simp only [Act.put, List.setIfInBounds_toArray, List.set_cons_zero, List.set_cons_succ]
  refine wpAnyH_take (i := 2) (oi := ⟨_, _, _, _, _, _⟩) (v := ?_) rfl (by kernel_rfl) (by kernel_rfl) (by kernel_rfl) (fun _ _ _ h => h) (Or.inl ⟨by rfl, ?_⟩) (by assumption) ?_
  rotate_left 1
  · intro W hSw
    obtain ⟨z0, z1, z2, z3, z4, z5, z6, z7, z8⟩ := op_cells hSw.box
    clear hSw
    go_simp
    try with_reducible rfl
  try simp only [Act.put, List.setIfInBounds_toArray, List.set_cons_zero, List.set_cons_succ]
  refine wpAnyH_ready (rs := [3]) (by kernel_rfl) (by simp) ?_
  refine AllReadyH.cons (o := ⟨_, _, _, _, _, _⟩) rfl (fun F hF => ?_) AllReadyH.nil
  go_simp
  refine (index_kinds o.kind _ hHeld.kg).mono ?_
  rintro e w3 ⟨rfl, rfl⟩
  have HI3 := Lib.hid hHeld
  clear hHeld HI
  go_wp2_with fail
  refine hF.out _ _ HI3.out (fun hHeld => ?_)
  clear hF F
  try simp only [Act.put, List.setIfInBounds_toArray, List.set_cons_zero, List.set_cons_succ]
  refine wpAnyH_take (i := 4) (oi := ⟨_, _, _, _, _, _⟩) (v := ?_) rfl (by kernel_rfl) (by kernel_rfl) (by kernel_rfl) (fun _ _ _ h => h) (Or.inl ⟨by rfl, ?_⟩) (by assumption) ?_
  rotate_left 1
  · intro W hSw
    obtain ⟨z0, z1, z2, z3, z4, z5, z6, z7, z8⟩ := op_cells hSw.box
    clear hSw
    go_simp
    try with_reducible rfl
  try simp only [Act.put, List.setIfInBounds_toArray, List.set_cons_zero, List.set_cons_succ]
  refine wpAnyH_done (by kernel_rfl) ?_ _
  refine NoPanic.normal ?_
  have hI4 := HI3.out
  obtain ⟨z0, z1, z2, z3, z4, z5, z6, z7, z8⟩ := op_cells hI4.box
  clear hI4 hHeld
  · by_cases c1 : codeI o.kind < 0
    · go_wp2_with fail
      go_step3
      exact ⟨rfl, rfl, by simp, HI3.out.below⟩
    · by_cases c2 : 270 < o.ticks
      · go_wp2_with fail
        go_step3
        exact ⟨rfl, rfl, by simp, HI3.out.below⟩
      · by_cases c3 : 31 < o.key.size
        · have c3I : (31 : Int) < (o.key.size : Int) := by omega
          go_wp2_with fail
          go_step3
          exact ⟨rfl, rfl, by simp, HI3.out.below⟩
        · have c4 : 255 < o.val.length := by
            rcases HBad.out with h | h | h | h
            · exact absurd h c1
            · exact absurd h c2
            · exact absurd h c3
            · exact h
          have c3I : ¬ (31 : Int) < (o.key.size : Int) := by omega
          have c4I : (255 : Int) < (o.val.length : Int) := by omega
          go_wp2_with fail
          go_step3
          exact ⟨rfl, rfl, by simp, HI3.out.below⟩
  · rintro a W ⟨hd, hs, hb⟩
    go_wp2
    rw [jump_ret]
    obtain ⟨ts, ds⟩ := a
    dsimp only at hd hs ⊢
    refine bodyPost_ret (results_tmp (t := 2) rfl _ _ _) rfl ⟨?_, hb⟩
    congr 1
    simp only [Array.getD_eq_getD_getElem?]
    rw [Array.getElem?_setIfInBounds_self_of_lt (by omega)]
    rfl

theorem wrRaw_pos (c : Int) (o : OpV) : 0 < (wrRaw c o).length := by simp [wrRaw]

theorem partsBytes_len (o : OpV) (hk : o.key.size ≤ 31) (hv : o.val.length ≤ 255) : ((partsOf o.kind).flatMap fun p => wrPart p o).length ≤ 290 := by
  have h : ∀ p, (wrPart p o).length ≤ 256 := by
    intro p
    have : o.key.data.toList.length = o.key.size := by simp
    cases p <;> simp [wrPart, big2, big3] <;> omega
  have hkey : (wrPart .key o).length ≤ 32 := by
    have : o.key.data.toList.length = o.key.size := by simp
    simp [wrPart]; omega
  unfold partsOf
  repeat' split
  all_goals simp only [List.flatMap_cons, List.flatMap_nil, List.append_nil, List.length_append, List.length_nil]
  all_goals first
    | omega
    | (have := h .value; have := h .ttl; have := h .budgets; have := h .aim; have := h .birth
       have e1 : (wrPart .ttl o).length = 2 := rfl
       have e2 : (wrPart .aim o).length = 1 := rfl
       have e3 : (wrPart .birth o).length = 2 := rfl
       omega)

theorem wrRaw_len (c : Int) (o : OpV) (hk : o.key.size ≤ 31) (hv : o.val.length ≤ 255) : (wrRaw c o).length ≤ 292 := by
  have := partsBytes_len o hk hv
  unfold wrRaw
  rw [List.length_cons, List.length_append]
  split <;> simp only [List.length_cons, List.length_nil] <;> omega

/-- The bytes so far, in a row of the call's own; what write's loop keeps. -/
structure WlI (w wr : World) (B : Nat) (o : OpV) (V : Value) (A : Option Addr) (cap : Nat) (ps : List Part) (i : Nat) (v : Value) (bs : List UInt8) : Prop where
  inv : WrI w wr B o V
  row : wr.ownsRow (w.heap.size + 1) 5 1 v bs.length (bcells bs)
  parts : wr.ownsRow (w.heap.size + 1) 87 2 (.slice A ps.length cap) ps.length (pcells ps)
  eq : bs ++ (ps.drop i).flatMap (fun p => wrPart p o) = wrRaw (codeI o.kind) o

theorem WlI.adv {w wr W : World} {B : Nat} {o : OpV} {V : Value} {A : Option Addr} {cap : Nat} {ps : List Part} {i : Nat} {v : Value} {bs : List UInt8} (h : WlI w wr B o V A cap ps i v bs) (hb : Below wr.heap.size wr W) : WlI w W B o V A cap ps i v bs :=
  ⟨h.inv.adv hb, own_later h.row hb, own_later h.parts hb, h.eq⟩

/-- A world in which only one row of bytes has grown. -/
theorem WrI.grown {w W W' : World} {B : Nat} {o : OpV} {V v : Value} {n : Nat} {xs : List Value} (h : WrI w W B o V) (hr : W.ownsRow (w.heap.size + 1) 5 1 v n xs) (hg : W.grownBy W' v.ownBlock)
    (hv : Bts w B 5 V o.val) : WrI w W' B o V := by
  have ho := Only.of_grown hg
  have hlt : ∀ k, v.ownBlock = some k → w.heap.size + 1 ≤ k := fun k hk => (row_heap hr hk).1
  have hb : Below w.heap.size w W' := h.below.trans (ho.below (fun i hi _ e => by have := hlt _ e; omega) h.below.size)
  exact ⟨h.box.only ho (fun e => by have := hlt _ e; omega), hv.below hb, h.kg.only ho (fun e => by have := hlt _ e; omega), hb⟩

theorem KG.drew {w : World} (h : KG w) : KG w.drew := h
theorem WrI.kg0 {w W : World} {B : Nat} {o : OpV} {V : Value} (h : WrI w W B o V) : 0 < w.heap.size := by
  have h1 := h.kg.1
  have h2 := h.box
  rcases Nat.eq_zero_or_pos w.heap.size with e | e
  · have := (h.kg.2 0 (by omega))
    rw [e] at h2
    have h3 := h2.cell 0 (.int .i64 o.kind) rfl
    have h4 := h.kg.2 1 (by omega)
    have h5 := h2.cell 1 (.int .u64 o.ticks) rfl
    rw [h5] at h4
    cases h4
  · exact e
theorem WrI.drew {w W : World} {B : Nat} {o : OpV} {V : Value} (h : WrI w W B o V) : WrI w W.drew B o V := h.adv (Below.refl _ _).drew
/-- The reader's own box has changed, and new blocks have come. -/
theorem WrI.read {w W W' : World} {B g : Nat} {o : OpV} {V : Value} (h : WrI w W B o V) (hv : Bts w B 5 V o.val) (ho : Only (fun k => k = g) W W') (hg : w.heap.size < g) : WrI w W' B o V := by
  have hb : Below w.heap.size w W' := h.below.trans (ho.below (fun i hi _ e => by omega) h.below.size)
  exact ⟨h.box.only ho (by omega), hv.below hb, h.kg.only ho (by omega), hb⟩
theorem reader_ne {W : World} {base B g : Nat} {v : Value} {n : Nat} {xs : List Value} {rs : List UInt8} (h : W.ownsRow base 5 1 v n xs) (hr : RS W B g rs) : ∀ k, v.ownBlock = some k → ¬ k = g := by
  intro k hk e
  obtain ⟨_, cur, hc⟩ := row_heap h hk
  obtain ⟨V, h1, _⟩ := hr
  subst e
  exact h1.ne_ hc (by decide) rfl

/-- One part more. -/
theorem WlI.step {w wr W7 W8 : World} {B : Nat} {o : OpV} {V v v8 : Value} {A : Option Addr} {cap : Nat} {ps : List Part} {i : Nat} {bs : List UInt8} {p : Part}
    (h : WlI w wr B o V A cap ps i v bs) (hv : Bts w B 5 V o.val) (hb : Below wr.heap.size wr W7) (hp : ps[i]? = some p)
    (ho : W8.ownsRow (w.heap.size + 1) 5 1 v8 (bs.length + (wrPart p o).length) (bcells bs ++ bcells (wrPart p o))) (hg : W7.grownBy W8 v.ownBlock) : WlI w W8 B o V A cap ps (i + 1) v8 (bs ++ wrPart p o) := by
  have h7 := h.adv hb
  refine ⟨h7.inv.grown h7.row hg hv, ?_, ownsRow_only h7.parts (Only.of_grown hg) ?_, ?_⟩
  · rw [List.length_append, show bcells (bs ++ wrPart p o) = bcells bs ++ bcells (wrPart p o) by simp [bcells]]
    exact ho
  · intro k hk e
    obtain ⟨_, cur, hc⟩ := row_heap h7.parts hk
    obtain ⟨_, cur2, hc2⟩ := row_heap h7.row e
    rw [hc] at hc2
    injection hc2 with hc2
    injection hc2 with _ ht
    exact absurd ht (by decide)
  · have hi := (List.getElem?_eq_some_iff.1 hp).1
    have := h.eq
    rw [List.drop_eq_getElem_cons hi, (List.getElem?_eq_some_iff.1 hp).2, List.flatMap_cons] at this
    rw [← this, List.append_assoc]

/-- An operation that is written. -/
def WrRet (r : Option (List UInt8)) (w : World) (e : Ending) (w' : World) : Prop :=
  match r with
  | none => e = .returned (.slice none 0 0) ∧ Below w.heap.size w w'
  | some bs => OwnRet bs w e w'

theorem src_one (w : World) (x : Int) : Src (w.alloc (.cells #[.int .u8 (x % 256)] 5)) 1 (some ⟨w.heap.size, 0, none⟩) 1 (bcells [byteI x]) := by
  refine ⟨rfl, (fun h => by cases h), fun a ha j u hu => ?_⟩
  cases ha
  cases j with
  | zero =>
    simp only [bcells, List.map_cons, List.map_nil, List.getElem?_cons_zero, Option.some.injEq] at hu
    rw [add_plain, ← hu, byteI_toNat]
    exact (Blk.new w 5 #[.int .u8 (x % 256)]).cell 0 _ rfl
  | succ j => simp [bcells] at hu


set_option maxRecDepth 100000 in
set_option maxHeartbeats 4000000 in
theorem write_ok (B : Nat) (o : OpV) (V : Value) (w : World) (hv : Bts w B 5 V o.val) (hk : KG w) (hok : ¬ badO o) (ht : 0 ≤ o.ticks) :
    Calls Tryd.prog 38 #[opv o V] w (WrRet (wrOp o) w) := by
  have hcode : 0 ≤ codeI o.kind := by unfold badO at hok; omega
  have hcode2 : codeI o.kind < 16 := by
    have hnn : kindL.contains o.kind = true := by rw [← Lib.idxOf_nonneg_iff]; exact hcode
    have hm : o.kind ∈ kindL := by simpa using hnn
    unfold kindL at hm
    simp only [List.mem_cons, List.not_mem_nil, or_false] at hm
    rcases hm with e | e | e | e | e | e | e | e | e | e | e | e | e | e | e | e <;> rw [e] <;> decide
  have htk : o.ticks ≤ 270 := by unfold badO at hok; omega
  have HOk : Hid (¬ (codeI o.kind < 0 ∨ 270 < o.ticks ∨ 31 < o.key.size ∨ 255 < o.val.length)) := Lib.hid hok
  have hkl : o.key.size ≤ 31 := by unfold badO at hok; omega
  have hvl : o.val.length ≤ 255 := by unfold badO at hok; omega
  clear hok
  have HT := Lib.hid ht
  have HKl := Lib.hid hkl
  have HVl := Lib.hid hvl
  clear ht
  obtain ⟨VA, vc, rfl⟩ := hv.form
  unfold opv opc
  obtain ⟨W, hW⟩ : ∃ W, w.alloc (.cells (opc o (.slice VA o.val.length vc)) 43) = W := ⟨_, rfl⟩
  have hbe : Below w.heap.size w W := hW ▸ (Below.refl _ _).alloc (Nat.le_refl _) _
  have hI : WrI w W B o (.slice VA o.val.length vc) := ⟨hW ▸ Blk.new _ _ _, hv.below hbe, hk.below hbe hk.1, hbe⟩
  have HV0 := Lib.hid hv
  unfold opc at hW
  have HI := Lib.hid hI
  clear hI hbe hv hk
  go_enter Tryd.func38, Tryd.ntmps38
  go_wp2_with fail
  go_step3
  go_wp2_with fail
  try rw [hW]
  clear hW
  refine wp_region_noPanic ?_
  refine wp_region_held_drew (S := fun W => WrI w W B o (.slice VA o.val.length vc)) (by kernel_rfl) (HI.out.adv (Below.refl _ _).drew) (fun hHeld => ?_)
  refine wpAnyH_take (i := 0) (oi := ⟨_, _, _, _, _, _⟩) (v := ?_) rfl (by kernel_rfl) (by kernel_rfl) (by kernel_rfl) (fun _ _ _ h => h) (Or.inl ⟨by rfl, ?_⟩) (by assumption) ?_
  rotate_left 1
  · intro W hSw
    obtain ⟨z0, z1, z2, z3, z4, z5, z6, z7, z8⟩ := op_cells hSw.box
    clear hSw
    go_simp
    try with_reducible rfl
  try simp only [Act.put, List.setIfInBounds_toArray, List.set_cons_zero, List.set_cons_succ]
  refine wpAnyH_take (i := 1) (oi := ⟨_, _, _, _, _, _⟩) (v := ?_) rfl (by kernel_rfl) (by kernel_rfl) (by kernel_rfl) (fun _ _ _ h => h) (Or.inl ⟨by rfl, ?_⟩) (by assumption) ?_
  rotate_left 1
  · intro W hSw
    obtain ⟨z0, z1, z2, z3, z4, z5, z6, z7, z8⟩ := op_cells hSw.box
    clear hSw
    go_simp
    try with_reducible rfl
  try simp only [Act.put, List.setIfInBounds_toArray, List.set_cons_zero, List.set_cons_succ]
  refine wpAnyH_take (i := 2) (oi := ⟨_, _, _, _, _, _⟩) (v := ?_) rfl (by kernel_rfl) (by kernel_rfl) (by kernel_rfl) (fun _ _ _ h => h) (Or.inl ⟨by rfl, ?_⟩) (by assumption) ?_
  rotate_left 1
  · intro W hSw
    obtain ⟨z0, z1, z2, z3, z4, z5, z6, z7, z8⟩ := op_cells hSw.box
    clear hSw
    go_simp
    try with_reducible rfl
  try simp only [Act.put, List.setIfInBounds_toArray, List.set_cons_zero, List.set_cons_succ]
  refine wpAnyH_ready (rs := [3]) (by kernel_rfl) (by simp) ?_
  refine AllReadyH.cons (o := ⟨_, _, _, _, _, _⟩) rfl (fun F hF => ?_) AllReadyH.nil
  go_simp
  refine (index_kinds o.kind _ hHeld.kg).mono ?_
  rintro e w3 ⟨rfl, rfl⟩
  have HI3 := Lib.hid hHeld
  clear hHeld HI
  go_wp2_with fail
  refine hF.out _ _ HI3.out (fun hHeld => ?_)
  clear hF F
  try simp only [Act.put, List.setIfInBounds_toArray, List.set_cons_zero, List.set_cons_succ]
  refine wpAnyH_take (i := 4) (oi := ⟨_, _, _, _, _, _⟩) (v := ?_) rfl (by kernel_rfl) (by kernel_rfl) (by kernel_rfl) (fun _ _ _ h => h) (Or.inl ⟨by rfl, ?_⟩) (by assumption) ?_
  rotate_left 1
  · intro W hSw
    obtain ⟨z0, z1, z2, z3, z4, z5, z6, z7, z8⟩ := op_cells hSw.box
    clear hSw
    go_simp
    try with_reducible rfl
  try simp only [Act.put, List.setIfInBounds_toArray, List.set_cons_zero, List.set_cons_succ]
  refine wpAnyH_done (by kernel_rfl) ?_ _
  refine NoPanic.normal ?_
  have hI4 := HI3.out
  obtain ⟨z0, z1, z2, z3, z4, z5, z6, z7, z8⟩ := op_cells hI4.box
  clear hI4 hHeld
  have c1 : ¬ codeI o.kind < 0 := by omega
  have c2 : ¬ 270 < o.ticks := by omega
  have c3I : ¬ (31 : Int) < (o.key.size : Int) := by omega
  have c4I : ¬ (255 : Int) < (o.val.length : Int) := by omega
  clear hcode htk hkl hvl
  obtain ⟨i0, hi0, hz0, hz1, hz2⟩ := info_parts u8_info
  go_upto_region 4 with fail
  obtain ⟨W4, hW4⟩ : ∃ W4, (W.alloc (.cells #[.int .u8 (codeI o.kind + 16 * (min o.ticks 15 % 256) % 256)] 5)).drew = W4 := ⟨_, rfl⟩
  have hb4 : Below W.drew.heap.size W.drew W4 := hW4 ▸ (Below.refl _ W.drew).alloc (Nat.le_refl _) _
  have hs4 : w.heap.size + 1 ≤ W.heap.size := HI3.out.box.lt
  have hr4 : W4.ownsRow (w.heap.size + 1) 5 1 (.slice (some ⟨W.heap.size, 0, none⟩) 1 1) 1 (bcells [byteI (codeI o.kind + 16 * min o.ticks 15)]) := by
    have h := ownsRow_base (own_one W.drew 5 (.int .u8 (codeI o.kind + 16 * (min o.ticks 15 % 256) % 256))) (show w.heap.size + 1 ≤ W.drew.heap.size from hs4)
    rw [show W.drew.alloc (.cells #[.int .u8 (codeI o.kind + 16 * (min o.ticks 15 % 256) % 256)] 5) = W4 from hW4] at h
    have e : bcells [byteI (codeI o.kind + 16 * min o.ticks 15)] = [.int .u8 (codeI o.kind + 16 * (min o.ticks 15 % 256) % 256)] := by
      simp only [bcells, List.map_cons, List.map_nil, byteI_toNat]
      have := HT.out
      congr 2
      omega
    rw [e]
    exact h
  have HI4 := Lib.hid (HI3.out.adv hb4)
  have HR4 := Lib.hid hr4
  have HS4 := Lib.hid hs4
  have z1 : W4.cell? ⟨w.heap.size, 1, none⟩ = some (.int .u64 o.ticks) := HI4.out.box.cell 1 _ rfl
  have z0 : W4.cell? ⟨w.heap.size, 0, none⟩ = some (.int .i64 o.kind) := HI4.out.box.cell 0 _ rfl
  try rw [hW4]
  clear hW4 hb4 hs4 hr4 z2 z3 z4 z5 z6 z7 z8 HI3
  by_cases h15 : 15 ≤ o.ticks
  · have hX : ∀ ob, (W4.alloc ob).ownsRow (w.heap.size + 1) 5 1 (.slice (some ⟨W.heap.size, 0, none⟩) 1 1) 1 (bcells [byteI (codeI o.kind + 16 * min o.ticks 15)]) := fun ob => HR4.out.alloc ob
    have HX := Lib.hid hX
    clear hX
    have hsub : IntKind.u64.wrap (o.ticks - 15) = o.ticks - 15 := by rw [IntKind.wrap_u64]; omega
    clear c2
    go_upto_region 6 with (at_builtin; refine wpList_append_src _ rfl _ _ _ rfl (w.heap.size + 1) 5 i0 _ 1 1 Tryd.underlying22 hi0 hz0 hz1 hz2 rfl (by decide) _ 1 (bcells [byteI (codeI o.kind + 16 * min o.ticks 15)]) rfl (HX.out _) (some ⟨W4.heap.size, 0, none⟩) 1 1 (bcells [byteI (o.ticks - 15)]) rfl (src_one W4 (o.ticks - 15)) (bcells_one _) (by decide) (by decide) (by have := HI4.out.box.lt; simp; omega) ?_; intro v5 W5 hown5 hg5 hat5)
    have hb5 : Below W4.heap.size W4 (W4.alloc (.cells #[.int .u8 ((o.ticks - 15) % 256)] 5)) := (Below.refl _ _).alloc (Nat.le_refl _) _
    have HI5 : Hid (WrI w W5 B o (.slice VA o.val.length vc)) := Lib.hid ((HI4.out.adv hb5).grown (HX.out _) hg5 HV0.out)
    have HR5 : Hid (W5.ownsRow (w.heap.size + 1) 5 1 v5 [byteI (codeI o.kind + 16 * min o.ticks 15), byteI (o.ticks - 15)].length (bcells [byteI (codeI o.kind + 16 * min o.ticks 15), byteI (o.ticks - 15)])) := Lib.hid hown5
    have HEq5 : Hid ([byteI (codeI o.kind + 16 * min o.ticks 15), byteI (o.ticks - 15)] ++ (partsOf o.kind).flatMap (fun p => wrPart p o) = wrRaw (codeI o.kind) o) := Lib.hid (by unfold wrRaw; rw [if_pos h15]; rfl)
    clear hb5 hown5 hg5 hat5 HX HR4 HI4 z0 z1
    have z0 : World.cell? W5 ⟨w.heap.size, 0, none⟩ = some (.int .i64 o.kind) := HI5.out.box.cell 0 _ rfl
    go_wp2_with fail
    refine (parts_any _ _).mono ?_
    rintro e w6 ⟨v6, rfl, hrow, hb6⟩
    obtain ⟨A6, cap6, rfl, _, _⟩ := own_form hrow
    obtain ⟨ps, hps⟩ : ∃ ps, partsOf o.kind = ps := ⟨_, rfl⟩
    have heq5 := HEq5.out
    rw [hps] at hrow heq5 ⊢
    have hpl : ps.length ≤ 3 := by rw [← hps]; exact partsOf_le _
    have hpI : (ps.length : Int) ≤ 3 := by omega
    have hL : WlI w w6 B o (.slice VA o.val.length vc) A6 cap6 ps 0 v5 ([byteI (codeI o.kind + 16 * min o.ticks 15), byteI (o.ticks - 15)]) := ⟨HI5.out.adv hb6, own_later HR5.out hb6, ownsRow_base hrow (by have := HI5.out.box.lt; omega), by rw [List.drop_zero]; exact heq5⟩
    have HL := Lib.hid hL
    clear hrow hb6 hL hps z0 heq5 HI5 HR5 HEq5
    go_wp2_with fail
    go_loopw [2, 5, 53] (fun v _ i wr => ∃ (m : Nat) (bs : List UInt8), m ≤ ps.length ∧ i = .int .i64 m ∧ WlI w wr B o (.slice VA o.val.length vc) A6 cap6 ps m v bs) (fun _ _ i _ => ps.length - (intOf i).toNat)
    case atStart => exact ⟨0, _, by omega, rfl, HL.out⟩
    case round =>
      obtain ⟨m, bs, hm, rfl, hI⟩ := hrel
      have HIm := Lib.hid hI
      clear HL hI
      by_cases hml : m < ps.length
      · obtain ⟨p, hp⟩ : ∃ p, ps[m]? = some p := ⟨_, List.getElem?_eq_getElem hml⟩
        obtain ⟨pg, rfl, hpg, q0, q1, _⟩ := part_at HIm.out.parts hp
        have z0 := fun ob => (op_cells (HIm.out.inv.box.alloc ob)).1
        have z1 := fun ob => (op_cells (HIm.out.inv.box.alloc ob)).2.1
        have z2 := fun ob => (op_cells (HIm.out.inv.box.alloc ob)).2.2.1
        have z3 := fun ob => (op_cells (HIm.out.inv.box.alloc ob)).2.2.2.1
        have z4 := fun ob => (op_cells (HIm.out.inv.box.alloc ob)).2.2.2.2.1
        have z5 := fun ob => (op_cells (HIm.out.inv.box.alloc ob)).2.2.2.2.2.1
        have z6 := fun ob => (op_cells (HIm.out.inv.box.alloc ob)).2.2.2.2.2.2.1
        have z7 := fun ob => (op_cells (HIm.out.inv.box.alloc ob)).2.2.2.2.2.2.2.1
        have z8 := fun ob => (op_cells (HIm.out.inv.box.alloc ob)).2.2.2.2.2.2.2.2
        have HPp := Lib.hid hp
        have hmI : (m : Int) < (ps.length : Int) := by omega
        have hlen : bs.length + (wrPart p o).length ≤ 292 := by
          have h1 := HIm.out.eq
          rw [List.drop_eq_getElem_cons hml, (List.getElem?_eq_some_iff.1 hp).2, List.flatMap_cons] at h1
          have h2 := wrRaw_len (codeI o.kind) o HKl.out HVl.out
          rw [← h1] at h2
          simp only [List.length_append] at h2
          omega
        have HLen := Lib.hid hlen
        have hwr := fun (wx : World) (hb : Below wr.heap.size wr wx) => wr_any p B o (.slice VA o.val.length vc) wx ⟨HIm.out.inv.val.below hb, by have := HKl.out; omega, by have := HVl.out; omega⟩
        clear hp hpg hlen
        cases p
        all_goals
          simp only [rdF, wrF] at q0 q1 hwr
          have HWr := Lib.hid hwr
          clear hwr
          go_wp2_with fail
          refine (HWr.out _ ((Below.refl _ _).alloc (Nat.le_refl _) _)).mono ?_
          rintro e w7 ⟨v7, rfl, ho7, hb7⟩
          obtain ⟨A7, cap7, rfl, _, _⟩ := own_form ho7
          have hb7' : Below wr.heap.size wr w7 := ((Below.refl _ _).alloc (Nat.le_refl _) _).trans (hb7.mono (by simp))
          have HB7 := Lib.hid hb7'
          have HO7 := Lib.hid ho7
          clear ho7 hb7 hb7' z0 z1 z2 z3 z4 z5 z6 z7 z8 q0 q1 HWr
          go_wp2_with (at_builtin; refine wpList_append_src _ rfl _ _ _ rfl (w.heap.size + 1) 5 i0 _ 1 1 Tryd.underlying22 hi0 hz0 hz1 hz2 rfl (by decide) _ bs.length (bcells bs) rfl (own_later HIm.out.row HB7.out) A7 _ cap7 (bcells _) rfl (Bts.of_own HO7.out B).src_at.2 (bcells_one _) (by have := HLen.out; unfold maxLen; omega) (by have := HLen.out; omega) (by have := HIm.out.inv.box.lt; have := HB7.out.size; omega) ?_; intro v8 w8 hown8 hg8 hat8)
          have hst := WlI.step HIm.out HV0.out HB7.out HPp.out hown8 hg8
          have HSt := Lib.hid hst
          clear hst hown8 hg8 hat8
          go_roundw
          case rel => exact ⟨m + 1, _, by omega, by go_num, HSt.out⟩
          case measure => simp [intOf]; omega
      · obtain rfl : m = ps.length := by omega
        have hbs : bs = wrRaw (codeI o.kind) o := by have := HIm.out.eq; rw [List.drop_length] at this; simpa using this
        subst hbs
        have hrw := HIm.out.row
        obtain ⟨A9, cap9, rfl, _, _⟩ := own_form hrw
        clear hrw
        go_upto_region 12 with fail
        obtain ⟨W12, hW12⟩ : ∃ W12, wr.alloc (.cells #[.slice A9 (wrRaw (codeI o.kind) o).length cap9] 80) = W12 := ⟨_, rfl⟩
        have hb12 : Below wr.heap.size wr W12 := hW12 ▸ (Below.refl _ _).alloc (Nat.le_refl _) _
        have hr12 : RS W12 w.heap.size wr.heap.size (wrRaw (codeI o.kind) o) := ⟨_, hW12 ▸ Blk.new _ _ _, (Bts.of_own HIm.out.row w.heap.size).below hb12⟩
        have HI12 := Lib.hid (HIm.out.inv.adv hb12)
        have HRow := Lib.hid (own_later HIm.out.row hb12)
        have HR12 := Lib.hid hr12
        have HLe : Hid (w.heap.size < wr.heap.size) := Lib.hid HIm.out.inv.box.lt
        have hI12 := HI12.out.box
        obtain ⟨z0, z1, z2, z3, z4, z5, z6, z7, z8⟩ := op_cells hI12
        try rw [hW12]
        clear hW12 hb12 hr12 hI12 HIm
        go_region_law
          ((first
            | (have hq := HW13.out; clear hq; go_simp; go_at_call 35; refine (equal_any w.heap.size B (rdOp (wrRaw (codeI o.kind) o)).1 o V13 (.slice VA o.val.length vc) _ HW13.out HI13.out.val).mono ?_; rintro e w14 ⟨rfl, hb14⟩; have HB14 := Lib.hid hb14; clear hb14)
            | (go_simp; go_at_call 42; refine (read_any w.heap.size wr.heap.size (wrRaw (codeI o.kind) o) _ HR12.out.drew (Nat.le_of_lt HLe.out) HI12.out.kg0 HI12.out.kg.drew HI12.out.below.size).mono ?_; rintro e w13 ⟨V13, rfl, hv13, hr13, ho13⟩; have HW13 := Lib.hid hv13; have hi13 := WrI.read HI12.out.drew HV0.out ho13 HLe.out; have HI13 := Lib.hid hi13; have HRow13 := Lib.hid (ownsRow_only HRow.out.drew ho13 (reader_ne HRow.out HR12.out)); obtain ⟨y0, y1, y2, y3, y4, y5, y6, y7, y8⟩ := op_cells hi13.box; clear hv13 hr13 ho13 hi13)))
        all_goals
          have hrow14 := ownsRow_base (own_later HRow13.out HB14.out) (Nat.le_succ w.heap.size)
          have hbl14 : Below w.heap.size w w14 := HI13.out.below.trans (HB14.out.mono HI13.out.below.size)
          have HRow14 := Lib.hid hrow14
          have HBl14 := Lib.hid hbl14
          clear hrow14 hbl14 z0 z1 z2 z3 z4 z5 z6 z7 z8 y0 y1 y2 y3 y4 y5 y6 y7 y8
          by_cases he : eqO (rdOp (wrRaw (codeI o.kind) o)).1 o
          · have hw : wrOp o = some (wrRaw (codeI o.kind) o) := by unfold wrOp; rw [if_neg HOk.out, if_pos he]
            have HW := Lib.hid hw
            have hd : decide (eqO (rdOp (wrRaw (codeI o.kind) o)).1 o) = true := decide_eq_true he
            rw [hd]
            clear he hd hw
            go_wp2_with fail
            try rw [Exit.noGoto_ret]
            go_ret
            rw [HW.out]
            exact ⟨_, rfl, HRow14.out, HBl14.out⟩
          · have hw : wrOp o = none := by unfold wrOp; rw [if_neg HOk.out, if_neg he]
            have HW := Lib.hid hw
            have hd : decide (eqO (rdOp (wrRaw (codeI o.kind) o)).1 o) = false := decide_eq_false he
            rw [hd]
            clear he hd hw
            go_wp2_with fail
            go_step3
            go_wp2_with fail
            try rw [Exit.noGoto_ret]
            go_ret
            rw [HW.out]
            exact ⟨rfl, HBl14.out⟩
  · go_upto_region 6 with fail
    obtain ⟨v5, hv5⟩ : ∃ v5 : Value, .slice (some ⟨W.heap.size, 0, none⟩) 1 1 = v5 := ⟨_, rfl⟩
    have hr5 := HR4.out
    rw [hv5] at hr5 ⊢
    have HI5 := Lib.hid HI4.out
    have HR5 : Hid (W4.ownsRow (w.heap.size + 1) 5 1 v5 [byteI (codeI o.kind + 16 * min o.ticks 15)].length (bcells [byteI (codeI o.kind + 16 * min o.ticks 15)])) := Lib.hid hr5
    have HEq5 : Hid ([byteI (codeI o.kind + 16 * min o.ticks 15)] ++ (partsOf o.kind).flatMap (fun p => wrPart p o) = wrRaw (codeI o.kind) o) := Lib.hid (by unfold wrRaw; rw [if_neg h15]; rfl)
    clear hv5 hr5 HR4 HI4 z0 z1
    have z0 : World.cell? W4 ⟨w.heap.size, 0, none⟩ = some (.int .i64 o.kind) := HI5.out.box.cell 0 _ rfl
    go_wp2_with fail
    refine (parts_any _ _).mono ?_
    rintro e w6 ⟨v6, rfl, hrow, hb6⟩
    obtain ⟨A6, cap6, rfl, _, _⟩ := own_form hrow
    obtain ⟨ps, hps⟩ : ∃ ps, partsOf o.kind = ps := ⟨_, rfl⟩
    have heq5 := HEq5.out
    rw [hps] at hrow heq5 ⊢
    have hpl : ps.length ≤ 3 := by rw [← hps]; exact partsOf_le _
    have hpI : (ps.length : Int) ≤ 3 := by omega
    have hL : WlI w w6 B o (.slice VA o.val.length vc) A6 cap6 ps 0 v5 ([byteI (codeI o.kind + 16 * min o.ticks 15)]) := ⟨HI5.out.adv hb6, own_later HR5.out hb6, ownsRow_base hrow (by have := HI5.out.box.lt; omega), by rw [List.drop_zero]; exact heq5⟩
    have HL := Lib.hid hL
    clear hrow hb6 hL hps z0 heq5 HI5 HR5 HEq5
    go_wp2_with fail
    go_loopw [2, 5, 53] (fun v _ i wr => ∃ (m : Nat) (bs : List UInt8), m ≤ ps.length ∧ i = .int .i64 m ∧ WlI w wr B o (.slice VA o.val.length vc) A6 cap6 ps m v bs) (fun _ _ i _ => ps.length - (intOf i).toNat)
    case atStart => exact ⟨0, _, by omega, rfl, HL.out⟩
    case round =>
      obtain ⟨m, bs, hm, rfl, hI⟩ := hrel
      have HIm := Lib.hid hI
      clear HL hI
      by_cases hml : m < ps.length
      · obtain ⟨p, hp⟩ : ∃ p, ps[m]? = some p := ⟨_, List.getElem?_eq_getElem hml⟩
        obtain ⟨pg, rfl, hpg, q0, q1, _⟩ := part_at HIm.out.parts hp
        have z0 := fun ob => (op_cells (HIm.out.inv.box.alloc ob)).1
        have z1 := fun ob => (op_cells (HIm.out.inv.box.alloc ob)).2.1
        have z2 := fun ob => (op_cells (HIm.out.inv.box.alloc ob)).2.2.1
        have z3 := fun ob => (op_cells (HIm.out.inv.box.alloc ob)).2.2.2.1
        have z4 := fun ob => (op_cells (HIm.out.inv.box.alloc ob)).2.2.2.2.1
        have z5 := fun ob => (op_cells (HIm.out.inv.box.alloc ob)).2.2.2.2.2.1
        have z6 := fun ob => (op_cells (HIm.out.inv.box.alloc ob)).2.2.2.2.2.2.1
        have z7 := fun ob => (op_cells (HIm.out.inv.box.alloc ob)).2.2.2.2.2.2.2.1
        have z8 := fun ob => (op_cells (HIm.out.inv.box.alloc ob)).2.2.2.2.2.2.2.2
        have HPp := Lib.hid hp
        have hmI : (m : Int) < (ps.length : Int) := by omega
        have hlen : bs.length + (wrPart p o).length ≤ 292 := by
          have h1 := HIm.out.eq
          rw [List.drop_eq_getElem_cons hml, (List.getElem?_eq_some_iff.1 hp).2, List.flatMap_cons] at h1
          have h2 := wrRaw_len (codeI o.kind) o HKl.out HVl.out
          rw [← h1] at h2
          simp only [List.length_append] at h2
          omega
        have HLen := Lib.hid hlen
        have hwr := fun (wx : World) (hb : Below wr.heap.size wr wx) => wr_any p B o (.slice VA o.val.length vc) wx ⟨HIm.out.inv.val.below hb, by have := HKl.out; omega, by have := HVl.out; omega⟩
        clear hp hpg hlen
        cases p
        all_goals
          simp only [rdF, wrF] at q0 q1 hwr
          have HWr := Lib.hid hwr
          clear hwr
          go_wp2_with fail
          refine (HWr.out _ ((Below.refl _ _).alloc (Nat.le_refl _) _)).mono ?_
          rintro e w7 ⟨v7, rfl, ho7, hb7⟩
          obtain ⟨A7, cap7, rfl, _, _⟩ := own_form ho7
          have hb7' : Below wr.heap.size wr w7 := ((Below.refl _ _).alloc (Nat.le_refl _) _).trans (hb7.mono (by simp))
          have HB7 := Lib.hid hb7'
          have HO7 := Lib.hid ho7
          clear ho7 hb7 hb7' z0 z1 z2 z3 z4 z5 z6 z7 z8 q0 q1 HWr
          go_wp2_with (at_builtin; refine wpList_append_src _ rfl _ _ _ rfl (w.heap.size + 1) 5 i0 _ 1 1 Tryd.underlying22 hi0 hz0 hz1 hz2 rfl (by decide) _ bs.length (bcells bs) rfl (own_later HIm.out.row HB7.out) A7 _ cap7 (bcells _) rfl (Bts.of_own HO7.out B).src_at.2 (bcells_one _) (by have := HLen.out; unfold maxLen; omega) (by have := HLen.out; omega) (by have := HIm.out.inv.box.lt; have := HB7.out.size; omega) ?_; intro v8 w8 hown8 hg8 hat8)
          have hst := WlI.step HIm.out HV0.out HB7.out HPp.out hown8 hg8
          have HSt := Lib.hid hst
          clear hst hown8 hg8 hat8
          go_roundw
          case rel => exact ⟨m + 1, _, by omega, by go_num, HSt.out⟩
          case measure => simp [intOf]; omega
      · obtain rfl : m = ps.length := by omega
        have hbs : bs = wrRaw (codeI o.kind) o := by have := HIm.out.eq; rw [List.drop_length] at this; simpa using this
        subst hbs
        have hrw := HIm.out.row
        obtain ⟨A9, cap9, rfl, _, _⟩ := own_form hrw
        clear hrw
        go_upto_region 12 with fail
        obtain ⟨W12, hW12⟩ : ∃ W12, wr.alloc (.cells #[.slice A9 (wrRaw (codeI o.kind) o).length cap9] 80) = W12 := ⟨_, rfl⟩
        have hb12 : Below wr.heap.size wr W12 := hW12 ▸ (Below.refl _ _).alloc (Nat.le_refl _) _
        have hr12 : RS W12 w.heap.size wr.heap.size (wrRaw (codeI o.kind) o) := ⟨_, hW12 ▸ Blk.new _ _ _, (Bts.of_own HIm.out.row w.heap.size).below hb12⟩
        have HI12 := Lib.hid (HIm.out.inv.adv hb12)
        have HRow := Lib.hid (own_later HIm.out.row hb12)
        have HR12 := Lib.hid hr12
        have HLe : Hid (w.heap.size < wr.heap.size) := Lib.hid HIm.out.inv.box.lt
        have hI12 := HI12.out.box
        obtain ⟨z0, z1, z2, z3, z4, z5, z6, z7, z8⟩ := op_cells hI12
        try rw [hW12]
        clear hW12 hb12 hr12 hI12 HIm
        go_region_law
          ((first
            | (have hq := HW13.out; clear hq; go_simp; go_at_call 35; refine (equal_any w.heap.size B (rdOp (wrRaw (codeI o.kind) o)).1 o V13 (.slice VA o.val.length vc) _ HW13.out HI13.out.val).mono ?_; rintro e w14 ⟨rfl, hb14⟩; have HB14 := Lib.hid hb14; clear hb14)
            | (go_simp; go_at_call 42; refine (read_any w.heap.size wr.heap.size (wrRaw (codeI o.kind) o) _ HR12.out.drew (Nat.le_of_lt HLe.out) HI12.out.kg0 HI12.out.kg.drew HI12.out.below.size).mono ?_; rintro e w13 ⟨V13, rfl, hv13, hr13, ho13⟩; have HW13 := Lib.hid hv13; have hi13 := WrI.read HI12.out.drew HV0.out ho13 HLe.out; have HI13 := Lib.hid hi13; have HRow13 := Lib.hid (ownsRow_only HRow.out.drew ho13 (reader_ne HRow.out HR12.out)); obtain ⟨y0, y1, y2, y3, y4, y5, y6, y7, y8⟩ := op_cells hi13.box; clear hv13 hr13 ho13 hi13)))
        all_goals
          have hrow14 := ownsRow_base (own_later HRow13.out HB14.out) (Nat.le_succ w.heap.size)
          have hbl14 : Below w.heap.size w w14 := HI13.out.below.trans (HB14.out.mono HI13.out.below.size)
          have HRow14 := Lib.hid hrow14
          have HBl14 := Lib.hid hbl14
          clear hrow14 hbl14 z0 z1 z2 z3 z4 z5 z6 z7 z8 y0 y1 y2 y3 y4 y5 y6 y7 y8
          by_cases he : eqO (rdOp (wrRaw (codeI o.kind) o)).1 o
          · have hw : wrOp o = some (wrRaw (codeI o.kind) o) := by unfold wrOp; rw [if_neg HOk.out, if_pos he]
            have HW := Lib.hid hw
            have hd : decide (eqO (rdOp (wrRaw (codeI o.kind) o)).1 o) = true := decide_eq_true he
            rw [hd]
            clear he hd hw
            go_wp2_with fail
            try rw [Exit.noGoto_ret]
            go_ret
            rw [HW.out]
            exact ⟨_, rfl, HRow14.out, HBl14.out⟩
          · have hw : wrOp o = none := by unfold wrOp; rw [if_neg HOk.out, if_neg he]
            have HW := Lib.hid hw
            have hd : decide (eqO (rdOp (wrRaw (codeI o.kind) o)).1 o) = false := decide_eq_false he
            rw [hd]
            clear he hd hw
            go_wp2_with fail
            go_step3
            go_wp2_with fail
            try rw [Exit.noGoto_ret]
            go_ret
            rw [HW.out]
            exact ⟨rfl, HBl14.out⟩

/-- An operation is written. -/
theorem write_any (B : Nat) (o : OpV) (V : Value) (w : World) (hv : Bts w B 5 V o.val) (hk : KG w) (ht : 0 ≤ o.ticks) :
    Calls Tryd.prog 38 #[opv o V] w (WrRet (wrOp o) w) := by
  by_cases h : badO o
  · have e : wrOp o = none := by unfold wrOp; exact if_pos h
    rw [e]
    exact write_bad B o V w hv hk h
  · exact write_ok B o V w hv hk h ht

end Go.Proofs.YtffigmciclopdaaDoor
