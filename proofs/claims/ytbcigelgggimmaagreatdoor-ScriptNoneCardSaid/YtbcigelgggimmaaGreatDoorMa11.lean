/- ScrD, ScrE, ScrF -/
import Derived.Test.YtbcigelgggimmaaGreatDoorMa10
import Derived.Laws.EntriesVeiled
import Derived.Laws.StructEq
namespace Go.Proofs.YtbcigelgggimmaaGreatDoor
open Go Go.RowKit
def partV (p : Part) : List Value := [.func (.func (rdF p)) #[] #[], .func (.func (wrF p)) #[] #[]]
def pcells (ps : List Part) : List Value := ps.flatMap partV
def mkF : Part → Nat
  | .key => 154
  | .value => 155
  | .ttl => 156
  | .budgets => 157
  | .aim => 158
  | .birth => 159
theorem mk_key (w : World) : Calls Tryz.prog 154 #[] w fun e w' => e = .returned (.agg (partV .key).toArray) ∧ Below w.heap.size w w' := by
  go_enter Tryz.func154, Tryz.ntmps154
  go_wp2_with fail
  refine bodyPost_ret (v := .agg (partV .key).toArray) (by simp [results, Tryz.results154, go_sem, partV, rdF, wrF]) rfl ⟨rfl, ?_⟩
  exact (Below.refl _ _).alloc (Nat.le_refl _) _
theorem mk_value (w : World) : Calls Tryz.prog 155 #[] w fun e w' => e = .returned (.agg (partV .value).toArray) ∧ Below w.heap.size w w' := by
  go_enter Tryz.func155, Tryz.ntmps155
  go_wp2_with fail
  refine bodyPost_ret (v := .agg (partV .value).toArray) (by simp [results, Tryz.results155, go_sem, partV, rdF, wrF]) rfl ⟨rfl, ?_⟩
  exact (Below.refl _ _).alloc (Nat.le_refl _) _
theorem mk_ttl (w : World) : Calls Tryz.prog 156 #[] w fun e w' => e = .returned (.agg (partV .ttl).toArray) ∧ Below w.heap.size w w' := by
  go_enter Tryz.func156, Tryz.ntmps156
  go_wp2_with fail
  refine bodyPost_ret (v := .agg (partV .ttl).toArray) (by simp [results, Tryz.results156, go_sem, partV, rdF, wrF]) rfl ⟨rfl, ?_⟩
  exact (Below.refl _ _).alloc (Nat.le_refl _) _
theorem mk_budgets (w : World) : Calls Tryz.prog 157 #[] w fun e w' => e = .returned (.agg (partV .budgets).toArray) ∧ Below w.heap.size w w' := by
  go_enter Tryz.func157, Tryz.ntmps157
  go_wp2_with fail
  refine bodyPost_ret (v := .agg (partV .budgets).toArray) (by simp [results, Tryz.results157, go_sem, partV, rdF, wrF]) rfl ⟨rfl, ?_⟩
  exact (Below.refl _ _).alloc (Nat.le_refl _) _
theorem mk_aim (w : World) : Calls Tryz.prog 158 #[] w fun e w' => e = .returned (.agg (partV .aim).toArray) ∧ Below w.heap.size w w' := by
  go_enter Tryz.func158, Tryz.ntmps158
  go_wp2_with fail
  refine bodyPost_ret (v := .agg (partV .aim).toArray) (by simp [results, Tryz.results158, go_sem, partV, rdF, wrF]) rfl ⟨rfl, ?_⟩
  exact (Below.refl _ _).alloc (Nat.le_refl _) _
theorem mk_birth (w : World) : Calls Tryz.prog 159 #[] w fun e w' => e = .returned (.agg (partV .birth).toArray) ∧ Below w.heap.size w w' := by
  go_enter Tryz.func159, Tryz.ntmps159
  go_wp2_with fail
  refine bodyPost_ret (v := .agg (partV .birth).toArray) (by simp [results, Tryz.results159, go_sem, partV, rdF, wrF]) rfl ⟨rfl, ?_⟩
  exact (Below.refl _ _).alloc (Nat.le_refl _) _
/-- The parts of a kind, in a new row. -/
def PartsRet (ps : List Part) (w : World) (e : Ending) (w' : World) : Prop :=
  ∃ v, e = .returned v ∧ w'.ownsRow w.heap.size 164 2 v ps.length (pcells ps) ∧ Below w.heap.size w w'
theorem PartsRet.of_row {ps : List Part} {w wx : World} {cs : Array Value} (hb : Below w.heap.size w wx) (hc : cs = (pcells ps).toArray) (hl : ps.length ≤ 3) :
    PartsRet ps w (.returned (.slice (some ⟨wx.heap.size, 0, none⟩) ps.length ps.length)) (wx.alloc (.cells cs 164)) := by
  subst hc
  refine ⟨_, rfl, ?_, hb.alloc hb.size _⟩
  have hs : (pcells ps).toArray.size = ps.length * 2 := by
    have : ∀ l : List Part, (pcells l).length = l.length * 2 := by
      intro l
      induction l with
      | nil => rfl
      | cons p l ih => rw [show pcells (p :: l) = partV p ++ pcells l from rfl, List.length_append, ih, List.length_cons]; simp [partV]; omega
    simpa using this ps
  have := World.ownsRow_lit (base := w.heap.size) (e := 164) (size := 2) wx (pcells ps).toArray ps.length hb.size (by unfold maxLen; omega) hs
  simpa using this
set_option maxHeartbeats 1000000 in
theorem parts_any (k : Int) (w : World) : Calls Tryz.prog 102 #[.int .i64 k] w (PartsRet (partsOf k) w) := by
  rcases (by omega : k = 3 ∨ k = 4 ∨ k = 6 ∨ k = 1 ∨ k = 2 ∨ k = 5 ∨ k = 8 ∨ k = 12 ∨ k = 14 ∨ k = 13 ∨ (k ≠ 3 ∧ k ≠ 4 ∧ k ≠ 6 ∧ k ≠ 1 ∧ k ≠ 2 ∧ k ≠ 5 ∧ k ≠ 8 ∧ k ≠ 12 ∧ k ≠ 14 ∧ k ≠ 13)) with hk | hk | hk | hk | hk | hk | hk | hk | hk | hk | hk
  · subst hk
    go_enter Tryz.func102, Tryz.ntmps102
    go_wp2_with fail
    refine (mk_key _).mono ?_
    rintro e w1 ⟨rfl, h1⟩
    simp only [partV]
    go_wp2_with fail
    go_ret
    exact PartsRet.of_row (ps := [.key]) h1 rfl (by decide)
  · subst hk
    go_enter Tryz.func102, Tryz.ntmps102
    go_wp2_with fail
    refine (mk_key _).mono ?_
    rintro e w1 ⟨rfl, h1⟩
    simp only [partV]
    go_wp2_with fail
    go_ret
    exact PartsRet.of_row (ps := [.key]) h1 rfl (by decide)
  · subst hk
    go_enter Tryz.func102, Tryz.ntmps102
    go_wp2_with fail
    refine (mk_key _).mono ?_
    rintro e w1 ⟨rfl, h1⟩
    simp only [partV]
    go_wp2_with fail
    go_ret
    exact PartsRet.of_row (ps := [.key]) h1 rfl (by decide)
  · subst hk
    go_enter Tryz.func102, Tryz.ntmps102
    go_wp2_with fail
    refine (mk_key _).mono ?_
    rintro e w1 ⟨rfl, h1⟩
    simp only [partV]
    go_wp2_with fail
    refine (mk_value _).mono ?_
    rintro e w2 ⟨rfl, h2⟩
    have h2 := h1.trans (h2.mono h1.size)
    clear h1
    simp only [partV]
    go_wp2_with fail
    go_ret
    exact PartsRet.of_row (ps := [.key, .value]) h2 rfl (by decide)
  · subst hk
    go_enter Tryz.func102, Tryz.ntmps102
    go_wp2_with fail
    refine (mk_key _).mono ?_
    rintro e w1 ⟨rfl, h1⟩
    simp only [partV]
    go_wp2_with fail
    refine (mk_value _).mono ?_
    rintro e w2 ⟨rfl, h2⟩
    have h2 := h1.trans (h2.mono h1.size)
    clear h1
    simp only [partV]
    go_wp2_with fail
    refine (mk_ttl _).mono ?_
    rintro e w3 ⟨rfl, h3⟩
    have h3 := h2.trans (h3.mono h2.size)
    clear h2
    simp only [partV]
    go_wp2_with fail
    go_ret
    exact PartsRet.of_row (ps := [.key, .value, .ttl]) h3 rfl (by decide)
  · subst hk
    go_enter Tryz.func102, Tryz.ntmps102
    go_wp2_with fail
    refine (mk_key _).mono ?_
    rintro e w1 ⟨rfl, h1⟩
    simp only [partV]
    go_wp2_with fail
    refine (mk_ttl _).mono ?_
    rintro e w2 ⟨rfl, h2⟩
    have h2 := h1.trans (h2.mono h1.size)
    clear h1
    simp only [partV]
    go_wp2_with fail
    go_ret
    exact PartsRet.of_row (ps := [.key, .ttl]) h2 rfl (by decide)
  · subst hk
    go_enter Tryz.func102, Tryz.ntmps102
    go_wp2_with fail
    refine (mk_budgets _).mono ?_
    rintro e w1 ⟨rfl, h1⟩
    simp only [partV]
    go_wp2_with fail
    go_ret
    exact PartsRet.of_row (ps := [.budgets]) h1 rfl (by decide)
  · subst hk
    go_enter Tryz.func102, Tryz.ntmps102
    go_wp2_with fail
    refine (mk_aim _).mono ?_
    rintro e w1 ⟨rfl, h1⟩
    simp only [partV]
    go_wp2_with fail
    go_ret
    exact PartsRet.of_row (ps := [.aim]) h1 rfl (by decide)
  · subst hk
    go_enter Tryz.func102, Tryz.ntmps102
    go_wp2_with fail
    refine (mk_aim _).mono ?_
    rintro e w1 ⟨rfl, h1⟩
    simp only [partV]
    go_wp2_with fail
    go_ret
    exact PartsRet.of_row (ps := [.aim]) h1 rfl (by decide)
  · subst hk
    go_enter Tryz.func102, Tryz.ntmps102
    go_wp2_with fail
    refine (mk_aim _).mono ?_
    rintro e w1 ⟨rfl, h1⟩
    simp only [partV]
    go_wp2_with fail
    refine (mk_birth _).mono ?_
    rintro e w2 ⟨rfl, h2⟩
    have h2 := h1.trans (h2.mono h1.size)
    clear h1
    simp only [partV]
    go_wp2_with fail
    go_ret
    exact PartsRet.of_row (ps := [.aim, .birth]) h2 rfl (by decide)
  · obtain ⟨k1, k2, k3, k4, k5, k6, k7, k8, k9, k10⟩ := hk
    have e1 : (k == 3) = false := by simpa using k1
    have e2 : (k == 4) = false := by simpa using k2
    have e3 : (k == 6) = false := by simpa using k3
    have e4 : (k == 1) = false := by simpa using k4
    have e5 : (k == 2) = false := by simpa using k5
    have e6 : (k == 5) = false := by simpa using k6
    have e7 : (k == 8) = false := by simpa using k7
    have e8 : (k == 12) = false := by simpa using k8
    have e9 : (k == 14) = false := by simpa using k9
    have e10 : (k == 13) = false := by simpa using k10
    have hp : partsOf k = [] := by simp [partsOf, k1, k2, k3, k4, k5, k6, k7, k8, k9, k10]
    rw [hp]
    clear hp
    go_enter Tryz.func102, Tryz.ntmps102
    go_wp2_with fail
    go_ret
    exact ⟨_, rfl, World.ownsRow_nil _ _ _ _, Below.refl _ _⟩
end Go.Proofs.YtbcigelgggimmaaGreatDoor
namespace Go.Proofs.YtbcigelgggimmaaGreatDoor
open Go Go.RowKit
theorem RS.drew {w : World} {B g : Nat} {rs : List UInt8} (h : RS w B g rs) : RS w.drew B g rs := h
/-- The table of kinds lies in the first block. -/
def KG (w : World) : Prop := 0 < w.heap.size ∧ ∀ i, i < 16 → w.cell? ⟨0, i, none⟩ = some (.int .i64 (kindL.getD i 0))
section
variable {w w' : World} {B g : Nat}
theorem KG.block (h : KG w) (hs : w.heap.size ≤ w'.heap.size) (hb : w'.heap[0]? = w.heap[0]?) : KG w' :=
  ⟨Nat.lt_of_lt_of_le h.1 hs, fun i hi => by rw [World.cell?_of_block (w := w) (a := ⟨0, i, none⟩) hb]; exact h.2 i hi⟩
theorem KG.below (h : KG w) (hb : Below B w w') (hB : 0 < B) : KG w' := h.block hb.size (hb.block 0 hB)
theorem KG.only {S : Nat → Prop} (h : KG w) (ho : Only S w w') (hS : ¬ S 0) : KG w' := h.block ho.size (ho.block 0 h.1 hS)
end
theorem pcells_at : ∀ (ps : List Part) (m j : Nat) (p : Part), ps[m]? = some p → j < 2 → (pcells ps)[m * 2 + j]? = (partV p)[j]?
  | [], m, j, p, h, _ => by simp at h
  | q :: ps, 0, j, p, h, hj => by
    have e : q = p := by simpa using h
    subst e
    have : pcells (q :: ps) = partV q ++ pcells ps := rfl
    rw [this, List.getElem?_append_left (by simp [partV]; omega)]
    simp
  | q :: ps, m + 1, j, p, h, hj => by
    have : pcells (q :: ps) = partV q ++ pcells ps := rfl
    rw [this, List.getElem?_append_right (by simp [partV]; omega)]
    have e : (m + 1) * 2 + j - (partV q).length = m * 2 + j := by simp [partV]; omega
    rw [e]
    exact pcells_at ps m j p (by simpa using h) hj
theorem row_heap {w : World} {base : Nat} {e : TypeId} {size : Nat} {v : Value} {n : Nat} {xs : List Value} (h : w.ownsRow base e size v n xs) {k : Nat} (hk : v.ownBlock = some k) : base ≤ k ∧ ∃ cur, w.heap[k]? = some (.cells cur e (0, 0)) := by
  rcases h.2 with ⟨rfl, _⟩ | ⟨g, cap, cur, rfl, hg, hh, _⟩
  · cases hk
  · cases hk; exact ⟨hg, cur, hh⟩
/-- The cells of a row of parts. -/
theorem part_at {w : World} {base : Nat} {A : Option Addr} {cap : Nat} {ps : List Part} (h : w.ownsRow base 164 2 (.slice A ps.length cap) ps.length (pcells ps)) {m : Nat} {p : Part} (hp : ps[m]? = some p) :
    ∃ pg, A = some ⟨pg, 0, none⟩ ∧ base ≤ pg ∧ w.cell? ⟨pg, m * 2, none⟩ = some (.func (.func (rdF p)) #[] #[]) ∧ w.cell? ⟨pg, m * 2 + 1, none⟩ = some (.func (.func (wrF p)) #[] #[]) ∧ ∃ cur, w.heap[pg]? = some (.cells cur 164 (0, 0)) := by
  have hm := (List.getElem?_eq_some_iff.1 hp).1
  rcases h.2 with ⟨hv, h0⟩ | ⟨pg, c, cur, hv, hg, hh, r⟩
  · omega
  · injection hv with e1 e2 e3
    subst e1
    have hc := h.cells (g := pg) rfl
    have h0 := hc (m * 2) (.func (.func (rdF p)) #[] #[]) (by have := pcells_at ps m 0 p hp (by omega); simpa [partV] using this)
    have h1 := hc (m * 2 + 1) (.func (.func (wrF p)) #[] #[]) (by rw [pcells_at ps m 1 p hp (by omega)]; rfl)
    rw [add_plain, Nat.zero_add] at h0 h1
    exact ⟨pg, rfl, hg, h0, h1, cur, hh⟩
/-- What the loop over the parts keeps. -/
structure RdI (w wr : World) (B g h : Nat) (A : Option Addr) (cap : Nat) (ps : List Part) (rs : List UInt8) (i : Nat) : Prop where
  st : ∃ o r, RS wr B g r ∧ OS wr B h o ∧ rdParts (ps.drop i) o r = rdOp rs
  row : wr.ownsRow w.heap.size 164 2 (.slice A ps.length cap) ps.length (pcells ps)
  zero : Blk wr w.heap.size 41 (opc ⟨0, 0, ⟨#[]⟩, [], 0, 0, 0, 0, 0⟩ (.slice none 0 0))
  only : Only (fun k => k = g) w wr
/-- One part more. -/
theorem RdI.step {w wr w' : World} {B g h : Nat} {A : Option Addr} {cap : Nat} {ps : List Part} {rs : List UInt8} {i : Nat} {p : Part} {o : OpV} {r : List UInt8}
    (hI : RdI w wr B g h A cap ps rs i) (ho : OS wr B h o) (hp : ps[i]? = some p) (hd : rdParts (ps.drop i) o r = rdOp rs) (hg : g < w.heap.size) (hh : w.heap.size < h)
    {ob : Obj} {e : Ending} (hr : RdPost B g h (rdPart p o r) (wr.alloc ob) e w') : RdI w w' B g h A cap ps rs (i + 1) := by
  obtain ⟨_, h1, h2, h3⟩ := hr
  have h4 : Only (fun k => k = g ∨ k = h) wr w' := (Only.of_below ((Below.refl _ _).alloc (Nat.le_refl _) ob)).trans h3 (fun _ _ h => h)
  refine ⟨⟨_, _, h1, h2, ?_⟩, ownsRow_only hI.row h4 ?_, hI.zero.only h4 (by rintro (e | e) <;> omega), hI.only.trans h4 ?_⟩
  · have hi := (List.getElem?_eq_some_iff.1 hp).1
    rw [List.drop_eq_getElem_cons hi, (List.getElem?_eq_some_iff.1 hp).2] at hd
    exact hd
  · intro k hk
    obtain ⟨hb, cur, hc⟩ := row_heap hI.row hk
    rintro (rfl | rfl)
    · omega
    · obtain ⟨V, hb2, _⟩ := ho
      exact hb2.ne_ hc (by decide) rfl
  · intro i hi h
    rcases h with h | h
    · exact h
    · have : i < w.heap.size := hi
      omega
/-- An operation stored whole into a box. -/
def set9 (w : World) (g : Nat) (o : OpV) (V : Value) : World :=
  ((((((((w.setCell ⟨g, 0, none⟩ (.int .i64 o.kind)).setCell ⟨g, 1, none⟩ (.int .u64 o.ticks)).setCell ⟨g, 2, none⟩ (.string o.key)).setCell ⟨g, 3, none⟩ V).setCell ⟨g, 4, none⟩ (.int .u64 o.ttl)).setCell ⟨g, 5, none⟩ (.int .i64 o.count)).setCell ⟨g, 6, none⟩ (.int .i64 o.bytes)).setCell ⟨g, 7, none⟩ (.int .i64 o.cursor)).setCell ⟨g, 8, none⟩ (.int .u64 o.birth)
theorem opc_set9 (o0 o : OpV) (V0 V : Value) : ((((((((((opc o0 V0).setIfInBounds 0 (.int .i64 o.kind)).setIfInBounds 1 (.int .u64 o.ticks)).setIfInBounds 2 (.string o.key)).setIfInBounds 3 V).setIfInBounds 4 (.int .u64 o.ttl)).setIfInBounds 5 (.int .i64 o.count)).setIfInBounds 6 (.int .i64 o.bytes)).setIfInBounds 7 (.int .i64 o.cursor)).setIfInBounds 8 (.int .u64 o.birth)) = opc o V := by
  simp [opc]
theorem Blk.set9 {w : World} {g : Nat} {o0 : OpV} {V0 : Value} (h : Blk w g 41 (opc o0 V0)) (o : OpV) (V : Value) : Blk (set9 w g o V) g 41 (opc o V) := by
  have h9 := ((((((((h.set_ 0 (.int .i64 o.kind)).set_ 1 (.int .u64 o.ticks)).set_ 2 (.string o.key)).set_ 3 V).set_ 4 (.int .u64 o.ttl)).set_ 5 (.int .i64 o.count)).set_ 6 (.int .i64 o.bytes)).set_ 7 (.int .i64 o.cursor)).set_ 8 (.int .u64 o.birth)
  rw [opc_set9] at h9
  exact h9
theorem Only.set9 (w : World) (g : Nat) (o : OpV) (V : Value) : Only (fun k => k = g) w (set9 w g o V) :=
  (((((((((Only.refl (fun k => k = g) w).setCell (p := ⟨g, 0, none⟩) (.inl rfl) _).setCell (p := ⟨g, 1, none⟩) (.inl rfl) _).setCell (p := ⟨g, 2, none⟩) (.inl rfl) _).setCell (p := ⟨g, 3, none⟩) (.inl rfl) _).setCell (p := ⟨g, 4, none⟩) (.inl rfl) _).setCell (p := ⟨g, 5, none⟩) (.inl rfl) _).setCell (p := ⟨g, 6, none⟩) (.inl rfl) _).setCell (p := ⟨g, 7, none⟩) (.inl rfl) _).setCell (p := ⟨g, 8, none⟩) (.inl rfl) _
theorem partsOf_le (k : Int) : (partsOf k).length ≤ 3 := by
  unfold partsOf
  repeat (first | (split; · decide) | (split) | decide)
set_option maxRecDepth 100000 in
set_option maxHeartbeats 2000000 in
theorem read_any (B g : Nat) (rs : List UInt8) (w : World) (hr : RS w B g rs) (hg : B ≤ g) (hB : 0 < B) (hk : KG w) (hs : B ≤ w.heap.size) :
    Calls Tryz.prog 97 #[.pointer (some ⟨g, 0, none⟩)] w fun e w' => ∃ V, e = .returned (opv (rdOp rs).1 V) ∧ Bts w' B 5 V (rdOp rs).1.val ∧ RS w' B g (rdOp rs).2 ∧ Only (fun k => k = g) w w' := by
  have HR := Lib.hid hr
  have HG := Lib.hid hg
  have HBp := Lib.hid hB
  have HK := Lib.hid hk
  have HS := Lib.hid hs
  clear hr hg hB hk hs
  go_enter Tryz.func97, Tryz.ntmps97
  go_wp2_with fail
  obtain ⟨wa, hwa⟩ : ∃ wa, w.alloc (.cells #[.int .i64 0, .int .u64 0, .string ⟨#[]⟩, .slice none 0 0, .int .u64 0, .int .i64 0, .int .i64 0, .int .i64 0, .int .u64 0] 41) = wa := ⟨_, rfl⟩
  have hba : Below w.heap.size w wa := hwa ▸ (Below.refl _ _).alloc (Nat.le_refl _) _
  have hza : Blk wa w.heap.size 41 #[.int .i64 0, .int .u64 0, .string ⟨#[]⟩, .slice none 0 0, .int .u64 0, .int .i64 0, .int .i64 0, .int .i64 0, .int .u64 0] := hwa ▸ Blk.new _ _ _
  rw [hwa]
  clear hwa
  have HRa := Lib.hid (HR.out.below hba)
  have HBa := Lib.hid hba
  have HZa := Lib.hid hza
  clear hba hza
  refine (number_rs B g rs 1 wa HRa.out HG.out (by omega)).mono ?_
  rintro e w1 ⟨rfl, hr1, hy1⟩
  have hgl := HR.out.lt
  have hz1 := HZa.out.only hy1 (show ¬ w.heap.size = g by omega)
  have hk1 : KG w1 := (HK.out.below HBa.out HK.out.1).only hy1 (show ¬ 0 = g by have := HG.out; have := HBp.out; omega)
  have HR1 := Lib.hid hr1
  have HY1 : Hid (Only (fun k => k = g) w w1) := Lib.hid ((Only.of_below HBa.out).trans hy1 (fun _ _ e => e))
  have HZ1 := Lib.hid hz1
  have HK1 := Lib.hid hk1
  have hn := numBE_lt (takeP 1 rs)
  rw [takeP_length] at hn
  obtain ⟨x, hx⟩ : ∃ x, numBE (takeP 1 rs) = x := ⟨_, rfl⟩
  rw [hx] at hn ⊢
  have HX := Lib.hid hx
  have hx256 : x < 256 := hn
  have hxI : (x : Int) < 256 := by omega
  clear hn hr1 hy1 hz1 hk1 hx hgl
  obtain ⟨kk, hkk⟩ : ∃ kk, kindL.getD (x % 16) 0 = kk := ⟨_, rfl⟩
  have hc : w1.cell? ⟨0, x % 16, none⟩ = some (.int .i64 kk) := hkk ▸ HK1.out.2 _ (by omega)
  have HKK := Lib.hid hkk
  clear hkk
  have hw : IntKind.u64.wrap ((x : Int) / 16) = (x : Int) / 16 := by rw [IntKind.wrap_u64]; omega
  by_cases h15 : x / 16 = 15
  · have e15 : ((x : Int) / 16 == 15) = true := by simp; omega
    go_upto_region 4 with fail
    obtain ⟨W, hW⟩ : ∃ W, w1.alloc (.cells #[.int .i64 kk, .int .u64 ((x : Int) / 16), .string ⟨#[]⟩, .slice none 0 0, .int .u64 0, .int .i64 0, .int .i64 0, .int .i64 0, .int .u64 0] 41) = W := ⟨_, rfl⟩
    have hbW : Below w1.heap.size w1 W := hW ▸ (Below.refl _ _).alloc (Nat.le_refl _) _
    have hoW : Blk W w1.heap.size 41 (opc (op0 x) (.slice none 0 0)) := by rw [← hW]; have := Blk.new w1 41 #[.int .i64 kk, .int .u64 ((x : Int) / 16), .string ⟨#[]⟩, .slice none 0 0, .int .u64 0, .int .i64 0, .int .i64 0, .int .i64 0, .int .u64 0]; unfold op0 opc; dsimp only; rw [HKK.out]; exact this
    have hrW : RS W B g (rs.drop 1) := HR1.out.below hbW
    have t0 : W.cell? ⟨w1.heap.size, 1, none⟩ = some (.int .u64 ((x : Int) / 16)) := hoW.cell 1 _ rfl
    have HRw := Lib.hid hrW
    have HOw := Lib.hid hoW
    have HLt : Hid (w.heap.size < w1.heap.size) := Lib.hid HZ1.out.lt
    have HZw := Lib.hid (HZ1.out.below hbW)
    have HYw : Hid (Only (fun k => k = g) w W) := Lib.hid (HY1.out.trans (Only.of_below (S := fun k => k = g) hbW) (fun _ _ h => h))
    try rw [hW]
    clear hbW hoW hrW hW hc
    have hn2 := numBE_lt (takeP 1 (rs.drop 1))
    rw [takeP_length] at hn2
    obtain ⟨y, hy⟩ : ∃ y, numBE (takeP 1 (rs.drop 1)) = y := ⟨_, rfl⟩
    rw [hy] at hn2
    have HYy := Lib.hid hy
    have hy256 : y < 256 := hn2
    have hwy : IntKind.u64.wrap (y : Int) = (y : Int) := by rw [IntKind.wrap_u64]; omega
    have hwz : IntKind.u64.wrap ((x : Int) / 16 + (y : Int)) = 15 + (y : Int) := by rw [IntKind.wrap_u64]; omega
    have hnum := fun wx (h : RS wx B g (rs.drop 1)) => number_rs B g (rs.drop 1) 1 wx h HG.out (by omega)
    rw [hy] at hnum
    have HNum := Lib.hid hnum
    clear hy hn2 hnum
    go_region_law
      ((first | (go_simp; go_at_call 153; refine (HNum.out _ HRw.out.drew).mono ?_; rintro e w2 ⟨rfl, hr2, hy2⟩; have hb2 := HOw.out.drew.only hy2 (show ¬ w1.heap.size = g by have := HR.out.lt; have := HLt.out; omega); have t1 : w2.cell? ⟨w1.heap.size, 1, none⟩ = some (.int .u64 ((x : Int) / 16)) := hb2.cell 1 _ rfl; have f1 := hb2.frozen 1; have HR2 := Lib.hid hr2; have HY2 := Lib.hid hy2; have HB2 := Lib.hid hb2; clear hr2 hy2 hb2)))
    all_goals
      have hhd : rdHead rs = ({ op0 x with ticks := 15 + (y : Int) }, (rs.drop 1).drop 1) := by unfold rdHead; rw [HX.out, if_pos h15, HYy.out]
      have hon : Only (fun k => k = w1.heap.size) w2 (w2.setCell ⟨w1.heap.size, 1, none⟩ (.int .u64 (15 + (y : Int)))) := Only.set1 _ _ _ _
      have hset : Blk (w2.setCell ⟨w1.heap.size, 1, none⟩ (.int .u64 (15 + (y : Int)))) w1.heap.size 41 (opc (rdHead rs).1 (.slice none 0 0)) := by
        have := HB2.out.set_ 1 (.int .u64 (15 + (y : Int)))
        rw [hhd]
        have e : (opc (op0 x) (.slice none 0 0)).setIfInBounds 1 (.int .u64 (15 + (y : Int))) = opc { op0 x with ticks := 15 + (y : Int) } (.slice none 0 0) := by simp [opc]
        rw [e] at this
        exact this
      have hr9 : RS (w2.setCell ⟨w1.heap.size, 1, none⟩ (.int .u64 (15 + (y : Int)))) B g (rdHead rs).2 := by
        rw [hhd]
        obtain ⟨V, h3, h4⟩ := HR2.out
        exact ⟨V, h3.only hon (by have := HR.out.lt; have := HLt.out; omega), h4.keep (KeepB.of_blk HB2.out (by decide) (by have := HLt.out; have := HS.out; omega) hon)⟩
      have hz9 : Blk (w2.setCell ⟨w1.heap.size, 1, none⟩ (.int .u64 (15 + (y : Int)))) w.heap.size 41 (opc ⟨0, 0, ⟨#[]⟩, [], 0, 0, 0, 0, 0⟩ (.slice none 0 0)) := (HZw.out.drew.only HY2.out (by have := HR.out.lt; omega)).only hon (by have := HLt.out; omega)
      have hy9 : Only (fun k => k = g) w (w2.setCell ⟨w1.heap.size, 1, none⟩ (.int .u64 (15 + (y : Int)))) := (HYw.out.drew.trans HY2.out (fun _ _ e => e)).trans hon (fun i hi e => by have := HLt.out; omega)
      generalize World.setCell _ _ _ = W9 at hset hr9 hz9 hy9 ⊢
      have HOw : Hid (OS W9 B w1.heap.size (rdHead rs).1) := Lib.hid ⟨.slice none 0 0, hset, by rw [hhd]; exact Bts.nil _ _ _⟩
      have HRw := Lib.hid hr9
      have HZw := Lib.hid hz9
      have HYw := Lib.hid hy9
      clear hset hr9 hz9 hy9 hhd t1 f1 t0 hon HR2 HY2 HB2 HNum
      go_upto_region 5 with fail
      obtain ⟨Vo, hbo, hvo⟩ := HOw.out
      have k0 : W9.cell? ⟨w1.heap.size, 0, none⟩ = some (.int .i64 (rdHead rs).1.kind) := hbo.cell 0 _ rfl
      clear hbo hvo Vo
      go_wp2_with fail
      refine (parts_any _ _).mono ?_
      rintro e w5 ⟨v5, rfl, hrow, hb5⟩
      obtain ⟨A5, cap5, rfl, _, _⟩ := own_form hrow
      have hI : RdI w w5 B g w1.heap.size A5 cap5 (partsOf (rdHead rs).1.kind) rs 0 :=
        ⟨⟨(rdHead rs).1, (rdHead rs).2, HRw.out.below hb5, HOw.out.below hb5, by rw [List.drop_zero]; rfl⟩, ownsRow_base hrow HYw.out.size, HZw.out.below hb5, HYw.out.trans (Only.of_below (S := fun k => k = g) hb5) (fun _ _ h => h)⟩
      have HI := Lib.hid hI
      obtain ⟨ps, hps⟩ : ∃ ps, partsOf (rdHead rs).1.kind = ps := ⟨_, rfl⟩
      rw [hps] at HI ⊢
      have hpl : ps.length ≤ 3 := by rw [← hps]; exact partsOf_le _
      have hpI : (ps.length : Int) ≤ 3 := by omega
      clear hrow hb5 hI hps k0
      go_wp2_with fail
      go_loopw [6, 31] (fun _ i wr => ∃ m : Nat, m ≤ ps.length ∧ i = .int .i64 m ∧ RdI w wr B g w1.heap.size A5 cap5 ps rs m) (fun _ i _ => ps.length - (intOf i).toNat)
      case atStart => exact ⟨0, by omega, rfl, HI.out⟩
      case round =>
        obtain ⟨m, hm, rfl, hI⟩ := hrel
        have HIm := Lib.hid hI
        clear HI HRw HOw HZw HYw
        by_cases hml : m < ps.length
        · obtain ⟨p, hp⟩ : ∃ p, ps[m]? = some p := ⟨_, List.getElem?_eq_getElem hml⟩
          obtain ⟨pg, rfl, hpg, q0, q1, _⟩ := part_at HIm.out.row hp
          obtain ⟨o, r, hr, ho, hd⟩ := HIm.out.st
          have HRr := Lib.hid hr
          have HOo := Lib.hid ho
          have HDd := Lib.hid hd
          have HPp := Lib.hid hp
          have hmI : (m : Int) < (ps.length : Int) := by omega
          have hcI : (ps.length : Int) ≤ 3 := hpI
          clear hr ho hd hp hI hpg
          have HRd := fun (wx : World) (hb : Below wr.heap.size wr wx) => rd_any p B g w1.heap.size r o wx (HRr.out.below hb) (HOo.out.below hb) HG.out (by have := HS.out; have := HLt.out; omega)
          cases p
          all_goals
            simp only [rdF, wrF] at q0 q1 HRd
            have HRd := Lib.hid HRd
            go_wp2_with fail
            refine (HRd.out _ ((Below.refl _ _).alloc (Nat.le_refl _) _)).mono ?_
            rintro e w7 hpost
            obtain ⟨u, rfl⟩ := hpost.1
            have hst := RdI.step HIm.out HOo.out HPp.out HDd.out HR.out.lt HLt.out hpost
            have HSt := Lib.hid hst
            clear hst hpost q0 q1
            go_wp2_with fail
            go_roundw
            case rel => exact ⟨m + 1, by omega, by go_num, HSt.out⟩
            case measure => simp [intOf]; omega
        · obtain rfl : m = ps.length := by omega
          obtain ⟨o, r, hr, ho, hd⟩ := HIm.out.st
          rw [List.drop_length] at hd
          have e1 : o = (rdOp rs).1 := congrArg Prod.fst hd
          have e2 : r = (rdOp rs).2 := congrArg Prod.snd hd
          subst e1 e2
          obtain ⟨Vo, hbo, hvo⟩ := ho
          have k0 : wr.cell? ⟨w1.heap.size, 0, none⟩ = some (.int .i64 (rdOp rs).1.kind) := hbo.cell 0 _ rfl
          have k1 : wr.cell? ⟨w1.heap.size, 1, none⟩ = some (.int .u64 (rdOp rs).1.ticks) := hbo.cell 1 _ rfl
          have k2 : wr.cell? ⟨w1.heap.size, 2, none⟩ = some (.string (rdOp rs).1.key) := hbo.cell 2 _ rfl
          have k3 : wr.cell? ⟨w1.heap.size, 3, none⟩ = some Vo := hbo.cell 3 _ rfl
          have k4 : wr.cell? ⟨w1.heap.size, 4, none⟩ = some (.int .u64 (rdOp rs).1.ttl) := hbo.cell 4 _ rfl
          have k5 : wr.cell? ⟨w1.heap.size, 5, none⟩ = some (.int .i64 (rdOp rs).1.count) := hbo.cell 5 _ rfl
          have k6 : wr.cell? ⟨w1.heap.size, 6, none⟩ = some (.int .i64 (rdOp rs).1.bytes) := hbo.cell 6 _ rfl
          have k7 : wr.cell? ⟨w1.heap.size, 7, none⟩ = some (.int .i64 (rdOp rs).1.cursor) := hbo.cell 7 _ rfl
          have k8 : wr.cell? ⟨w1.heap.size, 8, none⟩ = some (.int .u64 (rdOp rs).1.birth) := hbo.cell 8 _ rfl
          have hz := HIm.out.zero
          have j0 : wr.cell? ⟨w.heap.size, 0, none⟩ = some (.int .i64 0) := hz.cell 0 _ rfl
          have j1 : wr.cell? ⟨w.heap.size, 1, none⟩ = some (.int .u64 0) := hz.cell 1 _ rfl
          have j2 : wr.cell? ⟨w.heap.size, 2, none⟩ = some (.string ⟨#[]⟩) := hz.cell 2 _ rfl
          have j3 : wr.cell? ⟨w.heap.size, 3, none⟩ = some (.slice none 0 0) := hz.cell 3 _ rfl
          have j4 : wr.cell? ⟨w.heap.size, 4, none⟩ = some (.int .u64 0) := hz.cell 4 _ rfl
          have j5 : wr.cell? ⟨w.heap.size, 5, none⟩ = some (.int .i64 0) := hz.cell 5 _ rfl
          have j6 : wr.cell? ⟨w.heap.size, 6, none⟩ = some (.int .i64 0) := hz.cell 6 _ rfl
          have j7 : wr.cell? ⟨w.heap.size, 7, none⟩ = some (.int .i64 0) := hz.cell 7 _ rfl
          have j8 : wr.cell? ⟨w.heap.size, 8, none⟩ = some (.int .u64 0) := hz.cell 8 _ rfl
          have jf := hz.frozen
          have hne := HLt.out
          obtain ⟨VA, vc, rfl⟩ := hvo.form
          have HRr := Lib.hid hr
          have HVv := Lib.hid hvo
          have HZz := Lib.hid hz
          have hlz := hz.lt
          clear hr hbo hvo hz hd hI
          go_wp2_with fail
          have h9 := Blk.set9 HZz.out (rdOp rs).1 (.slice VA (rdOp rs).1.val.length vc)
          have o9 := Only.set9 wr w.heap.size (rdOp rs).1 (.slice VA (rdOp rs).1.val.length vc)
          unfold set9 at h9 o9
          generalize World.setCell _ _ _ = w9 at h9 o9 ⊢
          have i0 : w9.cell? ⟨w.heap.size, 0, none⟩ = some (.int .i64 (rdOp rs).1.kind) := h9.cell 0 _ rfl
          have i1 : w9.cell? ⟨w.heap.size, 1, none⟩ = some (.int .u64 (rdOp rs).1.ticks) := h9.cell 1 _ rfl
          have i2 : w9.cell? ⟨w.heap.size, 2, none⟩ = some (.string (rdOp rs).1.key) := h9.cell 2 _ rfl
          have i3 : w9.cell? ⟨w.heap.size, 3, none⟩ = some (.slice VA (rdOp rs).1.val.length vc) := h9.cell 3 _ rfl
          have i4 : w9.cell? ⟨w.heap.size, 4, none⟩ = some (.int .u64 (rdOp rs).1.ttl) := h9.cell 4 _ rfl
          have i5 : w9.cell? ⟨w.heap.size, 5, none⟩ = some (.int .i64 (rdOp rs).1.count) := h9.cell 5 _ rfl
          have i6 : w9.cell? ⟨w.heap.size, 6, none⟩ = some (.int .i64 (rdOp rs).1.bytes) := h9.cell 6 _ rfl
          have i7 : w9.cell? ⟨w.heap.size, 7, none⟩ = some (.int .i64 (rdOp rs).1.cursor) := h9.cell 7 _ rfl
          have i8 : w9.cell? ⟨w.heap.size, 8, none⟩ = some (.int .u64 (rdOp rs).1.birth) := h9.cell 8 _ rfl
          have hk9 : KeepB B 5 wr w9 := KeepB.of_blk HZz.out (by decide) HS.out o9
          refine bodyPost_ret (v := opv (rdOp rs).1 (.slice VA (rdOp rs).1.val.length vc)) (by simp [results, Tryz.results97, go_sem, opv, opc, i0, i1, i2, i3, i4, i5, i6, i7, i8]) rfl ⟨_, rfl, HVv.out.keep hk9, ?_, HIm.out.only.trans o9 (fun i hi e => by omega)⟩
          obtain ⟨V2, h3, h4⟩ := HRr.out
          exact ⟨V2, h3.only o9 (by have := HR.out.lt; omega), h4.keep hk9⟩
  · have e15 : ((x : Int) / 16 == 15) = false := by simp; omega
    go_upto_region 5 with fail
    obtain ⟨W, hW⟩ : ∃ W, w1.alloc (.cells #[.int .i64 kk, .int .u64 ((x : Int) / 16), .string ⟨#[]⟩, .slice none 0 0, .int .u64 0, .int .i64 0, .int .i64 0, .int .i64 0, .int .u64 0] 41) = W := ⟨_, rfl⟩
    have hbW : Below w1.heap.size w1 W := hW ▸ (Below.refl _ _).alloc (Nat.le_refl _) _
    have hhd : rdHead rs = (op0 x, rs.drop 1) := by unfold rdHead; rw [HX.out, if_neg h15]
    have hoW : OS W B w1.heap.size (rdHead rs).1 := ⟨.slice none 0 0, by rw [hhd, ← hW]; have := Blk.new w1 41 #[.int .i64 kk, .int .u64 ((x : Int) / 16), .string ⟨#[]⟩, .slice none 0 0, .int .u64 0, .int .i64 0, .int .i64 0, .int .i64 0, .int .u64 0]; unfold op0 opc; dsimp only; rw [HKK.out]; exact this, by rw [hhd]; exact Bts.nil _ _ _⟩
    have hrW : RS W B g (rdHead rs).2 := by rw [hhd]; exact HR1.out.below hbW
    have HRw := Lib.hid hrW
    have HOw := Lib.hid hoW
    have HZw := Lib.hid (HZ1.out.below hbW)
    have HLt : Hid (w.heap.size < w1.heap.size) := Lib.hid HZ1.out.lt
    have HYw : Hid (Only (fun k => k = g) w W) := Lib.hid (HY1.out.trans (Only.of_below (S := fun k => k = g) hbW) (fun _ _ h => h))
    rw [hW]
    clear hbW hoW hrW hW hhd hc
    obtain ⟨Vo, hbo, hvo⟩ := HOw.out
    have k0 : W.cell? ⟨w1.heap.size, 0, none⟩ = some (.int .i64 (rdHead rs).1.kind) := hbo.cell 0 _ rfl
    clear hbo hvo Vo
    go_wp2_with fail
    refine (parts_any _ _).mono ?_
    rintro e w5 ⟨v5, rfl, hrow, hb5⟩
    obtain ⟨A5, cap5, rfl, _, _⟩ := own_form hrow
    have hI : RdI w w5 B g w1.heap.size A5 cap5 (partsOf (rdHead rs).1.kind) rs 0 :=
      ⟨⟨(rdHead rs).1, (rdHead rs).2, HRw.out.below hb5, HOw.out.below hb5, by rw [List.drop_zero]; rfl⟩, ownsRow_base hrow HYw.out.size, HZw.out.below hb5, HYw.out.trans (Only.of_below (S := fun k => k = g) hb5) (fun _ _ h => h)⟩
    have HI := Lib.hid hI
    obtain ⟨ps, hps⟩ : ∃ ps, partsOf (rdHead rs).1.kind = ps := ⟨_, rfl⟩
    rw [hps] at HI ⊢
    have hpl : ps.length ≤ 3 := by rw [← hps]; exact partsOf_le _
    have hpI : (ps.length : Int) ≤ 3 := by omega
    clear hrow hb5 hI hps k0
    go_wp2_with fail
    go_loopw [6, 31] (fun _ i wr => ∃ m : Nat, m ≤ ps.length ∧ i = .int .i64 m ∧ RdI w wr B g w1.heap.size A5 cap5 ps rs m) (fun _ i _ => ps.length - (intOf i).toNat)
    case atStart => exact ⟨0, by omega, rfl, HI.out⟩
    case round =>
      obtain ⟨m, hm, rfl, hI⟩ := hrel
      have HIm := Lib.hid hI
      clear HI HRw HOw HZw HYw
      by_cases hml : m < ps.length
      · obtain ⟨p, hp⟩ : ∃ p, ps[m]? = some p := ⟨_, List.getElem?_eq_getElem hml⟩
        obtain ⟨pg, rfl, hpg, q0, q1, _⟩ := part_at HIm.out.row hp
        obtain ⟨o, r, hr, ho, hd⟩ := HIm.out.st
        have HRr := Lib.hid hr
        have HOo := Lib.hid ho
        have HDd := Lib.hid hd
        have HPp := Lib.hid hp
        have hmI : (m : Int) < (ps.length : Int) := by omega
        have hcI : (ps.length : Int) ≤ 3 := hpI
        clear hr ho hd hp hI hpg
        have HRd := fun (wx : World) (hb : Below wr.heap.size wr wx) => rd_any p B g w1.heap.size r o wx (HRr.out.below hb) (HOo.out.below hb) HG.out (by have := HS.out; have := HLt.out; omega)
        cases p
        all_goals
          simp only [rdF, wrF] at q0 q1 HRd
          have HRd := Lib.hid HRd
          go_wp2_with fail
          refine (HRd.out _ ((Below.refl _ _).alloc (Nat.le_refl _) _)).mono ?_
          rintro e w7 hpost
          obtain ⟨u, rfl⟩ := hpost.1
          have hst := RdI.step HIm.out HOo.out HPp.out HDd.out HR.out.lt HLt.out hpost
          have HSt := Lib.hid hst
          clear hst hpost q0 q1
          go_wp2_with fail
          go_roundw
          case rel => exact ⟨m + 1, by omega, by go_num, HSt.out⟩
          case measure => simp [intOf]; omega
      · obtain rfl : m = ps.length := by omega
        obtain ⟨o, r, hr, ho, hd⟩ := HIm.out.st
        rw [List.drop_length] at hd
        have e1 : o = (rdOp rs).1 := congrArg Prod.fst hd
        have e2 : r = (rdOp rs).2 := congrArg Prod.snd hd
        subst e1 e2
        obtain ⟨Vo, hbo, hvo⟩ := ho
        have k0 : wr.cell? ⟨w1.heap.size, 0, none⟩ = some (.int .i64 (rdOp rs).1.kind) := hbo.cell 0 _ rfl
        have k1 : wr.cell? ⟨w1.heap.size, 1, none⟩ = some (.int .u64 (rdOp rs).1.ticks) := hbo.cell 1 _ rfl
        have k2 : wr.cell? ⟨w1.heap.size, 2, none⟩ = some (.string (rdOp rs).1.key) := hbo.cell 2 _ rfl
        have k3 : wr.cell? ⟨w1.heap.size, 3, none⟩ = some Vo := hbo.cell 3 _ rfl
        have k4 : wr.cell? ⟨w1.heap.size, 4, none⟩ = some (.int .u64 (rdOp rs).1.ttl) := hbo.cell 4 _ rfl
        have k5 : wr.cell? ⟨w1.heap.size, 5, none⟩ = some (.int .i64 (rdOp rs).1.count) := hbo.cell 5 _ rfl
        have k6 : wr.cell? ⟨w1.heap.size, 6, none⟩ = some (.int .i64 (rdOp rs).1.bytes) := hbo.cell 6 _ rfl
        have k7 : wr.cell? ⟨w1.heap.size, 7, none⟩ = some (.int .i64 (rdOp rs).1.cursor) := hbo.cell 7 _ rfl
        have k8 : wr.cell? ⟨w1.heap.size, 8, none⟩ = some (.int .u64 (rdOp rs).1.birth) := hbo.cell 8 _ rfl
        have hz := HIm.out.zero
        have j0 : wr.cell? ⟨w.heap.size, 0, none⟩ = some (.int .i64 0) := hz.cell 0 _ rfl
        have j1 : wr.cell? ⟨w.heap.size, 1, none⟩ = some (.int .u64 0) := hz.cell 1 _ rfl
        have j2 : wr.cell? ⟨w.heap.size, 2, none⟩ = some (.string ⟨#[]⟩) := hz.cell 2 _ rfl
        have j3 : wr.cell? ⟨w.heap.size, 3, none⟩ = some (.slice none 0 0) := hz.cell 3 _ rfl
        have j4 : wr.cell? ⟨w.heap.size, 4, none⟩ = some (.int .u64 0) := hz.cell 4 _ rfl
        have j5 : wr.cell? ⟨w.heap.size, 5, none⟩ = some (.int .i64 0) := hz.cell 5 _ rfl
        have j6 : wr.cell? ⟨w.heap.size, 6, none⟩ = some (.int .i64 0) := hz.cell 6 _ rfl
        have j7 : wr.cell? ⟨w.heap.size, 7, none⟩ = some (.int .i64 0) := hz.cell 7 _ rfl
        have j8 : wr.cell? ⟨w.heap.size, 8, none⟩ = some (.int .u64 0) := hz.cell 8 _ rfl
        have jf := hz.frozen
        have hne := HLt.out
        obtain ⟨VA, vc, rfl⟩ := hvo.form
        have HRr := Lib.hid hr
        have HVv := Lib.hid hvo
        have HZz := Lib.hid hz
        have hlz := hz.lt
        clear hr hbo hvo hz hd hI
        go_wp2_with fail
        have h9 := Blk.set9 HZz.out (rdOp rs).1 (.slice VA (rdOp rs).1.val.length vc)
        have o9 := Only.set9 wr w.heap.size (rdOp rs).1 (.slice VA (rdOp rs).1.val.length vc)
        unfold set9 at h9 o9
        generalize World.setCell _ _ _ = w9 at h9 o9 ⊢
        have i0 : w9.cell? ⟨w.heap.size, 0, none⟩ = some (.int .i64 (rdOp rs).1.kind) := h9.cell 0 _ rfl
        have i1 : w9.cell? ⟨w.heap.size, 1, none⟩ = some (.int .u64 (rdOp rs).1.ticks) := h9.cell 1 _ rfl
        have i2 : w9.cell? ⟨w.heap.size, 2, none⟩ = some (.string (rdOp rs).1.key) := h9.cell 2 _ rfl
        have i3 : w9.cell? ⟨w.heap.size, 3, none⟩ = some (.slice VA (rdOp rs).1.val.length vc) := h9.cell 3 _ rfl
        have i4 : w9.cell? ⟨w.heap.size, 4, none⟩ = some (.int .u64 (rdOp rs).1.ttl) := h9.cell 4 _ rfl
        have i5 : w9.cell? ⟨w.heap.size, 5, none⟩ = some (.int .i64 (rdOp rs).1.count) := h9.cell 5 _ rfl
        have i6 : w9.cell? ⟨w.heap.size, 6, none⟩ = some (.int .i64 (rdOp rs).1.bytes) := h9.cell 6 _ rfl
        have i7 : w9.cell? ⟨w.heap.size, 7, none⟩ = some (.int .i64 (rdOp rs).1.cursor) := h9.cell 7 _ rfl
        have i8 : w9.cell? ⟨w.heap.size, 8, none⟩ = some (.int .u64 (rdOp rs).1.birth) := h9.cell 8 _ rfl
        have hk9 : KeepB B 5 wr w9 := KeepB.of_blk HZz.out (by decide) HS.out o9
        refine bodyPost_ret (v := opv (rdOp rs).1 (.slice VA (rdOp rs).1.val.length vc)) (by simp [results, Tryz.results97, go_sem, opv, opc, i0, i1, i2, i3, i4, i5, i6, i7, i8]) rfl ⟨_, rfl, HVv.out.keep hk9, ?_, HIm.out.only.trans o9 (fun i hi e => by omega)⟩
        obtain ⟨V2, h3, h4⟩ := HRr.out
        exact ⟨V2, h3.only o9 (by have := HR.out.lt; omega), h4.keep hk9⟩
end Go.Proofs.YtbcigelgggimmaaGreatDoor
namespace Go.Proofs.YtbcigelgggimmaaGreatDoor
open Go Go.RowKit
/-- Two slices of bytes are equal. -/
theorem bytesEqual_any (B1 B2 : Nat) (v u : Value) (xs ys : List UInt8) (w : World) (hv : Bts w B1 5 v xs) (hu : Bts w B2 5 u ys) :
    Calls Tryz.prog 57 #[v, u] w fun e w' => e = .returned (.bool (decide (xs = ys))) ∧ w = w' := by
  have cv := hv.string (P := Tryz.prog) 39 9 Tryz.underlying39 Tryz.underlying5 Tryz.underlying9
  have cu := hu.string (P := Tryz.prog) 39 9 Tryz.underlying39 Tryz.underlying5 Tryz.underlying9
  obtain ⟨A, cap, rfl⟩ := hv.form
  obtain ⟨A2, cap2, rfl⟩ := hu.form
  clear hv hu
  have he : (xs == ys) = decide (xs = ys) := by
    by_cases h : xs = ys
    · subst h; simp
    · simp [h]
  have HE := Lib.hid he
  clear he
  go_enter Tryz.func57, Tryz.ntmps57
  go_wp2_with fail
  go_ret
  exact ⟨by rw [← HE.out]; rfl, rfl⟩
def plc (o : OpV) : Array Value := #[.int .i64 o.kind, .int .u64 o.ticks, .int .u64 o.ttl, .string o.key, .int .i64 o.count, .int .i64 o.bytes, .int .i64 o.cursor, .int .u64 o.birth]
def eqP (a b : OpV) : Bool := decide (a.kind = b.kind ∧ a.ticks = b.ticks ∧ a.ttl = b.ttl ∧ a.key = b.key ∧ a.count = b.count ∧ a.bytes = b.bytes ∧ a.cursor = b.cursor ∧ a.birth = b.birth)
theorem key_eqb (a b : ByteArray) : (a.toList == b.toList) = decide (a = b) := by
  by_cases h : a = b
  · subst h; simp
  · rw [decide_eq_false h, beq_eq_false_iff_ne]
    intro e
    rw [ByteArray.toList_eq, ByteArray.toList_eq] at e
    exact h (WideShapes.bytes_inj e)
set_option maxHeartbeats 1000000 in
theorem eql_plain (a b : OpV) (w : World) : (binOp .eql 99 (.agg (plc a)) (.agg (plc b))).run Tryz.prog w = .ok (.bool (eqP a b)) w := by
  rw [run_eql_struct]
  unfold plc eqP
  by_cases h1 : a.kind = b.kind <;> by_cases h2 : a.ticks = b.ticks <;> by_cases h3 : a.ttl = b.ttl <;> by_cases h4 : a.key = b.key
  all_goals simp [go_sem, key_eqb, *]
  by_cases h5 : a.count = b.count <;> by_cases h6 : a.bytes = b.bytes <;> by_cases h7 : a.cursor = b.cursor <;> by_cases h8 : a.birth = b.birth <;> simp [*]
def plcs (o : OpV) : List Value := [.int .i64 o.kind, .int .u64 o.ticks, .int .u64 o.ttl, .string o.key, .int .i64 o.count, .int .i64 o.bytes, .int .i64 o.cursor, .int .u64 o.birth]
set_option maxHeartbeats 1000000 in
theorem of_any (o : OpV) (A : Option Addr) (n cap : Nat) (w : World) :
    Calls Tryz.prog 61 #[opv o (.slice A n cap)] w fun e w' => e = .returned (.agg (plc o)) ∧ Below w.heap.size w w' := by
  unfold opv opc
  go_enter Tryz.func61, Tryz.ntmps61
  go_wp2_with fail
  have h2 := Blk.new2 w (.cells #[.int .i64 o.kind, .int .u64 o.ticks, .string o.key, .slice A n cap, .int .u64 o.ttl, .int .i64 o.count, .int .i64 o.bytes, .int .i64 o.cursor, .int .u64 o.birth] 41) 99 #[.int .i64 o.kind, .int .u64 o.ticks, .int .u64 o.ttl, .string o.key, .int .i64 o.count, .int .i64 o.bytes, .int .i64 o.cursor, .int .u64 o.birth]
  have hb : Below w.heap.size w ((w.alloc (.cells #[.int .i64 o.kind, .int .u64 o.ticks, .string o.key, .slice A n cap, .int .u64 o.ttl, .int .i64 o.count, .int .i64 o.bytes, .int .i64 o.cursor, .int .u64 o.birth] 41)).alloc (.cells #[.int .i64 o.kind, .int .u64 o.ticks, .int .u64 o.ttl, .string o.key, .int .i64 o.count, .int .i64 o.bytes, .int .i64 o.cursor, .int .u64 o.birth] 99)) := ((Below.refl _ _).alloc (Nat.le_refl _) _).alloc (by simp) _
  generalize World.alloc _ _ = w2 at h2 hb ⊢
  have q0 : w2.cell? ⟨w.heap.size + 1, 0, none⟩ = some (.int .i64 o.kind) := h2.cell 0 _ rfl
  have q1 : w2.cell? ⟨w.heap.size + 1, 1, none⟩ = some (.int .u64 o.ticks) := h2.cell 1 _ rfl
  have q2 : w2.cell? ⟨w.heap.size + 1, 2, none⟩ = some (.int .u64 o.ttl) := h2.cell 2 _ rfl
  have q3 : w2.cell? ⟨w.heap.size + 1, 3, none⟩ = some (.string o.key) := h2.cell 3 _ rfl
  have q4 : w2.cell? ⟨w.heap.size + 1, 4, none⟩ = some (.int .i64 o.count) := h2.cell 4 _ rfl
  have q5 : w2.cell? ⟨w.heap.size + 1, 5, none⟩ = some (.int .i64 o.bytes) := h2.cell 5 _ rfl
  have q6 : w2.cell? ⟨w.heap.size + 1, 6, none⟩ = some (.int .i64 o.cursor) := h2.cell 6 _ rfl
  have q7 : w2.cell? ⟨w.heap.size + 1, 7, none⟩ = some (.int .u64 o.birth) := h2.cell 7 _ rfl
  refine bodyPost_ret (v := .agg (plc o)) (by simp [results, Tryz.results61, go_sem, plc, q0, q1, q2, q3, q4, q5, q6, q7]) rfl ⟨rfl, hb⟩
theorem eqO_and (a b : OpV) : decide (eqO a b) = (eqP a b && decide (a.val = b.val)) := by
  by_cases h : eqO a b
  · rw [decide_eq_true h]
    obtain ⟨h1, h2, h3, h4, h5, h6, h7, h8, h9⟩ := h
    have e1 : eqP a b = true := decide_eq_true ⟨h1, h2, h5, h3, h6, h7, h8, h9⟩
    rw [e1, decide_eq_true h4]; rfl
  · rw [decide_eq_false h]
    by_cases h4 : a.val = b.val
    · have e1 : eqP a b = false := decide_eq_false fun ⟨h1, h2, h5, h3, h6, h7, h8, h9⟩ => h ⟨h1, h2, h3, h4, h5, h6, h7, h8, h9⟩
      rw [e1]; rfl
    · rw [decide_eq_false h4, Bool.and_false]
/-- The cells of an operation in a box. -/
theorem op_cells {W : World} {g : Nat} {a : OpV} {V : Value} (h : Blk W g 41 (opc a V)) : W.cell? ⟨g, 0, none⟩ = some (.int .i64 a.kind) ∧ W.cell? ⟨g, 1, none⟩ = some (.int .u64 a.ticks) ∧ W.cell? ⟨g, 2, none⟩ = some (.string a.key) ∧ W.cell? ⟨g, 3, none⟩ = some (V) ∧ W.cell? ⟨g, 4, none⟩ = some (.int .u64 a.ttl) ∧ W.cell? ⟨g, 5, none⟩ = some (.int .i64 a.count) ∧ W.cell? ⟨g, 6, none⟩ = some (.int .i64 a.bytes) ∧ W.cell? ⟨g, 7, none⟩ = some (.int .i64 a.cursor) ∧ W.cell? ⟨g, 8, none⟩ = some (.int .u64 a.birth) :=
  ⟨h.cell 0 _ rfl, h.cell 1 _ rfl, h.cell 2 _ rfl, h.cell 3 _ rfl, h.cell 4 _ rfl, h.cell 5 _ rfl, h.cell 6 _ rfl, h.cell 7 _ rfl, h.cell 8 _ rfl⟩
/-- What Equal reads. -/
structure EqI (w W : World) (B1 B2 : Nat) (a b : OpV) (VA VB : Value) : Prop where
  ba : Blk W w.heap.size 41 (opc a VA)
  bb : Blk W (w.heap.size + 1) 41 (opc b VB)
  va : Bts W B1 5 VA a.val
  vb : Bts W B2 5 VB b.val
  below : Below w.heap.size w W
theorem EqI.adv {w W W' : World} {B1 B2 : Nat} {a b : OpV} {VA VB : Value} (h : EqI w W B1 B2 a b VA VB) (hb : Below W.heap.size W W') : EqI w W' B1 B2 a b VA VB :=
  ⟨h.ba.below hb, h.bb.below hb, h.va.below hb, h.vb.below hb, h.below.trans (hb.mono h.below.size)⟩
set_option maxHeartbeats 4000000 in
theorem equal_any (B1 B2 : Nat) (a b : OpV) (VA VB : Value) (w : World) (ha : Bts w B1 5 VA a.val) (hb : Bts w B2 5 VB b.val) :
    Calls Tryz.prog 20 #[opv a VA, opv b VB] w fun e w' => e = .returned (.bool (decide (eqO a b))) ∧ Below w.heap.size w w' := by
  obtain ⟨AA, ac, rfl⟩ := ha.form
  obtain ⟨AB, bc, rfl⟩ := hb.form
  unfold opv opc
  obtain ⟨W, hW⟩ : ∃ W, (w.alloc (.cells (opc a (.slice AA a.val.length ac)) 41)).alloc (.cells (opc b (.slice AB b.val.length bc)) 41) = W := ⟨_, rfl⟩
  have hbe : Below w.heap.size w W := hW ▸ ((Below.refl _ _).alloc (Nat.le_refl _) _).alloc (by simp) _
  have hI : EqI w W B1 B2 a b (.slice AA a.val.length ac) (.slice AB b.val.length bc) := ⟨hW ▸ (Blk.new _ _ _).alloc _, hW ▸ Blk.new2 _ _ _ _, ha.below hbe, hb.below hbe, hbe⟩
  unfold opc at hW
  have HI := Lib.hid hI
  clear hI hbe ha hb
  obtain ⟨q, hq⟩ : ∃ q, eqP a b = q := ⟨_, rfl⟩
  obtain ⟨r, hr⟩ : ∃ r, decide (a.val = b.val) = r := ⟨_, rfl⟩
  have hres : decide (eqO a b) = (q && r) := by rw [← hq, ← hr]; exact eqO_and a b
  have heq := fun wx => eql_plain a b wx
  rw [hq] at heq
  unfold plc at heq
  have hbeq := fun wx (x : Bts wx B1 5 (.slice AA a.val.length ac) a.val) (y : Bts wx B2 5 (.slice AB b.val.length bc) b.val) => bytesEqual_any B1 B2 _ _ _ _ wx x y
  rw [hr] at hbeq
  have HBq := Lib.hid hbeq
  rw [hres]
  clear hq hr hbeq hres
  go_enter Tryz.func20, Tryz.ntmps20
  go_upto_region 1 with fail
  try rw [hW]
  clear hW
  refine wp_region_noPanic ?_
  refine wp_region_held_drew (S := fun W => EqI w W B1 B2 a b (.slice AA a.val.length ac) (.slice AB b.val.length bc)) (by kernel_rfl) (HI.out.adv (Below.refl _ _).drew) (fun hHeld => ?_)
  refine tk 0 (v := ?_) ?_ ?_
  rotate_left 1
  · intro W hSw
    obtain ⟨z0, z1, z2, z3, z4, z5, z6, z7, z8⟩ := op_cells hSw.ba; obtain ⟨y0, y1, y2, y3, y4, y5, y6, y7, y8⟩ := op_cells hSw.bb
    clear hSw
    go_simp
    try with_reducible rfl
  try dsimp only [zS, zB, zC]
  refine tk 2 (v := ?_) ?_ ?_
  rotate_left 1
  · intro W hSw
    obtain ⟨z0, z1, z2, z3, z4, z5, z6, z7, z8⟩ := op_cells hSw.ba; obtain ⟨y0, y1, y2, y3, y4, y5, y6, y7, y8⟩ := op_cells hSw.bb
    clear hSw
    go_simp
    try with_reducible rfl
  try dsimp only [zS, zB, zC]
  refine wpAnyH_ready (rs := [1]) (by kernel_rfl) (by simp) ?_
  refine AllReadyH.cons (o := ⟨_, _, _, _, _, _⟩) rfl (fun F hF => ?_) AllReadyH.nil
  go_simp
  refine (of_any a AA a.val.length ac _).mono ?_
  rintro e w1 ⟨rfl, hb1⟩
  have HI1 := Lib.hid (hHeld.adv hb1)
  clear hb1 hHeld
  unfold plc
  go_wp2_with fail
  refine hF.out _ _ HI1.out (fun hHeld => ?_)
  clear hF F
  try simp only [Act.put, zA, zB, zC]
  refine wpAnyH_ready (rs := [3]) (by kernel_rfl) (by simp) ?_
  refine AllReadyH.cons (o := ⟨_, _, _, _, _, _⟩) rfl (fun F hF => ?_) AllReadyH.nil
  go_simp
  refine (of_any b AB b.val.length bc _).mono ?_
  rintro e w2 ⟨rfl, hb2⟩
  have HI2 := Lib.hid (hHeld.adv hb2)
  clear hb2 hHeld
  unfold plc
  go_wp2_with fail
  refine hF.out _ _ HI2.out (fun hHeld => ?_)
  clear hF F HI1
  try simp only [Act.put, zA, zB, zC]
  refine tk 4 (v := ?_) ?_ ?_
  rotate_left 1
  · intro W hSw
    obtain ⟨z0, z1, z2, z3, z4, z5, z6, z7, z8⟩ := op_cells hSw.ba; obtain ⟨y0, y1, y2, y3, y4, y5, y6, y7, y8⟩ := op_cells hSw.bb
    clear hSw
    go_simp
    try with_reducible rfl
  try dsimp only [zS, zB, zC]
  refine tk 5 (v := ?_) ?_ ?_
  rotate_left 1
  · intro W hSw
    obtain ⟨z0, z1, z2, z3, z4, z5, z6, z7, z8⟩ := op_cells hSw.ba; obtain ⟨y0, y1, y2, y3, y4, y5, y6, y7, y8⟩ := op_cells hSw.bb
    clear hSw
    go_simp
    try with_reducible rfl
  try dsimp only [zS, zB, zC]
  cases q with
  | true =>
    refine tk 6 (v := ?_) ?_ ?_
    rotate_left 1
    · intro W hSw
      obtain ⟨z0, z1, z2, z3, z4, z5, z6, z7, z8⟩ := op_cells hSw.ba; obtain ⟨y0, y1, y2, y3, y4, y5, y6, y7, y8⟩ := op_cells hSw.bb
      clear hSw
      go_simp
      try with_reducible rfl
    try dsimp only [zS, zB, zC]
    refine tk 7 (v := ?_) ?_ ?_
    rotate_left 1
    · intro W hSw
      obtain ⟨z0, z1, z2, z3, z4, z5, z6, z7, z8⟩ := op_cells hSw.ba; obtain ⟨y0, y1, y2, y3, y4, y5, y6, y7, y8⟩ := op_cells hSw.bb
      clear hSw
      go_simp
      try with_reducible rfl
    try dsimp only [zS, zB, zC]
    refine tk 8 (v := ?_) ?_ ?_
    rotate_left 1
    · intro W hSw
      obtain ⟨z0, z1, z2, z3, z4, z5, z6, z7, z8⟩ := op_cells hSw.ba; obtain ⟨y0, y1, y2, y3, y4, y5, y6, y7, y8⟩ := op_cells hSw.bb
      clear hSw
      go_simp
      try with_reducible rfl
    try dsimp only [zS, zB, zC]
    refine tk 9 (v := ?_) ?_ ?_
    rotate_left 1
    · intro W hSw
      obtain ⟨z0, z1, z2, z3, z4, z5, z6, z7, z8⟩ := op_cells hSw.ba; obtain ⟨y0, y1, y2, y3, y4, y5, y6, y7, y8⟩ := op_cells hSw.bb
      clear hSw
      go_simp
      try with_reducible rfl
    try dsimp only [zS, zB, zC]
    refine wpAnyH_ready (rs := [10]) (by kernel_rfl) (by simp) ?_
    refine AllReadyH.cons (o := ⟨_, _, _, _, _, _⟩) rfl (fun F hF => ?_) AllReadyH.nil
    go_simp
    refine (HBq.out _ hHeld.va hHeld.vb).mono ?_
    rintro e w3 ⟨rfl, rfl⟩
    have HI3 := Lib.hid hHeld
    clear hHeld
    go_wp2_with fail
    refine hF.out _ _ HI3.out (fun hHeld => ?_)
    clear hF F HI2
    try simp only [Act.put, zA, zB, zC]
    refine tk 11 (v := ?_) ?_ ?_
    rotate_left 1
    · intro W hSw
      obtain ⟨z0, z1, z2, z3, z4, z5, z6, z7, z8⟩ := op_cells hSw.ba; obtain ⟨y0, y1, y2, y3, y4, y5, y6, y7, y8⟩ := op_cells hSw.bb
      clear hSw
      go_simp
      try with_reducible rfl
    try dsimp only [zS, zB, zC]
    refine tk 12 (v := ?_) ?_ ?_
    rotate_left 1
    · intro W hSw
      obtain ⟨z0, z1, z2, z3, z4, z5, z6, z7, z8⟩ := op_cells hSw.ba; obtain ⟨y0, y1, y2, y3, y4, y5, y6, y7, y8⟩ := op_cells hSw.bb
      clear hSw
      go_simp
      try with_reducible rfl
    try dsimp only [zS, zB, zC]
    refine wpAnyH_done (by kernel_rfl) ?_ _
    refine NoPanic.normal ?_
    go_wp2_with fail
    go_ret
    exact ⟨rfl, hHeld.below⟩
  | false =>
    refine sk 6 ?_
    try dsimp only [zS, zB, zC]
    refine sk 7 ?_
    try dsimp only [zS, zB, zC]
    refine sk 8 ?_
    try dsimp only [zS, zB, zC]
    refine sk 9 ?_
    try dsimp only [zS, zB, zC]
    refine sk 10 ?_
    try dsimp only [zS, zB, zC]
    refine tk 11 (v := ?_) ?_ ?_
    rotate_left 1
    · intro W hSw
      obtain ⟨z0, z1, z2, z3, z4, z5, z6, z7, z8⟩ := op_cells hSw.ba; obtain ⟨y0, y1, y2, y3, y4, y5, y6, y7, y8⟩ := op_cells hSw.bb
      clear hSw
      go_simp
      try with_reducible rfl
    try dsimp only [zS, zB, zC]
    refine tk 12 (v := ?_) ?_ ?_
    rotate_left 1
    · intro W hSw
      obtain ⟨z0, z1, z2, z3, z4, z5, z6, z7, z8⟩ := op_cells hSw.ba; obtain ⟨y0, y1, y2, y3, y4, y5, y6, y7, y8⟩ := op_cells hSw.bb
      clear hSw
      go_simp
      try with_reducible rfl
    try dsimp only [zS, zB, zC]
    refine wpAnyH_done (by kernel_rfl) ?_ _
    refine NoPanic.normal ?_
    go_wp2_with fail
    go_ret
    exact ⟨rfl, hHeld.below⟩
end Go.Proofs.YtbcigelgggimmaaGreatDoor
