/- The law's map in memory: its entries are a plain list of (cell, bytes). -/
import Derived.Test.YtookfhmghchkjaaSlabU
import Derived.Maps.RangeWalk
import Derived.DeepKeys4
import Derived.Carry
namespace Go.Proofs.Ytookfhmghchkjaa
open Go Go.RowKit Go.MapKept Go.Maps
open Go.ChangeMaps (setBlock heap_setBlock_same heap_setBlock_other modify_eq_set)

def keyV (k : Int × Int) : Value := .agg #[.int .i64 k.1, .int .i64 k.2]
def strV (bs : List UInt8) : Value := .string ⟨bs.toArray⟩
def wfK (k : Int × Int) : Prop := (Lit.int .i64 k.1).wf = true ∧ (Lit.int .i64 k.2).wf = true

theorem keyV_inj {a b : Int × Int} (h : keyV a = keyV b) : a = b := by
  obtain ⟨a1, a2⟩ := a
  obtain ⟨b1, b2⟩ := b
  unfold keyV at h
  injection h with h
  injection h with h
  injection h with h1 h
  injection h with h2 _
  injection h1 with _ h1
  injection h2 with _ h2
  simp only at h1 h2
  rw [h1, h2]

theorem laidOut : laidOutB Try.prog = true := by kernel_rfl
theorem cellRow : (38 : TypeId) < Try.prog.types.size := of_decide_eq_true (by kernel_rfl)
theorem cellWide : (match Try.prog.underlying 38 with | some (.array _ _) | some (.struct _) => true | _ => false) = true := by rw [Try.underlying38]
theorem cellKeyed : Keyed Try.prog 38 := Keyed.of_law (deep_law_laid laidOut (m := 3) (by omega) cellRow (by kernel_rfl) cellWide)

theorem cellKeyType : Try.prog.keyType 38 = true := by kernel_rfl
theorem typesSize : ∃ m, Try.prog.types.size = m + 2 := by
  have h : 2 ≤ Try.prog.types.size := of_decide_eq_true (by kernel_rfl)
  exact ⟨Try.prog.types.size - 2, by omega⟩

theorem cellKeyOf {k : Int × Int} (h : wfK k) : ∃ l, keyOf Try.prog 38 (keyV k) = some l := by
  obtain ⟨K, N⟩ := k
  obtain ⟨h1, h2⟩ := h
  obtain ⟨m, hm⟩ := typesSize
  have c0 : Try.prog.cellsOf 3 = 1 := by kernel_rfl
  have c1 : Try.prog.cellsOf 38 = 2 := by kernel_rfl
  unfold keyOf keyV
  simp only [Try.underlying38]
  rw [if_pos (by simp [cellKeyType, Value.formed, Try.underlying38, c1]), hm]
  unfold Program.keyLits
  simp [Try.underlying38, Value.cells, c0, c1, Program.keyLits, Try.underlying3] at h1 h2 ⊢
  simp [h1, h2]

theorem strZero (w : World) : (zeroValue 9).run Try.prog w = .ok (.string ⟨#[]⟩) w := by kernel_rfl

/-- Block b is the map with these entries, in this order. -/
structure MEnts (es : Array MapEntry) (clock : Nat) (L : List ME) : Prop where
  st : Stamped es clock
  is : es.toList.map (fun e => (e.key, e.val)) = L.map fun x => (keyV x.1, strV x.2)
  wf : ∀ x ∈ L, wfK x.1
def MRep (w : World) (b : Nat) (L : List ME) : Prop := ∃ es clock, w.heap[b]? = some (.map es clock) ∧ MEnts es clock L

section
variable {w w' : World} {b : Nat} {L : List ME}

theorem MEnts.len {es : Array MapEntry} {clock : Nat} (h : MEnts es clock L) : es.size = L.length := by
  have := congrArg List.length h.is
  simpa using this
theorem MEnts.at_ {es : Array MapEntry} {clock : Nat} (h : MEnts es clock L) {i : Nat} {e : MapEntry} (he : es.toList[i]? = some e) : ∃ x, L[i]? = some x ∧ e.key = keyV x.1 ∧ e.val = strV x.2 := by
  have := congrArg (fun l => l[i]?) h.is
  simp only [List.getElem?_map, he, Option.map_some] at this
  cases hx : L[i]? with
  | none => rw [hx] at this; cases this
  | some x =>
    rw [hx] at this
    simp only [Option.map_some, Option.some.injEq, Prod.mk.injEq] at this
    exact ⟨x, rfl, this.1, this.2⟩
theorem MEnts.mem {es : Array MapEntry} {clock : Nat} (h : MEnts es clock L) {e : MapEntry} (he : e ∈ es.toList) : ∃ x ∈ L, e.key = keyV x.1 ∧ e.val = strV x.2 := by
  obtain ⟨i, hi⟩ := List.getElem?_of_mem he
  obtain ⟨x, hx, h1, h2⟩ := h.at_ hi
  exact ⟨x, List.mem_of_getElem? hx, h1, h2⟩
theorem MEnts.keys {es : Array MapEntry} {clock : Nat} (h : MEnts es clock L) : ∀ e ∈ es.toList, ∃ l, keyOf Try.prog 38 e.key = some l := fun e he => by
  obtain ⟨x, hx, h1, _⟩ := h.mem he
  rw [h1]
  exact cellKeyOf (h.wf x hx)
theorem MEnts.nodup {es : Array MapEntry} {clock : Nat} (h : MEnts es clock L) : (L.map Prod.fst).Nodup := by
  have h1 := h.st.2.2
  have h2 : es.toList.map (·.key) = L.map fun x => keyV x.1 := by
    have := congrArg (List.map Prod.fst) h.is
    simpa [Function.comp_def] using this
  rw [h2] at h1
  unfold List.Nodup at h1 ⊢
  rw [List.pairwise_map] at h1 ⊢
  exact h1.imp (fun {a b} hne e => hne (by rw [e]))

theorem MRep.lt (h : MRep w b L) : b < w.heap.size := by
  obtain ⟨es, clock, hb, _⟩ := h
  exact lt_of_heap hb
theorem MRep.nodup (h : MRep w b L) : (L.map Prod.fst).Nodup := by
  obtain ⟨es, clock, _, h⟩ := h
  exact h.nodup
theorem MRep.block (h : MRep w b L) (e : w'.heap[b]? = w.heap[b]?) : MRep w' b L := by
  obtain ⟨es, clock, hb, h⟩ := h
  exact ⟨es, clock, e.trans hb, h⟩
theorem MRep.below (h : MRep w b L) (hb : Below w.heap.size w w') : MRep w' b L := h.block (hb.block b h.lt)
theorem MRep.alloc (h : MRep w b L) (o : Obj) : MRep (w.alloc o) b L := h.below ((Below.refl _ _).alloc (Nat.le_refl _) o)
theorem MRep.keep {B : Nat} (h : MRep w b L) (hk : KeepS B w w') : MRep w' b L := by
  obtain ⟨es, clock, hb, h⟩ := h
  exact ⟨es, clock, hk.other b _ hb (fun c t fr e => by cases e), h⟩
theorem MRep.made (w : World) : MRep (w.alloc (.map #[] 0)) w.heap.size [] := ⟨#[], 0, heap_alloc_new w _, ⟨stamped_empty 0, rfl, fun x hx => by cases hx⟩⟩

theorem find_list {es : Array MapEntry} {clock : Nat} (h : MEnts es clock L) {k : Int × Int} (hk : wfK k) (w : World) :
    ((Instr.findKey 38 (keyV k) es.toList).run Try.prog w = .ok none w ∧ mget L k = none) ∨
    ∃ j e bs, (Instr.findKey 38 (keyV k) es.toList).run Try.prog w = .ok (some (j, strV bs)) w ∧ es.toList[j]? = some e ∧ L[j]? = some (k, bs) ∧ mget L k = some bs := by
  obtain ⟨l, hl⟩ := cellKeyOf hk
  rcases cellKeyed.find w hl es.toList h.keys with ⟨h1, h2⟩ | ⟨j, e, h1, h2, h3⟩
  · refine .inl ⟨h1, ?_⟩
    cases hg : mget L k with
    | none => rfl
    | some bs =>
      obtain ⟨i, hi⟩ := List.getElem?_of_mem (mget_some hg)
      obtain ⟨hil, _⟩ := List.getElem?_eq_some_iff.1 hi
      obtain ⟨e, he⟩ : ∃ e, es.toList[i]? = some e := ⟨_, List.getElem?_eq_getElem (by rw [Array.length_toList, h.len]; exact hil)⟩
      obtain ⟨x, hx, hxk, _⟩ := h.at_ he
      rw [hi] at hx
      obtain rfl := Option.some.inj hx
      exact absurd hxk (h2 e (List.mem_of_getElem? he))
  · obtain ⟨x, hx, hxk, hxv⟩ := h.at_ h2
    have hkx : x.1 = k := keyV_inj (hxk.symm.trans h3)
    refine .inr ⟨j, e, x.2, by rw [← hxv]; exact h1, h2, by rw [hx, ← hkx], ?_⟩
    exact mget_mem h.nodup (by rw [← hkx]; exact List.mem_of_getElem? hx)

/-- 'v, ok := m[k]'. -/
theorem MRep.look (h : MRep w b L) {k : Int × Int} (hk : wfK k) :
    (Instr.lookup 36 (.map (some b)) (keyV k) true).run Try.prog w = .ok (.tuple #[strV ((mget L k).getD []), .bool (mget L k).isSome]) w := by
  obtain ⟨es, clock, hb, h⟩ := h
  obtain ⟨l, hl⟩ := cellKeyOf hk
  rcases find_list h hk w with ⟨h1, h2⟩ | ⟨j, e, bs, h1, _, _, h2⟩
  · rw [h2]
    simp [Instr.lookup, run_underlying Try.underlying36, MapKept.run_getObj_map hb, cellKeyed.check w _ hl, h1, strZero, Result.andThen, strV]
  · rw [h2]
    simp [Instr.lookup, run_underlying Try.underlying36, MapKept.run_getObj_map hb, cellKeyed.check w _ hl, h1, Result.andThen]

/-- Only the map's block has turned. -/
def Turned (w w' : World) (b : Nat) : Prop := ∃ es clock es' clock', w.heap[b]? = some (.map es clock) ∧ w' = setBlock w b (.map es' clock')
theorem Turned.only (h : Turned w w' b) : Only (fun k => k = b) w w' := by
  obtain ⟨es, clock, es', clock', hb, rfl⟩ := h
  exact ⟨rfl, rfl, rfl, by simp [setBlock], fun k _ hn => heap_setBlock_other hb _ hn⟩
theorem Turned.was (h : Turned w w' b) : ∃ es clock, w.heap[b]? = some (.map es clock) := by
  obtain ⟨es, clock, _, _, hb, _⟩ := h
  exact ⟨es, clock, hb⟩

/-- 'm[k] = v' at a key that is not there. -/
theorem MRep.put (h : MRep w b L) {k : Int × Int} (hk : wfK k) (hn : mget L k = none) (bs : List UInt8) :
    ∃ w', (Instr.mapUpdate 36 (.map (some b)) (keyV k) (strV bs)).run Try.prog w = .ok () w' ∧ MRep w' b (L ++ [(k, bs)]) ∧ Turned w w' b := by
  obtain ⟨es, clock, hb, h⟩ := h
  obtain ⟨l, hl⟩ := cellKeyOf hk
  rcases find_list h hk w with ⟨h1, h2⟩ | ⟨j, e, bs', h1, _, _, h2⟩
  · have hnk : ∀ x ∈ es.toList, x.key ≠ keyV k := fun x hx e => by
      obtain ⟨y, hy, hyk, _⟩ := h.mem hx
      exact mget_none h2 y hy (keyV_inj (hyk.symm.trans e))
    refine ⟨setBlock w b (.map (es.push ⟨keyV k, strV bs, clock⟩) (clock + 1)), ?_, ⟨_, _, heap_setBlock_same hb _, ⟨stamped_push h.st hnk, ?_, fun x hx => ?_⟩⟩, ⟨es, clock, _, _, hb, rfl⟩⟩
    · simp [Instr.mapUpdate, run_underlying Try.underlying36, MapKept.run_getObj_map hb, cellKeyed.check w false hl, h1, MapKept.run_setObj_map _ hb, Result.andThen, setBlock]
    · rw [Array.toList_push, List.map_append, h.is, List.map_append]; rfl
    · rw [List.mem_append, List.mem_singleton] at hx
      rcases hx with hx | rfl
      · exact h.wf x hx
      · exact hk
  · rw [hn] at h2; cases h2

theorem mdel_at {i : Nat} {k : Int × Int} {bs : List UInt8} (hn : (L.map Prod.fst).Nodup) (h : L[i]? = some (k, bs)) : L.eraseIdx i = mdel L k := by
  induction L generalizing i with
  | nil => simp at h
  | cons x L ih =>
    rw [List.map_cons, List.nodup_cons] at hn
    cases i with
    | zero =>
      simp at h
      subst h
      have : mdel ((k, bs) :: L) k = mdel L k := by simp [mdel]
      rw [this, mdel_other (fun y hy e => hn.1 (List.mem_map.2 ⟨y, hy, e⟩))]
      rfl
    | succ i =>
      have h' : L[i]? = some (k, bs) := by simpa using h
      have hx : x.1 ≠ k := fun e => hn.1 (List.mem_map.2 ⟨(k, bs), List.mem_of_getElem? h', e.symm⟩)
      have : mdel (x :: L) k = x :: mdel L k := by simp [mdel, hx]
      rw [this, ← ih hn.2 h']
      rfl

/-- 'delete(m, k)'. -/
theorem MRep.del (h : MRep w b L) {k : Int × Int} (hk : wfK k) :
    ∃ w', (∀ ty, (Builtin.delete_ #[36, 38] ty #[.map (some b), keyV k]).run Try.prog w = .ok (.tuple #[]) w') ∧ MRep w' b (mdel L k) ∧ Turned w w' b := by
  obtain ⟨es, clock, hb, h⟩ := h
  obtain ⟨l, hl⟩ := cellKeyOf hk
  rcases find_list h hk w with ⟨h1, h2⟩ | ⟨j, e, bs', h1, he, hj, h2⟩
  · refine ⟨setBlock w b (.map es clock), ?_, ⟨es, clock, heap_setBlock_same hb _, ?_⟩, ⟨es, clock, es, clock, hb, rfl⟩⟩
    · intro ty
      simp [Builtin.delete_, run_underlying Try.underlying36, MapKept.run_getObj_map hb, cellKeyed.check w _ hl, h1, MapKept.run_setObj_map _ hb, Result.andThen, setBlock]
    · rw [mdel_other (mget_none h2)]; exact h
  · have hjl : j < es.toList.length := (List.getElem?_eq_some_iff.1 he).1
    have hjs : j < es.size := by simpa using hjl
    have hsub : (es.eraseIdxIfInBounds j).toList = es.toList.eraseIdx j := by
      unfold Array.eraseIdxIfInBounds
      rw [dif_pos hjs]
      simp
    refine ⟨setBlock w b (.map (es.eraseIdxIfInBounds j) clock), ?_, ⟨_, _, heap_setBlock_same hb _, ⟨stamped_erase h.st j, ?_, fun x hx => h.wf x (mem_mdel.1 hx).1⟩⟩, ⟨es, clock, _, _, hb, rfl⟩⟩
    · intro ty
      simp [Builtin.delete_, run_underlying Try.underlying36, MapKept.run_getObj_map hb, cellKeyed.check w _ hl, h1, MapKept.run_setObj_map _ hb, Result.andThen, setBlock]
    · rw [hsub, Go.ChangeMaps.map_eraseIdx, h.is, ← Go.ChangeMaps.map_eraseIdx, mdel_at h.nodup hj]

/-- 'len(m)'. -/
theorem MRep.len (h : MRep w b L) (ty : TypeId) : (Builtin.len_ #[36] ty #[.map (some b)]).run Try.prog w = .ok (.int .i64 L.length) w := by
  obtain ⟨es, clock, hb, h⟩ := h
  rw [← h.len]
  simp [Builtin.len_, run_underlying Try.underlying36, MapKept.run_getObj_map hb, goInt, Result.andThen]

/-- 'for k, v := range m' under way: 'todo' are the entries that are still to come. -/
def MRange (w : World) (b r : Nat) (L todo : List ME) : Prop :=
  ∃ es clock since seen c0, w.heap[b]? = some (.map es clock) ∧ MEnts es clock L ∧ w.heap[r]? = some (.mapIter (some b) since seen c0) ∧ (∀ x ∈ es.toList, x.born < since) ∧ since ≤ c0 ∧ since ≤ clock ∧
    (leftOf es seen).toList.map (fun e => (e.key, e.val)) = todo.map (fun x => (keyV x.1, strV x.2))

theorem MRange.rep {r : Nat} {todo : List ME} (h : MRange w b r L todo) : MRep w b L := by
  obtain ⟨es, clock, _, _, _, hb, h, _⟩ := h
  exact ⟨es, clock, hb, h⟩
theorem MRange.lt {r : Nat} {todo : List ME} (h : MRange w b r L todo) : b < w.heap.size ∧ r < w.heap.size := by
  obtain ⟨es, clock, _, _, _, hb, h, hr, _⟩ := h
  exact ⟨lt_of_heap hb, lt_of_heap hr⟩
theorem MRange.below {r : Nat} {todo : List ME} (h : MRange w b r L todo) (hb : Below w.heap.size w w') : MRange w' b r L todo := by
  have h1 := h.lt
  obtain ⟨es, clock, since, seen, c0, h2, h3, h4, h5⟩ := h
  exact ⟨es, clock, since, seen, c0, (hb.block b h1.1).trans h2, h3, (hb.block r h1.2).trans h4, h5⟩
theorem MRange.alloc {r : Nat} {todo : List ME} (h : MRange w b r L todo) (o : Obj) : MRange (w.alloc o) b r L todo := h.below ((Below.refl _ _).alloc (Nat.le_refl _) o)

theorem MRange.left_eq {r : Nat} {todo : List ME} (h : MRange w b r L todo) : w.rangeLeft b r = todo.length := by
  obtain ⟨es, clock, since, seen, c0, hb, _, hr, _, _, _, ht⟩ := h
  simp only [World.rangeLeft, hb, hr]
  have := congrArg List.length ht
  simpa using this

theorem MRep.range (h : MRep w b L) : ∃ c : Nat,
    (Instr.range 36 (.map (some b))).run Try.prog w = .ok (.pointer (some ⟨w.heap.size, 0, none⟩)) (w.alloc (.mapIter (some b) c #[] c)) ∧ MRange (w.alloc (.mapIter (some b) c #[] c)) b w.heap.size L L := by
  have hlt := h.lt
  obtain ⟨es, c, hb, hm⟩ := h
  refine ⟨c, run_range_map w _ _ _ b es c Try.underlying36 hb, ⟨es, c, c, #[], c, (Below.heap_alloc w _ b hlt).trans hb, hm, heap_alloc_new w _, hm.st.1, Nat.le_refl _, Nat.le_refl _, ?_⟩⟩
  rw [← hm.is]
  have e : (leftOf es #[]) = es := Array.filter_eq_self.2 (fun x _ => by simp)
  rw [e]

end

theorem leftOf_push {es : Array MapEntry} (seen : Array Nat) (hn : (es.toList.map (·.born)).Nodup) {i : Nat} {e : MapEntry} (he : (leftOf es seen).toList[i]? = some e) : (leftOf es (seen.push e.born)).toList = (leftOf es seen).toList.eraseIdx i := by
  have h1 : (leftOf es (seen.push e.born)).toList = (leftOf es seen).toList.filter (fun x => decide (x.born ≠ e.born)) := by
    unfold leftOf
    rw [Array.toList_filter, Array.toList_filter, List.filter_filter]
    refine List.filter_congr fun x _ => ?_
    rw [contains_push]
    by_cases hx : x.born = e.born <;> simp [hx]
  rw [h1]
  have h2 : ((leftOf es seen).toList.map (·.born)).Nodup := by
    unfold leftOf
    rw [Array.toList_filter]
    exact hn.sublist (List.Sublist.map _ List.filter_sublist)
  generalize (leftOf es seen).toList = l at h2 he
  clear h1
  induction l generalizing i with
  | nil => simp at he
  | cons x l ih =>
    rw [List.map_cons, List.nodup_cons] at h2
    cases i with
    | zero =>
      simp at he
      subst he
      have : ∀ y ∈ l, y.born ≠ x.born := fun y hy e => h2.1 (List.mem_map.2 ⟨y, hy, e⟩)
      simp
      exact this
    | succ i =>
      have he' : l[i]? = some e := by simpa using he
      have hx : x.born ≠ e.born := fun e2 => h2.1 (List.mem_map.2 ⟨e, List.mem_of_getElem? he', e2.symm⟩)
      simp [hx]
      exact (by simpa using ih h2.2 he')

theorem all_born {es : Array MapEntry} {clock : Nat} (h : Stamped es clock) : (es.toList.map (·.born)).Nodup := h.2.1

/-- The step. -/
theorem MRange.next {w : World} {b r : Nat} {L todo : List ME} (h : MRange w b r L todo) :
    (todo = [] ∧ ∀ ty, (Instr.next (.pointer (some ⟨r, 0, none⟩)) false ty).run Try.prog w = .ok (.tuple #[.bool false]) w) ∨
    ∃ i x w', todo[i]? = some x ∧ (∀ ty, (Instr.next (.pointer (some ⟨r, 0, none⟩)) false ty).run Try.prog w = .ok (.tuple #[.bool true, keyV x.1, strV x.2]) w') ∧ MRange w' b r L (todo.eraseIdx i) ∧ Below r w w' ∧ Only (fun k => k = r) w w' ∧
      (∀ k o, w.heap[k]? = some o → k ≠ r → w'.heap[k]? = some o) ∧ w'.heap.size = w.heap.size ∧ (Instr.entry (.pointer (some ⟨r, 0, none⟩))).run Try.prog w' = .ok (.tuple #[keyV x.1, strV x.2]) w' := by
  obtain ⟨es, clock, since, seen, c0, hb, hm, hr, hold, hsc, hsk, htodo⟩ := h
  have hne : r ≠ b := fun e => by rw [e, hb] at hr; cases hr
  rcases run_next_at (P := Try.prog) w 0 r b since c0 seen es clock hr hb hold hsc with ⟨h0, hrun⟩ | ⟨e, he, w1, hal, hrun⟩
  · refine .inl ⟨?_, fun _ => hrun⟩
    have : (leftOf es seen).toList = [] := by
      rw [← List.length_eq_zero_iff, Array.length_toList]; exact h0
    rw [this] at htodo
    exact List.map_eq_nil_iff.1 htodo.symm
  · obtain ⟨i, hi⟩ := List.getElem?_of_mem he
    obtain ⟨x, hx, hxk, hxv⟩ : ∃ x, todo[i]? = some x ∧ e.key = keyV x.1 ∧ e.val = strV x.2 := by
      have := congrArg (fun l => l[i]?) htodo
      simp only [List.getElem?_map, hi, Option.map_some] at this
      cases hx : todo[i]? with
      | none => rw [hx] at this; cases this
      | some x =>
        rw [hx] at this
        simp only [Option.map_some, Option.some.injEq, Prod.mk.injEq] at this
        exact ⟨x, rfl, this.1, this.2⟩
    have hr1 : w1.heap[r]? = some (.mapIter (some b) since seen c0) := by rcases hal with rfl | rfl <;> exact hr
    have hb1 : w1.heap[b]? = some (.map es clock) := by rcases hal with rfl | rfl <;> exact hb
    have hset : (setBlock w1 r (.mapIter (some b) since (seen.push e.born) clock)).heap[r]? = some (.mapIter (some b) since (seen.push e.born) clock) ∧ ∀ k, k ≠ r → (setBlock w1 r (.mapIter (some b) since (seen.push e.born) clock)).heap[k]? = w1.heap[k]? := by
      refine ⟨?_, fun k hk => ?_⟩
      · show (w1.heap.setIfInBounds r _)[r]? = _
        rw [Array.getElem?_setIfInBounds_self_of_lt (lt_of_heap hr1)]
      · show (w1.heap.setIfInBounds r _)[k]? = _
        rw [Array.getElem?_setIfInBounds_ne (Ne.symm hk)]
    have hb' := (hset.2 b (Ne.symm hne)).trans hb1
    have hsz : (setBlock w1 r (.mapIter (some b) since (seen.push e.born) clock)).heap.size = w.heap.size := by rcases hal with rfl | rfl <;> simp [setBlock]
    have hoth : ∀ k, k ≠ r → (setBlock w1 r (.mapIter (some b) since (seen.push e.born) clock)).heap[k]? = w.heap[k]? := fun k hk => by
      rw [hset.2 k hk]
      rcases hal with rfl | rfl <;> rfl
    refine .inr ⟨i, x, _, hx, fun _ => by rw [← hxk, ← hxv]; exact hrun, ⟨es, clock, since, seen.push e.born, clock, hb', hm, hset.1, hold, hsk, hsk, ?_⟩, ⟨?_, ?_, ?_, by rw [hsz]; exact Nat.le_refl _, fun k hk => hoth k (by omega)⟩, ⟨?_, ?_, ?_, by rw [hsz]; exact Nat.le_refl _, fun k hk hn => hoth k hn⟩, fun k o ho hk => (hoth k hk).trans ho, hsz, ?_⟩
    · rw [leftOf_push seen (all_born hm.st) hi, Go.ChangeMaps.map_eraseIdx, htodo, ← Go.ChangeMaps.map_eraseIdx]
    all_goals first
      | (rcases hal with rfl | rfl <;> rfl)
      | (rw [← hxk, ← hxv]; exact run_entry_at _ r b since seen es clock e hset.1 hb' (mem_left he).1 (all_born hm.st))

end Go.Proofs.Ytookfhmghchkjaa
