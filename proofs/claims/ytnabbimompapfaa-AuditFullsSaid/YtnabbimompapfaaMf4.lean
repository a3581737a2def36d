/- MapG, AudJB, AudJC, AudJD, AudJE, AudJF -/
import Derived.Test.YtnabbimompapfaaMf1
import Derived.Maps.RangeWalk
import Derived.DeepKeys4
import Derived.Carry
import Derived.StringKeys
import Derived.Test.YtnabbimompapfaaMf3
import Derived.Test.YtnabbimompapfaaMf2
namespace Go.Proofs.Ytnabbimompapfaa
open Go Go.RowKit Go.MapKept Go.Maps
open Go.ChangeMaps (setBlock heap_setBlock_same heap_setBlock_other modify_eq_set)
structure MapK (P : Program) (mt kt et : TypeId) (α β : Type) (kV : α → Value) (vV : β → Value) (zero : Value) where
 und : P.underlying mt = some (.map kt et)
 keyed : Keyed P kt
 inj : ∀ a b, kV a = kV b → a = b
 wf : α → Prop
 key : ∀ a, wf a → ∃ l, keyOf P kt (kV a) = some l
 zero : ∀ w, (zeroValue et).run P w = .ok zero w
 same : ∀ a, Instr.sameBits 10000 (kV a) (kV a) = true
section
variable {α β : Type} [DecidableEq α]
def mget (L : List (α × β)) (k : α) : Option β := (L.find? fun x => decide (x.1 = k)).map Prod.snd
def mdel (L : List (α × β)) (k : α) : List (α × β) := L.filter fun x => decide (x.1 ≠ k)
theorem mget_some {L : List (α × β)} {k : α} {bs : β} (h : mget L k = some bs) : (k, bs) ∈ L := by
 unfold mget at h
 cases hf : L.find? fun x => decide (x.1 = k) with
 |none => rw [hf] at h; cases h
 |some x =>
  rw [hf] at h
  simp at h
  have h1 := List.mem_of_find?_eq_some hf
  have h2 := List.find?_some hf
  simp at h2
  rw [← h, ← h2]
  exact h1
theorem mget_none {L : List (α × β)} {k : α} (h : mget L k = none) : ∀ x ∈ L, x.1 ≠ k := fun x hx e => by
 unfold mget at h
 rw [Option.map_eq_none_iff, List.find?_eq_none] at h
 exact h x hx (by simp [e])
theorem mget_mem {L : List (α × β)} (hn : (L.map Prod.fst).Nodup) {k : α} {bs : β} (h : (k, bs) ∈ L) : mget L k = some bs := by
 cases hg : mget L k with
 |none => exact absurd rfl (mget_none hg _ h)
 |some cs =>
  have h2 := mget_some hg
  have : ∀ {L : List (α × β)}, (L.map Prod.fst).Nodup → (k, bs) ∈ L → (k, cs) ∈ L → cs = bs := by
   intro L
   induction L with
   |nil => intro _ h; cases h
   |cons x L ih =>
    intro hn h1 h2
    rw [List.map_cons, List.nodup_cons] at hn
    rcases List.mem_cons.1 h1 with h1 | h1 <;> rcases List.mem_cons.1 h2 with h2 | h2
    ·rw [← h1] at h2; injection h2
    ·exact absurd (List.mem_map.2 ⟨(k, cs), h2, by rw [← h1]⟩) hn.1
    ·exact absurd (List.mem_map.2 ⟨(k, bs), h1, by rw [← h2]⟩) hn.1
    ·exact ih hn.2 h1 h2
  rw [this hn h h2]
theorem mdel_other {L : List (α × β)} {k : α} (h : ∀ x ∈ L, x.1 ≠ k) : mdel L k = L := List.filter_eq_self.2 (fun x hx => by simpa using h x hx)
theorem mem_mdel {L : List (α × β)} {k : α} {x : α × β} : x ∈ mdel L k ↔ x ∈ L ∧ x.1 ≠ k := by simp [mdel]
end
structure MEnts {P : Program} {mt kt et : TypeId} {α β : Type} {kV : α → Value} {vV : β → Value} {zero : Value} (K : MapK P mt kt et α β kV vV zero) (es : Array MapEntry) (clock : Nat) (L : List (α × β)) : Prop where
 st : Stamped es clock
 is : es.toList.map (fun e => (e.key, e.val)) = L.map fun x => (kV x.1, vV x.2)
 wf : ∀ x ∈ L, K.wf x.1
def MRep {P : Program} {mt kt et : TypeId} {α β : Type} {kV : α → Value} {vV : β → Value} {zero : Value} (K : MapK P mt kt et α β kV vV zero) (w : World) (b : Nat) (L : List (α × β)) : Prop := ∃ es clock, w.heap[b]? = some (.map es clock) ∧ MEnts K es clock L
section
variable {P : Program} {mt kt et : TypeId} {α β : Type} {kV : α → Value} {vV : β → Value} {zero : Value} {K : MapK P mt kt et α β kV vV zero} {w w' : World} {b : Nat} {L : List (α × β)}
theorem MEnts.len {es : Array MapEntry} {clock : Nat} (h : MEnts K es clock L) : es.size = L.length := by
 have := congrArg List.length h.is
 simpa using this
theorem MEnts.at_ {es : Array MapEntry} {clock : Nat} (h : MEnts K es clock L) {i : Nat} {e : MapEntry} (he : es.toList[i]? = some e) : ∃ x, L[i]? = some x ∧ e.key = kV x.1 ∧ e.val = vV x.2 := by
 have := congrArg (fun l => l[i]?) h.is
 simp only [List.getElem?_map, he, Option.map_some] at this
 cases hx : L[i]? with
 |none => rw [hx] at this; cases this
 |some x =>
  rw [hx] at this
  simp only [Option.map_some, Option.some.injEq, Prod.mk.injEq] at this
  exact ⟨x, rfl, this.1, this.2⟩
theorem MEnts.mem {es : Array MapEntry} {clock : Nat} (h : MEnts K es clock L) {e : MapEntry} (he : e ∈ es.toList) : ∃ x ∈ L, e.key = kV x.1 ∧ e.val = vV x.2 := by
 obtain ⟨i, hi⟩ := List.getElem?_of_mem he
 obtain ⟨x, hx, h1, h2⟩ := h.at_ hi
 exact ⟨x, List.mem_of_getElem? hx, h1, h2⟩
theorem MEnts.keys {es : Array MapEntry} {clock : Nat} (h : MEnts K es clock L) : ∀ e ∈ es.toList, ∃ l, keyOf P kt e.key = some l := fun e he => by
 obtain ⟨x, hx, h1, _⟩ := h.mem he
 rw [h1]
 exact K.key _ (h.wf x hx)
theorem MEnts.nodup {es : Array MapEntry} {clock : Nat} (h : MEnts K es clock L) : (L.map Prod.fst).Nodup := by
 have h1 := h.st.2.2
 have h2 : es.toList.map (·.key) = L.map fun x => kV x.1 := by
  have := congrArg (List.map Prod.fst) h.is
  simpa [Function.comp_def] using this
 rw [h2] at h1
 unfold List.Nodup at h1 ⊢
 rw [List.pairwise_map] at h1 ⊢
 exact h1.imp (fun {a b} hne e => hne (by rw [e]))
theorem MRep.lt (h : MRep K w b L) : b < w.heap.size := by
 obtain ⟨es, clock, hb, _⟩ := h
 exact lt_of_heap hb
theorem MRep.nodup (h : MRep K w b L) : (L.map Prod.fst).Nodup := by
 obtain ⟨es, clock, _, h⟩ := h
 exact h.nodup
theorem MRep.block (h : MRep K w b L) (e : w'.heap[b]? = w.heap[b]?) : MRep K w' b L := by
 obtain ⟨es, clock, hb, h⟩ := h
 exact ⟨es, clock, e.trans hb, h⟩
theorem MRep.below (h : MRep K w b L) (hb : Below w.heap.size w w') : MRep K w' b L := h.block (hb.block b h.lt)
theorem MRep.alloc (h : MRep K w b L) (o : Obj) : MRep K (w.alloc o) b L := h.below ((zL _ _).alloc (zN _) o)
theorem MRep.made (w : World) : MRep K (w.alloc (.map #[] 0)) w.heap.size [] := ⟨#[], 0, heap_alloc_new w _, ⟨stamped_empty 0, rfl, fun x hx => by cases hx⟩⟩
theorem find_list [DecidableEq α] {es : Array MapEntry} {clock : Nat} (h : MEnts K es clock L) {k : α} (hk : K.wf k) (w : World) :
  ((Instr.findKey kt (kV k) es.toList).run P w = .ok none w ∧ mget L k = none) ∨
  ∃ j e bs, (Instr.findKey kt (kV k) es.toList).run P w = .ok (some (j, vV bs)) w ∧ es.toList[j]? = some e ∧ L[j]? = some (k, bs) ∧ mget L k = some bs := by
 obtain ⟨l, hl⟩ := K.key _ hk
 rcases K.keyed.find w hl es.toList h.keys with ⟨h1, h2⟩ | ⟨j, e, h1, h2, h3⟩
 ·refine .inl ⟨h1, ?_⟩
  cases hg : mget L k with
  |none => rfl
  |some bs =>
   obtain ⟨i, hi⟩ := List.getElem?_of_mem (mget_some hg)
   obtain ⟨hil, _⟩ := List.getElem?_eq_some_iff.1 hi
   obtain ⟨e, he⟩ : ∃ e, es.toList[i]? = some e := ⟨_, List.getElem?_eq_getElem (by rw [Array.length_toList, h.len]; exact hil)⟩
   obtain ⟨x, hx, hxk, _⟩ := h.at_ he
   rw [hi] at hx
   obtain rfl := Option.some.inj hx
   exact absurd hxk (h2 e (List.mem_of_getElem? he))
 ·obtain ⟨x, hx, hxk, hxv⟩ := h.at_ h2
  have hkx : x.1 = k := K.inj _ _ (hxk.symm.trans h3)
  refine .inr ⟨j, e, x.2, by rw [← hxv]; exact h1, h2, by rw [hx, ← hkx], ?_⟩
  exact mget_mem h.nodup (by rw [← hkx]; exact List.mem_of_getElem? hx)
theorem MRep.look [DecidableEq α] (h : MRep K w b L) {k : α} (hk : K.wf k) :
  (Instr.lookup mt (.map (some b)) (kV k) true).run P w = .ok (.tuple #[((mget L k).map vV).getD zero, .bool (mget L k).isSome]) w := by
 obtain ⟨es, clock, hb, h⟩ := h
 obtain ⟨l, hl⟩ := K.key _ hk
 rcases find_list h hk w with ⟨h1, h2⟩ | ⟨j, e, bs, h1, _, _, h2⟩
 ·rw [h2]
  simp [Instr.lookup, run_underlying K.und, MapKept.run_getObj_map hb, K.keyed.check w _ hl, h1, K.zero, Result.andThen]
 ·rw [h2]
  simp [Instr.lookup, run_underlying K.und, MapKept.run_getObj_map hb, K.keyed.check w _ hl, h1, Result.andThen]
theorem MRep.look1 [DecidableEq α] (h : MRep K w b L) {k : α} (hk : K.wf k) :
  (Instr.lookup mt (.map (some b)) (kV k) false).run P w = .ok (((mget L k).map vV).getD zero) w := by
 obtain ⟨es, clock, hb, h⟩ := h
 obtain ⟨l, hl⟩ := K.key _ hk
 rcases find_list h hk w with ⟨h1, h2⟩ | ⟨j, e, bs, h1, _, _, h2⟩
 ·rw [h2]
  simp [Instr.lookup, run_underlying K.und, MapKept.run_getObj_map hb, K.keyed.check w _ hl, h1, K.zero, Result.andThen]
 ·rw [h2]
  simp [Instr.lookup, run_underlying K.und, MapKept.run_getObj_map hb, K.keyed.check w _ hl, h1, Result.andThen]
def Turned (w w' : World) (b : Nat) : Prop := ∃ es clock es' clock', w.heap[b]? = some (.map es clock) ∧ w' = setBlock w b (.map es' clock')
theorem Turned.only (h : Turned w w' b) : Only (fun k => k = b) w w' := by
 obtain ⟨es, clock, es', clock', hb, rfl⟩ := h
 exact ⟨rfl, rfl, rfl, by simp [setBlock], fun k _ hn => heap_setBlock_other hb _ hn⟩
theorem Turned.was (h : Turned w w' b) : ∃ es clock, w.heap[b]? = some (.map es clock) := by
 obtain ⟨es, clock, _, _, hb, _⟩ := h
 exact ⟨es, clock, hb⟩
theorem MRep.put [DecidableEq α] (h : MRep K w b L) {k : α} (hk : K.wf k) (hn : mget L k = none) (bs : β) :
  ∃ w', (Instr.mapUpdate mt (.map (some b)) (kV k) (vV bs)).run P w = .ok () w' ∧ MRep K w' b (L ++ [(k, bs)]) ∧ Turned w w' b := by
 obtain ⟨es, clock, hb, h⟩ := h
 obtain ⟨l, hl⟩ := K.key _ hk
 rcases find_list h hk w with ⟨h1, h2⟩ | ⟨j, e, bs', h1, _, _, h2⟩
 ·have hnk : ∀ x ∈ es.toList, x.key ≠ kV k := fun x hx e => by
   obtain ⟨y, hy, hyk, _⟩ := h.mem hx
   exact mget_none h2 y hy (K.inj _ _ (hyk.symm.trans e))
  refine ⟨setBlock w b (.map (es.push ⟨kV k, vV bs, clock⟩) (clock + 1)), ?_, ⟨_, _, heap_setBlock_same hb _, ⟨stamped_push h.st hnk, ?_, fun x hx => ?_⟩⟩, ⟨es, clock, _, _, hb, rfl⟩⟩
  ·simp [Instr.mapUpdate, run_underlying K.und, MapKept.run_getObj_map hb, K.keyed.check w false hl, h1, MapKept.run_setObj_map _ hb, Result.andThen, setBlock]
  ·rw [Array.toList_push, List.map_append, h.is, List.map_append]; rfl
  ·rw [List.mem_append, List.mem_singleton] at hx
   rcases hx with hx | rfl
   ·exact h.wf x hx
   ·exact hk
 ·rw [hn] at h2; cases h2
theorem MRep.over [DecidableEq α] (h : MRep K w b L) {k : α} (hk : K.wf k) {v0 : β} (hn : mget L k = some v0) (v : β) :
  ∃ w', (Instr.mapUpdate mt (.map (some b)) (kV k) (vV v)).run P w = .ok () w' ∧ MRep K w' b (L.map fun x => if x.1 = k then (k, v) else x) ∧ Turned w w' b := by
 obtain ⟨es, clock, hb, h⟩ := h
 obtain ⟨l, hl⟩ := K.key _ hk
 rcases find_list h hk w with ⟨h1, h2⟩ | ⟨j, e, bs', h1, he, hj, h2⟩
 ·rw [hn] at h2; cases h2
 ·obtain ⟨x, hx, hxk, _⟩ := h.at_ he
  rw [hj] at hx
  obtain rfl := Option.some.inj hx
  have he2 : es[j]? = some e := by simpa using he
  have hst : (Instr.keyThatStays (kV k) (kV k)).run P w = .ok (kV k) w := by simp [Instr.keyThatStays, K.same]
  have hnd := h.nodup
  refine ⟨setBlock w b (.map (es.modify j fun e => { e with key := kV k, val := vV v }) clock), ?_, ⟨_, _, heap_setBlock_same hb _, ⟨stamped_modify h.st j _ (fun _ _ => rfl) (fun e' _ he' => by rw [he2] at he'; obtain rfl := Option.some.inj he'; exact hxk.symm), ?_, fun y hy => ?_⟩⟩, ⟨es, clock, _, _, hb, rfl⟩⟩
  ·simp [Instr.mapUpdate, run_underlying K.und, MapKept.run_getObj_map hb, K.keyed.check w false hl, h1, he2, hxk, hst, MapKept.run_setObj_map _ hb, Result.andThen, setBlock]
  ·apply List.ext_getElem?
   intro i
   simp only [List.getElem?_map, Array.getElem?_toList, Array.getElem?_modify]
   have hi := congrArg (fun l => l[i]?) h.is
   simp only [List.getElem?_map, Array.getElem?_toList] at hi
   by_cases hij : j = i
   ·subst hij
    rw [if_pos rfl, he2, hj]
    simp
   ·rw [if_neg hij, hi]
    cases hL : L[i]? with
    |none => rfl
    |some y =>
     have hne : y.1 ≠ k := fun e3 => by
      obtain ⟨hjl, hj2⟩ := List.getElem?_eq_some_iff.1 hj
      obtain ⟨hil, hi2⟩ := List.getElem?_eq_some_iff.1 hL
      have := (List.getElem?_inj (l := L.map Prod.fst) (i := j) (j := i) (by simpa using hjl) hnd).1 (by rw [List.getElem?_map, List.getElem?_map, hj, hL]; simp [e3])
      exact hij this
     simp [hne]
  ·obtain ⟨z, hz, rfl⟩ := List.mem_map.1 hy
   split
   ·exact hk
   ·exact h.wf z hz
theorem mdel_at [DecidableEq α] {L : List (α × β)} {i : Nat} {k : α} {bs : β} (hn : (L.map Prod.fst).Nodup) (h : L[i]? = some (k, bs)) : L.eraseIdx i = mdel L k := by
 induction L generalizing i with
 |nil => simp at h
 |cons x L ih =>
  rw [List.map_cons, List.nodup_cons] at hn
  cases i with
  |zero =>
   simp at h
   subst h
   have : mdel ((k, bs) :: L) k = mdel L k := by simp [mdel]
   rw [this, mdel_other (fun y hy e => hn.1 (List.mem_map.2 ⟨y, hy, e⟩))]
   rfl
  |succ i =>
   have h' : L[i]? = some (k, bs) := by simpa using h
   have hx : x.1 ≠ k := fun e => hn.1 (List.mem_map.2 ⟨(k, bs), List.mem_of_getElem? h', e.symm⟩)
   have : mdel (x :: L) k = x :: mdel L k := by simp [mdel, hx]
   rw [this, ← ih hn.2 h']
   rfl
theorem MRep.del [DecidableEq α] (h : MRep K w b L) {k : α} (hk : K.wf k) :
  ∃ w', (∀ ty, (Builtin.delete_ #[mt, kt] ty #[.map (some b), kV k]).run P w = .ok (.tuple #[]) w') ∧ MRep K w' b (mdel L k) ∧ Turned w w' b := by
 obtain ⟨es, clock, hb, h⟩ := h
 obtain ⟨l, hl⟩ := K.key _ hk
 rcases find_list h hk w with ⟨h1, h2⟩ | ⟨j, e, bs', h1, he, hj, h2⟩
 ·refine ⟨setBlock w b (.map es clock), ?_, ⟨es, clock, heap_setBlock_same hb _, ?_⟩, ⟨es, clock, es, clock, hb, rfl⟩⟩
  ·intro ty
   simp [Builtin.delete_, run_underlying K.und, MapKept.run_getObj_map hb, K.keyed.check w _ hl, h1, MapKept.run_setObj_map _ hb, Result.andThen, setBlock]
  ·rw [mdel_other (mget_none h2)]; exact h
 ·have hjl : j < es.toList.length := (List.getElem?_eq_some_iff.1 he).1
  have hjs : j < es.size := by simpa using hjl
  have hsub : (es.eraseIdxIfInBounds j).toList = es.toList.eraseIdx j := by
   unfold Array.eraseIdxIfInBounds
   rw [dif_pos hjs]
   simp
  refine ⟨setBlock w b (.map (es.eraseIdxIfInBounds j) clock), ?_, ⟨_, _, heap_setBlock_same hb _, ⟨stamped_erase h.st j, ?_, fun x hx => h.wf x (mem_mdel.1 hx).1⟩⟩, ⟨es, clock, _, _, hb, rfl⟩⟩
  ·intro ty
   simp [Builtin.delete_, run_underlying K.und, MapKept.run_getObj_map hb, K.keyed.check w _ hl, h1, MapKept.run_setObj_map _ hb, Result.andThen, setBlock]
  ·rw [hsub, Go.ChangeMaps.map_eraseIdx, h.is, ← Go.ChangeMaps.map_eraseIdx, mdel_at h.nodup hj]
theorem MRep.len (h : MRep K w b L) (ty : TypeId) : (Builtin.len_ #[mt] ty #[.map (some b)]).run P w = .ok (.int .i64 L.length) w := by
 obtain ⟨es, clock, hb, h⟩ := h
 rw [← h.len]
 simp [Builtin.len_, run_underlying K.und, MapKept.run_getObj_map hb, goInt, Result.andThen]
def MRange {P : Program} {mt kt et : TypeId} {α β : Type} {kV : α → Value} {vV : β → Value} {zero : Value} (K : MapK P mt kt et α β kV vV zero) (w : World) (b r : Nat) (L todo : List (α × β)) : Prop :=
 ∃ es clock since seen c0, w.heap[b]? = some (.map es clock) ∧ MEnts K es clock L ∧ w.heap[r]? = some (.mapIter (some b) since seen c0) ∧ (∀ x ∈ es.toList, x.born < since) ∧ since ≤ c0 ∧ since ≤ clock ∧
  (leftOf es seen).toList.map (fun e => (e.key, e.val)) = todo.map (fun x => (kV x.1, vV x.2))
theorem MRange.rep {r : Nat} {todo : List (α × β)} (h : MRange K w b r L todo) : MRep K w b L := by
 obtain ⟨es, clock, _, _, _, hb, h, _⟩ := h
 exact ⟨es, clock, hb, h⟩
theorem MRange.lt {r : Nat} {todo : List (α × β)} (h : MRange K w b r L todo) : b < w.heap.size ∧ r < w.heap.size := by
 obtain ⟨es, clock, _, _, _, hb, h, hr, _⟩ := h
 exact ⟨lt_of_heap hb, lt_of_heap hr⟩
theorem MRange.below {r : Nat} {todo : List (α × β)} (h : MRange K w b r L todo) (hb : Below w.heap.size w w') : MRange K w' b r L todo := by
 have h1 := h.lt
 obtain ⟨es, clock, since, seen, c0, h2, h3, h4, h5⟩ := h
 exact ⟨es, clock, since, seen, c0, (hb.block b h1.1).trans h2, h3, (hb.block r h1.2).trans h4, h5⟩
theorem MRange.alloc {r : Nat} {todo : List (α × β)} (h : MRange K w b r L todo) (o : Obj) : MRange K (w.alloc o) b r L todo := h.below ((zL _ _).alloc (zN _) o)
theorem MRange.left_eq {r : Nat} {todo : List (α × β)} (h : MRange K w b r L todo) : w.rangeLeft b r = todo.length := by
 obtain ⟨es, clock, since, seen, c0, hb, _, hr, _, _, _, ht⟩ := h
 simp only [World.rangeLeft, hb, hr]
 have := congrArg List.length ht
 simpa using this
theorem MRep.range (h : MRep K w b L) : ∃ c : Nat,
  (Instr.range mt (.map (some b))).run P w = .ok (.pointer (some ⟨w.heap.size, 0, none⟩)) (w.alloc (.mapIter (some b) c #[] c)) ∧ MRange K (w.alloc (.mapIter (some b) c #[] c)) b w.heap.size L L := by
 have hlt := h.lt
 obtain ⟨es, c, hb, hm⟩ := h
 refine ⟨c, run_range_map w _ _ _ b es c K.und hb, ⟨es, c, c, #[], c, (Below.heap_alloc w _ b hlt).trans hb, hm, heap_alloc_new w _, hm.st.1, zN _, zN _, ?_⟩⟩
 rw [← hm.is]
 have e : (leftOf es #[]) = es := Array.filter_eq_self.2 (fun x _ => by simp)
 rw [e]
end
theorem leftOf_push {es : Array MapEntry} (seen : Array Nat) (hn : (es.toList.map (·.born)).Nodup) {i : Nat} {e : MapEntry} (he : (leftOf es seen).toList[i]? = some e) : (leftOf es (seen.push e.born)).toList = (leftOf es seen).toList.eraseIdx i := by
 have h1 : (leftOf es (seen.push e.born)).toList = (leftOf es seen).toList.filter (fun x => decide (x.born ≠ e.born)) := by
  unfold leftOf
  rw [Array.toList_filter, Array.toList_filter, List.filter_filter]
  refine List.filter_congr fun x _ => ?_
  rw [contains_push]
  by_cases hx : x.born = e.born <;> simp [hx]
 rw [h1]
 have h2 : ((leftOf es seen).toList.map (·.born)).Nodup := by
  unfold leftOf
  rw [Array.toList_filter]
  exact hn.sublist (List.Sublist.map _ List.filter_sublist)
 generalize (leftOf es seen).toList = l at h2 he
 clear h1
 induction l generalizing i with
 |nil => simp at he
 |cons x l ih =>
  rw [List.map_cons, List.nodup_cons] at h2
  cases i with
  |zero =>
   simp at he
   subst he
   have : ∀ y ∈ l, y.born ≠ x.born := fun y hy e => h2.1 (List.mem_map.2 ⟨y, hy, e⟩)
   simp
   exact this
  |succ i =>
   have he' : l[i]? = some e := by simpa using he
   have hx : x.born ≠ e.born := fun e2 => h2.1 (List.mem_map.2 ⟨e, List.mem_of_getElem? he', e2.symm⟩)
   simp [hx]
   exact (by simpa using ih h2.2 he')
theorem all_born {es : Array MapEntry} {clock : Nat} (h : Stamped es clock) : (es.toList.map (·.born)).Nodup := h.2.1
theorem MRange.next {P : Program} {mt kt et : TypeId} {α β : Type} {kV : α → Value} {vV : β → Value} {zero : Value} {K : MapK P mt kt et α β kV vV zero} {w : World} {b r : Nat} {L todo : List (α × β)} (h : MRange K w b r L todo) :
  (todo = [] ∧ ∀ ty, (Instr.next (.pointer (some ⟨r, 0, none⟩)) false ty).run P w = .ok (.tuple #[.bool false]) w) ∨
  ∃ i x w', todo[i]? = some x ∧ (∀ ty, (Instr.next (.pointer (some ⟨r, 0, none⟩)) false ty).run P w = .ok (.tuple #[.bool true, kV x.1, vV x.2]) w') ∧ MRange K w' b r L (todo.eraseIdx i) ∧ Below r w w' ∧ Only (fun k => k = r) w w' ∧
   (∀ k o, w.heap[k]? = some o → k ≠ r → w'.heap[k]? = some o) ∧ w'.heap.size = w.heap.size ∧ (Instr.entry (.pointer (some ⟨r, 0, none⟩))).run P w' = .ok (.tuple #[kV x.1, vV x.2]) w' := by
 obtain ⟨es, clock, since, seen, c0, hb, hm, hr, hold, hsc, hsk, htodo⟩ := h
 have hne : r ≠ b := fun e => by rw [e, hb] at hr; cases hr
 rcases run_next_at (P := P) w 0 r b since c0 seen es clock hr hb hold hsc with ⟨h0, hrun⟩ | ⟨e, he, w1, hal, hrun⟩
 ·refine .inl ⟨?_, fun _ => hrun⟩
  have : (leftOf es seen).toList = [] := by
   rw [← List.length_eq_zero_iff, Array.length_toList]; exact h0
  rw [this] at htodo
  exact List.map_eq_nil_iff.1 htodo.symm
 ·obtain ⟨i, hi⟩ := List.getElem?_of_mem he
  obtain ⟨x, hx, hxk, hxv⟩ : ∃ x, todo[i]? = some x ∧ e.key = kV x.1 ∧ e.val = vV x.2 := by
   have := congrArg (fun l => l[i]?) htodo
   simp only [List.getElem?_map, hi, Option.map_some] at this
   cases hx : todo[i]? with
   |none => rw [hx] at this; cases this
   |some x =>
    rw [hx] at this
    simp only [Option.map_some, Option.some.injEq, Prod.mk.injEq] at this
    exact ⟨x, rfl, this.1, this.2⟩
  have hr1 : w1.heap[r]? = some (.mapIter (some b) since seen c0) := by rcases hal with rfl | rfl <;> exact hr
  have hb1 : w1.heap[b]? = some (.map es clock) := by rcases hal with rfl | rfl <;> exact hb
  have hset : (setBlock w1 r (.mapIter (some b) since (seen.push e.born) clock)).heap[r]? = some (.mapIter (some b) since (seen.push e.born) clock) ∧ ∀ k, k ≠ r → (setBlock w1 r (.mapIter (some b) since (seen.push e.born) clock)).heap[k]? = w1.heap[k]? := by
   refine ⟨?_, fun k hk => ?_⟩
   ·show (w1.heap.setIfInBounds r _)[r]? = _
    rw [Array.getElem?_setIfInBounds_self_of_lt (lt_of_heap hr1)]
   ·show (w1.heap.setIfInBounds r _)[k]? = _
    rw [Array.getElem?_setIfInBounds_ne (Ne.symm hk)]
  have hb' := (hset.2 b (Ne.symm hne)).trans hb1
  have hsz : (setBlock w1 r (.mapIter (some b) since (seen.push e.born) clock)).heap.size = w.heap.size := by rcases hal with rfl | rfl <;> simp [setBlock]
  have hoth : ∀ k, k ≠ r → (setBlock w1 r (.mapIter (some b) since (seen.push e.born) clock)).heap[k]? = w.heap[k]? := fun k hk => by
   rw [hset.2 k hk]
   rcases hal with rfl | rfl <;> rfl
  refine .inr ⟨i, x, _, hx, fun _ => by rw [← hxk, ← hxv]; exact hrun, ⟨es, clock, since, seen.push e.born, clock, hb', hm, hset.1, hold, hsk, hsk, ?_⟩, ⟨?_, ?_, ?_, by rw [hsz]; exact zN _, fun k hk => hoth k (by omega)⟩, ⟨?_, ?_, ?_, by rw [hsz]; exact zN _, fun k hk hn => hoth k hn⟩, fun k o ho hk => (hoth k hk).trans ho, hsz, ?_⟩
  ·rw [leftOf_push seen (all_born hm.st) hi, Go.ChangeMaps.map_eraseIdx, htodo, ← Go.ChangeMaps.map_eraseIdx]
  all_goals first
   |(rcases hal with rfl | rfl <;> rfl)
   |(rw [← hxk, ← hxv]; exact run_entry_at _ r b since seen es clock e hset.1 hb' (mem_left he).1 (all_born hm.st))
theorem bytes_self (k : ByteArray) : (k == k) = true := (MapKept.bytes_beq k k).2 rfl
def strPtr {P : Program} {mt kt et : TypeId} (h1 : P.underlying mt = some (.map kt et)) (h2 : P.underlying kt = some .string) (h3 : ∀ w, (zeroValue et).run P w = .ok (.pointer none) w) :
  MapK P mt kt et ByteArray Nat (fun k => .string k) (fun g => .pointer (some ⟨g, 0, none⟩)) (.pointer none) where
 und := h1
 keyed := string_keyed h2
 inj := fun a b e => by injection e
 wf := fun k => k.size ≤ maxLen
 key := fun k h => ⟨.string k.data.toList, by simp [keyOf, h2, mapKey, h]⟩
 zero := h3
 same := fun k => by simp [Instr.sameBits, bytes_self]
def intU64 {P : Program} {mt kt et : TypeId} (h1 : P.underlying mt = some (.map kt et)) (h2 : P.underlying kt = some (.int .i64)) (h3 : ∀ w, (zeroValue et).run P w = .ok (.int .u64 0) w) :
  MapK P mt kt et Int Int (fun k => .int .i64 k) (fun v => .int .u64 v) (.int .u64 0) where
 und := h1
 keyed := int_keyed h2
 inj := fun a b e => by injection e
 wf := fun k => (Lit.int .i64 k).wf = true
 key := fun k h => ⟨_, keyOf_int_mk h2 h⟩
 zero := h3
 same := fun k => by simp [Instr.sameBits]
end Go.Proofs.Ytnabbimompapfaa
namespace Go.Proofs.Ytnabbimompapfaa
open Go Go.RowKit Go.MapKept Go.Maps
structure It where
 e : EntV
 v : Value
 b : Nat
 u : Int
def KI : MapK Try.prog 70 9 56 ByteArray Nat (fun k => .string k) (fun g => .pointer (some ⟨g, 0, none⟩)) (.pointer none) :=
 strPtr Try.underlying70 Try.underlying9 (Try.zeroValue56)
def KP : MapK Try.prog 71 3 25 Int Int (fun k => .int .i64 k) (fun v => .int .u64 v) (.int .u64 0) :=
 intU64 Try.underlying71 Try.underlying3 (Try.zeroValue25)
def jc (s : PJ) (cs us : Int) (gm gp : Nat) : Array Value :=
 #[.int .i64 s.cfg.count, .int .i64 s.cfg.bytes, .int .i64 s.cfg.prot, .int .u64 s.cfg.seed, .bool s.cfg.same, .int .u64 s.now, .int .u64 s.births, .int .i64 us, .map (some gm), .int .i64 cs, .map (some gp)]
def OwnV (w : World) (B : Nat) (v : Value) : Prop := ∀ A n c, v = .slice (some A) n c → ∃ g cs, A = ⟨g, 0, none⟩ ∧ B ≤ g ∧ Blk w g 5 cs
theorem OwnV.of_own {w : World} {base B A : Nat} {X : Option Addr} {m c : Nat} {cs : _} (h : w.ownsRow base 5 1 (.slice X m c) A cs) (hB : B ≤ base) : OwnV w B (.slice X m c) := by
 intro Y n' c' e'
 injection e' with e1 e2 e3
 rcases h.2 with ⟨e, h0⟩ | ⟨g, cap', cur, e, hg, hh, _⟩
 ·injection e with e1' e2' e3'
  rw [e1'] at e1; cases e1
 ·injection e with e1' e2' e3'
  rw [e1'] at e1
  injection e1 with e1
  exact ⟨g, cur, e1.symm, Nat.le_trans hB hg, hh⟩
theorem OwnV.keep {w w' : World} {B B' : Nat} {v : Value} (h : OwnV w B v) (hk : KeepB B' 5 w w') : OwnV w' B v := fun A n c e => by
 obtain ⟨g, cs, h1, h2, h3⟩ := h A n c e
 exact ⟨g, cs, h1, h2, (hk.2 g h3.lt (.inr ⟨cs, _, h3⟩)).trans h3⟩
theorem OwnV.weak {w : World} {B B' : Nat} {v : Value} (h : OwnV w B v) (hB : B' ≤ B) : OwnV w B' v := fun A n c e => by
 obtain ⟨g, cs, h1, h2, h3⟩ := h A n c e
 exact ⟨g, cs, h1, Nat.le_trans hB h2, h3⟩
structure JRep (w : World) (B g gm gp : Nat) (us : Int) (s : PJ) (its : List It) (P : List (Int × Int)) : Prop where
 blk : Blk w g 73 (jc s (costP s.L) us gm gp)
 items : MRep KI w gm (its.map fun x => (x.e.key, x.b))
 ib : ∀ x ∈ its, ItAt w x.b x.e x.v x.u (costE x.e)
 vals : ∀ x ∈ its, Bts w B 5 x.v x.e.val
 nd : (its.map It.b).Nodup
 perm : (its.map It.e).Perm s.L
 ub : ∀ x ∈ its, x.u ≤ us
 ord : s.U.Pairwise fun a b => ∀ x ∈ its, ∀ y ∈ its, x.e.birth = a → y.e.birth = b → x.u < y.u
 places : MRep KP w gp P
 pl : ∀ c, mget P c = openP s.pl c
 base : B ≤ g ∧ B ≤ gm ∧ B ≤ gp ∧ ∀ x ∈ its, B ≤ x.b
 apart : gm ≠ gp ∧ ∀ x ∈ its, OwnV w B x.v
def KJ (B : Nat) (w : World) (k : Nat) : Prop := B ≤ k ∧ ((∃ cs t fr, w.heap[k]? = some (.cells cs t fr) ∧ (t = 73 ∨ t = 60)) ∨ ∃ es c, w.heap[k]? = some (.map es c))
theorem KJ.trans {B : Nat} {w W W2 : World} (h : Only (KJ B w) w W) (k : Only (KJ B W) W W2) : Only (KJ B w) w W2 := by
 refine h.trans k (fun i hi hs => ?_)
 by_cases hc : KJ B w i
 ·exact hc
 ·have e := h.block i hi hc
  obtain ⟨h1, h2⟩ := hs
  rw [e] at h2
  exact ⟨h1, h2⟩
theorem KJ.not_ {B : Nat} {w : World} {k t : Nat} {cs : Array Value} (h : Blk w k t cs) (h1 : t ≠ 73) (h2 : t ≠ 60) : ¬ KJ B w k := by
 unfold Blk at h
 rintro ⟨_, ⟨cs', t', fr, e, ht⟩ | ⟨es, c, e⟩⟩
 ·rw [h] at e
  injection e with e
  injection e with e1 e2 e3
  subst e2
  rcases ht with ht | ht
  ·exact h1 ht
  ·exact h2 ht
 ·rw [h] at e; cases e
theorem KJ.keepB {B Bv : Nat} {w W : World} (ho : Only (KJ B w) w W) (hBv : Bv ≤ B) : KeepB Bv 5 w W :=
 KeepB.of_only ho (fun k _ hk => ⟨Nat.le_trans hBv hk.1, fun c fr e => by
  obtain ⟨_, ⟨cs, t, fr2, e2, h3⟩ | ⟨es, c, e2⟩⟩ := hk
  ·rw [e] at e2
   injection e2 with e2
   injection e2 with _ e2 _
   subst e2
   rcases h3 with h3 | h3 <;> exact absurd h3 (by decide)
  ·rw [e] at e2; cases e2⟩)
theorem KJ.below {B : Nat} {w W : World} (h : Only (KJ B w) w W) (hB : B ≤ w.heap.size) : Below B w W := h.below (fun i hi _ hs => by have := hs.1; omega) hB
section
variable {w w' : World} {B g gm gp : Nat} {us : Int} {s : PJ} {its : List It} {P : List (Int × Int)}
theorem JRep.below (h : JRep w B g gm gp us s its P) (hb : Below w.heap.size w w') : JRep w' B g gm gp us s its P :=
 ⟨h.blk.below hb, h.items.below hb, fun x hx => ⟨(h.ib x hx).blk.below hb⟩, fun x hx => (h.vals x hx).below hb, h.nd, h.perm, h.ub, h.ord, h.places.below hb, h.pl, h.base, ⟨h.apart.1, fun x hx => (h.apart.2 x hx).keep (KeepB.of_below (B := B) hb)⟩⟩
theorem JRep.cells (h : JRep w B g gm gp us s its P) : w.cell? ⟨g, 0, none⟩ = some (.int .i64 s.cfg.count) ∧ w.cell? ⟨g, 1, none⟩ = some (.int .i64 s.cfg.bytes) ∧ w.cell? ⟨g, 2, none⟩ = some (.int .i64 s.cfg.prot) ∧ w.cell? ⟨g, 3, none⟩ = some (.int .u64 s.cfg.seed) ∧ w.cell? ⟨g, 4, none⟩ = some (.bool s.cfg.same) ∧ w.cell? ⟨g, 5, none⟩ = some (.int .u64 s.now) ∧ w.cell? ⟨g, 6, none⟩ = some (.int .u64 s.births) ∧ w.cell? ⟨g, 7, none⟩ = some (.int .i64 us) ∧ w.cell? ⟨g, 8, none⟩ = some (.map (some gm)) ∧ w.cell? ⟨g, 9, none⟩ = some (.int .i64 (costP s.L)) ∧ w.cell? ⟨g, 10, none⟩ = some (.map (some gp)) :=
 ⟨h.blk.cell 0 _ rfl, h.blk.cell 1 _ rfl, h.blk.cell 2 _ rfl, h.blk.cell 3 _ rfl, h.blk.cell 4 _ rfl, h.blk.cell 5 _ rfl, h.blk.cell 6 _ rfl, h.blk.cell 7 _ rfl, h.blk.cell 8 _ rfl, h.blk.cell 9 _ rfl, h.blk.cell 10 _ rfl⟩
theorem JRep.find (h : JRep w B g gm gp us s its P) (hk : (s.L.map EntV.key).Nodup) (k : ByteArray) :
  (findP s.L k = none ∧ mget (its.map fun x => (x.e.key, x.b)) k = none) ∨ ∃ x ∈ its, findP s.L k = some x.e ∧ x.e.key = k ∧ mget (its.map fun x => (x.e.key, x.b)) k = some x.b := by
 cases hf : findP s.L k with
 |none =>
  left
  refine ⟨rfl, ?_⟩
  cases hm : mget (its.map fun x => (x.e.key, x.b)) k with
  |none => rfl
  |some b =>
   obtain ⟨x, hx, e⟩ := List.mem_map.1 (mget_some hm)
   injection e with e1 e2
   exact absurd e1 (findP_none hf x.e (h.perm.mem_iff.1 (List.mem_map_of_mem hx)))
 |some e =>
  right
  obtain ⟨he, hek⟩ := findP_some hf
  obtain ⟨x, hx, hxe⟩ := List.mem_map.1 (h.perm.mem_iff.2 he)
  refine ⟨x, hx, by rw [hxe], by rw [hxe]; exact hek, ?_⟩
  exact mget_mem h.items.nodup (List.mem_map.2 ⟨x, hx, by rw [hxe, hek]⟩)
end
end Go.Proofs.Ytnabbimompapfaa
namespace Go.Proofs.Ytnabbimompapfaa
open Go Go.RowKit
theorem ev6 {W : World} {g : Nat} {x : EvV} {V : Value} (h : Blk W g 50 (evc x V)) : W.cell? ⟨g, 0, none⟩ = some (.int .i64 x.kind) ∧ W.cell? ⟨g, 1, none⟩ = some (.string x.key) ∧ W.cell? ⟨g, 2, none⟩ = some V ∧ W.cell? ⟨g, 3, none⟩ = some (.int .u64 x.birth) ∧ W.cell? ⟨g, 4, none⟩ = some (.int .u64 x.dl) ∧ W.cell? ⟨g, 5, none⟩ = some (.int .u64 x.at_) :=
 ⟨h.cell 0 _ rfl, h.cell 1 _ rfl, h.cell 2 _ rfl, h.cell 3 _ rfl, h.cell 4 _ rfl, h.cell 5 _ rfl⟩
set_option maxRecDepth 100000 in
set_option maxHeartbeats 4000000 in
theorem told_any (B Bv g gm gp : Nat) (us : Int) (s : PJ) (its : List It) (P : List (Int × Int)) (x : It) (v : EvV) (V : Value) (k : Int) (w : World) (h : JRep w B g gm gp us s its P) (hx : x ∈ its) (hv : Bts w Bv 5 V v.val) :
  Calls Try.prog 65 #[.pointer (some ⟨g, 0, none⟩), evv v V, .int .i64 k, .pointer (some ⟨x.b, 0, none⟩)] w fun e w' => e = .returned (.bool (decide (v = eventP k x.e s.now))) ∧ Below w.heap.size w w' := by
 obtain ⟨A, c, rfl⟩ := hv.form
 have HT : Hid (JRep (w.alloc (.cells (evc v (.slice A v.val.length c)) 50)) B g gm gp us s its P ∧ Blk (w.alloc (.cells (evc v (.slice A v.val.length c)) 50)) w.heap.size 50 (evc v (.slice A v.val.length c)) ∧ Below w.heap.size w (w.alloc (.cells (evc v (.slice A v.val.length c)) 50))) :=
  zH ⟨h.below ((zL _ _).alloc (zN _) _), Blk.new _ _ _, (zL _ _).alloc (zN _) _⟩
 have HV := zH hv
 obtain ⟨VA, vc, hVx⟩ := (h.vals x hx).form
 have HVx := zH hVx
 have HX := zH hx
 unfold evv
 unfold evc at HT ⊢
 clear h hx hv hVx
 go_enter Try.func65, Try.ntmps65
 go_upto_region 1 with fail
 generalize World.alloc _ _ = W0 at HT ⊢
 refine wp_region_noPanic ?_
 refine wp_region_held_drew (S := fun W => JRep W B g gm gp us s its P ∧ Blk W w.heap.size 50 (evc v (.slice A v.val.length c)) ∧ Below w.heap.size w W) (by kernel_rfl) ⟨HT.out.1.below (zL _ _).drew, HT.out.2.1.below (zL _ _).drew, HT.out.2.2.drew⟩ (fun hHeld => ?_)
 generalize W0.drew = W1 at hHeld ⊢
 have H1 := zH hHeld
 refine Pl.go [0, 1, 2, 3, 4, 5, 6, 7, 8, 9, 10, 11, 12, 13, 14, 15, 16, 17, 18, 19, 20, 21, 22, 23, 24, 25, 26] ?_
 iterate 27
  refine tkl (v := ?_) ?_ ?_
  rotate_left 1
  ·intro W hSw
   obtain ⟨b0, b1, b2, b3, b4, b5⟩ := ev6 hSw.2.1; obtain ⟨x0, x1, x2, x3, x4, x5⟩ := (hSw.1.ib x HX.out).cells; obtain ⟨-, -, -, -, -, c5, -, -, -, -, -⟩ := hSw.1.cells; rw [HVx.out] at x1
   clear hSw
   go_simp
   try with_reducible rfl
  try dsimp only [zS, zB, zC]
 refine Pl.stop ?_
 refine wpAnyH_ready (rs := [27]) (by kernel_rfl) (by simp) ?_
 refine AllReadyH.cons (o := ⟨_, _, _, _, _, _⟩) rfl (fun F hF => ?_) AllReadyH.nil
 go_simp
 have hvx := H1.out.1.vals x HX.out
 rw [HVx.out] at hvx
 refine (eventEqual_any Bv B v (eventP k x.e s.now) _ _ W1 (HV.out.keep (KeepB.of_below H1.out.2.2)) hvx).mono ?_
 rintro e w2 ⟨rfl, hb2⟩
 have H2 : Hid (JRep w2 B g gm gp us s its P ∧ Blk w2 w.heap.size 50 (evc v (.slice A v.val.length c)) ∧ Below w.heap.size w w2) := zH ⟨H1.out.1.below hb2, H1.out.2.1.below hb2, H1.out.2.2.trans (hb2.mono H1.out.2.2.size)⟩
 clear hb2 hHeld hvx
 go_wp2_with fail
 refine hF.out _ _ H2.out (fun hHeld => ?_)
 clear hF F
 try simp only [Act.put, zA, zB, zC]
 refine tk 28 (v := ?_) ?_ ?_
 rotate_left 1
 ·intro W hSw
  skip
  clear hSw
  go_simp
  try with_reducible rfl
 try dsimp only [zS, zB, zC]
 refine wpAnyH_done (by kernel_rfl) ?_ _
 refine NoPanic.normal ?_
 go_wp2_with fail
 go_ret
 exact ⟨rfl, H2.out.2.2⟩
theorem JRep.lenI {w : World} {B g gm gp : Nat} {us : Int} {s : PJ} {its : List It} {P : List (Int × Int)} (h : JRep w B g gm gp us s its P) : its.length = s.L.length := by
 have := h.perm.length_eq
 rwa [List.length_map] at this
set_option maxRecDepth 100000 in
set_option maxHeartbeats 4000000 in
theorem within_any (B g gm gp : Nat) (us : Int) (s : PJ) (its : List It) (P : List (Int × Int)) (w : World) (h : JRep w B g gm gp us s its P) :
  Calls Try.prog 30 #[.pointer (some ⟨g, 0, none⟩)] w fun e w' => e = .returned (.bool (decide (withinP s))) ∧ Below w.heap.size w w' := by
 have HT := zH h
 have hl : (s.L.length : Int) = its.length := by rw [h.lenI]
 have hW : withinP s ↔ ((its.length : Int) ≤ s.cfg.count ∧ costP s.L ≤ s.cfg.bytes) := by unfold withinP; rw [hl]
 clear h hl
 go_enter Try.func30, Try.ntmps30
 go_wp2_with fail
 by_cases d1 : (its.length : Int) ≤ s.cfg.count
 ·by_cases d2 : costP s.L ≤ s.cfg.bytes
  ·have HS := zH (show decide (withinP s) = true from decide_eq_true (hW.2 ⟨d1, d2⟩))
   clear hW
   refine wp_region_noPanic ?_
   refine wp_region_held_drew (S := fun W => JRep W B g gm gp us s its P) (by kernel_rfl) (HT.out.below (zL _ _).drew) (fun hHeld => ?_)
   have HB1 : Hid (Below w.heap.size w w.drew) := zH (zL _ _).drew
   generalize w.drew = W1 at hHeld HB1 ⊢
   refine Pl.go [0, 1, 2, 3, 4, 5, 6, 7, 8, 9, 10, 11] ?_
   iterate 12
    refine tkl (v := ?_) ?_ ?_
    rotate_left 1
    ·intro W hSw
     obtain ⟨d0, d1, d2, d3, d4, d5, d6, d7, d8, d9, d10⟩ := hSw.cells; have hln : ∀ ty, (Builtin.len_ #[70] ty #[.map (some gm)]).run Try.prog W = .ok (.int .i64 its.length) W := fun ty => by have := hSw.items.len (P := Try.prog) ty; rwa [List.length_map] at this
     clear hSw
     go_simp
     try with_reducible rfl
    try dsimp only [zS, zB, zC]
   refine Pl.stop ?_
   refine Pl.go [12, 13, 14, 15, 16, 17, 18, 19, 20, 21] ?_
   iterate 10
    refine tkl (v := ?_) ?_ ?_
    rotate_left 1
    ·intro W hSw
     obtain ⟨d0, d1, d2, d3, d4, d5, d6, d7, d8, d9, d10⟩ := hSw.cells; have hln : ∀ ty, (Builtin.len_ #[70] ty #[.map (some gm)]).run Try.prog W = .ok (.int .i64 its.length) W := fun ty => by have := hSw.items.len (P := Try.prog) ty; rwa [List.length_map] at this
     clear hSw
     go_simp
     try with_reducible rfl
    try dsimp only [zS, zB, zC]
   refine Pl.stop ?_
   refine tk 22 (v := ?_) ?_ ?_
   rotate_left 1
   ·intro W hSw
    skip
    clear hSw
    go_simp
    try with_reducible rfl
   try dsimp only [zS, zB, zC]
   refine tk 23 (v := ?_) ?_ ?_
   rotate_left 1
   ·intro W hSw
    skip
    clear hSw
    go_simp
    try with_reducible rfl
   try dsimp only [zS, zB, zC]
   refine wpAnyH_done (by kernel_rfl) ?_ _
   refine NoPanic.normal ?_
   go_wp2_with fail
   go_ret
   first | exact ⟨by rw [HS.out]; rfl, HB1.out⟩ | exact ⟨rfl, HB1.out⟩
  ·have HS := zH (show decide (withinP s) = false from decide_eq_false (fun h => d2 (hW.1 h).2))
   clear hW
   refine wp_region_noPanic ?_
   refine wp_region_held_drew (S := fun W => JRep W B g gm gp us s its P) (by kernel_rfl) (HT.out.below (zL _ _).drew) (fun hHeld => ?_)
   have HB1 : Hid (Below w.heap.size w w.drew) := zH (zL _ _).drew
   generalize w.drew = W1 at hHeld HB1 ⊢
   refine Pl.go [0, 1, 2, 3, 4, 5, 6, 7, 8, 9, 10, 11] ?_
   iterate 12
    refine tkl (v := ?_) ?_ ?_
    rotate_left 1
    ·intro W hSw
     obtain ⟨d0, d1, d2, d3, d4, d5, d6, d7, d8, d9, d10⟩ := hSw.cells; have hln : ∀ ty, (Builtin.len_ #[70] ty #[.map (some gm)]).run Try.prog W = .ok (.int .i64 its.length) W := fun ty => by have := hSw.items.len (P := Try.prog) ty; rwa [List.length_map] at this
     clear hSw
     go_simp
     try with_reducible rfl
    try dsimp only [zS, zB, zC]
   refine Pl.stop ?_
   refine Pl.go [12, 13, 14, 15, 16, 17, 18, 19, 20, 21] ?_
   iterate 10
    refine tkl (v := ?_) ?_ ?_
    rotate_left 1
    ·intro W hSw
     obtain ⟨d0, d1, d2, d3, d4, d5, d6, d7, d8, d9, d10⟩ := hSw.cells; have hln : ∀ ty, (Builtin.len_ #[70] ty #[.map (some gm)]).run Try.prog W = .ok (.int .i64 its.length) W := fun ty => by have := hSw.items.len (P := Try.prog) ty; rwa [List.length_map] at this
     clear hSw
     go_simp
     try with_reducible rfl
    try dsimp only [zS, zB, zC]
   refine Pl.stop ?_
   refine tk 22 (v := ?_) ?_ ?_
   rotate_left 1
   ·intro W hSw
    skip
    clear hSw
    go_simp
    try with_reducible rfl
   try dsimp only [zS, zB, zC]
   refine tk 23 (v := ?_) ?_ ?_
   rotate_left 1
   ·intro W hSw
    skip
    clear hSw
    go_simp
    try with_reducible rfl
   try dsimp only [zS, zB, zC]
   refine wpAnyH_done (by kernel_rfl) ?_ _
   refine NoPanic.normal ?_
   go_wp2_with fail
   go_ret
   first | exact ⟨by rw [HS.out]; rfl, HB1.out⟩ | exact ⟨rfl, HB1.out⟩
 ·have HS := zH (show decide (withinP s) = false from decide_eq_false (fun h => d1 (hW.1 h).1))
  clear hW
  refine wp_region_noPanic ?_
  refine wp_region_held_drew (S := fun W => JRep W B g gm gp us s its P) (by kernel_rfl) (HT.out.below (zL _ _).drew) (fun hHeld => ?_)
  have HB1 : Hid (Below w.heap.size w w.drew) := zH (zL _ _).drew
  generalize w.drew = W1 at hHeld HB1 ⊢
  refine Pl.go [0, 1, 2, 3, 4, 5, 6, 7, 8, 9, 10, 11] ?_
  iterate 12
   refine tkl (v := ?_) ?_ ?_
   rotate_left 1
   ·intro W hSw
    obtain ⟨d0, d1, d2, d3, d4, d5, d6, d7, d8, d9, d10⟩ := hSw.cells; have hln : ∀ ty, (Builtin.len_ #[70] ty #[.map (some gm)]).run Try.prog W = .ok (.int .i64 its.length) W := fun ty => by have := hSw.items.len (P := Try.prog) ty; rwa [List.length_map] at this
    clear hSw
    go_simp
    try with_reducible rfl
   try dsimp only [zS, zB, zC]
  refine Pl.stop ?_
  refine Pl.go [12, 13, 14, 15, 16, 17, 18, 19, 20, 21] ?_
  iterate 10
   refine skl ?_
   try dsimp only [zS, zB, zC]
  refine Pl.stop ?_
  refine tk 22 (v := ?_) ?_ ?_
  rotate_left 1
  ·intro W hSw
   skip
   clear hSw
   go_simp
   try with_reducible rfl
  try dsimp only [zS, zB, zC]
  refine tk 23 (v := ?_) ?_ ?_
  rotate_left 1
  ·intro W hSw
   skip
   clear hSw
   go_simp
   try with_reducible rfl
  try dsimp only [zS, zB, zC]
  refine wpAnyH_done (by kernel_rfl) ?_ _
  refine NoPanic.normal ?_
  go_wp2_with fail
  go_ret
  first | exact ⟨by rw [HS.out]; rfl, HB1.out⟩ | exact ⟨rfl, HB1.out⟩
end Go.Proofs.Ytnabbimompapfaa
namespace Go.Proofs.Ytnabbimompapfaa
open Go Go.RowKit
theorem int_wf {k : Int} (h : -9223372036854775808 ≤ k ∧ k ≤ 9223372036854775807) : (Lit.int .i64 k).wf = true := by
 have hm : IntKind.i64.min = -9223372036854775808 := by decide
 simp [Lit.wf, hm]
 omega
set_option maxHeartbeats 4000000 in
theorem free_any (B g gm gp : Nat) (us : Int) (s : PJ) (its : List It) (P : List (Int × Int)) (w : World) (h : JRep w B g gm gp us s its P) (hp : s.pl.length = 64) :
  Calls Try.prog 67 #[.pointer (some ⟨g, 0, none⟩)] w fun e w' => e = .returned (.int .i64 (freeP s.pl : Int)) ∧ w = w' := by
 obtain ⟨-, -, -, -, -, -, -, -, -, -, d10⟩ := h.cells
 have HLk : Hid (∀ m : Nat, m ≤ 64 → ∃ v, (Instr.lookup 71 (.map (some gp)) (.int .i64 (m : Int)) true).run Try.prog w = .ok (.tuple #[v, .bool (openAt s.pl m)]) w) := zH (fun m hm => by
  have := h.places.look (P := Try.prog) (k := (m : Int)) (int_wf (by omega))
  rw [h.pl (m : Int), openP_some s.pl (m : Int) (by omega), Int.toNat_natCast] at this
  exact ⟨_, this⟩)
 have HP := zH hp
 clear h hp
 go_enter Try.func67, Try.ntmps67
 go_wp2_with fail
 go_loopw [3] (fun i wr => ∃ m : Nat, m ≤ 64 ∧ i = .int .i64 m ∧ (∀ j, j < m → openAt s.pl j = true) ∧ wr = w) (fun i _ => 64 - (intOf i).toNat)
 case atStart => exact ⟨0, by omega, rfl, fun j hj => by omega, rfl⟩
 case round =>
  obtain ⟨m, hm, rfl, hj, hww⟩ := hrel
  obtain rfl : w = wr := hww.symm
  have HJ := zH hj
  clear hj
  obtain ⟨v, hlk⟩ := HLk.out m hm
  obtain ⟨q, hq⟩ : ∃ q, openAt s.pl m = q := ⟨_, rfl⟩
  rw [hq] at hlk
  have HQ := zH hq
  clear hq
  cases q with
  |false =>
   have HS : Hid ((freeP s.pl : Int) = m) := zH (by
    by_cases h64 : m < 64
    ·rw [freeP_at HP.out h64 HQ.out HJ.out]
    ·have : m = 64 := by omega
     subst this
     rw [freeP_full HP.out HJ.out])
   go_wp2_with fail
   go_ret
   exact ⟨by rw [HS.out]; rfl, rfl⟩
  |true =>
   have h64 : m < 64 := by
    rcases Nat.lt_or_ge m 64 with h | h
    ·exact h
    ·have := HQ.out
     unfold openAt at this
     rw [List.getElem?_eq_none (by rw [HP.out]; exact h)] at this
     cases this
   go_wp2_with fail
   go_roundw
   case rel => exact ⟨m + 1, by omega, by go_num, fun j hj => by
     rcases (by omega : j < m ∨ j = m) with h1 | h1
     ·exact HJ.out j h1
     ·rw [h1]; exact HQ.out, trivial⟩
   case measure => simp [intOf]; omega
end Go.Proofs.Ytnabbimompapfaa
namespace Go.Proofs.Ytnabbimompapfaa
open Go Go.RowKit
def keyedP (s : PJ) (o : OpV) : Int :=
 if keyOK o.key = false ∨ ((o.kind = 2 ∨ o.kind = 5) ∧ o.ttl = 0) then 2
 else if o.kind = 1 ∨ o.kind = 2 then if 65536 < o.val.length then 5 else if s.cfg.bytes < 48 + o.key.size + o.val.length then 12 else 0
 else 0
set_option maxHeartbeats 4000000 in
theorem keyed_any (B Bv g gm gp : Nat) (us : Int) (s : PJ) (its : List It) (P : List (Int × Int)) (o : OpV) (V : Value) (w : World) (h : JRep w B g gm gp us s its P) (hv : Bts w Bv 5 V o.val) (hk : o.key.size ≤ maxLen) :
  Calls Try.prog 38 #[.pointer (some ⟨g, 0, none⟩), opv o V] w fun e w' => e = .returned (.int .i64 (keyedP s o)) ∧ Below w.heap.size w w' := by
 obtain ⟨A, c, rfl⟩ := hv.form
 have hbox : Blk (w.alloc (.cells (opc o (.slice A o.val.length c)) 29)) w.heap.size 29 (opc o (.slice A o.val.length c)) := Blk.new _ _ _
 have hbl : Below w.heap.size w (w.alloc (.cells (opc o (.slice A o.val.length c)) 29)) := (zL _ _).alloc (zN _) _
 have HJ := zH (h.below hbl)
 have HV := zH (hv.below hbl)
 have HK := zH hk
 have HBx := zH hbox
 have HBl := zH hbl
 have HVk := zH (fun W => validKey_any o.key W hk)
 unfold opv
 unfold opc at HJ HV HBx HBl ⊢
 clear h hv hk hbox hbl
 obtain ⟨W0, hW0⟩ : ∃ W0, w.alloc (.cells #[.int .i64 o.kind, .int .u64 o.ticks, .string o.key, .slice A o.val.length c, .int .u64 o.ttl, .int .i64 o.count, .int .i64 o.bytes, .int .i64 o.cursor, .int .u64 o.birth] 29) = W0 := ⟨_, rfl⟩
 rw [hW0] at HJ HV HBx HBl
 have HW := zH hW0
 clear hW0
 go_enter Try.func38, Try.ntmps38
 go_upto_region 1 with fail
 rw [HW.out]
 clear HW
 obtain ⟨z0, z2, z3, z4, z7⟩ := op_cells' HBx.out
 have HC := zH (fun W (hv : Bts W Bv 5 (.slice A o.val.length c) o.val) => cost_any Bv o.key (.slice A o.val.length c) o.val W HK.out hv)
 cases hkey : keyOK o.key with
 |false =>
  have HS := zH (show keyedP s o = 2 by unfold keyedP; rw [if_pos (.inl hkey)])
  rw [(by unfold keyB; first | exact hkey | simp [hkey] : keyB o.key = false)] at HVk
  clear hkey HC
  by_cases k2 : o.kind = 2
  ·have q2 : (o.kind == 2) = true := by simp [k2]
   clear k2
   go_wp2_with fail
   refine (HVk.out _).mono ?_
   rintro e w1 ⟨rfl, hw⟩
   subst hw
   go_wp2_with fail
   go_ret
   first | exact ⟨by rw [HS.out]; rfl, HBl.out⟩ | exact ⟨rfl, HBl.out⟩
  ·have q2 : (o.kind == 2) = false := by simp [k2]
   clear k2
   obtain ⟨q, q5⟩ : ∃ q, (o.kind == 5) = q := ⟨_, rfl⟩
   go_wp2_with fail
   refine (HVk.out _).mono ?_
   rintro e w1 ⟨rfl, hw⟩
   subst hw
   go_wp2_with fail
   go_ret
   first | exact ⟨by rw [HS.out]; rfl, HBl.out⟩ | exact ⟨rfl, HBl.out⟩
 |true =>
  rw [(by unfold keyB; first | exact hkey | simp [hkey] : keyB o.key = true)] at HVk
  rw [hkey] at HC
  have HR0 := zH (show keyedP s o = if (o.kind = 2 ∨ o.kind = 5) ∧ o.ttl = 0 then 2 else if o.kind = 1 ∨ o.kind = 2 then if 65536 < o.val.length then 5 else if s.cfg.bytes < 48 + o.key.size + o.val.length then 12 else 0 else 0 by unfold keyedP; rw [hkey]; simp)
  clear hkey
  by_cases k2 : o.kind = 2
  ·have q2 : (o.kind == 2) = true := by simp [k2]
   have q2n : (o.kind != 2) = false := by simp [k2]
   have q1n : (o.kind != 1) = true := by simp [k2]
   by_cases ht : o.ttl = 0
   ·have HS := zH (show keyedP s o = 2 by rw [HR0.out, if_pos ⟨.inl k2, ht⟩])
    have qt : (o.ttl == 0) = true := by simp [ht]
    clear k2 ht HC HR0
    go_wp2_with fail
    refine (HVk.out _).mono ?_
    rintro e w1 ⟨rfl, hw⟩
    subst hw
    go_wp2_with fail
    go_ret
    first | exact ⟨by rw [HS.out]; rfl, HBl.out⟩ | exact ⟨rfl, HBl.out⟩
   ·have HR := zH (show keyedP s o = if 65536 < o.val.length then 5 else if s.cfg.bytes < 48 + o.key.size + o.val.length then 12 else 0 by rw [HR0.out, if_neg (fun h => ht h.2), if_pos (.inr k2)])
    have qt : (o.ttl == 0) = false := by simp [ht]
    clear k2 ht HR0
    go_wp2_with fail
    refine (HVk.out _).mono ?_
    rintro e w1 ⟨rfl, hw⟩
    subst hw
    go_wp2_with fail
    refine (HC.out _ HV.out).mono ?_
    rintro e w2 ⟨rfl, hb2⟩
    have HB2 := zH hb2
    obtain ⟨d0, d1, -⟩ := (HJ.out.below hb2).cells
    clear hb2
    by_cases hn : 65536 < o.val.length
    ·have HS := zH (show keyedP s o = 5 by rw [HR.out, if_pos hn])
     rw [if_pos hn]
     clear hn
     go_wp2_with fail
     go_ret
     exact ⟨by rw [HS.out]; rfl, HBl.out.trans (HB2.out.mono HBl.out.size)⟩
    ·rw [if_neg hn]
     by_cases hm : s.cfg.bytes < 48 + o.key.size + o.val.length
     ·have HS := zH (show keyedP s o = 12 by rw [HR.out, if_neg hn, if_pos hm])
      have hd : decide (s.cfg.bytes < (48 + o.key.size + o.val.length : Int)) = true := decide_eq_true hm
      clear hn hm
      go_wp2_with fail
      go_ret
      exact ⟨by rw [HS.out]; rfl, HBl.out.trans (HB2.out.mono HBl.out.size)⟩
     ·have HS := zH (show keyedP s o = 0 by rw [HR.out, if_neg hn, if_neg hm])
      have hd : decide (s.cfg.bytes < (48 + o.key.size + o.val.length : Int)) = false := decide_eq_false hm
      clear hn hm
      go_wp2_with fail
      go_ret
      exact ⟨by rw [HS.out]; rfl, HBl.out.trans (HB2.out.mono HBl.out.size)⟩
  ·have q2 : (o.kind == 2) = false := by simp [k2]
   have q2n : (o.kind != 2) = true := by simp [k2]
   by_cases k5 : o.kind = 5
   ·have q5 : (o.kind == 5) = true := by simp [k5]
    have q1n : (o.kind != 1) = true := by simp [k5]
    by_cases ht : o.ttl = 0
    ·have HS := zH (show keyedP s o = 2 by rw [HR0.out, if_pos ⟨.inr k5, ht⟩])
     have qt : (o.ttl == 0) = true := by simp [ht]
     clear k2 k5 ht HC HR0
     go_wp2_with fail
     refine (HVk.out _).mono ?_
     rintro e w1 ⟨rfl, hw⟩
     subst hw
     go_wp2_with fail
     go_ret
     first | exact ⟨by rw [HS.out]; rfl, HBl.out⟩ | exact ⟨rfl, HBl.out⟩
    ·have HS := zH (show keyedP s o = 0 by rw [HR0.out, if_neg (fun h => ht h.2), if_neg (by omega)])
     have qt : (o.ttl == 0) = false := by simp [ht]
     clear k2 k5 ht HC HR0
     go_wp2_with fail
     refine (HVk.out _).mono ?_
     rintro e w1 ⟨rfl, hw⟩
     subst hw
     go_wp2_with fail
     go_ret
     first | exact ⟨by rw [HS.out]; rfl, HBl.out⟩ | exact ⟨rfl, HBl.out⟩
   ·have q5 : (o.kind == 5) = false := by simp [k5]
    by_cases k1 : o.kind = 1
    ·have HR := zH (show keyedP s o = if 65536 < o.val.length then 5 else if s.cfg.bytes < 48 + o.key.size + o.val.length then 12 else 0 by rw [HR0.out, if_neg (fun h => by omega), if_pos (.inl k1)])
     have q1n : (o.kind != 1) = false := by simp [k1]
     clear k2 k5 k1 HR0
     go_wp2_with fail
     refine (HVk.out _).mono ?_
     rintro e w1 ⟨rfl, hw⟩
     subst hw
     go_wp2_with fail
     refine (HC.out _ HV.out).mono ?_
     rintro e w2 ⟨rfl, hb2⟩
     have HB2 := zH hb2
     obtain ⟨d0, d1, -⟩ := (HJ.out.below hb2).cells
     clear hb2
     by_cases hn : 65536 < o.val.length
     ·have HS := zH (show keyedP s o = 5 by rw [HR.out, if_pos hn])
      rw [if_pos hn]
      clear hn
      go_wp2_with fail
      go_ret
      exact ⟨by rw [HS.out]; rfl, HBl.out.trans (HB2.out.mono HBl.out.size)⟩
     ·rw [if_neg hn]
      by_cases hm : s.cfg.bytes < 48 + o.key.size + o.val.length
      ·have HS := zH (show keyedP s o = 12 by rw [HR.out, if_neg hn, if_pos hm])
       have hd : decide (s.cfg.bytes < (48 + o.key.size + o.val.length : Int)) = true := decide_eq_true hm
       clear hn hm
       go_wp2_with fail
       go_ret
       exact ⟨by rw [HS.out]; rfl, HBl.out.trans (HB2.out.mono HBl.out.size)⟩
      ·have HS := zH (show keyedP s o = 0 by rw [HR.out, if_neg hn, if_neg hm])
       have hd : decide (s.cfg.bytes < (48 + o.key.size + o.val.length : Int)) = false := decide_eq_false hm
       clear hn hm
       go_wp2_with fail
       go_ret
       exact ⟨by rw [HS.out]; rfl, HBl.out.trans (HB2.out.mono HBl.out.size)⟩
    ·have HS := zH (show keyedP s o = 0 by rw [HR0.out, if_neg (fun h => by omega), if_neg (by omega)])
     have q1n : (o.kind != 1) = true := by simp [k1]
     clear k2 k5 k1 HC HR0
     go_wp2_with fail
     refine (HVk.out _).mono ?_
     rintro e w1 ⟨rfl, hw⟩
     subst hw
     go_wp2_with fail
     go_ret
     first | exact ⟨by rw [HS.out]; rfl, HBl.out⟩ | exact ⟨rfl, HBl.out⟩
end Go.Proofs.Ytnabbimompapfaa
namespace Go.Proofs.Ytnabbimompapfaa
open Go Go.RowKit
structure JRX (w W : World) (B Bv g gm gp : Nat) (us : Int) (s : PJ) (its : List It) (P : List (Int × Int)) (o : OpV) (A : Option Addr) (c : Nat) : Prop where
 rep : JRep W B g gm gp us s its P
 box : Blk W w.heap.size 29 (opc o (.slice A o.val.length c))
 bel : Below w.heap.size w W
 val : Bts W Bv 5 (.slice A o.val.length c) o.val
theorem JRX.adv {w W W2 : World} {B Bv g gm gp : Nat} {us : Int} {s : PJ} {its : List It} {P : List (Int × Int)} {o : OpV} {A : Option Addr} {c : Nat} (h : JRX w W B Bv g gm gp us s its P o A c) (hb : Below W.heap.size W W2) : JRX w W2 B Bv g gm gp us s its P o A c :=
 ⟨h.rep.below hb, h.box.below hb, h.bel.trans (hb.mono h.bel.size), h.val.below hb⟩
theorem op9 {W : World} {g : Nat} {a : OpV} {V : Value} (h : Blk W g 29 (opc a V)) : W.cell? ⟨g, 0, none⟩ = some (.int .i64 a.kind) ∧ W.cell? ⟨g, 1, none⟩ = some (.int .u64 a.ticks) ∧ W.cell? ⟨g, 2, none⟩ = some (.string a.key) ∧ W.cell? ⟨g, 3, none⟩ = some V ∧ W.cell? ⟨g, 4, none⟩ = some (.int .u64 a.ttl) ∧ W.cell? ⟨g, 5, none⟩ = some (.int .i64 a.count) ∧ W.cell? ⟨g, 6, none⟩ = some (.int .i64 a.bytes) ∧ W.cell? ⟨g, 7, none⟩ = some (.int .i64 a.cursor) ∧ W.cell? ⟨g, 8, none⟩ = some (.int .u64 a.birth) :=
 ⟨h.cell 0 _ rfl, h.cell 1 _ rfl, h.cell 2 _ rfl, h.cell 3 _ rfl, h.cell 4 _ rfl, h.cell 5 _ rfl, h.cell 6 _ rfl, h.cell 7 _ rfl, h.cell 8 _ rfl⟩
theorem JRep.lookPl {w : World} {B g gm gp : Nat} {us : Int} {s : PJ} {its : List It} {P : List (Int × Int)} (h : JRep w B g gm gp us s its P) {c : Int} (hc : -9223372036854775808 ≤ c ∧ c ≤ 9223372036854775807) :
  (Instr.lookup 71 (.map (some gp)) (.int .i64 c) true).run Try.prog w = .ok (.tuple #[.int .u64 ((openP s.pl c).getD 0), .bool (openP s.pl c).isSome]) w := by
 have := h.places.look (P := Try.prog) (k := c) (int_wf hc)
 rw [h.pl c] at this
 rw [this]
 cases openP s.pl c <;> rfl
set_option maxRecDepth 100000 in
set_option maxHeartbeats 4000000 in
theorem right_keyed (B Bv g gm gp : Nat) (us : Int) (s : PJ) (its : List It) (P : List (Int × Int)) (o : OpV) (V : Value) (t : Int) (w : World) (h : JRep w B g gm gp us s its P) (hv : Bts w Bv 5 V o.val) (hk : o.key.size ≤ maxLen) (hc : -9223372036854775808 ≤ o.cursor ∧ o.cursor ≤ 9223372036854775807)
  (h6 : o.kind = 1 ∨ o.kind = 2 ∨ o.kind = 3 ∨ o.kind = 4 ∨ o.kind = 5 ∨ o.kind = 6) :
  Calls Try.prog 26 #[.pointer (some ⟨g, 0, none⟩), opv o V, .int .u64 t] w fun e w' => e = .returned (.tuple #[.int .i64 (rightP s o t), .bool (refusedP o (rightP s o t))]) ∧ Below w.heap.size w w' := by
 obtain ⟨A, c, rfl⟩ := hv.form
 have hbl : Below w.heap.size w (w.alloc (.cells (opc o (.slice A o.val.length c)) 29)) := (zL _ _).alloc (zN _) _
 have HX : Hid (JRX w (w.alloc (.cells (opc o (.slice A o.val.length c)) 29)) B Bv g gm gp us s its P o A c) := zH ⟨h.below hbl, Blk.new _ _ _, hbl, hv.below hbl⟩
 have HK := zH hk
 have HC := zH hc
 have HR := zH (show rightP s o t = keyedP s o by unfold rightP keyedP; rw [if_pos h6])
 have HF := zH (show ∀ r, refusedP o r = (r != 0) by
  intro r
  unfold refusedP
  by_cases hr : r = 0
  ·simp [hr]
  ·rw [decide_eq_true (⟨hr, .inl (by omega)⟩ : r ≠ 0 ∧ (o.kind ≤ 6 ∨ o.kind = 8 ∨ (o.kind = 12 ∧ r = 9)))]; simp [hr])
 have HF := zH (HF.out (rightP s o t))
 obtain ⟨q, hq⟩ : ∃ q, openP s.pl o.cursor = q := ⟨_, rfl⟩
 have HOp := zH hq
 clear h hv hk hc hq hbl
 simp only [HF.out]
 rw [HR.out]
 obtain ⟨r, hr⟩ : ∃ r, keyedP s o = r := ⟨_, rfl⟩
 rw [hr]
 have HKr := zH hr
 clear HF HR hr
 unfold opv
 unfold opc at HX ⊢
 rcases h6 with k | k | k | k | k | k
 ·have q1 : (o.kind == 1) = true := by simp [k]
  clear k
  go_enter Try.func26, Try.ntmps26
  go_upto_region 1 with fail
  generalize World.alloc _ _ = W0 at HX ⊢
  refine wp_region_noPanic ?_
  refine wp_region_held_drew (S := fun W => JRX w W B Bv g gm gp us s its P o A c) (by kernel_rfl) (HX.out.adv (zL _ _).drew) (fun hHeld => ?_)
  generalize W0.drew = W1 at hHeld ⊢
  have HX1 := zH hHeld
  refine Pl.go [0, 1, 2, 3, 4, 5, 6, 7, 8, 9, 10, 11] ?_
  iterate 12
   refine tkl (v := ?_) ?_ ?_
   rotate_left 1
   ·intro W hSw
    obtain ⟨z0, z1, z2, z3, z4, z5, z6, z7, z8⟩ := op9 hSw.box; obtain ⟨d0, d1, d2, d3, d4, d5, d6, d7, d8, d9, d10⟩ := hSw.rep.cells; have hlk := hSw.rep.lookPl HC.out; rw [HOp.out] at hlk
    clear hSw
    go_simp
    try with_reducible rfl
   try dsimp only [zS, zB, zC]
  refine Pl.stop ?_
  refine wpAnyH_done (by kernel_rfl) ?_ _
  refine NoPanic.normal ?_
  clear hHeld
  obtain ⟨z0, z1, z2, z3, z4, z5, z6, z7, z8⟩ := op9 HX1.out.box
  go_wp2_with fail
  refine (keyed_any B Bv g gm gp us s its P o (.slice A o.val.length c) _ HX1.out.rep HX1.out.val HK.out).mono ?_
  rintro e w2 ⟨rfl, hb2⟩
  have HB2 := zH (HX1.out.bel.trans (hb2.mono HX1.out.bel.size))
  clear hb2
  rw [HKr.out]
  go_wp2_with fail
  go_ret2
  exact ⟨rfl, HB2.out⟩
 ·have q1 : (o.kind == 1) = false := by simp [k]
  have q2 : (o.kind == 2) = true := by simp [k]
  clear k
  go_enter Try.func26, Try.ntmps26
  go_upto_region 1 with fail
  generalize World.alloc _ _ = W0 at HX ⊢
  refine wp_region_noPanic ?_
  refine wp_region_held_drew (S := fun W => JRX w W B Bv g gm gp us s its P o A c) (by kernel_rfl) (HX.out.adv (zL _ _).drew) (fun hHeld => ?_)
  generalize W0.drew = W1 at hHeld ⊢
  have HX1 := zH hHeld
  refine Pl.go [0, 1, 2, 3, 4, 5, 6, 7, 8, 9, 10, 11] ?_
  iterate 12
   refine tkl (v := ?_) ?_ ?_
   rotate_left 1
   ·intro W hSw
    obtain ⟨z0, z1, z2, z3, z4, z5, z6, z7, z8⟩ := op9 hSw.box; obtain ⟨d0, d1, d2, d3, d4, d5, d6, d7, d8, d9, d10⟩ := hSw.rep.cells; have hlk := hSw.rep.lookPl HC.out; rw [HOp.out] at hlk
    clear hSw
    go_simp
    try with_reducible rfl
   try dsimp only [zS, zB, zC]
  refine Pl.stop ?_
  refine wpAnyH_done (by kernel_rfl) ?_ _
  refine NoPanic.normal ?_
  clear hHeld
  obtain ⟨z0, z1, z2, z3, z4, z5, z6, z7, z8⟩ := op9 HX1.out.box
  go_wp2_with fail
  refine (keyed_any B Bv g gm gp us s its P o (.slice A o.val.length c) _ HX1.out.rep HX1.out.val HK.out).mono ?_
  rintro e w2 ⟨rfl, hb2⟩
  have HB2 := zH (HX1.out.bel.trans (hb2.mono HX1.out.bel.size))
  clear hb2
  rw [HKr.out]
  go_wp2_with fail
  go_ret2
  exact ⟨rfl, HB2.out⟩
 ·have q1 : (o.kind == 1) = false := by simp [k]
  have q2 : (o.kind == 2) = false := by simp [k]
  have q3 : (o.kind == 3) = true := by simp [k]
  clear k
  go_enter Try.func26, Try.ntmps26
  go_upto_region 1 with fail
  generalize World.alloc _ _ = W0 at HX ⊢
  refine wp_region_noPanic ?_
  refine wp_region_held_drew (S := fun W => JRX w W B Bv g gm gp us s its P o A c) (by kernel_rfl) (HX.out.adv (zL _ _).drew) (fun hHeld => ?_)
  generalize W0.drew = W1 at hHeld ⊢
  have HX1 := zH hHeld
  refine Pl.go [0, 1, 2, 3, 4, 5, 6, 7, 8, 9, 10, 11] ?_
  iterate 12
   refine tkl (v := ?_) ?_ ?_
   rotate_left 1
   ·intro W hSw
    obtain ⟨z0, z1, z2, z3, z4, z5, z6, z7, z8⟩ := op9 hSw.box; obtain ⟨d0, d1, d2, d3, d4, d5, d6, d7, d8, d9, d10⟩ := hSw.rep.cells; have hlk := hSw.rep.lookPl HC.out; rw [HOp.out] at hlk
    clear hSw
    go_simp
    try with_reducible rfl
   try dsimp only [zS, zB, zC]
  refine Pl.stop ?_
  refine wpAnyH_done (by kernel_rfl) ?_ _
  refine NoPanic.normal ?_
  clear hHeld
  obtain ⟨z0, z1, z2, z3, z4, z5, z6, z7, z8⟩ := op9 HX1.out.box
  go_wp2_with fail
  refine (keyed_any B Bv g gm gp us s its P o (.slice A o.val.length c) _ HX1.out.rep HX1.out.val HK.out).mono ?_
  rintro e w2 ⟨rfl, hb2⟩
  have HB2 := zH (HX1.out.bel.trans (hb2.mono HX1.out.bel.size))
  clear hb2
  rw [HKr.out]
  go_wp2_with fail
  go_ret2
  exact ⟨rfl, HB2.out⟩
 ·have q1 : (o.kind == 1) = false := by simp [k]
  have q2 : (o.kind == 2) = false := by simp [k]
  have q3 : (o.kind == 3) = false := by simp [k]
  have q4 : (o.kind == 4) = true := by simp [k]
  clear k
  go_enter Try.func26, Try.ntmps26
  go_upto_region 1 with fail
  generalize World.alloc _ _ = W0 at HX ⊢
  refine wp_region_noPanic ?_
  refine wp_region_held_drew (S := fun W => JRX w W B Bv g gm gp us s its P o A c) (by kernel_rfl) (HX.out.adv (zL _ _).drew) (fun hHeld => ?_)
  generalize W0.drew = W1 at hHeld ⊢
  have HX1 := zH hHeld
  refine Pl.go [0, 1, 2, 3, 4, 5, 6, 7, 8, 9, 10, 11] ?_
  iterate 12
   refine tkl (v := ?_) ?_ ?_
   rotate_left 1
   ·intro W hSw
    obtain ⟨z0, z1, z2, z3, z4, z5, z6, z7, z8⟩ := op9 hSw.box; obtain ⟨d0, d1, d2, d3, d4, d5, d6, d7, d8, d9, d10⟩ := hSw.rep.cells; have hlk := hSw.rep.lookPl HC.out; rw [HOp.out] at hlk
    clear hSw
    go_simp
    try with_reducible rfl
   try dsimp only [zS, zB, zC]
  refine Pl.stop ?_
  refine wpAnyH_done (by kernel_rfl) ?_ _
  refine NoPanic.normal ?_
  clear hHeld
  obtain ⟨z0, z1, z2, z3, z4, z5, z6, z7, z8⟩ := op9 HX1.out.box
  go_wp2_with fail
  refine (keyed_any B Bv g gm gp us s its P o (.slice A o.val.length c) _ HX1.out.rep HX1.out.val HK.out).mono ?_
  rintro e w2 ⟨rfl, hb2⟩
  have HB2 := zH (HX1.out.bel.trans (hb2.mono HX1.out.bel.size))
  clear hb2
  rw [HKr.out]
  go_wp2_with fail
  go_ret2
  exact ⟨rfl, HB2.out⟩
 ·have q1 : (o.kind == 1) = false := by simp [k]
  have q2 : (o.kind == 2) = false := by simp [k]
  have q3 : (o.kind == 3) = false := by simp [k]
  have q4 : (o.kind == 4) = false := by simp [k]
  have q5 : (o.kind == 5) = true := by simp [k]
  clear k
  go_enter Try.func26, Try.ntmps26
  go_upto_region 1 with fail
  generalize World.alloc _ _ = W0 at HX ⊢
  refine wp_region_noPanic ?_
  refine wp_region_held_drew (S := fun W => JRX w W B Bv g gm gp us s its P o A c) (by kernel_rfl) (HX.out.adv (zL _ _).drew) (fun hHeld => ?_)
  generalize W0.drew = W1 at hHeld ⊢
  have HX1 := zH hHeld
  refine Pl.go [0, 1, 2, 3, 4, 5, 6, 7, 8, 9, 10, 11] ?_
  iterate 12
   refine tkl (v := ?_) ?_ ?_
   rotate_left 1
   ·intro W hSw
    obtain ⟨z0, z1, z2, z3, z4, z5, z6, z7, z8⟩ := op9 hSw.box; obtain ⟨d0, d1, d2, d3, d4, d5, d6, d7, d8, d9, d10⟩ := hSw.rep.cells; have hlk := hSw.rep.lookPl HC.out; rw [HOp.out] at hlk
    clear hSw
    go_simp
    try with_reducible rfl
   try dsimp only [zS, zB, zC]
  refine Pl.stop ?_
  refine wpAnyH_done (by kernel_rfl) ?_ _
  refine NoPanic.normal ?_
  clear hHeld
  obtain ⟨z0, z1, z2, z3, z4, z5, z6, z7, z8⟩ := op9 HX1.out.box
  go_wp2_with fail
  refine (keyed_any B Bv g gm gp us s its P o (.slice A o.val.length c) _ HX1.out.rep HX1.out.val HK.out).mono ?_
  rintro e w2 ⟨rfl, hb2⟩
  have HB2 := zH (HX1.out.bel.trans (hb2.mono HX1.out.bel.size))
  clear hb2
  rw [HKr.out]
  go_wp2_with fail
  go_ret2
  exact ⟨rfl, HB2.out⟩
 ·have q1 : (o.kind == 1) = false := by simp [k]
  have q2 : (o.kind == 2) = false := by simp [k]
  have q3 : (o.kind == 3) = false := by simp [k]
  have q4 : (o.kind == 4) = false := by simp [k]
  have q5 : (o.kind == 5) = false := by simp [k]
  have q6 : (o.kind == 6) = true := by simp [k]
  clear k
  go_enter Try.func26, Try.ntmps26
  go_upto_region 1 with fail
  generalize World.alloc _ _ = W0 at HX ⊢
  refine wp_region_noPanic ?_
  refine wp_region_held_drew (S := fun W => JRX w W B Bv g gm gp us s its P o A c) (by kernel_rfl) (HX.out.adv (zL _ _).drew) (fun hHeld => ?_)
  generalize W0.drew = W1 at hHeld ⊢
  have HX1 := zH hHeld
  refine Pl.go [0, 1, 2, 3, 4, 5, 6, 7, 8, 9, 10, 11] ?_
  iterate 12
   refine tkl (v := ?_) ?_ ?_
   rotate_left 1
   ·intro W hSw
    obtain ⟨z0, z1, z2, z3, z4, z5, z6, z7, z8⟩ := op9 hSw.box; obtain ⟨d0, d1, d2, d3, d4, d5, d6, d7, d8, d9, d10⟩ := hSw.rep.cells; have hlk := hSw.rep.lookPl HC.out; rw [HOp.out] at hlk
    clear hSw
    go_simp
    try with_reducible rfl
   try dsimp only [zS, zB, zC]
  refine Pl.stop ?_
  refine wpAnyH_done (by kernel_rfl) ?_ _
  refine NoPanic.normal ?_
  clear hHeld
  obtain ⟨z0, z1, z2, z3, z4, z5, z6, z7, z8⟩ := op9 HX1.out.box
  go_wp2_with fail
  refine (keyed_any B Bv g gm gp us s its P o (.slice A o.val.length c) _ HX1.out.rep HX1.out.val HK.out).mono ?_
  rintro e w2 ⟨rfl, hb2⟩
  have HB2 := zH (HX1.out.bel.trans (hb2.mono HX1.out.bel.size))
  clear hb2
  rw [HKr.out]
  go_wp2_with fail
  go_ret2
  exact ⟨rfl, HB2.out⟩
end Go.Proofs.Ytnabbimompapfaa
