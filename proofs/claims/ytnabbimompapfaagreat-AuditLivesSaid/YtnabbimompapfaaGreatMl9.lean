/- MapG, AudJB, AudJC, AudJD, AudJE, AudJF, AudJG, AudJH, AudJI, AudJJ, AudJK, MapH, AudJL -/
import Derived.Test.YtnabbimompapfaaGreatMl1
import Derived.Maps.RangeWalk
import Derived.DeepKeys4
import Derived.Carry
import Derived.StringKeys
import Derived.Test.YtnabbimompapfaaGreatMl8
import Derived.Test.YtnabbimompapfaaGreatMl2
import Derived.Shelf.SlSortCmp.NoneTotal
import Derived.Sort.MapsRangeIn
import Derived.OwnWalkIn
import Derived.RangeFuncSeq
import Derived.RangeFuncBox
import Derived.RangeFuncLeaves
import Derived.Shelf.Abstract
import Derived.WalkKit
import Derived.TacticsInMore
import Derived.LoopNIn
import Derived.LoopIn
import Derived.Maps.AppendAt
namespace Go.Proofs.YtnabbimompapfaaGreat
open Go Go.RowKit Go.MapKept Go.Maps
open Go.ChangeMaps (setBlock heap_setBlock_same heap_setBlock_other modify_eq_set)
structure MapK (P : Program) (mt kt et : TypeId) (α β : Type) (kV : α → Value) (vV : β → Value) (zero : Value) where
 und : P.underlying mt = some (.map kt et)
 keyed : Keyed P kt
 inj : ∀ a b, kV a = kV b → a = b
 wf : α → Prop
 key : ∀ a, wf a → ∃ l, keyOf P kt (kV a) = some l
 zero : ∀ w, (zeroValue et).run P w = .ok zero w
 same : ∀ a, Instr.sameBits 10000 (kV a) (kV a) = true
section
variable {α β : Type} [DecidableEq α]
def mget (L : List (α × β)) (k : α) : Option β := (L.find? fun x => decide (x.1 = k)).map Prod.snd
def mdel (L : List (α × β)) (k : α) : List (α × β) := L.filter fun x => decide (x.1 ≠ k)
theorem mget_some {L : List (α × β)} {k : α} {bs : β} (h : mget L k = some bs) : (k, bs) ∈ L := by
 unfold mget at h
 cases hf : L.find? fun x => decide (x.1 = k) with
 |none => rw [hf] at h; cases h
 |some x =>
  rw [hf] at h
  simp at h
  have h1 := List.mem_of_find?_eq_some hf
  have h2 := List.find?_some hf
  simp at h2
  rw [← h, ← h2]
  exact h1
theorem mget_none {L : List (α × β)} {k : α} (h : mget L k = none) : ∀ x ∈ L, x.1 ≠ k := fun x hx e => by
 unfold mget at h
 rw [Option.map_eq_none_iff, List.find?_eq_none] at h
 exact h x hx (by simp [e])
theorem mget_mem {L : List (α × β)} (hn : (L.map Prod.fst).Nodup) {k : α} {bs : β} (h : (k, bs) ∈ L) : mget L k = some bs := by
 cases hg : mget L k with
 |none => exact absurd rfl (mget_none hg _ h)
 |some cs =>
  have h2 := mget_some hg
  have : ∀ {L : List (α × β)}, (L.map Prod.fst).Nodup → (k, bs) ∈ L → (k, cs) ∈ L → cs = bs := by
   intro L
   induction L with
   |nil => intro _ h; cases h
   |cons x L ih =>
    intro hn h1 h2
    rw [List.map_cons, List.nodup_cons] at hn
    rcases List.mem_cons.1 h1 with h1 | h1 <;> rcases List.mem_cons.1 h2 with h2 | h2
    ·rw [← h1] at h2; injection h2
    ·exact absurd (List.mem_map.2 ⟨(k, cs), h2, by rw [← h1]⟩) hn.1
    ·exact absurd (List.mem_map.2 ⟨(k, bs), h1, by rw [← h2]⟩) hn.1
    ·exact ih hn.2 h1 h2
  rw [this hn h h2]
theorem mdel_other {L : List (α × β)} {k : α} (h : ∀ x ∈ L, x.1 ≠ k) : mdel L k = L := List.filter_eq_self.2 (fun x hx => by simpa using h x hx)
theorem mem_mdel {L : List (α × β)} {k : α} {x : α × β} : x ∈ mdel L k ↔ x ∈ L ∧ x.1 ≠ k := by simp [mdel]
end
structure MEnts {P : Program} {mt kt et : TypeId} {α β : Type} {kV : α → Value} {vV : β → Value} {zero : Value} (K : MapK P mt kt et α β kV vV zero) (es : Array MapEntry) (clock : Nat) (L : List (α × β)) : Prop where
 st : Stamped es clock
 is : es.toList.map (fun e => (e.key, e.val)) = L.map fun x => (kV x.1, vV x.2)
 wf : ∀ x ∈ L, K.wf x.1
def MRep {P : Program} {mt kt et : TypeId} {α β : Type} {kV : α → Value} {vV : β → Value} {zero : Value} (K : MapK P mt kt et α β kV vV zero) (w : World) (b : Nat) (L : List (α × β)) : Prop := ∃ es clock, w.heap[b]? = some (.map es clock) ∧ MEnts K es clock L
section
variable {P : Program} {mt kt et : TypeId} {α β : Type} {kV : α → Value} {vV : β → Value} {zero : Value} {K : MapK P mt kt et α β kV vV zero} {w w' : World} {b : Nat} {L : List (α × β)}
theorem MEnts.len {es : Array MapEntry} {clock : Nat} (h : MEnts K es clock L) : es.size = L.length := by
 have := congrArg List.length h.is
 simpa using this
theorem MEnts.at_ {es : Array MapEntry} {clock : Nat} (h : MEnts K es clock L) {i : Nat} {e : MapEntry} (he : es.toList[i]? = some e) : ∃ x, L[i]? = some x ∧ e.key = kV x.1 ∧ e.val = vV x.2 := by
 have := congrArg (fun l => l[i]?) h.is
 simp only [List.getElem?_map, he, Option.map_some] at this
 cases hx : L[i]? with
 |none => rw [hx] at this; cases this
 |some x =>
  rw [hx] at this
  simp only [Option.map_some, Option.some.injEq, Prod.mk.injEq] at this
  exact ⟨x, rfl, this.1, this.2⟩
theorem MEnts.mem {es : Array MapEntry} {clock : Nat} (h : MEnts K es clock L) {e : MapEntry} (he : e ∈ es.toList) : ∃ x ∈ L, e.key = kV x.1 ∧ e.val = vV x.2 := by
 obtain ⟨i, hi⟩ := List.getElem?_of_mem he
 obtain ⟨x, hx, h1, h2⟩ := h.at_ hi
 exact ⟨x, List.mem_of_getElem? hx, h1, h2⟩
theorem MEnts.keys {es : Array MapEntry} {clock : Nat} (h : MEnts K es clock L) : ∀ e ∈ es.toList, ∃ l, keyOf P kt e.key = some l := fun e he => by
 obtain ⟨x, hx, h1, _⟩ := h.mem he
 rw [h1]
 exact K.key _ (h.wf x hx)
theorem MEnts.nodup {es : Array MapEntry} {clock : Nat} (h : MEnts K es clock L) : (L.map Prod.fst).Nodup := by
 have h1 := h.st.2.2
 have h2 : es.toList.map (·.key) = L.map fun x => kV x.1 := by
  have := congrArg (List.map Prod.fst) h.is
  simpa [Function.comp_def] using this
 rw [h2] at h1
 unfold List.Nodup at h1 ⊢
 rw [List.pairwise_map] at h1 ⊢
 exact h1.imp (fun {a b} hne e => hne (by rw [e]))
theorem MRep.lt (h : MRep K w b L) : b < w.heap.size := by
 obtain ⟨es, clock, hb, _⟩ := h
 exact lt_of_heap hb
theorem MRep.nodup (h : MRep K w b L) : (L.map Prod.fst).Nodup := by
 obtain ⟨es, clock, _, h⟩ := h
 exact h.nodup
theorem MRep.block (h : MRep K w b L) (e : w'.heap[b]? = w.heap[b]?) : MRep K w' b L := by
 obtain ⟨es, clock, hb, h⟩ := h
 exact ⟨es, clock, e.trans hb, h⟩
theorem MRep.below (h : MRep K w b L) (hb : Below w.heap.size w w') : MRep K w' b L := h.block (hb.block b h.lt)
theorem MRep.alloc (h : MRep K w b L) (o : Obj) : MRep K (w.alloc o) b L := h.below ((zL _ _).alloc (zN _) o)
theorem MRep.made (w : World) : MRep K (w.alloc (.map #[] 0)) w.heap.size [] := ⟨#[], 0, heap_alloc_new w _, ⟨stamped_empty 0, rfl, fun x hx => by cases hx⟩⟩
theorem find_list [DecidableEq α] {es : Array MapEntry} {clock : Nat} (h : MEnts K es clock L) {k : α} (hk : K.wf k) (w : World) :
  ((Instr.findKey kt (kV k) es.toList).run P w = .ok none w ∧ mget L k = none) ∨
  ∃ j e bs, (Instr.findKey kt (kV k) es.toList).run P w = .ok (some (j, vV bs)) w ∧ es.toList[j]? = some e ∧ L[j]? = some (k, bs) ∧ mget L k = some bs := by
 obtain ⟨l, hl⟩ := K.key _ hk
 rcases K.keyed.find w hl es.toList h.keys with ⟨h1, h2⟩ | ⟨j, e, h1, h2, h3⟩
 ·refine .inl ⟨h1, ?_⟩
  cases hg : mget L k with
  |none => rfl
  |some bs =>
   obtain ⟨i, hi⟩ := List.getElem?_of_mem (mget_some hg)
   obtain ⟨hil, _⟩ := List.getElem?_eq_some_iff.1 hi
   obtain ⟨e, he⟩ : ∃ e, es.toList[i]? = some e := ⟨_, List.getElem?_eq_getElem (by rw [Array.length_toList, h.len]; exact hil)⟩
   obtain ⟨x, hx, hxk, _⟩ := h.at_ he
   rw [hi] at hx
   obtain rfl := Option.some.inj hx
   exact absurd hxk (h2 e (List.mem_of_getElem? he))
 ·obtain ⟨x, hx, hxk, hxv⟩ := h.at_ h2
  have hkx : x.1 = k := K.inj _ _ (hxk.symm.trans h3)
  refine .inr ⟨j, e, x.2, by rw [← hxv]; exact h1, h2, by rw [hx, ← hkx], ?_⟩
  exact mget_mem h.nodup (by rw [← hkx]; exact List.mem_of_getElem? hx)
theorem MRep.look [DecidableEq α] (h : MRep K w b L) {k : α} (hk : K.wf k) :
  (Instr.lookup mt (.map (some b)) (kV k) true).run P w = .ok (.tuple #[((mget L k).map vV).getD zero, .bool (mget L k).isSome]) w := by
 obtain ⟨es, clock, hb, h⟩ := h
 obtain ⟨l, hl⟩ := K.key _ hk
 rcases find_list h hk w with ⟨h1, h2⟩ | ⟨j, e, bs, h1, _, _, h2⟩
 ·rw [h2]
  simp [Instr.lookup, run_underlying K.und, MapKept.run_getObj_map hb, K.keyed.check w _ hl, h1, K.zero, Result.andThen]
 ·rw [h2]
  simp [Instr.lookup, run_underlying K.und, MapKept.run_getObj_map hb, K.keyed.check w _ hl, h1, Result.andThen]
theorem MRep.look1 [DecidableEq α] (h : MRep K w b L) {k : α} (hk : K.wf k) :
  (Instr.lookup mt (.map (some b)) (kV k) false).run P w = .ok (((mget L k).map vV).getD zero) w := by
 obtain ⟨es, clock, hb, h⟩ := h
 obtain ⟨l, hl⟩ := K.key _ hk
 rcases find_list h hk w with ⟨h1, h2⟩ | ⟨j, e, bs, h1, _, _, h2⟩
 ·rw [h2]
  simp [Instr.lookup, run_underlying K.und, MapKept.run_getObj_map hb, K.keyed.check w _ hl, h1, K.zero, Result.andThen]
 ·rw [h2]
  simp [Instr.lookup, run_underlying K.und, MapKept.run_getObj_map hb, K.keyed.check w _ hl, h1, Result.andThen]
def Turned (w w' : World) (b : Nat) : Prop := ∃ es clock es' clock', w.heap[b]? = some (.map es clock) ∧ w' = setBlock w b (.map es' clock')
theorem Turned.only (h : Turned w w' b) : Only (fun k => k = b) w w' := by
 obtain ⟨es, clock, es', clock', hb, rfl⟩ := h
 exact ⟨rfl, rfl, rfl, by simp [setBlock], fun k _ hn => heap_setBlock_other hb _ hn⟩
theorem Turned.was (h : Turned w w' b) : ∃ es clock, w.heap[b]? = some (.map es clock) := by
 obtain ⟨es, clock, _, _, hb, _⟩ := h
 exact ⟨es, clock, hb⟩
theorem MRep.put [DecidableEq α] (h : MRep K w b L) {k : α} (hk : K.wf k) (hn : mget L k = none) (bs : β) :
  ∃ w', (Instr.mapUpdate mt (.map (some b)) (kV k) (vV bs)).run P w = .ok () w' ∧ MRep K w' b (L ++ [(k, bs)]) ∧ Turned w w' b := by
 obtain ⟨es, clock, hb, h⟩ := h
 obtain ⟨l, hl⟩ := K.key _ hk
 rcases find_list h hk w with ⟨h1, h2⟩ | ⟨j, e, bs', h1, _, _, h2⟩
 ·have hnk : ∀ x ∈ es.toList, x.key ≠ kV k := fun x hx e => by
   obtain ⟨y, hy, hyk, _⟩ := h.mem hx
   exact mget_none h2 y hy (K.inj _ _ (hyk.symm.trans e))
  refine ⟨setBlock w b (.map (es.push ⟨kV k, vV bs, clock⟩) (clock + 1)), ?_, ⟨_, _, heap_setBlock_same hb _, ⟨stamped_push h.st hnk, ?_, fun x hx => ?_⟩⟩, ⟨es, clock, _, _, hb, rfl⟩⟩
  ·simp [Instr.mapUpdate, run_underlying K.und, MapKept.run_getObj_map hb, K.keyed.check w false hl, h1, MapKept.run_setObj_map _ hb, Result.andThen, setBlock]
  ·rw [Array.toList_push, List.map_append, h.is, List.map_append]; rfl
  ·rw [List.mem_append, List.mem_singleton] at hx
   rcases hx with hx | rfl
   ·exact h.wf x hx
   ·exact hk
 ·rw [hn] at h2; cases h2
theorem MRep.over [DecidableEq α] (h : MRep K w b L) {k : α} (hk : K.wf k) {v0 : β} (hn : mget L k = some v0) (v : β) :
  ∃ w', (Instr.mapUpdate mt (.map (some b)) (kV k) (vV v)).run P w = .ok () w' ∧ MRep K w' b (L.map fun x => if x.1 = k then (k, v) else x) ∧ Turned w w' b := by
 obtain ⟨es, clock, hb, h⟩ := h
 obtain ⟨l, hl⟩ := K.key _ hk
 rcases find_list h hk w with ⟨h1, h2⟩ | ⟨j, e, bs', h1, he, hj, h2⟩
 ·rw [hn] at h2; cases h2
 ·obtain ⟨x, hx, hxk, _⟩ := h.at_ he
  rw [hj] at hx
  obtain rfl := Option.some.inj hx
  have he2 : es[j]? = some e := by simpa using he
  have hst : (Instr.keyThatStays (kV k) (kV k)).run P w = .ok (kV k) w := by simp [Instr.keyThatStays, K.same]
  have hnd := h.nodup
  refine ⟨setBlock w b (.map (es.modify j fun e => { e with key := kV k, val := vV v }) clock), ?_, ⟨_, _, heap_setBlock_same hb _, ⟨stamped_modify h.st j _ (fun _ _ => rfl) (fun e' _ he' => by rw [he2] at he'; obtain rfl := Option.some.inj he'; exact hxk.symm), ?_, fun y hy => ?_⟩⟩, ⟨es, clock, _, _, hb, rfl⟩⟩
  ·simp [Instr.mapUpdate, run_underlying K.und, MapKept.run_getObj_map hb, K.keyed.check w false hl, h1, he2, hxk, hst, MapKept.run_setObj_map _ hb, Result.andThen, setBlock]
  ·apply List.ext_getElem?
   intro i
   simp only [List.getElem?_map, Array.getElem?_toList, Array.getElem?_modify]
   have hi := congrArg (fun l => l[i]?) h.is
   simp only [List.getElem?_map, Array.getElem?_toList] at hi
   by_cases hij : j = i
   ·subst hij
    rw [if_pos rfl, he2, hj]
    simp
   ·rw [if_neg hij, hi]
    cases hL : L[i]? with
    |none => rfl
    |some y =>
     have hne : y.1 ≠ k := fun e3 => by
      obtain ⟨hjl, hj2⟩ := List.getElem?_eq_some_iff.1 hj
      obtain ⟨hil, hi2⟩ := List.getElem?_eq_some_iff.1 hL
      have := (List.getElem?_inj (l := L.map Prod.fst) (i := j) (j := i) (by simpa using hjl) hnd).1 (by rw [List.getElem?_map, List.getElem?_map, hj, hL]; simp [e3])
      exact hij this
     simp [hne]
  ·obtain ⟨z, hz, rfl⟩ := List.mem_map.1 hy
   split
   ·exact hk
   ·exact h.wf z hz
theorem mdel_at [DecidableEq α] {L : List (α × β)} {i : Nat} {k : α} {bs : β} (hn : (L.map Prod.fst).Nodup) (h : L[i]? = some (k, bs)) : L.eraseIdx i = mdel L k := by
 induction L generalizing i with
 |nil => simp at h
 |cons x L ih =>
  rw [List.map_cons, List.nodup_cons] at hn
  cases i with
  |zero =>
   simp at h
   subst h
   have : mdel ((k, bs) :: L) k = mdel L k := by simp [mdel]
   rw [this, mdel_other (fun y hy e => hn.1 (List.mem_map.2 ⟨y, hy, e⟩))]
   rfl
  |succ i =>
   have h' : L[i]? = some (k, bs) := by simpa using h
   have hx : x.1 ≠ k := fun e => hn.1 (List.mem_map.2 ⟨(k, bs), List.mem_of_getElem? h', e.symm⟩)
   have : mdel (x :: L) k = x :: mdel L k := by simp [mdel, hx]
   rw [this, ← ih hn.2 h']
   rfl
theorem MRep.del [DecidableEq α] (h : MRep K w b L) {k : α} (hk : K.wf k) :
  ∃ w', (∀ ty, (Builtin.delete_ #[mt, kt] ty #[.map (some b), kV k]).run P w = .ok (.tuple #[]) w') ∧ MRep K w' b (mdel L k) ∧ Turned w w' b := by
 obtain ⟨es, clock, hb, h⟩ := h
 obtain ⟨l, hl⟩ := K.key _ hk
 rcases find_list h hk w with ⟨h1, h2⟩ | ⟨j, e, bs', h1, he, hj, h2⟩
 ·refine ⟨setBlock w b (.map es clock), ?_, ⟨es, clock, heap_setBlock_same hb _, ?_⟩, ⟨es, clock, es, clock, hb, rfl⟩⟩
  ·intro ty
   simp [Builtin.delete_, run_underlying K.und, MapKept.run_getObj_map hb, K.keyed.check w _ hl, h1, MapKept.run_setObj_map _ hb, Result.andThen, setBlock]
  ·rw [mdel_other (mget_none h2)]; exact h
 ·have hjl : j < es.toList.length := (List.getElem?_eq_some_iff.1 he).1
  have hjs : j < es.size := by simpa using hjl
  have hsub : (es.eraseIdxIfInBounds j).toList = es.toList.eraseIdx j := by
   unfold Array.eraseIdxIfInBounds
   rw [dif_pos hjs]
   simp
  refine ⟨setBlock w b (.map (es.eraseIdxIfInBounds j) clock), ?_, ⟨_, _, heap_setBlock_same hb _, ⟨stamped_erase h.st j, ?_, fun x hx => h.wf x (mem_mdel.1 hx).1⟩⟩, ⟨es, clock, _, _, hb, rfl⟩⟩
  ·intro ty
   simp [Builtin.delete_, run_underlying K.und, MapKept.run_getObj_map hb, K.keyed.check w _ hl, h1, MapKept.run_setObj_map _ hb, Result.andThen, setBlock]
  ·rw [hsub, Go.ChangeMaps.map_eraseIdx, h.is, ← Go.ChangeMaps.map_eraseIdx, mdel_at h.nodup hj]
theorem MRep.len (h : MRep K w b L) (ty : TypeId) : (Builtin.len_ #[mt] ty #[.map (some b)]).run P w = .ok (.int .i64 L.length) w := by
 obtain ⟨es, clock, hb, h⟩ := h
 rw [← h.len]
 simp [Builtin.len_, run_underlying K.und, MapKept.run_getObj_map hb, goInt, Result.andThen]
def MRange {P : Program} {mt kt et : TypeId} {α β : Type} {kV : α → Value} {vV : β → Value} {zero : Value} (K : MapK P mt kt et α β kV vV zero) (w : World) (b r : Nat) (L todo : List (α × β)) : Prop :=
 ∃ es clock since seen c0, w.heap[b]? = some (.map es clock) ∧ MEnts K es clock L ∧ w.heap[r]? = some (.mapIter (some b) since seen c0) ∧ (∀ x ∈ es.toList, x.born < since) ∧ since ≤ c0 ∧ since ≤ clock ∧
  (leftOf es seen).toList.map (fun e => (e.key, e.val)) = todo.map (fun x => (kV x.1, vV x.2))
theorem MRange.rep {r : Nat} {todo : List (α × β)} (h : MRange K w b r L todo) : MRep K w b L := by
 obtain ⟨es, clock, _, _, _, hb, h, _⟩ := h
 exact ⟨es, clock, hb, h⟩
theorem MRange.lt {r : Nat} {todo : List (α × β)} (h : MRange K w b r L todo) : b < w.heap.size ∧ r < w.heap.size := by
 obtain ⟨es, clock, _, _, _, hb, h, hr, _⟩ := h
 exact ⟨lt_of_heap hb, lt_of_heap hr⟩
theorem MRange.below {r : Nat} {todo : List (α × β)} (h : MRange K w b r L todo) (hb : Below w.heap.size w w') : MRange K w' b r L todo := by
 have h1 := h.lt
 obtain ⟨es, clock, since, seen, c0, h2, h3, h4, h5⟩ := h
 exact ⟨es, clock, since, seen, c0, (hb.block b h1.1).trans h2, h3, (hb.block r h1.2).trans h4, h5⟩
theorem MRange.alloc {r : Nat} {todo : List (α × β)} (h : MRange K w b r L todo) (o : Obj) : MRange K (w.alloc o) b r L todo := h.below ((zL _ _).alloc (zN _) o)
theorem MRange.left_eq {r : Nat} {todo : List (α × β)} (h : MRange K w b r L todo) : w.rangeLeft b r = todo.length := by
 obtain ⟨es, clock, since, seen, c0, hb, _, hr, _, _, _, ht⟩ := h
 simp only [World.rangeLeft, hb, hr]
 have := congrArg List.length ht
 simpa using this
theorem MRep.range (h : MRep K w b L) : ∃ c : Nat,
  (Instr.range mt (.map (some b))).run P w = .ok (.pointer (some ⟨w.heap.size, 0, none⟩)) (w.alloc (.mapIter (some b) c #[] c)) ∧ MRange K (w.alloc (.mapIter (some b) c #[] c)) b w.heap.size L L := by
 have hlt := h.lt
 obtain ⟨es, c, hb, hm⟩ := h
 refine ⟨c, run_range_map w _ _ _ b es c K.und hb, ⟨es, c, c, #[], c, (Below.heap_alloc w _ b hlt).trans hb, hm, heap_alloc_new w _, hm.st.1, zN _, zN _, ?_⟩⟩
 rw [← hm.is]
 have e : (leftOf es #[]) = es := Array.filter_eq_self.2 (fun x _ => by simp)
 rw [e]
end
theorem leftOf_push {es : Array MapEntry} (seen : Array Nat) (hn : (es.toList.map (·.born)).Nodup) {i : Nat} {e : MapEntry} (he : (leftOf es seen).toList[i]? = some e) : (leftOf es (seen.push e.born)).toList = (leftOf es seen).toList.eraseIdx i := by
 have h1 : (leftOf es (seen.push e.born)).toList = (leftOf es seen).toList.filter (fun x => decide (x.born ≠ e.born)) := by
  unfold leftOf
  rw [Array.toList_filter, Array.toList_filter, List.filter_filter]
  refine List.filter_congr fun x _ => ?_
  rw [contains_push]
  by_cases hx : x.born = e.born <;> simp [hx]
 rw [h1]
 have h2 : ((leftOf es seen).toList.map (·.born)).Nodup := by
  unfold leftOf
  rw [Array.toList_filter]
  exact hn.sublist (List.Sublist.map _ List.filter_sublist)
 generalize (leftOf es seen).toList = l at h2 he
 clear h1
 induction l generalizing i with
 |nil => simp at he
 |cons x l ih =>
  rw [List.map_cons, List.nodup_cons] at h2
  cases i with
  |zero =>
   simp at he
   subst he
   have : ∀ y ∈ l, y.born ≠ x.born := fun y hy e => h2.1 (List.mem_map.2 ⟨y, hy, e⟩)
   simp
   exact this
  |succ i =>
   have he' : l[i]? = some e := by simpa using he
   have hx : x.born ≠ e.born := fun e2 => h2.1 (List.mem_map.2 ⟨e, List.mem_of_getElem? he', e2.symm⟩)
   simp [hx]
   exact (by simpa using ih h2.2 he')
theorem all_born {es : Array MapEntry} {clock : Nat} (h : Stamped es clock) : (es.toList.map (·.born)).Nodup := h.2.1
theorem MRange.next {P : Program} {mt kt et : TypeId} {α β : Type} {kV : α → Value} {vV : β → Value} {zero : Value} {K : MapK P mt kt et α β kV vV zero} {w : World} {b r : Nat} {L todo : List (α × β)} (h : MRange K w b r L todo) :
  (todo = [] ∧ ∀ ty, (Instr.next (.pointer (some ⟨r, 0, none⟩)) false ty).run P w = .ok (.tuple #[.bool false]) w) ∨
  ∃ i x w', todo[i]? = some x ∧ (∀ ty, (Instr.next (.pointer (some ⟨r, 0, none⟩)) false ty).run P w = .ok (.tuple #[.bool true, kV x.1, vV x.2]) w') ∧ MRange K w' b r L (todo.eraseIdx i) ∧ Below r w w' ∧ Only (fun k => k = r) w w' ∧
   (∀ k o, w.heap[k]? = some o → k ≠ r → w'.heap[k]? = some o) ∧ w'.heap.size = w.heap.size ∧ (Instr.entry (.pointer (some ⟨r, 0, none⟩))).run P w' = .ok (.tuple #[kV x.1, vV x.2]) w' := by
 obtain ⟨es, clock, since, seen, c0, hb, hm, hr, hold, hsc, hsk, htodo⟩ := h
 have hne : r ≠ b := fun e => by rw [e, hb] at hr; cases hr
 rcases run_next_at (P := P) w 0 r b since c0 seen es clock hr hb hold hsc with ⟨h0, hrun⟩ | ⟨e, he, w1, hal, hrun⟩
 ·refine .inl ⟨?_, fun _ => hrun⟩
  have : (leftOf es seen).toList = [] := by
   rw [← List.length_eq_zero_iff, Array.length_toList]; exact h0
  rw [this] at htodo
  exact List.map_eq_nil_iff.1 htodo.symm
 ·obtain ⟨i, hi⟩ := List.getElem?_of_mem he
  obtain ⟨x, hx, hxk, hxv⟩ : ∃ x, todo[i]? = some x ∧ e.key = kV x.1 ∧ e.val = vV x.2 := by
   have := congrArg (fun l => l[i]?) htodo
   simp only [List.getElem?_map, hi, Option.map_some] at this
   cases hx : todo[i]? with
   |none => rw [hx] at this; cases this
   |some x =>
    rw [hx] at this
    simp only [Option.map_some, Option.some.injEq, Prod.mk.injEq] at this
    exact ⟨x, rfl, this.1, this.2⟩
  have hr1 : w1.heap[r]? = some (.mapIter (some b) since seen c0) := by rcases hal with rfl | rfl <;> exact hr
  have hb1 : w1.heap[b]? = some (.map es clock) := by rcases hal with rfl | rfl <;> exact hb
  have hset : (setBlock w1 r (.mapIter (some b) since (seen.push e.born) clock)).heap[r]? = some (.mapIter (some b) since (seen.push e.born) clock) ∧ ∀ k, k ≠ r → (setBlock w1 r (.mapIter (some b) since (seen.push e.born) clock)).heap[k]? = w1.heap[k]? := by
   refine ⟨?_, fun k hk => ?_⟩
   ·show (w1.heap.setIfInBounds r _)[r]? = _
    rw [Array.getElem?_setIfInBounds_self_of_lt (lt_of_heap hr1)]
   ·show (w1.heap.setIfInBounds r _)[k]? = _
    rw [Array.getElem?_setIfInBounds_ne (Ne.symm hk)]
  have hb' := (hset.2 b (Ne.symm hne)).trans hb1
  have hsz : (setBlock w1 r (.mapIter (some b) since (seen.push e.born) clock)).heap.size = w.heap.size := by rcases hal with rfl | rfl <;> simp [setBlock]
  have hoth : ∀ k, k ≠ r → (setBlock w1 r (.mapIter (some b) since (seen.push e.born) clock)).heap[k]? = w.heap[k]? := fun k hk => by
   rw [hset.2 k hk]
   rcases hal with rfl | rfl <;> rfl
  refine .inr ⟨i, x, _, hx, fun _ => by rw [← hxk, ← hxv]; exact hrun, ⟨es, clock, since, seen.push e.born, clock, hb', hm, hset.1, hold, hsk, hsk, ?_⟩, ⟨?_, ?_, ?_, by rw [hsz]; exact zN _, fun k hk => hoth k (by omega)⟩, ⟨?_, ?_, ?_, by rw [hsz]; exact zN _, fun k hk hn => hoth k hn⟩, fun k o ho hk => (hoth k hk).trans ho, hsz, ?_⟩
  ·rw [leftOf_push seen (all_born hm.st) hi, Go.ChangeMaps.map_eraseIdx, htodo, ← Go.ChangeMaps.map_eraseIdx]
  all_goals first
   |(rcases hal with rfl | rfl <;> rfl)
   |(rw [← hxk, ← hxv]; exact run_entry_at _ r b since seen es clock e hset.1 hb' (mem_left he).1 (all_born hm.st))
theorem bytes_self (k : ByteArray) : (k == k) = true := (MapKept.bytes_beq k k).2 rfl
def strPtr {P : Program} {mt kt et : TypeId} (h1 : P.underlying mt = some (.map kt et)) (h2 : P.underlying kt = some .string) (h3 : ∀ w, (zeroValue et).run P w = .ok (.pointer none) w) :
  MapK P mt kt et ByteArray Nat (fun k => .string k) (fun g => .pointer (some ⟨g, 0, none⟩)) (.pointer none) where
 und := h1
 keyed := string_keyed h2
 inj := fun a b e => by injection e
 wf := fun k => k.size ≤ maxLen
 key := fun k h => ⟨.string k.data.toList, by simp [keyOf, h2, mapKey, h]⟩
 zero := h3
 same := fun k => by simp [Instr.sameBits, bytes_self]
def intU64 {P : Program} {mt kt et : TypeId} (h1 : P.underlying mt = some (.map kt et)) (h2 : P.underlying kt = some (.int .i64)) (h3 : ∀ w, (zeroValue et).run P w = .ok (.int .u64 0) w) :
  MapK P mt kt et Int Int (fun k => .int .i64 k) (fun v => .int .u64 v) (.int .u64 0) where
 und := h1
 keyed := int_keyed h2
 inj := fun a b e => by injection e
 wf := fun k => (Lit.int .i64 k).wf = true
 key := fun k h => ⟨_, keyOf_int_mk h2 h⟩
 zero := h3
 same := fun k => by simp [Instr.sameBits]
end Go.Proofs.YtnabbimompapfaaGreat
namespace Go.Proofs.YtnabbimompapfaaGreat
open Go Go.RowKit Go.MapKept Go.Maps
structure It where
 e : EntV
 v : Value
 b : Nat
 u : Int
def KI : MapK Tryz.prog 89 9 65 ByteArray Nat (fun k => .string k) (fun g => .pointer (some ⟨g, 0, none⟩)) (.pointer none) :=
 strPtr Tryz.underlying89 Tryz.underlying9 (Tryz.zeroValue65)
def KP : MapK Tryz.prog 90 3 22 Int Int (fun k => .int .i64 k) (fun v => .int .u64 v) (.int .u64 0) :=
 intU64 Tryz.underlying90 Tryz.underlying3 (Tryz.zeroValue22)
def jc (s : PJ) (cs us : Int) (gm gp : Nat) : Array Value :=
 #[.int .i64 s.cfg.count, .int .i64 s.cfg.bytes, .int .i64 s.cfg.prot, .int .u64 s.cfg.seed, .bool s.cfg.same, .int .u64 s.now, .int .u64 s.births, .int .i64 us, .map (some gm), .int .i64 cs, .map (some gp)]
def OwnV (w : World) (B : Nat) (v : Value) : Prop := ∀ A n c, v = .slice (some A) n c → ∃ g cs, A = ⟨g, 0, none⟩ ∧ B ≤ g ∧ Blk w g 5 cs
theorem OwnV.of_own {w : World} {base B A : Nat} {X : Option Addr} {m c : Nat} {cs : _} (h : w.ownsRow base 5 1 (.slice X m c) A cs) (hB : B ≤ base) : OwnV w B (.slice X m c) := by
 intro Y n' c' e'
 injection e' with e1 e2 e3
 rcases h.2 with ⟨e, h0⟩ | ⟨g, cap', cur, e, hg, hh, _⟩
 ·injection e with e1' e2' e3'
  rw [e1'] at e1; cases e1
 ·injection e with e1' e2' e3'
  rw [e1'] at e1
  injection e1 with e1
  exact ⟨g, cur, e1.symm, Nat.le_trans hB hg, hh⟩
theorem OwnV.keep {w w' : World} {B B' : Nat} {v : Value} (h : OwnV w B v) (hk : KeepB B' 5 w w') : OwnV w' B v := fun A n c e => by
 obtain ⟨g, cs, h1, h2, h3⟩ := h A n c e
 exact ⟨g, cs, h1, h2, (hk.2 g h3.lt (.inr ⟨cs, _, h3⟩)).trans h3⟩
theorem OwnV.weak {w : World} {B B' : Nat} {v : Value} (h : OwnV w B v) (hB : B' ≤ B) : OwnV w B' v := fun A n c e => by
 obtain ⟨g, cs, h1, h2, h3⟩ := h A n c e
 exact ⟨g, cs, h1, Nat.le_trans hB h2, h3⟩
structure JRep (w : World) (B g gm gp : Nat) (us : Int) (s : PJ) (its : List It) (P : List (Int × Int)) : Prop where
 blk : Blk w g 92 (jc s (costP s.L) us gm gp)
 items : MRep KI w gm (its.map fun x => (x.e.key, x.b))
 ib : ∀ x ∈ its, ItAt w x.b x.e x.v x.u (costE x.e)
 vals : ∀ x ∈ its, Bts w B 5 x.v x.e.val
 nd : (its.map It.b).Nodup
 perm : (its.map It.e).Perm s.L
 ub : ∀ x ∈ its, x.u ≤ us
 ord : s.U.Pairwise fun a b => ∀ x ∈ its, ∀ y ∈ its, x.e.birth = a → y.e.birth = b → x.u < y.u
 places : MRep KP w gp P
 pl : ∀ c, mget P c = openP s.pl c
 base : B ≤ g ∧ B ≤ gm ∧ B ≤ gp ∧ ∀ x ∈ its, B ≤ x.b
 apart : gm ≠ gp ∧ ∀ x ∈ its, OwnV w B x.v
def KJ (B : Nat) (w : World) (k : Nat) : Prop := B ≤ k ∧ ((∃ cs t fr, w.heap[k]? = some (.cells cs t fr) ∧ (t = 92 ∨ t = 69)) ∨ ∃ es c, w.heap[k]? = some (.map es c))
theorem KJ.trans {B : Nat} {w W W2 : World} (h : Only (KJ B w) w W) (k : Only (KJ B W) W W2) : Only (KJ B w) w W2 := by
 refine h.trans k (fun i hi hs => ?_)
 by_cases hc : KJ B w i
 ·exact hc
 ·have e := h.block i hi hc
  obtain ⟨h1, h2⟩ := hs
  rw [e] at h2
  exact ⟨h1, h2⟩
theorem KJ.not_ {B : Nat} {w : World} {k t : Nat} {cs : Array Value} (h : Blk w k t cs) (h1 : t ≠ 92) (h2 : t ≠ 69) : ¬ KJ B w k := by
 unfold Blk at h
 rintro ⟨_, ⟨cs', t', fr, e, ht⟩ | ⟨es, c, e⟩⟩
 ·rw [h] at e
  injection e with e
  injection e with e1 e2 e3
  subst e2
  rcases ht with ht | ht
  ·exact h1 ht
  ·exact h2 ht
 ·rw [h] at e; cases e
theorem KJ.keepB {B Bv : Nat} {w W : World} (ho : Only (KJ B w) w W) (hBv : Bv ≤ B) : KeepB Bv 5 w W :=
 KeepB.of_only ho (fun k _ hk => ⟨Nat.le_trans hBv hk.1, fun c fr e => by
  obtain ⟨_, ⟨cs, t, fr2, e2, h3⟩ | ⟨es, c, e2⟩⟩ := hk
  ·rw [e] at e2
   injection e2 with e2
   injection e2 with _ e2 _
   subst e2
   rcases h3 with h3 | h3 <;> exact absurd h3 (by decide)
  ·rw [e] at e2; cases e2⟩)
theorem KJ.below {B : Nat} {w W : World} (h : Only (KJ B w) w W) (hB : B ≤ w.heap.size) : Below B w W := h.below (fun i hi _ hs => by have := hs.1; omega) hB
section
variable {w w' : World} {B g gm gp : Nat} {us : Int} {s : PJ} {its : List It} {P : List (Int × Int)}
theorem JRep.below (h : JRep w B g gm gp us s its P) (hb : Below w.heap.size w w') : JRep w' B g gm gp us s its P :=
 ⟨h.blk.below hb, h.items.below hb, fun x hx => ⟨(h.ib x hx).blk.below hb⟩, fun x hx => (h.vals x hx).below hb, h.nd, h.perm, h.ub, h.ord, h.places.below hb, h.pl, h.base, ⟨h.apart.1, fun x hx => (h.apart.2 x hx).keep (KeepB.of_below (B := B) hb)⟩⟩
theorem JRep.cells (h : JRep w B g gm gp us s its P) : w.cell? ⟨g, 0, none⟩ = some (.int .i64 s.cfg.count) ∧ w.cell? ⟨g, 1, none⟩ = some (.int .i64 s.cfg.bytes) ∧ w.cell? ⟨g, 2, none⟩ = some (.int .i64 s.cfg.prot) ∧ w.cell? ⟨g, 3, none⟩ = some (.int .u64 s.cfg.seed) ∧ w.cell? ⟨g, 4, none⟩ = some (.bool s.cfg.same) ∧ w.cell? ⟨g, 5, none⟩ = some (.int .u64 s.now) ∧ w.cell? ⟨g, 6, none⟩ = some (.int .u64 s.births) ∧ w.cell? ⟨g, 7, none⟩ = some (.int .i64 us) ∧ w.cell? ⟨g, 8, none⟩ = some (.map (some gm)) ∧ w.cell? ⟨g, 9, none⟩ = some (.int .i64 (costP s.L)) ∧ w.cell? ⟨g, 10, none⟩ = some (.map (some gp)) :=
 ⟨h.blk.cell 0 _ rfl, h.blk.cell 1 _ rfl, h.blk.cell 2 _ rfl, h.blk.cell 3 _ rfl, h.blk.cell 4 _ rfl, h.blk.cell 5 _ rfl, h.blk.cell 6 _ rfl, h.blk.cell 7 _ rfl, h.blk.cell 8 _ rfl, h.blk.cell 9 _ rfl, h.blk.cell 10 _ rfl⟩
theorem JRep.find (h : JRep w B g gm gp us s its P) (hk : (s.L.map EntV.key).Nodup) (k : ByteArray) :
  (findP s.L k = none ∧ mget (its.map fun x => (x.e.key, x.b)) k = none) ∨ ∃ x ∈ its, findP s.L k = some x.e ∧ x.e.key = k ∧ mget (its.map fun x => (x.e.key, x.b)) k = some x.b := by
 cases hf : findP s.L k with
 |none =>
  left
  refine ⟨rfl, ?_⟩
  cases hm : mget (its.map fun x => (x.e.key, x.b)) k with
  |none => rfl
  |some b =>
   obtain ⟨x, hx, e⟩ := List.mem_map.1 (mget_some hm)
   injection e with e1 e2
   exact absurd e1 (findP_none hf x.e (h.perm.mem_iff.1 (List.mem_map_of_mem hx)))
 |some e =>
  right
  obtain ⟨he, hek⟩ := findP_some hf
  obtain ⟨x, hx, hxe⟩ := List.mem_map.1 (h.perm.mem_iff.2 he)
  refine ⟨x, hx, by rw [hxe], by rw [hxe]; exact hek, ?_⟩
  exact mget_mem h.items.nodup (List.mem_map.2 ⟨x, hx, by rw [hxe, hek]⟩)
end
end Go.Proofs.YtnabbimompapfaaGreat
namespace Go.Proofs.YtnabbimompapfaaGreat
open Go Go.RowKit
theorem ev6 {W : World} {g : Nat} {x : EvV} {V : Value} (h : Blk W g 49 (evc x V)) : W.cell? ⟨g, 0, none⟩ = some (.int .i64 x.kind) ∧ W.cell? ⟨g, 1, none⟩ = some (.string x.key) ∧ W.cell? ⟨g, 2, none⟩ = some V ∧ W.cell? ⟨g, 3, none⟩ = some (.int .u64 x.birth) ∧ W.cell? ⟨g, 4, none⟩ = some (.int .u64 x.dl) ∧ W.cell? ⟨g, 5, none⟩ = some (.int .u64 x.at_) :=
 ⟨h.cell 0 _ rfl, h.cell 1 _ rfl, h.cell 2 _ rfl, h.cell 3 _ rfl, h.cell 4 _ rfl, h.cell 5 _ rfl⟩
set_option maxRecDepth 100000 in
set_option maxHeartbeats 4000000 in
theorem told_any (B Bv g gm gp : Nat) (us : Int) (s : PJ) (its : List It) (P : List (Int × Int)) (x : It) (v : EvV) (V : Value) (k : Int) (w : World) (h : JRep w B g gm gp us s its P) (hx : x ∈ its) (hv : Bts w Bv 5 V v.val) :
  Calls Tryz.prog 93 #[.pointer (some ⟨g, 0, none⟩), evv v V, .int .i64 k, .pointer (some ⟨x.b, 0, none⟩)] w fun e w' => e = .returned (.bool (decide (v = eventP k x.e s.now))) ∧ Below w.heap.size w w' := by
 obtain ⟨A, c, rfl⟩ := hv.form
 have HT : Hid (JRep (w.alloc (.cells (evc v (.slice A v.val.length c)) 49)) B g gm gp us s its P ∧ Blk (w.alloc (.cells (evc v (.slice A v.val.length c)) 49)) w.heap.size 49 (evc v (.slice A v.val.length c)) ∧ Below w.heap.size w (w.alloc (.cells (evc v (.slice A v.val.length c)) 49))) :=
  zH ⟨h.below ((zL _ _).alloc (zN _) _), Blk.new _ _ _, (zL _ _).alloc (zN _) _⟩
 have HV := zH hv
 obtain ⟨VA, vc, hVx⟩ := (h.vals x hx).form
 have HVx := zH hVx
 have HX := zH hx
 unfold evv
 unfold evc at HT ⊢
 clear h hx hv hVx
 go_enter Tryz.func93, Tryz.ntmps93
 go_upto_region 1 with fail
 generalize World.alloc _ _ = W0 at HT ⊢
 refine wp_region_noPanic ?_
 refine wp_region_held_drew (S := fun W => JRep W B g gm gp us s its P ∧ Blk W w.heap.size 49 (evc v (.slice A v.val.length c)) ∧ Below w.heap.size w W) (by kernel_rfl) ⟨HT.out.1.below (zL _ _).drew, HT.out.2.1.below (zL _ _).drew, HT.out.2.2.drew⟩ (fun hHeld => ?_)
 generalize W0.drew = W1 at hHeld ⊢
 have H1 := zH hHeld
 refine Pl.go [0, 1, 2, 3, 4, 5, 6, 7, 8, 9, 10, 11, 12, 13, 14, 15, 16, 17, 18, 19, 20, 21, 22, 23, 24, 25, 26] ?_
 iterate 27
  refine tkl (v := ?_) ?_ ?_
  rotate_left 1
  ·intro W hSw
   obtain ⟨b0, b1, b2, b3, b4, b5⟩ := ev6 hSw.2.1; obtain ⟨x0, x1, x2, x3, x4, x5⟩ := (hSw.1.ib x HX.out).cells; obtain ⟨-, -, -, -, -, c5, -, -, -, -, -⟩ := hSw.1.cells; rw [HVx.out] at x1
   clear hSw
   go_simp
   try with_reducible rfl
  try dsimp only [zS, zB, zC]
 refine Pl.stop ?_
 refine wpAnyH_ready (rs := [27]) (by kernel_rfl) (by simp) ?_
 refine AllReadyH.cons (o := ⟨_, _, _, _, _, _⟩) rfl (fun F hF => ?_) AllReadyH.nil
 go_simp
 have hvx := H1.out.1.vals x HX.out
 rw [HVx.out] at hvx
 refine (eventEqual_any Bv B v (eventP k x.e s.now) _ _ W1 (HV.out.keep (KeepB.of_below H1.out.2.2)) hvx).mono ?_
 rintro e w2 ⟨rfl, hb2⟩
 have H2 : Hid (JRep w2 B g gm gp us s its P ∧ Blk w2 w.heap.size 49 (evc v (.slice A v.val.length c)) ∧ Below w.heap.size w w2) := zH ⟨H1.out.1.below hb2, H1.out.2.1.below hb2, H1.out.2.2.trans (hb2.mono H1.out.2.2.size)⟩
 clear hb2 hHeld hvx
 go_wp2_with fail
 refine hF.out _ _ H2.out (fun hHeld => ?_)
 clear hF F
 try simp only [Act.put, zA, zB, zC]
 refine tk 28 (v := ?_) ?_ ?_
 rotate_left 1
 ·intro W hSw
  skip
  clear hSw
  go_simp
  try with_reducible rfl
 try dsimp only [zS, zB, zC]
 refine wpAnyH_done (by kernel_rfl) ?_ _
 refine NoPanic.normal ?_
 go_wp2_with fail
 go_ret
 exact ⟨rfl, H2.out.2.2⟩
theorem JRep.lenI {w : World} {B g gm gp : Nat} {us : Int} {s : PJ} {its : List It} {P : List (Int × Int)} (h : JRep w B g gm gp us s its P) : its.length = s.L.length := by
 have := h.perm.length_eq
 rwa [List.length_map] at this
set_option maxRecDepth 100000 in
set_option maxHeartbeats 4000000 in
theorem within_any (B g gm gp : Nat) (us : Int) (s : PJ) (its : List It) (P : List (Int × Int)) (w : World) (h : JRep w B g gm gp us s its P) :
  Calls Tryz.prog 47 #[.pointer (some ⟨g, 0, none⟩)] w fun e w' => e = .returned (.bool (decide (withinP s))) ∧ Below w.heap.size w w' := by
 have HT := zH h
 have hl : (s.L.length : Int) = its.length := by rw [h.lenI]
 have hW : withinP s ↔ ((its.length : Int) ≤ s.cfg.count ∧ costP s.L ≤ s.cfg.bytes) := by unfold withinP; rw [hl]
 clear h hl
 go_enter Tryz.func47, Tryz.ntmps47
 go_wp2_with fail
 by_cases d1 : (its.length : Int) ≤ s.cfg.count
 ·by_cases d2 : costP s.L ≤ s.cfg.bytes
  ·have HS := zH (show decide (withinP s) = true from decide_eq_true (hW.2 ⟨d1, d2⟩))
   clear hW
   refine wp_region_noPanic ?_
   refine wp_region_held_drew (S := fun W => JRep W B g gm gp us s its P) (by kernel_rfl) (HT.out.below (zL _ _).drew) (fun hHeld => ?_)
   have HB1 : Hid (Below w.heap.size w w.drew) := zH (zL _ _).drew
   generalize w.drew = W1 at hHeld HB1 ⊢
   refine Pl.go [0, 1, 2, 3, 4, 5, 6, 7, 8, 9, 10, 11] ?_
   iterate 12
    refine tkl (v := ?_) ?_ ?_
    rotate_left 1
    ·intro W hSw
     obtain ⟨d0, d1, d2, d3, d4, d5, d6, d7, d8, d9, d10⟩ := hSw.cells; have hln : ∀ ty, (Builtin.len_ #[89] ty #[.map (some gm)]).run Tryz.prog W = .ok (.int .i64 its.length) W := fun ty => by have := hSw.items.len (P := Tryz.prog) ty; rwa [List.length_map] at this
     clear hSw
     go_simp
     try with_reducible rfl
    try dsimp only [zS, zB, zC]
   refine Pl.stop ?_
   refine Pl.go [12, 13, 14, 15, 16, 17, 18, 19, 20, 21] ?_
   iterate 10
    refine tkl (v := ?_) ?_ ?_
    rotate_left 1
    ·intro W hSw
     obtain ⟨d0, d1, d2, d3, d4, d5, d6, d7, d8, d9, d10⟩ := hSw.cells; have hln : ∀ ty, (Builtin.len_ #[89] ty #[.map (some gm)]).run Tryz.prog W = .ok (.int .i64 its.length) W := fun ty => by have := hSw.items.len (P := Tryz.prog) ty; rwa [List.length_map] at this
     clear hSw
     go_simp
     try with_reducible rfl
    try dsimp only [zS, zB, zC]
   refine Pl.stop ?_
   refine tk 22 (v := ?_) ?_ ?_
   rotate_left 1
   ·intro W hSw
    skip
    clear hSw
    go_simp
    try with_reducible rfl
   try dsimp only [zS, zB, zC]
   refine tk 23 (v := ?_) ?_ ?_
   rotate_left 1
   ·intro W hSw
    skip
    clear hSw
    go_simp
    try with_reducible rfl
   try dsimp only [zS, zB, zC]
   refine wpAnyH_done (by kernel_rfl) ?_ _
   refine NoPanic.normal ?_
   go_wp2_with fail
   go_ret
   first | exact ⟨by rw [HS.out]; rfl, HB1.out⟩ | exact ⟨rfl, HB1.out⟩
  ·have HS := zH (show decide (withinP s) = false from decide_eq_false (fun h => d2 (hW.1 h).2))
   clear hW
   refine wp_region_noPanic ?_
   refine wp_region_held_drew (S := fun W => JRep W B g gm gp us s its P) (by kernel_rfl) (HT.out.below (zL _ _).drew) (fun hHeld => ?_)
   have HB1 : Hid (Below w.heap.size w w.drew) := zH (zL _ _).drew
   generalize w.drew = W1 at hHeld HB1 ⊢
   refine Pl.go [0, 1, 2, 3, 4, 5, 6, 7, 8, 9, 10, 11] ?_
   iterate 12
    refine tkl (v := ?_) ?_ ?_
    rotate_left 1
    ·intro W hSw
     obtain ⟨d0, d1, d2, d3, d4, d5, d6, d7, d8, d9, d10⟩ := hSw.cells; have hln : ∀ ty, (Builtin.len_ #[89] ty #[.map (some gm)]).run Tryz.prog W = .ok (.int .i64 its.length) W := fun ty => by have := hSw.items.len (P := Tryz.prog) ty; rwa [List.length_map] at this
     clear hSw
     go_simp
     try with_reducible rfl
    try dsimp only [zS, zB, zC]
   refine Pl.stop ?_
   refine Pl.go [12, 13, 14, 15, 16, 17, 18, 19, 20, 21] ?_
   iterate 10
    refine tkl (v := ?_) ?_ ?_
    rotate_left 1
    ·intro W hSw
     obtain ⟨d0, d1, d2, d3, d4, d5, d6, d7, d8, d9, d10⟩ := hSw.cells; have hln : ∀ ty, (Builtin.len_ #[89] ty #[.map (some gm)]).run Tryz.prog W = .ok (.int .i64 its.length) W := fun ty => by have := hSw.items.len (P := Tryz.prog) ty; rwa [List.length_map] at this
     clear hSw
     go_simp
     try with_reducible rfl
    try dsimp only [zS, zB, zC]
   refine Pl.stop ?_
   refine tk 22 (v := ?_) ?_ ?_
   rotate_left 1
   ·intro W hSw
    skip
    clear hSw
    go_simp
    try with_reducible rfl
   try dsimp only [zS, zB, zC]
   refine tk 23 (v := ?_) ?_ ?_
   rotate_left 1
   ·intro W hSw
    skip
    clear hSw
    go_simp
    try with_reducible rfl
   try dsimp only [zS, zB, zC]
   refine wpAnyH_done (by kernel_rfl) ?_ _
   refine NoPanic.normal ?_
   go_wp2_with fail
   go_ret
   first | exact ⟨by rw [HS.out]; rfl, HB1.out⟩ | exact ⟨rfl, HB1.out⟩
 ·have HS := zH (show decide (withinP s) = false from decide_eq_false (fun h => d1 (hW.1 h).1))
  clear hW
  refine wp_region_noPanic ?_
  refine wp_region_held_drew (S := fun W => JRep W B g gm gp us s its P) (by kernel_rfl) (HT.out.below (zL _ _).drew) (fun hHeld => ?_)
  have HB1 : Hid (Below w.heap.size w w.drew) := zH (zL _ _).drew
  generalize w.drew = W1 at hHeld HB1 ⊢
  refine Pl.go [0, 1, 2, 3, 4, 5, 6, 7, 8, 9, 10, 11] ?_
  iterate 12
   refine tkl (v := ?_) ?_ ?_
   rotate_left 1
   ·intro W hSw
    obtain ⟨d0, d1, d2, d3, d4, d5, d6, d7, d8, d9, d10⟩ := hSw.cells; have hln : ∀ ty, (Builtin.len_ #[89] ty #[.map (some gm)]).run Tryz.prog W = .ok (.int .i64 its.length) W := fun ty => by have := hSw.items.len (P := Tryz.prog) ty; rwa [List.length_map] at this
    clear hSw
    go_simp
    try with_reducible rfl
   try dsimp only [zS, zB, zC]
  refine Pl.stop ?_
  refine Pl.go [12, 13, 14, 15, 16, 17, 18, 19, 20, 21] ?_
  iterate 10
   refine skl ?_
   try dsimp only [zS, zB, zC]
  refine Pl.stop ?_
  refine tk 22 (v := ?_) ?_ ?_
  rotate_left 1
  ·intro W hSw
   skip
   clear hSw
   go_simp
   try with_reducible rfl
  try dsimp only [zS, zB, zC]
  refine tk 23 (v := ?_) ?_ ?_
  rotate_left 1
  ·intro W hSw
   skip
   clear hSw
   go_simp
   try with_reducible rfl
  try dsimp only [zS, zB, zC]
  refine wpAnyH_done (by kernel_rfl) ?_ _
  refine NoPanic.normal ?_
  go_wp2_with fail
  go_ret
  first | exact ⟨by rw [HS.out]; rfl, HB1.out⟩ | exact ⟨rfl, HB1.out⟩
end Go.Proofs.YtnabbimompapfaaGreat
namespace Go.Proofs.YtnabbimompapfaaGreat
open Go Go.RowKit
theorem int_wf {k : Int} (h : -9223372036854775808 ≤ k ∧ k ≤ 9223372036854775807) : (Lit.int .i64 k).wf = true := by
 have hm : IntKind.i64.min = -9223372036854775808 := by decide
 simp [Lit.wf, hm]
 omega
set_option maxHeartbeats 4000000 in
theorem free_any (B g gm gp : Nat) (us : Int) (s : PJ) (its : List It) (P : List (Int × Int)) (w : World) (h : JRep w B g gm gp us s its P) (hp : s.pl.length = 64) :
  Calls Tryz.prog 95 #[.pointer (some ⟨g, 0, none⟩)] w fun e w' => e = .returned (.int .i64 (freeP s.pl : Int)) ∧ w = w' := by
 obtain ⟨-, -, -, -, -, -, -, -, -, -, d10⟩ := h.cells
 have HLk : Hid (∀ m : Nat, m ≤ 64 → ∃ v, (Instr.lookup 90 (.map (some gp)) (.int .i64 (m : Int)) true).run Tryz.prog w = .ok (.tuple #[v, .bool (openAt s.pl m)]) w) := zH (fun m hm => by
  have := h.places.look (P := Tryz.prog) (k := (m : Int)) (int_wf (by omega))
  rw [h.pl (m : Int), openP_some s.pl (m : Int) (by omega), Int.toNat_natCast] at this
  exact ⟨_, this⟩)
 have HP := zH hp
 clear h hp
 go_enter Tryz.func95, Tryz.ntmps95
 go_wp2_with fail
 go_loopw [3] (fun i wr => ∃ m : Nat, m ≤ 64 ∧ i = .int .i64 m ∧ (∀ j, j < m → openAt s.pl j = true) ∧ wr = w) (fun i _ => 64 - (intOf i).toNat)
 case atStart => exact ⟨0, by omega, rfl, fun j hj => by omega, rfl⟩
 case round =>
  obtain ⟨m, hm, rfl, hj, hww⟩ := hrel
  obtain rfl : w = wr := hww.symm
  have HJ := zH hj
  clear hj
  obtain ⟨v, hlk⟩ := HLk.out m hm
  obtain ⟨q, hq⟩ : ∃ q, openAt s.pl m = q := ⟨_, rfl⟩
  rw [hq] at hlk
  have HQ := zH hq
  clear hq
  cases q with
  |false =>
   have HS : Hid ((freeP s.pl : Int) = m) := zH (by
    by_cases h64 : m < 64
    ·rw [freeP_at HP.out h64 HQ.out HJ.out]
    ·have : m = 64 := by omega
     subst this
     rw [freeP_full HP.out HJ.out])
   go_wp2_with fail
   go_ret
   exact ⟨by rw [HS.out]; rfl, rfl⟩
  |true =>
   have h64 : m < 64 := by
    rcases Nat.lt_or_ge m 64 with h | h
    ·exact h
    ·have := HQ.out
     unfold openAt at this
     rw [List.getElem?_eq_none (by rw [HP.out]; exact h)] at this
     cases this
   go_wp2_with fail
   go_roundw
   case rel => exact ⟨m + 1, by omega, by go_num, fun j hj => by
     rcases (by omega : j < m ∨ j = m) with h1 | h1
     ·exact HJ.out j h1
     ·rw [h1]; exact HQ.out, trivial⟩
   case measure => simp [intOf]; omega
end Go.Proofs.YtnabbimompapfaaGreat
namespace Go.Proofs.YtnabbimompapfaaGreat
open Go Go.RowKit
def keyedP (s : PJ) (o : OpV) : Int :=
 if keyOK o.key = false ∨ ((o.kind = 2 ∨ o.kind = 5) ∧ o.ttl = 0) then 2
 else if o.kind = 1 ∨ o.kind = 2 then if 65536 < o.val.length then 5 else if s.cfg.bytes < 48 + o.key.size + o.val.length then 12 else 0
 else 0
set_option maxHeartbeats 4000000 in
theorem keyed_any (B Bv g gm gp : Nat) (us : Int) (s : PJ) (its : List It) (P : List (Int × Int)) (o : OpV) (V : Value) (w : World) (h : JRep w B g gm gp us s its P) (hv : Bts w Bv 5 V o.val) (hk : o.key.size ≤ maxLen) :
  Calls Tryz.prog 65 #[.pointer (some ⟨g, 0, none⟩), opv o V] w fun e w' => e = .returned (.int .i64 (keyedP s o)) ∧ Below w.heap.size w w' := by
 obtain ⟨A, c, rfl⟩ := hv.form
 have hbox : Blk (w.alloc (.cells (opc o (.slice A o.val.length c)) 43)) w.heap.size 43 (opc o (.slice A o.val.length c)) := Blk.new _ _ _
 have hbl : Below w.heap.size w (w.alloc (.cells (opc o (.slice A o.val.length c)) 43)) := (zL _ _).alloc (zN _) _
 have HJ := zH (h.below hbl)
 have HV := zH (hv.below hbl)
 have HK := zH hk
 have HBx := zH hbox
 have HBl := zH hbl
 have HVk := zH (fun W => validKey_any o.key W hk)
 unfold opv
 unfold opc at HJ HV HBx HBl ⊢
 clear h hv hk hbox hbl
 obtain ⟨W0, hW0⟩ : ∃ W0, w.alloc (.cells #[.int .i64 o.kind, .int .u64 o.ticks, .string o.key, .slice A o.val.length c, .int .u64 o.ttl, .int .i64 o.count, .int .i64 o.bytes, .int .i64 o.cursor, .int .u64 o.birth] 43) = W0 := ⟨_, rfl⟩
 rw [hW0] at HJ HV HBx HBl
 have HW := zH hW0
 clear hW0
 go_enter Tryz.func65, Tryz.ntmps65
 go_upto_region 1 with fail
 rw [HW.out]
 clear HW
 obtain ⟨z0, z2, z3, z4, z7⟩ := op_cells' HBx.out
 have HC := zH (fun W (hv : Bts W Bv 5 (.slice A o.val.length c) o.val) => cost_any Bv o.key (.slice A o.val.length c) o.val W HK.out hv)
 cases hkey : keyOK o.key with
 |false =>
  have HS := zH (show keyedP s o = 2 by unfold keyedP; rw [if_pos (.inl hkey)])
  rw [(by unfold keyB; first | exact hkey | simp [hkey] : keyB o.key = false)] at HVk
  clear hkey HC
  by_cases k2 : o.kind = 2
  ·have q2 : (o.kind == 2) = true := by simp [k2]
   clear k2
   go_wp2_with fail
   refine (HVk.out _).mono ?_
   rintro e w1 ⟨rfl, hw⟩
   subst hw
   go_wp2_with fail
   go_ret
   first | exact ⟨by rw [HS.out]; rfl, HBl.out⟩ | exact ⟨rfl, HBl.out⟩
  ·have q2 : (o.kind == 2) = false := by simp [k2]
   clear k2
   obtain ⟨q, q5⟩ : ∃ q, (o.kind == 5) = q := ⟨_, rfl⟩
   go_wp2_with fail
   refine (HVk.out _).mono ?_
   rintro e w1 ⟨rfl, hw⟩
   subst hw
   go_wp2_with fail
   go_ret
   first | exact ⟨by rw [HS.out]; rfl, HBl.out⟩ | exact ⟨rfl, HBl.out⟩
 |true =>
  rw [(by unfold keyB; first | exact hkey | simp [hkey] : keyB o.key = true)] at HVk
  rw [hkey] at HC
  have HR0 := zH (show keyedP s o = if (o.kind = 2 ∨ o.kind = 5) ∧ o.ttl = 0 then 2 else if o.kind = 1 ∨ o.kind = 2 then if 65536 < o.val.length then 5 else if s.cfg.bytes < 48 + o.key.size + o.val.length then 12 else 0 else 0 by unfold keyedP; rw [hkey]; simp)
  clear hkey
  by_cases k2 : o.kind = 2
  ·have q2 : (o.kind == 2) = true := by simp [k2]
   have q2n : (o.kind != 2) = false := by simp [k2]
   have q1n : (o.kind != 1) = true := by simp [k2]
   by_cases ht : o.ttl = 0
   ·have HS := zH (show keyedP s o = 2 by rw [HR0.out, if_pos ⟨.inl k2, ht⟩])
    have qt : (o.ttl == 0) = true := by simp [ht]
    clear k2 ht HC HR0
    go_wp2_with fail
    refine (HVk.out _).mono ?_
    rintro e w1 ⟨rfl, hw⟩
    subst hw
    go_wp2_with fail
    go_ret
    first | exact ⟨by rw [HS.out]; rfl, HBl.out⟩ | exact ⟨rfl, HBl.out⟩
   ·have HR := zH (show keyedP s o = if 65536 < o.val.length then 5 else if s.cfg.bytes < 48 + o.key.size + o.val.length then 12 else 0 by rw [HR0.out, if_neg (fun h => ht h.2), if_pos (.inr k2)])
    have qt : (o.ttl == 0) = false := by simp [ht]
    clear k2 ht HR0
    go_wp2_with fail
    refine (HVk.out _).mono ?_
    rintro e w1 ⟨rfl, hw⟩
    subst hw
    go_wp2_with fail
    refine (HC.out _ HV.out).mono ?_
    rintro e w2 ⟨rfl, hb2⟩
    have HB2 := zH hb2
    obtain ⟨d0, d1, -⟩ := (HJ.out.below hb2).cells
    clear hb2
    by_cases hn : 65536 < o.val.length
    ·have HS := zH (show keyedP s o = 5 by rw [HR.out, if_pos hn])
     rw [if_pos hn]
     clear hn
     go_wp2_with fail
     go_ret
     exact ⟨by rw [HS.out]; rfl, HBl.out.trans (HB2.out.mono HBl.out.size)⟩
    ·rw [if_neg hn]
     by_cases hm : s.cfg.bytes < 48 + o.key.size + o.val.length
     ·have HS := zH (show keyedP s o = 12 by rw [HR.out, if_neg hn, if_pos hm])
      have hd : decide (s.cfg.bytes < (48 + o.key.size + o.val.length : Int)) = true := decide_eq_true hm
      clear hn hm
      go_wp2_with fail
      go_ret
      exact ⟨by rw [HS.out]; rfl, HBl.out.trans (HB2.out.mono HBl.out.size)⟩
     ·have HS := zH (show keyedP s o = 0 by rw [HR.out, if_neg hn, if_neg hm])
      have hd : decide (s.cfg.bytes < (48 + o.key.size + o.val.length : Int)) = false := decide_eq_false hm
      clear hn hm
      go_wp2_with fail
      go_ret
      exact ⟨by rw [HS.out]; rfl, HBl.out.trans (HB2.out.mono HBl.out.size)⟩
  ·have q2 : (o.kind == 2) = false := by simp [k2]
   have q2n : (o.kind != 2) = true := by simp [k2]
   by_cases k5 : o.kind = 5
   ·have q5 : (o.kind == 5) = true := by simp [k5]
    have q1n : (o.kind != 1) = true := by simp [k5]
    by_cases ht : o.ttl = 0
    ·have HS := zH (show keyedP s o = 2 by rw [HR0.out, if_pos ⟨.inr k5, ht⟩])
     have qt : (o.ttl == 0) = true := by simp [ht]
     clear k2 k5 ht HC HR0
     go_wp2_with fail
     refine (HVk.out _).mono ?_
     rintro e w1 ⟨rfl, hw⟩
     subst hw
     go_wp2_with fail
     go_ret
     first | exact ⟨by rw [HS.out]; rfl, HBl.out⟩ | exact ⟨rfl, HBl.out⟩
    ·have HS := zH (show keyedP s o = 0 by rw [HR0.out, if_neg (fun h => ht h.2), if_neg (by omega)])
     have qt : (o.ttl == 0) = false := by simp [ht]
     clear k2 k5 ht HC HR0
     go_wp2_with fail
     refine (HVk.out _).mono ?_
     rintro e w1 ⟨rfl, hw⟩
     subst hw
     go_wp2_with fail
     go_ret
     first | exact ⟨by rw [HS.out]; rfl, HBl.out⟩ | exact ⟨rfl, HBl.out⟩
   ·have q5 : (o.kind == 5) = false := by simp [k5]
    by_cases k1 : o.kind = 1
    ·have HR := zH (show keyedP s o = if 65536 < o.val.length then 5 else if s.cfg.bytes < 48 + o.key.size + o.val.length then 12 else 0 by rw [HR0.out, if_neg (fun h => by omega), if_pos (.inl k1)])
     have q1n : (o.kind != 1) = false := by simp [k1]
     clear k2 k5 k1 HR0
     go_wp2_with fail
     refine (HVk.out _).mono ?_
     rintro e w1 ⟨rfl, hw⟩
     subst hw
     go_wp2_with fail
     refine (HC.out _ HV.out).mono ?_
     rintro e w2 ⟨rfl, hb2⟩
     have HB2 := zH hb2
     obtain ⟨d0, d1, -⟩ := (HJ.out.below hb2).cells
     clear hb2
     by_cases hn : 65536 < o.val.length
     ·have HS := zH (show keyedP s o = 5 by rw [HR.out, if_pos hn])
      rw [if_pos hn]
      clear hn
      go_wp2_with fail
      go_ret
      exact ⟨by rw [HS.out]; rfl, HBl.out.trans (HB2.out.mono HBl.out.size)⟩
     ·rw [if_neg hn]
      by_cases hm : s.cfg.bytes < 48 + o.key.size + o.val.length
      ·have HS := zH (show keyedP s o = 12 by rw [HR.out, if_neg hn, if_pos hm])
       have hd : decide (s.cfg.bytes < (48 + o.key.size + o.val.length : Int)) = true := decide_eq_true hm
       clear hn hm
       go_wp2_with fail
       go_ret
       exact ⟨by rw [HS.out]; rfl, HBl.out.trans (HB2.out.mono HBl.out.size)⟩
      ·have HS := zH (show keyedP s o = 0 by rw [HR.out, if_neg hn, if_neg hm])
       have hd : decide (s.cfg.bytes < (48 + o.key.size + o.val.length : Int)) = false := decide_eq_false hm
       clear hn hm
       go_wp2_with fail
       go_ret
       exact ⟨by rw [HS.out]; rfl, HBl.out.trans (HB2.out.mono HBl.out.size)⟩
    ·have HS := zH (show keyedP s o = 0 by rw [HR0.out, if_neg (fun h => by omega), if_neg (by omega)])
     have q1n : (o.kind != 1) = true := by simp [k1]
     clear k2 k5 k1 HC HR0
     go_wp2_with fail
     refine (HVk.out _).mono ?_
     rintro e w1 ⟨rfl, hw⟩
     subst hw
     go_wp2_with fail
     go_ret
     first | exact ⟨by rw [HS.out]; rfl, HBl.out⟩ | exact ⟨rfl, HBl.out⟩
end Go.Proofs.YtnabbimompapfaaGreat
namespace Go.Proofs.YtnabbimompapfaaGreat
open Go Go.RowKit
structure JRX (w W : World) (B Bv g gm gp : Nat) (us : Int) (s : PJ) (its : List It) (P : List (Int × Int)) (o : OpV) (A : Option Addr) (c : Nat) : Prop where
 rep : JRep W B g gm gp us s its P
 box : Blk W w.heap.size 43 (opc o (.slice A o.val.length c))
 bel : Below w.heap.size w W
 val : Bts W Bv 5 (.slice A o.val.length c) o.val
theorem JRX.adv {w W W2 : World} {B Bv g gm gp : Nat} {us : Int} {s : PJ} {its : List It} {P : List (Int × Int)} {o : OpV} {A : Option Addr} {c : Nat} (h : JRX w W B Bv g gm gp us s its P o A c) (hb : Below W.heap.size W W2) : JRX w W2 B Bv g gm gp us s its P o A c :=
 ⟨h.rep.below hb, h.box.below hb, h.bel.trans (hb.mono h.bel.size), h.val.below hb⟩
theorem op9 {W : World} {g : Nat} {a : OpV} {V : Value} (h : Blk W g 43 (opc a V)) : W.cell? ⟨g, 0, none⟩ = some (.int .i64 a.kind) ∧ W.cell? ⟨g, 1, none⟩ = some (.int .u64 a.ticks) ∧ W.cell? ⟨g, 2, none⟩ = some (.string a.key) ∧ W.cell? ⟨g, 3, none⟩ = some V ∧ W.cell? ⟨g, 4, none⟩ = some (.int .u64 a.ttl) ∧ W.cell? ⟨g, 5, none⟩ = some (.int .i64 a.count) ∧ W.cell? ⟨g, 6, none⟩ = some (.int .i64 a.bytes) ∧ W.cell? ⟨g, 7, none⟩ = some (.int .i64 a.cursor) ∧ W.cell? ⟨g, 8, none⟩ = some (.int .u64 a.birth) :=
 ⟨h.cell 0 _ rfl, h.cell 1 _ rfl, h.cell 2 _ rfl, h.cell 3 _ rfl, h.cell 4 _ rfl, h.cell 5 _ rfl, h.cell 6 _ rfl, h.cell 7 _ rfl, h.cell 8 _ rfl⟩
theorem JRep.lookPl {w : World} {B g gm gp : Nat} {us : Int} {s : PJ} {its : List It} {P : List (Int × Int)} (h : JRep w B g gm gp us s its P) {c : Int} (hc : -9223372036854775808 ≤ c ∧ c ≤ 9223372036854775807) :
  (Instr.lookup 90 (.map (some gp)) (.int .i64 c) true).run Tryz.prog w = .ok (.tuple #[.int .u64 ((openP s.pl c).getD 0), .bool (openP s.pl c).isSome]) w := by
 have := h.places.look (P := Tryz.prog) (k := c) (int_wf hc)
 rw [h.pl c] at this
 rw [this]
 cases openP s.pl c <;> rfl
set_option maxRecDepth 100000 in
set_option maxHeartbeats 4000000 in
theorem right_keyed (B Bv g gm gp : Nat) (us : Int) (s : PJ) (its : List It) (P : List (Int × Int)) (o : OpV) (V : Value) (t : Int) (w : World) (h : JRep w B g gm gp us s its P) (hv : Bts w Bv 5 V o.val) (hk : o.key.size ≤ maxLen) (hc : -9223372036854775808 ≤ o.cursor ∧ o.cursor ≤ 9223372036854775807)
  (h6 : o.kind = 1 ∨ o.kind = 2 ∨ o.kind = 3 ∨ o.kind = 4 ∨ o.kind = 5 ∨ o.kind = 6) :
  Calls Tryz.prog 43 #[.pointer (some ⟨g, 0, none⟩), opv o V, .int .u64 t] w fun e w' => e = .returned (.tuple #[.int .i64 (rightP s o t), .bool (refusedP o (rightP s o t))]) ∧ Below w.heap.size w w' := by
 obtain ⟨A, c, rfl⟩ := hv.form
 have hbl : Below w.heap.size w (w.alloc (.cells (opc o (.slice A o.val.length c)) 43)) := (zL _ _).alloc (zN _) _
 have HX : Hid (JRX w (w.alloc (.cells (opc o (.slice A o.val.length c)) 43)) B Bv g gm gp us s its P o A c) := zH ⟨h.below hbl, Blk.new _ _ _, hbl, hv.below hbl⟩
 have HK := zH hk
 have HC := zH hc
 have HR := zH (show rightP s o t = keyedP s o by unfold rightP keyedP; rw [if_pos h6])
 have HF := zH (show ∀ r, refusedP o r = (r != 0) by
  intro r
  unfold refusedP
  by_cases hr : r = 0
  ·simp [hr]
  ·rw [decide_eq_true (⟨hr, .inl (by omega)⟩ : r ≠ 0 ∧ (o.kind ≤ 6 ∨ o.kind = 8 ∨ (o.kind = 12 ∧ r = 9)))]; simp [hr])
 have HF := zH (HF.out (rightP s o t))
 obtain ⟨q, hq⟩ : ∃ q, openP s.pl o.cursor = q := ⟨_, rfl⟩
 have HOp := zH hq
 clear h hv hk hc hq hbl
 simp only [HF.out]
 rw [HR.out]
 obtain ⟨r, hr⟩ : ∃ r, keyedP s o = r := ⟨_, rfl⟩
 rw [hr]
 have HKr := zH hr
 clear HF HR hr
 unfold opv
 unfold opc at HX ⊢
 rcases h6 with k | k | k | k | k | k
 ·have q1 : (o.kind == 1) = true := by simp [k]
  clear k
  go_enter Tryz.func43, Tryz.ntmps43
  go_upto_region 1 with fail
  generalize World.alloc _ _ = W0 at HX ⊢
  refine wp_region_noPanic ?_
  refine wp_region_held_drew (S := fun W => JRX w W B Bv g gm gp us s its P o A c) (by kernel_rfl) (HX.out.adv (zL _ _).drew) (fun hHeld => ?_)
  generalize W0.drew = W1 at hHeld ⊢
  have HX1 := zH hHeld
  refine Pl.go [0, 1, 2, 3, 4, 5, 6, 7, 8, 9, 10, 11] ?_
  iterate 12
   refine tkl (v := ?_) ?_ ?_
   rotate_left 1
   ·intro W hSw
    obtain ⟨z0, z1, z2, z3, z4, z5, z6, z7, z8⟩ := op9 hSw.box; obtain ⟨d0, d1, d2, d3, d4, d5, d6, d7, d8, d9, d10⟩ := hSw.rep.cells; have hlk := hSw.rep.lookPl HC.out; rw [HOp.out] at hlk
    clear hSw
    go_simp
    try with_reducible rfl
   try dsimp only [zS, zB, zC]
  refine Pl.stop ?_
  refine wpAnyH_done (by kernel_rfl) ?_ _
  refine NoPanic.normal ?_
  clear hHeld
  obtain ⟨z0, z1, z2, z3, z4, z5, z6, z7, z8⟩ := op9 HX1.out.box
  go_wp2_with fail
  refine (keyed_any B Bv g gm gp us s its P o (.slice A o.val.length c) _ HX1.out.rep HX1.out.val HK.out).mono ?_
  rintro e w2 ⟨rfl, hb2⟩
  have HB2 := zH (HX1.out.bel.trans (hb2.mono HX1.out.bel.size))
  clear hb2
  rw [HKr.out]
  go_wp2_with fail
  go_ret2
  exact ⟨rfl, HB2.out⟩
 ·have q1 : (o.kind == 1) = false := by simp [k]
  have q2 : (o.kind == 2) = true := by simp [k]
  clear k
  go_enter Tryz.func43, Tryz.ntmps43
  go_upto_region 1 with fail
  generalize World.alloc _ _ = W0 at HX ⊢
  refine wp_region_noPanic ?_
  refine wp_region_held_drew (S := fun W => JRX w W B Bv g gm gp us s its P o A c) (by kernel_rfl) (HX.out.adv (zL _ _).drew) (fun hHeld => ?_)
  generalize W0.drew = W1 at hHeld ⊢
  have HX1 := zH hHeld
  refine Pl.go [0, 1, 2, 3, 4, 5, 6, 7, 8, 9, 10, 11] ?_
  iterate 12
   refine tkl (v := ?_) ?_ ?_
   rotate_left 1
   ·intro W hSw
    obtain ⟨z0, z1, z2, z3, z4, z5, z6, z7, z8⟩ := op9 hSw.box; obtain ⟨d0, d1, d2, d3, d4, d5, d6, d7, d8, d9, d10⟩ := hSw.rep.cells; have hlk := hSw.rep.lookPl HC.out; rw [HOp.out] at hlk
    clear hSw
    go_simp
    try with_reducible rfl
   try dsimp only [zS, zB, zC]
  refine Pl.stop ?_
  refine wpAnyH_done (by kernel_rfl) ?_ _
  refine NoPanic.normal ?_
  clear hHeld
  obtain ⟨z0, z1, z2, z3, z4, z5, z6, z7, z8⟩ := op9 HX1.out.box
  go_wp2_with fail
  refine (keyed_any B Bv g gm gp us s its P o (.slice A o.val.length c) _ HX1.out.rep HX1.out.val HK.out).mono ?_
  rintro e w2 ⟨rfl, hb2⟩
  have HB2 := zH (HX1.out.bel.trans (hb2.mono HX1.out.bel.size))
  clear hb2
  rw [HKr.out]
  go_wp2_with fail
  go_ret2
  exact ⟨rfl, HB2.out⟩
 ·have q1 : (o.kind == 1) = false := by simp [k]
  have q2 : (o.kind == 2) = false := by simp [k]
  have q3 : (o.kind == 3) = true := by simp [k]
  clear k
  go_enter Tryz.func43, Tryz.ntmps43
  go_upto_region 1 with fail
  generalize World.alloc _ _ = W0 at HX ⊢
  refine wp_region_noPanic ?_
  refine wp_region_held_drew (S := fun W => JRX w W B Bv g gm gp us s its P o A c) (by kernel_rfl) (HX.out.adv (zL _ _).drew) (fun hHeld => ?_)
  generalize W0.drew = W1 at hHeld ⊢
  have HX1 := zH hHeld
  refine Pl.go [0, 1, 2, 3, 4, 5, 6, 7, 8, 9, 10, 11] ?_
  iterate 12
   refine tkl (v := ?_) ?_ ?_
   rotate_left 1
   ·intro W hSw
    obtain ⟨z0, z1, z2, z3, z4, z5, z6, z7, z8⟩ := op9 hSw.box; obtain ⟨d0, d1, d2, d3, d4, d5, d6, d7, d8, d9, d10⟩ := hSw.rep.cells; have hlk := hSw.rep.lookPl HC.out; rw [HOp.out] at hlk
    clear hSw
    go_simp
    try with_reducible rfl
   try dsimp only [zS, zB, zC]
  refine Pl.stop ?_
  refine wpAnyH_done (by kernel_rfl) ?_ _
  refine NoPanic.normal ?_
  clear hHeld
  obtain ⟨z0, z1, z2, z3, z4, z5, z6, z7, z8⟩ := op9 HX1.out.box
  go_wp2_with fail
  refine (keyed_any B Bv g gm gp us s its P o (.slice A o.val.length c) _ HX1.out.rep HX1.out.val HK.out).mono ?_
  rintro e w2 ⟨rfl, hb2⟩
  have HB2 := zH (HX1.out.bel.trans (hb2.mono HX1.out.bel.size))
  clear hb2
  rw [HKr.out]
  go_wp2_with fail
  go_ret2
  exact ⟨rfl, HB2.out⟩
 ·have q1 : (o.kind == 1) = false := by simp [k]
  have q2 : (o.kind == 2) = false := by simp [k]
  have q3 : (o.kind == 3) = false := by simp [k]
  have q4 : (o.kind == 4) = true := by simp [k]
  clear k
  go_enter Tryz.func43, Tryz.ntmps43
  go_upto_region 1 with fail
  generalize World.alloc _ _ = W0 at HX ⊢
  refine wp_region_noPanic ?_
  refine wp_region_held_drew (S := fun W => JRX w W B Bv g gm gp us s its P o A c) (by kernel_rfl) (HX.out.adv (zL _ _).drew) (fun hHeld => ?_)
  generalize W0.drew = W1 at hHeld ⊢
  have HX1 := zH hHeld
  refine Pl.go [0, 1, 2, 3, 4, 5, 6, 7, 8, 9, 10, 11] ?_
  iterate 12
   refine tkl (v := ?_) ?_ ?_
   rotate_left 1
   ·intro W hSw
    obtain ⟨z0, z1, z2, z3, z4, z5, z6, z7, z8⟩ := op9 hSw.box; obtain ⟨d0, d1, d2, d3, d4, d5, d6, d7, d8, d9, d10⟩ := hSw.rep.cells; have hlk := hSw.rep.lookPl HC.out; rw [HOp.out] at hlk
    clear hSw
    go_simp
    try with_reducible rfl
   try dsimp only [zS, zB, zC]
  refine Pl.stop ?_
  refine wpAnyH_done (by kernel_rfl) ?_ _
  refine NoPanic.normal ?_
  clear hHeld
  obtain ⟨z0, z1, z2, z3, z4, z5, z6, z7, z8⟩ := op9 HX1.out.box
  go_wp2_with fail
  refine (keyed_any B Bv g gm gp us s its P o (.slice A o.val.length c) _ HX1.out.rep HX1.out.val HK.out).mono ?_
  rintro e w2 ⟨rfl, hb2⟩
  have HB2 := zH (HX1.out.bel.trans (hb2.mono HX1.out.bel.size))
  clear hb2
  rw [HKr.out]
  go_wp2_with fail
  go_ret2
  exact ⟨rfl, HB2.out⟩
 ·have q1 : (o.kind == 1) = false := by simp [k]
  have q2 : (o.kind == 2) = false := by simp [k]
  have q3 : (o.kind == 3) = false := by simp [k]
  have q4 : (o.kind == 4) = false := by simp [k]
  have q5 : (o.kind == 5) = true := by simp [k]
  clear k
  go_enter Tryz.func43, Tryz.ntmps43
  go_upto_region 1 with fail
  generalize World.alloc _ _ = W0 at HX ⊢
  refine wp_region_noPanic ?_
  refine wp_region_held_drew (S := fun W => JRX w W B Bv g gm gp us s its P o A c) (by kernel_rfl) (HX.out.adv (zL _ _).drew) (fun hHeld => ?_)
  generalize W0.drew = W1 at hHeld ⊢
  have HX1 := zH hHeld
  refine Pl.go [0, 1, 2, 3, 4, 5, 6, 7, 8, 9, 10, 11] ?_
  iterate 12
   refine tkl (v := ?_) ?_ ?_
   rotate_left 1
   ·intro W hSw
    obtain ⟨z0, z1, z2, z3, z4, z5, z6, z7, z8⟩ := op9 hSw.box; obtain ⟨d0, d1, d2, d3, d4, d5, d6, d7, d8, d9, d10⟩ := hSw.rep.cells; have hlk := hSw.rep.lookPl HC.out; rw [HOp.out] at hlk
    clear hSw
    go_simp
    try with_reducible rfl
   try dsimp only [zS, zB, zC]
  refine Pl.stop ?_
  refine wpAnyH_done (by kernel_rfl) ?_ _
  refine NoPanic.normal ?_
  clear hHeld
  obtain ⟨z0, z1, z2, z3, z4, z5, z6, z7, z8⟩ := op9 HX1.out.box
  go_wp2_with fail
  refine (keyed_any B Bv g gm gp us s its P o (.slice A o.val.length c) _ HX1.out.rep HX1.out.val HK.out).mono ?_
  rintro e w2 ⟨rfl, hb2⟩
  have HB2 := zH (HX1.out.bel.trans (hb2.mono HX1.out.bel.size))
  clear hb2
  rw [HKr.out]
  go_wp2_with fail
  go_ret2
  exact ⟨rfl, HB2.out⟩
 ·have q1 : (o.kind == 1) = false := by simp [k]
  have q2 : (o.kind == 2) = false := by simp [k]
  have q3 : (o.kind == 3) = false := by simp [k]
  have q4 : (o.kind == 4) = false := by simp [k]
  have q5 : (o.kind == 5) = false := by simp [k]
  have q6 : (o.kind == 6) = true := by simp [k]
  clear k
  go_enter Tryz.func43, Tryz.ntmps43
  go_upto_region 1 with fail
  generalize World.alloc _ _ = W0 at HX ⊢
  refine wp_region_noPanic ?_
  refine wp_region_held_drew (S := fun W => JRX w W B Bv g gm gp us s its P o A c) (by kernel_rfl) (HX.out.adv (zL _ _).drew) (fun hHeld => ?_)
  generalize W0.drew = W1 at hHeld ⊢
  have HX1 := zH hHeld
  refine Pl.go [0, 1, 2, 3, 4, 5, 6, 7, 8, 9, 10, 11] ?_
  iterate 12
   refine tkl (v := ?_) ?_ ?_
   rotate_left 1
   ·intro W hSw
    obtain ⟨z0, z1, z2, z3, z4, z5, z6, z7, z8⟩ := op9 hSw.box; obtain ⟨d0, d1, d2, d3, d4, d5, d6, d7, d8, d9, d10⟩ := hSw.rep.cells; have hlk := hSw.rep.lookPl HC.out; rw [HOp.out] at hlk
    clear hSw
    go_simp
    try with_reducible rfl
   try dsimp only [zS, zB, zC]
  refine Pl.stop ?_
  refine wpAnyH_done (by kernel_rfl) ?_ _
  refine NoPanic.normal ?_
  clear hHeld
  obtain ⟨z0, z1, z2, z3, z4, z5, z6, z7, z8⟩ := op9 HX1.out.box
  go_wp2_with fail
  refine (keyed_any B Bv g gm gp us s its P o (.slice A o.val.length c) _ HX1.out.rep HX1.out.val HK.out).mono ?_
  rintro e w2 ⟨rfl, hb2⟩
  have HB2 := zH (HX1.out.bel.trans (hb2.mono HX1.out.bel.size))
  clear hb2
  rw [HKr.out]
  go_wp2_with fail
  go_ret2
  exact ⟨rfl, HB2.out⟩
end Go.Proofs.YtnabbimompapfaaGreat
namespace Go.Proofs.YtnabbimompapfaaGreat
open Go Go.RowKit
set_option maxRecDepth 100000 in
set_option maxHeartbeats 4000000 in
theorem right_plain (B Bv g gm gp : Nat) (us : Int) (s : PJ) (its : List It) (P : List (Int × Int)) (o : OpV) (V : Value) (t : Int) (w : World) (h : JRep w B g gm gp us s its P) (hv : Bts w Bv 5 V o.val) (hc : -9223372036854775808 ≤ o.cursor ∧ o.cursor ≤ 9223372036854775807)
  (hk : ¬(1 ≤ o.kind ∧ o.kind ≤ 6) ∧ o.kind ≠ 8 ∧ ¬(11 ≤ o.kind ∧ o.kind ≤ 14)) :
  Calls Tryz.prog 43 #[.pointer (some ⟨g, 0, none⟩), opv o V, .int .u64 t] w fun e w' => e = .returned (.tuple #[.int .i64 (rightP s o t), .bool (refusedP o (rightP s o t))]) ∧ Below w.heap.size w w' := by
 have hR : rightP s o t = 0 := by unfold rightP; rw [if_neg (by omega), if_neg (by omega), if_neg (by omega), if_neg (by omega)]
 rw [hR, show refusedP o 0 = false by simp [refusedP]]
 obtain ⟨q, hq⟩ : ∃ q, openP s.pl o.cursor = q := ⟨_, rfl⟩
 have HOp := zH hq
 clear hR hq
 obtain ⟨A, c, rfl⟩ := hv.form
 have hbl : Below w.heap.size w (w.alloc (.cells (opc o (.slice A o.val.length c)) 43)) := (zL _ _).alloc (zN _) _
 have HX : Hid (JRX w (w.alloc (.cells (opc o (.slice A o.val.length c)) 43)) B Bv g gm gp us s its P o A c) := zH ⟨h.below hbl, Blk.new _ _ _, hbl, hv.below hbl⟩
 have HC := zH hc
 clear h hv hc hbl
 unfold opv
 unfold opc at HX ⊢
 have q1 : (o.kind == 1) = false := by rw [beq_eq_false_iff_ne]; omega
 have q2 : (o.kind == 2) = false := by rw [beq_eq_false_iff_ne]; omega
 have q3 : (o.kind == 3) = false := by rw [beq_eq_false_iff_ne]; omega
 have q4 : (o.kind == 4) = false := by rw [beq_eq_false_iff_ne]; omega
 have q5 : (o.kind == 5) = false := by rw [beq_eq_false_iff_ne]; omega
 have q6 : (o.kind == 6) = false := by rw [beq_eq_false_iff_ne]; omega
 have q8 : (o.kind == 8) = false := by rw [beq_eq_false_iff_ne]; omega
 have q11 : (o.kind == 11) = false := by rw [beq_eq_false_iff_ne]; omega
 have q12 : (o.kind == 12) = false := by rw [beq_eq_false_iff_ne]; omega
 have q13 : (o.kind == 13) = false := by rw [beq_eq_false_iff_ne]; omega
 have q14 : (o.kind == 14) = false := by rw [beq_eq_false_iff_ne]; omega
 clear hk
 go_enter Tryz.func43, Tryz.ntmps43
 go_upto_region 1 with fail
 generalize World.alloc _ _ = W0 at HX ⊢
 refine wp_region_noPanic ?_
 refine wp_region_held_drew (S := fun W => JRX w W B Bv g gm gp us s its P o A c) (by kernel_rfl) (HX.out.adv (zL _ _).drew) (fun hHeld => ?_)
 generalize W0.drew = W1 at hHeld ⊢
 have HX1 := zH hHeld
 refine Pl.go [0, 1, 2, 3, 4, 5, 6, 7, 8, 9, 10, 11] ?_
 iterate 12
  refine tkl (v := ?_) ?_ ?_
  rotate_left 1
  ·intro W hSw
   obtain ⟨z0, z1, z2, z3, z4, z5, z6, z7, z8⟩ := op9 hSw.box; obtain ⟨d0, d1, d2, d3, d4, d5, d6, d7, d8, d9, d10⟩ := hSw.rep.cells; have hlk := hSw.rep.lookPl HC.out; rw [HOp.out] at hlk
   clear hSw
   go_simp
   try with_reducible rfl
  try dsimp only [zS, zB, zC]
 refine Pl.stop ?_
 refine wpAnyH_done (by kernel_rfl) ?_ _
 refine NoPanic.normal ?_
 clear hHeld
 obtain ⟨z0, z1, z2, z3, z4, z5, z6, z7, z8⟩ := op9 HX1.out.box
 go_wp2_with fail
 go_ret2
 exact ⟨rfl, HX1.out.bel⟩
set_option maxRecDepth 100000 in
set_option maxHeartbeats 4000000 in
theorem right_noplace (B Bv g gm gp : Nat) (us : Int) (s : PJ) (its : List It) (P : List (Int × Int)) (o : OpV) (V : Value) (t : Int) (w : World) (h : JRep w B g gm gp us s its P) (hv : Bts w Bv 5 V o.val) (hc : -9223372036854775808 ≤ o.cursor ∧ o.cursor ≤ 9223372036854775807)
  (hk : 12 ≤ o.kind ∧ o.kind ≤ 14) (hn : openP s.pl o.cursor = none) :
  Calls Tryz.prog 43 #[.pointer (some ⟨g, 0, none⟩), opv o V, .int .u64 t] w fun e w' => e = .returned (.tuple #[.int .i64 (rightP s o t), .bool (refusedP o (rightP s o t))]) ∧ Below w.heap.size w w' := by
 have hR : rightP s o t = 9 := by unfold rightP; rw [if_neg (by omega), if_neg (by omega), if_neg (by omega), if_pos (by omega), hn]
 rw [hR, show refusedP o 9 = (o.kind == 12) by
  unfold refusedP
  by_cases h12 : o.kind = 12
  ·rw [decide_eq_true (by omega), beq_iff_eq.2 h12]
  ·rw [decide_eq_false (by omega), beq_eq_false_iff_ne.2 h12]]
 obtain ⟨q, hq⟩ : ∃ q : Option Int, q = none := ⟨_, rfl⟩
 have HOp := zH hn
 clear hR hn hq q
 obtain ⟨A, c, rfl⟩ := hv.form
 have hbl : Below w.heap.size w (w.alloc (.cells (opc o (.slice A o.val.length c)) 43)) := (zL _ _).alloc (zN _) _
 have HX : Hid (JRX w (w.alloc (.cells (opc o (.slice A o.val.length c)) 43)) B Bv g gm gp us s its P o A c) := zH ⟨h.below hbl, Blk.new _ _ _, hbl, hv.below hbl⟩
 have HC := zH hc
 clear h hv hc hbl
 unfold opv
 unfold opc at HX ⊢
 have q1 : (o.kind == 1) = false := by rw [beq_eq_false_iff_ne]; omega
 have q2 : (o.kind == 2) = false := by rw [beq_eq_false_iff_ne]; omega
 have q3 : (o.kind == 3) = false := by rw [beq_eq_false_iff_ne]; omega
 have q4 : (o.kind == 4) = false := by rw [beq_eq_false_iff_ne]; omega
 have q5 : (o.kind == 5) = false := by rw [beq_eq_false_iff_ne]; omega
 have q6 : (o.kind == 6) = false := by rw [beq_eq_false_iff_ne]; omega
 have q8 : (o.kind == 8) = false := by rw [beq_eq_false_iff_ne]; omega
 have q11 : (o.kind == 11) = false := by rw [beq_eq_false_iff_ne]; omega
 by_cases k12 : o.kind = 12
 ·have q12 : (o.kind == 12) = true := by simp [k12]
  clear hk k12
  rw [q12]
  go_enter Tryz.func43, Tryz.ntmps43
  go_upto_region 1 with fail
  generalize World.alloc _ _ = W0 at HX ⊢
  refine wp_region_noPanic ?_
  refine wp_region_held_drew (S := fun W => JRX w W B Bv g gm gp us s its P o A c) (by kernel_rfl) (HX.out.adv (zL _ _).drew) (fun hHeld => ?_)
  generalize W0.drew = W1 at hHeld ⊢
  have HX1 := zH hHeld
  refine Pl.go [0, 1, 2, 3, 4, 5, 6, 7, 8, 9, 10, 11] ?_
  iterate 12
   refine tkl (v := ?_) ?_ ?_
   rotate_left 1
   ·intro W hSw
    obtain ⟨z0, z1, z2, z3, z4, z5, z6, z7, z8⟩ := op9 hSw.box; obtain ⟨d0, d1, d2, d3, d4, d5, d6, d7, d8, d9, d10⟩ := hSw.rep.cells; have hlk := hSw.rep.lookPl HC.out; rw [HOp.out] at hlk
    clear hSw
    go_simp
    try with_reducible rfl
   try dsimp only [zS, zB, zC]
  refine Pl.stop ?_
  refine wpAnyH_done (by kernel_rfl) ?_ _
  refine NoPanic.normal ?_
  clear hHeld
  obtain ⟨z0, z1, z2, z3, z4, z5, z6, z7, z8⟩ := op9 HX1.out.box
  go_upto_region 23 with fail
  refine wp_region_noPanic ?_
  refine wp_region_held_drew (S := fun W => JRX w W B Bv g gm gp us s its P o A c) (by kernel_rfl) (HX1.out.adv (zL _ _).drew) (fun hHeld => ?_)
  generalize W1.drew = W2 at hHeld ⊢
  have HX2 := zH hHeld
  refine Pl.go [0, 1, 2, 3, 4] ?_
  iterate 5
   refine tkl (v := ?_) ?_ ?_
   rotate_left 1
   ·intro W hSw
    obtain ⟨z0, z1, z2, z3, z4, z5, z6, z7, z8⟩ := op9 hSw.box; obtain ⟨d0, d1, d2, d3, d4, d5, d6, d7, d8, d9, d10⟩ := hSw.rep.cells; have hlk := hSw.rep.lookPl HC.out; rw [HOp.out] at hlk
    clear hSw
    go_simp
    try with_reducible rfl
   try dsimp only [zS, zB, zC]
  refine Pl.stop ?_
  refine wpAnyH_done (by kernel_rfl) ?_ _
  refine NoPanic.normal ?_
  clear hHeld
  go_wp2_with fail
  go_ret2
  exact ⟨rfl, HX2.out.bel⟩
 ·have q12 : (o.kind == 12) = false := by simp [k12]
  by_cases k13 : o.kind = 13
  ·have q13 : (o.kind == 13) = true := by simp [k13]
   clear hk k12 k13
   rw [q12]
   go_enter Tryz.func43, Tryz.ntmps43
   go_upto_region 1 with fail
   generalize World.alloc _ _ = W0 at HX ⊢
   refine wp_region_noPanic ?_
   refine wp_region_held_drew (S := fun W => JRX w W B Bv g gm gp us s its P o A c) (by kernel_rfl) (HX.out.adv (zL _ _).drew) (fun hHeld => ?_)
   generalize W0.drew = W1 at hHeld ⊢
   have HX1 := zH hHeld
   refine Pl.go [0, 1, 2, 3, 4, 5, 6, 7, 8, 9, 10, 11] ?_
   iterate 12
    refine tkl (v := ?_) ?_ ?_
    rotate_left 1
    ·intro W hSw
     obtain ⟨z0, z1, z2, z3, z4, z5, z6, z7, z8⟩ := op9 hSw.box; obtain ⟨d0, d1, d2, d3, d4, d5, d6, d7, d8, d9, d10⟩ := hSw.rep.cells; have hlk := hSw.rep.lookPl HC.out; rw [HOp.out] at hlk
     clear hSw
     go_simp
     try with_reducible rfl
    try dsimp only [zS, zB, zC]
   refine Pl.stop ?_
   refine wpAnyH_done (by kernel_rfl) ?_ _
   refine NoPanic.normal ?_
   clear hHeld
   obtain ⟨z0, z1, z2, z3, z4, z5, z6, z7, z8⟩ := op9 HX1.out.box
   go_upto_region 23 with fail
   refine wp_region_noPanic ?_
   refine wp_region_held_drew (S := fun W => JRX w W B Bv g gm gp us s its P o A c) (by kernel_rfl) (HX1.out.adv (zL _ _).drew) (fun hHeld => ?_)
   generalize W1.drew = W2 at hHeld ⊢
   have HX2 := zH hHeld
   refine Pl.go [0, 1, 2, 3, 4] ?_
   iterate 5
    refine tkl (v := ?_) ?_ ?_
    rotate_left 1
    ·intro W hSw
     obtain ⟨z0, z1, z2, z3, z4, z5, z6, z7, z8⟩ := op9 hSw.box; obtain ⟨d0, d1, d2, d3, d4, d5, d6, d7, d8, d9, d10⟩ := hSw.rep.cells; have hlk := hSw.rep.lookPl HC.out; rw [HOp.out] at hlk
     clear hSw
     go_simp
     try with_reducible rfl
    try dsimp only [zS, zB, zC]
   refine Pl.stop ?_
   refine wpAnyH_done (by kernel_rfl) ?_ _
   refine NoPanic.normal ?_
   clear hHeld
   go_wp2_with fail
   go_ret2
   exact ⟨rfl, HX2.out.bel⟩
  ·have q13 : (o.kind == 13) = false := by simp [k13]
   have q14 : (o.kind == 14) = true := by rw [beq_iff_eq]; omega
   clear hk k12 k13
   rw [q12]
   go_enter Tryz.func43, Tryz.ntmps43
   go_upto_region 1 with fail
   generalize World.alloc _ _ = W0 at HX ⊢
   refine wp_region_noPanic ?_
   refine wp_region_held_drew (S := fun W => JRX w W B Bv g gm gp us s its P o A c) (by kernel_rfl) (HX.out.adv (zL _ _).drew) (fun hHeld => ?_)
   generalize W0.drew = W1 at hHeld ⊢
   have HX1 := zH hHeld
   refine Pl.go [0, 1, 2, 3, 4, 5, 6, 7, 8, 9, 10, 11] ?_
   iterate 12
    refine tkl (v := ?_) ?_ ?_
    rotate_left 1
    ·intro W hSw
     obtain ⟨z0, z1, z2, z3, z4, z5, z6, z7, z8⟩ := op9 hSw.box; obtain ⟨d0, d1, d2, d3, d4, d5, d6, d7, d8, d9, d10⟩ := hSw.rep.cells; have hlk := hSw.rep.lookPl HC.out; rw [HOp.out] at hlk
     clear hSw
     go_simp
     try with_reducible rfl
    try dsimp only [zS, zB, zC]
   refine Pl.stop ?_
   refine wpAnyH_done (by kernel_rfl) ?_ _
   refine NoPanic.normal ?_
   clear hHeld
   obtain ⟨z0, z1, z2, z3, z4, z5, z6, z7, z8⟩ := op9 HX1.out.box
   go_upto_region 23 with fail
   refine wp_region_noPanic ?_
   refine wp_region_held_drew (S := fun W => JRX w W B Bv g gm gp us s its P o A c) (by kernel_rfl) (HX1.out.adv (zL _ _).drew) (fun hHeld => ?_)
   generalize W1.drew = W2 at hHeld ⊢
   have HX2 := zH hHeld
   refine Pl.go [0, 1, 2, 3, 4] ?_
   iterate 5
    refine tkl (v := ?_) ?_ ?_
    rotate_left 1
    ·intro W hSw
     obtain ⟨z0, z1, z2, z3, z4, z5, z6, z7, z8⟩ := op9 hSw.box; obtain ⟨d0, d1, d2, d3, d4, d5, d6, d7, d8, d9, d10⟩ := hSw.rep.cells; have hlk := hSw.rep.lookPl HC.out; rw [HOp.out] at hlk
     clear hSw
     go_simp
     try with_reducible rfl
    try dsimp only [zS, zB, zC]
   refine Pl.stop ?_
   refine wpAnyH_done (by kernel_rfl) ?_ _
   refine NoPanic.normal ?_
   clear hHeld
   go_wp2_with fail
   go_ret2
   exact ⟨rfl, HX2.out.bel⟩
set_option maxRecDepth 100000 in
set_option maxHeartbeats 4000000 in
theorem right_place (B Bv g gm gp : Nat) (us : Int) (s : PJ) (its : List It) (P : List (Int × Int)) (o : OpV) (V : Value) (t : Int) (w : World) (h : JRep w B g gm gp us s its P) (hv : Bts w Bv 5 V o.val) (hc : -9223372036854775808 ≤ o.cursor ∧ o.cursor ≤ 9223372036854775807)
  (hk : o.kind = 13 ∨ o.kind = 14) (b : Int) (hn : openP s.pl o.cursor = some b) :
  Calls Tryz.prog 43 #[.pointer (some ⟨g, 0, none⟩), opv o V, .int .u64 t] w fun e w' => e = .returned (.tuple #[.int .i64 (rightP s o t), .bool (refusedP o (rightP s o t))]) ∧ Below w.heap.size w w' := by
 have hR : rightP s o t = 0 := by unfold rightP; rw [if_neg (by omega), if_neg (by omega), if_neg (by omega), if_pos (by omega), hn]; dsimp only; rw [if_neg (by omega)]
 rw [hR, show refusedP o 0 = false by simp [refusedP]]
 have HOp := zH hn
 clear hR hn
 obtain ⟨A, c, rfl⟩ := hv.form
 have hbl : Below w.heap.size w (w.alloc (.cells (opc o (.slice A o.val.length c)) 43)) := (zL _ _).alloc (zN _) _
 have HX : Hid (JRX w (w.alloc (.cells (opc o (.slice A o.val.length c)) 43)) B Bv g gm gp us s its P o A c) := zH ⟨h.below hbl, Blk.new _ _ _, hbl, hv.below hbl⟩
 have HC := zH hc
 clear h hv hc hbl
 unfold opv
 unfold opc at HX ⊢
 have q1 : (o.kind == 1) = false := by rw [beq_eq_false_iff_ne]; omega
 have q2 : (o.kind == 2) = false := by rw [beq_eq_false_iff_ne]; omega
 have q3 : (o.kind == 3) = false := by rw [beq_eq_false_iff_ne]; omega
 have q4 : (o.kind == 4) = false := by rw [beq_eq_false_iff_ne]; omega
 have q5 : (o.kind == 5) = false := by rw [beq_eq_false_iff_ne]; omega
 have q6 : (o.kind == 6) = false := by rw [beq_eq_false_iff_ne]; omega
 have q8 : (o.kind == 8) = false := by rw [beq_eq_false_iff_ne]; omega
 have q11 : (o.kind == 11) = false := by rw [beq_eq_false_iff_ne]; omega
 have q12 : (o.kind == 12) = false := by rw [beq_eq_false_iff_ne]; omega
 by_cases k13 : o.kind = 13
 ·have q13 : (o.kind == 13) = true := by simp [k13]
  clear hk k13
  go_enter Tryz.func43, Tryz.ntmps43
  go_upto_region 1 with fail
  generalize World.alloc _ _ = W0 at HX ⊢
  refine wp_region_noPanic ?_
  refine wp_region_held_drew (S := fun W => JRX w W B Bv g gm gp us s its P o A c) (by kernel_rfl) (HX.out.adv (zL _ _).drew) (fun hHeld => ?_)
  generalize W0.drew = W1 at hHeld ⊢
  have HX1 := zH hHeld
  refine Pl.go [0, 1, 2, 3, 4, 5, 6, 7, 8, 9, 10, 11] ?_
  iterate 12
   refine tkl (v := ?_) ?_ ?_
   rotate_left 1
   ·intro W hSw
    obtain ⟨z0, z1, z2, z3, z4, z5, z6, z7, z8⟩ := op9 hSw.box; obtain ⟨d0, d1, d2, d3, d4, d5, d6, d7, d8, d9, d10⟩ := hSw.rep.cells; have hlk := hSw.rep.lookPl HC.out; rw [HOp.out] at hlk
    clear hSw
    go_simp
    try with_reducible rfl
   try dsimp only [zS, zB, zC]
  refine Pl.stop ?_
  refine wpAnyH_done (by kernel_rfl) ?_ _
  refine NoPanic.normal ?_
  clear hHeld
  obtain ⟨z0, z1, z2, z3, z4, z5, z6, z7, z8⟩ := op9 HX1.out.box
  go_wp2_with fail
  go_ret2
  exact ⟨rfl, HX1.out.bel⟩
 ·have q13 : (o.kind == 13) = false := by simp [k13]
  have q14 : (o.kind == 14) = true := by rw [beq_iff_eq]; omega
  clear hk k13
  go_enter Tryz.func43, Tryz.ntmps43
  go_upto_region 1 with fail
  generalize World.alloc _ _ = W0 at HX ⊢
  refine wp_region_noPanic ?_
  refine wp_region_held_drew (S := fun W => JRX w W B Bv g gm gp us s its P o A c) (by kernel_rfl) (HX.out.adv (zL _ _).drew) (fun hHeld => ?_)
  generalize W0.drew = W1 at hHeld ⊢
  have HX1 := zH hHeld
  refine Pl.go [0, 1, 2, 3, 4, 5, 6, 7, 8, 9, 10, 11] ?_
  iterate 12
   refine tkl (v := ?_) ?_ ?_
   rotate_left 1
   ·intro W hSw
    obtain ⟨z0, z1, z2, z3, z4, z5, z6, z7, z8⟩ := op9 hSw.box; obtain ⟨d0, d1, d2, d3, d4, d5, d6, d7, d8, d9, d10⟩ := hSw.rep.cells; have hlk := hSw.rep.lookPl HC.out; rw [HOp.out] at hlk
    clear hSw
    go_simp
    try with_reducible rfl
   try dsimp only [zS, zB, zC]
  refine Pl.stop ?_
  refine wpAnyH_done (by kernel_rfl) ?_ _
  refine NoPanic.normal ?_
  clear hHeld
  obtain ⟨z0, z1, z2, z3, z4, z5, z6, z7, z8⟩ := op9 HX1.out.box
  go_wp2_with fail
  go_ret2
  exact ⟨rfl, HX1.out.bel⟩
end Go.Proofs.YtnabbimompapfaaGreat
namespace Go.Proofs.YtnabbimompapfaaGreat
open Go Go.RowKit
set_option maxRecDepth 100000 in
set_option maxHeartbeats 4000000 in
theorem right_cfg (B Bv g gm gp : Nat) (us : Int) (s : PJ) (its : List It) (P : List (Int × Int)) (o : OpV) (V : Value) (t : Int) (w : World) (h : JRep w B g gm gp us s its P) (hv : Bts w Bv 5 V o.val) (hc : -9223372036854775808 ≤ o.cursor ∧ o.cursor ≤ 9223372036854775807)
  (hk : o.kind = 8) :
  Calls Tryz.prog 43 #[.pointer (some ⟨g, 0, none⟩), opv o V, .int .u64 t] w fun e w' => e = .returned (.tuple #[.int .i64 (rightP s o t), .bool (refusedP o (rightP s o t))]) ∧ Below w.heap.size w w' := by
 have hR : rightP s o t = cfgP { s.cfg with count := o.count, bytes := o.bytes } := by unfold rightP; rw [if_neg (by omega), if_pos (by omega)]
 obtain ⟨r, hr⟩ : ∃ r, cfgP { s.cfg with count := o.count, bytes := o.bytes } = r := ⟨_, rfl⟩
 rw [hR, hr, show refusedP o r = (r != 0) by
  unfold refusedP
  by_cases h0 : r = 0
  ·simp [h0]
  ·rw [decide_eq_true (by omega)]; simp [h0]]
 have HCf := zH (fun W => hr ▸ cfgCheck_any { s.cfg with count := o.count, bytes := o.bytes } W)
 obtain ⟨q, hq⟩ : ∃ q, openP s.pl o.cursor = q := ⟨_, rfl⟩
 have HOp := zH hq
 clear hR hr hq
 obtain ⟨A, c, rfl⟩ := hv.form
 have hbl : Below w.heap.size w (w.alloc (.cells (opc o (.slice A o.val.length c)) 43)) := (zL _ _).alloc (zN _) _
 have HX : Hid (JRX w (w.alloc (.cells (opc o (.slice A o.val.length c)) 43)) B Bv g gm gp us s its P o A c) := zH ⟨h.below hbl, Blk.new _ _ _, hbl, hv.below hbl⟩
 have HC := zH hc
 clear h hv hc hbl
 unfold opv
 unfold opc at HX ⊢
 have q1 : (o.kind == 1) = false := by rw [beq_eq_false_iff_ne]; omega
 have q2 : (o.kind == 2) = false := by rw [beq_eq_false_iff_ne]; omega
 have q3 : (o.kind == 3) = false := by rw [beq_eq_false_iff_ne]; omega
 have q4 : (o.kind == 4) = false := by rw [beq_eq_false_iff_ne]; omega
 have q5 : (o.kind == 5) = false := by rw [beq_eq_false_iff_ne]; omega
 have q6 : (o.kind == 6) = false := by rw [beq_eq_false_iff_ne]; omega
 have q8 : (o.kind == 8) = true := by simp [hk]
 clear hk
 unfold cfgv cfgc at HCf
 go_enter Tryz.func43, Tryz.ntmps43
 go_upto_region 1 with fail
 generalize World.alloc _ _ = W0 at HX ⊢
 refine wp_region_noPanic ?_
 refine wp_region_held_drew (S := fun W => JRX w W B Bv g gm gp us s its P o A c) (by kernel_rfl) (HX.out.adv (zL _ _).drew) (fun hHeld => ?_)
 generalize W0.drew = W1 at hHeld ⊢
 have HX1 := zH hHeld
 refine Pl.go [0, 1, 2, 3, 4, 5, 6, 7, 8, 9, 10, 11] ?_
 iterate 12
  refine tkl (v := ?_) ?_ ?_
  rotate_left 1
  ·intro W hSw
   obtain ⟨z0, z1, z2, z3, z4, z5, z6, z7, z8⟩ := op9 hSw.box; obtain ⟨d0, d1, d2, d3, d4, d5, d6, d7, d8, d9, d10⟩ := hSw.rep.cells; have hlk := hSw.rep.lookPl HC.out; rw [HOp.out] at hlk
   clear hSw
   go_simp
   try with_reducible rfl
  try dsimp only [zS, zB, zC]
 refine Pl.stop ?_
 refine wpAnyH_done (by kernel_rfl) ?_ _
 refine NoPanic.normal ?_
 clear hHeld
 obtain ⟨z0, z1, z2, z3, z4, z5, z6, z7, z8⟩ := op9 HX1.out.box
 obtain ⟨d0, d1, d2, d3, d4, d5, d6, d7, d8, d9, d10⟩ := HX1.out.rep.cells
 go_upto_region 13 with fail
 have hc0 : Blk (W1.alloc (.cells #[.int .i64 s.cfg.count, .int .i64 s.cfg.bytes, .int .i64 s.cfg.prot, .int .u64 s.cfg.seed, .bool s.cfg.same] 24)) W1.heap.size 24 #[.int .i64 s.cfg.count, .int .i64 s.cfg.bytes, .int .i64 s.cfg.prot, .int .u64 s.cfg.seed, .bool s.cfg.same] := Blk.new _ _ _
 have hX2 := HX1.out.adv ((zL W1.heap.size W1).alloc (zN _) (.cells #[.int .i64 s.cfg.count, .int .i64 s.cfg.bytes, .int .i64 s.cfg.prot, .int .u64 s.cfg.seed, .bool s.cfg.same] 24))
 clear z0 z1 z2 z3 z4 z5 z6 z7 z8 d0 d1 d2 d3 d4 d5 d6 d7 d8 d9 d10
 generalize World.alloc _ _ = W2 at hc0 hX2 ⊢
 have hlt : w.heap.size < W1.heap.size := HX1.out.box.lt
 generalize W1.heap.size = G at hc0 hlt ⊢
 have y5 : W2.cell? ⟨w.heap.size, 5, none⟩ = some (.int .i64 o.count) := hX2.box.cell 5 _ rfl
 have y6 : W2.cell? ⟨w.heap.size, 6, none⟩ = some (.int .i64 o.bytes) := hX2.box.cell 6 _ rfl
 have d0 : W2.cell? ⟨G, 0, none⟩ = some (.int .i64 s.cfg.count) := hc0.cell 0 _ rfl
 have d1 : W2.cell? ⟨G, 1, none⟩ = some (.int .i64 s.cfg.bytes) := hc0.cell 1 _ rfl
 have hne : ¬ w.heap.size = G := by omega
 have f0 := hc0.frozen
 have HC0 := zH hc0
 have HB1 := zH hX2.bel
 clear hc0 hX2 HX HX1
 go_region
 have h2 := ((HC0.out.set_ 0 (.int .i64 o.count)).set_ 1 (.int .i64 o.bytes)).drew
 have hb2 : Below w.heap.size w ((W2.setCell ⟨G, 0, none⟩ (.int .i64 o.count)).setCell ⟨G, 1, none⟩ (.int .i64 o.bytes)).drew := ((HB1.out.setCell (p := ⟨G, 0, none⟩) (by dsimp only; omega) _).setCell (p := ⟨G, 1, none⟩) (by dsimp only; omega) _).drew
 obtain ⟨W3, hW3⟩ : ∃ W3, ((W2.setCell ⟨G, 0, none⟩ (.int .i64 o.count)).setCell ⟨G, 1, none⟩ (.int .i64 o.bytes)).drew = W3 := ⟨_, rfl⟩
 rw [hW3] at h2 hb2 ⊢
 clear hW3 y5 y6 d0 d1 f0
 have e0 : W3.cell? ⟨G, 0, none⟩ = some (.int .i64 o.count) := h2.cell 0 _ rfl
 have e1 : W3.cell? ⟨G, 1, none⟩ = some (.int .i64 o.bytes) := h2.cell 1 _ rfl
 have e2 : W3.cell? ⟨G, 2, none⟩ = some (.int .i64 s.cfg.prot) := h2.cell 2 _ rfl
 have e3 : W3.cell? ⟨G, 3, none⟩ = some (.int .u64 s.cfg.seed) := h2.cell 3 _ rfl
 have e4 : W3.cell? ⟨G, 4, none⟩ = some (.bool s.cfg.same) := h2.cell 4 _ rfl
 have HB2 := zH hb2
 clear h2 hb2
 go_wp2_with fail
 refine (HCf.out W3).mono ?_
 rintro e w3 ⟨rfl, hb3⟩
 have HB3 := zH (HB2.out.trans (hb3.mono HB2.out.size))
 clear hb3
 go_wp2_with fail
 go_ret2
 exact ⟨rfl, HB3.out⟩
end Go.Proofs.YtnabbimompapfaaGreat
namespace Go.Proofs.YtnabbimompapfaaGreat
open Go Go.RowKit
theorem nodup_lenJ {α : Type} [DecidableEq α] : ∀ (l m : List α), l.Nodup → (∀ x ∈ l, x ∈ m) → l.length ≤ m.length
 |[], _, _, _ => Nat.zero_le _
 |x :: xs, m, hn, hs => by
  have hx := hs x (List.mem_cons_self ..)
  rw [List.nodup_cons] at hn
  have h1 := nodup_lenJ xs (m.erase x) hn.2 (fun y hy => (List.mem_erase_of_ne (a := y) (b := x) (fun e => by subst e; exact hn.1 hy)).2 (hs y (List.mem_cons_of_mem _ hy)))
  rw [List.length_erase_of_mem hx] at h1
  have h2 := List.length_pos_of_mem hx
  simp only [List.length_cons]
  omega
theorem places_in {P : List (Int × Int)} {pl : List (Option Int)} (hn : (P.map Prod.fst).Nodup) (hp : pl.length = 64) (hm : ∀ c, mget P c = openP pl c) : ∀ x ∈ P.map Prod.fst, ∃ i : Nat, x = i ∧ i < 64 ∧ openAt pl i = true := by
 intro x hx
 obtain ⟨y, hy, rfl⟩ := List.mem_map.1 hx
 have h1 := mget_mem hn (k := y.1) (bs := y.2) hy
 rw [hm] at h1
 obtain ⟨i, e, hi, h2⟩ := openP_idx h1
 exact ⟨i, e, by omega, by unfold openAt; rw [h2]; rfl⟩
theorem free_all {pl : List (Option Int)} (hp : pl.length = 64) (hf : freeP pl = 64) : ∀ n, n ≤ 64 → ∀ j, j < n → openAt pl j = true := by
 intro n
 induction n with
 |zero => intro _ j hj; omega
 |succ n ih =>
  intro hn j hj
  rcases (by omega : j < n ∨ j = n) with h1 | h1
  ·exact ih (by omega) j h1
  ·subst h1
   cases ho : openAt pl j with
   |true => rfl
   |false =>
    have := freeP_at hp (by omega) ho (ih (by omega))
    omega
theorem places_len {P : List (Int × Int)} {pl : List (Option Int)} (hn : (P.map Prod.fst).Nodup) (hp : pl.length = 64) (hm : ∀ c, mget P c = openP pl c) : P.length = 64 ↔ freeP pl = 64 := by
 have hle : P.length ≤ 64 := by
  have := nodup_lenJ _ ((List.range 64).map Int.ofNat) hn (fun x hx => by
   obtain ⟨i, rfl, hi, _⟩ := places_in hn hp hm x hx
   exact List.mem_map.2 ⟨i, List.mem_range.2 hi, rfl⟩)
  simpa using this
 constructor
 ·intro h64
  refine freeP_full hp fun j hj => ?_
  cases ho : openAt pl j with
  |true => rfl
  |false =>
   exfalso
   have hmem : Int.ofNat j ∈ (List.range 64).map Int.ofNat := List.mem_map.2 ⟨j, List.mem_range.2 hj, rfl⟩
   have h1 := nodup_lenJ _ (((List.range 64).map Int.ofNat).erase (Int.ofNat j)) hn (fun x hx => by
    obtain ⟨i, rfl, hi, hoi⟩ := places_in hn hp hm x hx
    refine (List.mem_erase_of_ne (fun e => ?_)).2 (List.mem_map.2 ⟨i, List.mem_range.2 hi, rfl⟩)
    have e2 : i = j := Int.ofNat.inj e
    rw [e2, ho] at hoi
    cases hoi)
   rw [List.length_erase_of_mem hmem] at h1
   simp only [List.length_map, List.length_range] at h1
   omega
 ·intro hf
  have h1 := nodup_lenJ ((List.range 64).map Int.ofNat) (P.map Prod.fst) (by decide) (fun x hx => by
   obtain ⟨j, hj, rfl⟩ := List.mem_map.1 hx
   have hj := List.mem_range.1 hj
   have ho := free_all hp hf 64 (zN _) j hj
   have ho : (openP pl (Int.ofNat j)).isSome = true := (openP_some pl (Int.ofNat j) (by simp)).trans ho
   cases hg : mget P (Int.ofNat j) with
   |none => rw [hm] at hg; rw [hg] at ho; cases ho
   |some b => exact List.mem_map.2 ⟨_, mget_some hg, rfl⟩)
  simp only [List.length_map, List.length_range] at h1
  omega
end Go.Proofs.YtnabbimompapfaaGreat
namespace Go.Proofs.YtnabbimompapfaaGreat
open Go Go.RowKit
set_option maxRecDepth 100000 in
set_option maxHeartbeats 4000000 in
theorem right_open (B Bv g gm gp : Nat) (us : Int) (s : PJ) (its : List It) (P : List (Int × Int)) (o : OpV) (V : Value) (t : Int) (w : World) (h : JRep w B g gm gp us s its P) (hv : Bts w Bv 5 V o.val) (hc : -9223372036854775808 ≤ o.cursor ∧ o.cursor ≤ 9223372036854775807)
  (hk : o.kind = 11) (hp : s.pl.length = 64) :
  Calls Tryz.prog 43 #[.pointer (some ⟨g, 0, none⟩), opv o V, .int .u64 t] w fun e w' => e = .returned (.tuple #[.int .i64 (rightP s o t), .bool (refusedP o (rightP s o t))]) ∧ Below w.heap.size w w' := by
 obtain ⟨es, clock, -, hM⟩ := h.places
 have hlen := places_len hM.nodup hp h.pl
 clear hM
 have hR : rightP s o t = if P.length = 64 then 7 else 0 := by
  unfold rightP
  rw [if_neg (by omega), if_neg (by omega), if_pos (by omega)]
  by_cases h64 : P.length = 64
  ·rw [if_pos h64, if_pos (hlen.1 h64)]
  ·rw [if_neg h64, if_neg (fun h => h64 (hlen.2 h))]
 rw [hR]
 have hF : ∀ r, refusedP o r = false := fun r => by unfold refusedP; exact decide_eq_false (by omega)
 rw [hF]
 obtain ⟨q, hq⟩ : ∃ q, openP s.pl o.cursor = q := ⟨_, rfl⟩
 have HOp := zH hq
 clear hR hF hlen hp hq
 obtain ⟨A, c, rfl⟩ := hv.form
 have hbl : Below w.heap.size w (w.alloc (.cells (opc o (.slice A o.val.length c)) 43)) := (zL _ _).alloc (zN _) _
 have HX : Hid (JRX w (w.alloc (.cells (opc o (.slice A o.val.length c)) 43)) B Bv g gm gp us s its P o A c) := zH ⟨h.below hbl, Blk.new _ _ _, hbl, hv.below hbl⟩
 have HC := zH hc
 clear h hv hc hbl
 unfold opv
 unfold opc at HX ⊢
 have q1 : (o.kind == 1) = false := by rw [beq_eq_false_iff_ne]; omega
 have q2 : (o.kind == 2) = false := by rw [beq_eq_false_iff_ne]; omega
 have q3 : (o.kind == 3) = false := by rw [beq_eq_false_iff_ne]; omega
 have q4 : (o.kind == 4) = false := by rw [beq_eq_false_iff_ne]; omega
 have q5 : (o.kind == 5) = false := by rw [beq_eq_false_iff_ne]; omega
 have q6 : (o.kind == 6) = false := by rw [beq_eq_false_iff_ne]; omega
 have q8 : (o.kind == 8) = false := by rw [beq_eq_false_iff_ne]; omega
 have q11 : (o.kind == 11) = true := by simp [hk]
 have q12 : (o.kind == 12) = false := by rw [beq_eq_false_iff_ne]; omega
 have q13 : (o.kind == 13) = false := by rw [beq_eq_false_iff_ne]; omega
 have q14 : (o.kind == 14) = false := by rw [beq_eq_false_iff_ne]; omega
 clear hk
 by_cases h64 : P.length = 64
 ·rw [if_pos h64]
  have ql : ((P.length : Int) == 64) = true := by rw [beq_iff_eq]; omega
  clear h64
  go_enter Tryz.func43, Tryz.ntmps43
  go_upto_region 1 with fail
  generalize World.alloc _ _ = W0 at HX ⊢
  refine wp_region_noPanic ?_
  refine wp_region_held_drew (S := fun W => JRX w W B Bv g gm gp us s its P o A c) (by kernel_rfl) (HX.out.adv (zL _ _).drew) (fun hHeld => ?_)
  generalize W0.drew = W1 at hHeld ⊢
  have HX1 := zH hHeld
  refine Pl.go [0, 1, 2, 3, 4, 5, 6, 7, 8, 9, 10, 11] ?_
  iterate 12
   refine tkl (v := ?_) ?_ ?_
   rotate_left 1
   ·intro W hSw
    obtain ⟨z0, z1, z2, z3, z4, z5, z6, z7, z8⟩ := op9 hSw.box; obtain ⟨d0, d1, d2, d3, d4, d5, d6, d7, d8, d9, d10⟩ := hSw.rep.cells; have hlk := hSw.rep.lookPl HC.out; rw [HOp.out] at hlk
    clear hSw
    go_simp
    try with_reducible rfl
   try dsimp only [zS, zB, zC]
  refine Pl.stop ?_
  refine wpAnyH_done (by kernel_rfl) ?_ _
  refine NoPanic.normal ?_
  clear hHeld
  obtain ⟨z0, z1, z2, z3, z4, z5, z6, z7, z8⟩ := op9 HX1.out.box
  obtain ⟨d0, d1, d2, d3, d4, d5, d6, d7, d8, d9, d10⟩ := HX1.out.rep.cells
  have hln : ∀ ty, (Builtin.len_ #[90] ty #[.map (some gp)]).run Tryz.prog W1 = .ok (.int .i64 P.length) W1 := fun ty => HX1.out.rep.places.len (P := Tryz.prog) ty
  go_wp2_with fail
  go_ret2
  exact ⟨rfl, HX1.out.bel⟩
 ·rw [if_neg h64]
  have ql : ((P.length : Int) == 64) = false := by rw [beq_eq_false_iff_ne]; omega
  clear h64
  go_enter Tryz.func43, Tryz.ntmps43
  go_upto_region 1 with fail
  generalize World.alloc _ _ = W0 at HX ⊢
  refine wp_region_noPanic ?_
  refine wp_region_held_drew (S := fun W => JRX w W B Bv g gm gp us s its P o A c) (by kernel_rfl) (HX.out.adv (zL _ _).drew) (fun hHeld => ?_)
  generalize W0.drew = W1 at hHeld ⊢
  have HX1 := zH hHeld
  refine Pl.go [0, 1, 2, 3, 4, 5, 6, 7, 8, 9, 10, 11] ?_
  iterate 12
   refine tkl (v := ?_) ?_ ?_
   rotate_left 1
   ·intro W hSw
    obtain ⟨z0, z1, z2, z3, z4, z5, z6, z7, z8⟩ := op9 hSw.box; obtain ⟨d0, d1, d2, d3, d4, d5, d6, d7, d8, d9, d10⟩ := hSw.rep.cells; have hlk := hSw.rep.lookPl HC.out; rw [HOp.out] at hlk
    clear hSw
    go_simp
    try with_reducible rfl
   try dsimp only [zS, zB, zC]
  refine Pl.stop ?_
  refine wpAnyH_done (by kernel_rfl) ?_ _
  refine NoPanic.normal ?_
  clear hHeld
  obtain ⟨z0, z1, z2, z3, z4, z5, z6, z7, z8⟩ := op9 HX1.out.box
  obtain ⟨d0, d1, d2, d3, d4, d5, d6, d7, d8, d9, d10⟩ := HX1.out.rep.cells
  have hln : ∀ ty, (Builtin.len_ #[90] ty #[.map (some gp)]).run Tryz.prog W1 = .ok (.int .i64 P.length) W1 := fun ty => HX1.out.rep.places.len (P := Tryz.prog) ty
  go_wp2_with fail
  go_ret2
  exact ⟨rfl, HX1.out.bel⟩
end Go.Proofs.YtnabbimompapfaaGreat
namespace Go.Proofs.YtnabbimompapfaaGreat
open Go Go.RowKit
open Go.Sort (grow SWO PermIn SortedIn Holds putRow putCells mapBlock onCells grow_grow grow_empty alloc_eq_grow)
def Gr (w w' : World) : Prop := ∃ q os, w' = grow (w.drewN q) os
theorem Gr.refl (w : World) : Gr w w := ⟨0, #[], by rw [grow_empty]; rfl⟩
theorem Gr.drewN {w W : World} (h : Gr w W) (n : Nat) : Gr w (W.drewN n) := by
 obtain ⟨q, os, rfl⟩ := h
 exact ⟨q + n, os, by rw [← World.drewN_drewN]; rfl⟩
theorem Gr.drew {w W : World} (h : Gr w W) : Gr w W.drew := h.drewN 1
theorem Gr.alloc {w W : World} (h : Gr w W) (o : Obj) : Gr w (W.alloc o) := by
 obtain ⟨q, os, rfl⟩ := h
 exact ⟨q, os ++ #[o], by rw [alloc_eq_grow, grow_grow]⟩
theorem Gr.trans {a b c : World} (h : Gr a b) (k : Gr b c) : Gr a c := by
 obtain ⟨q, os, rfl⟩ := h
 obtain ⟨q2, os2, rfl⟩ := k
 exact ⟨q + q2, os ++ os2, by rw [← World.drewN_drewN, ← grow_grow]; rfl⟩
theorem Gr.below {w W : World} (h : Gr w W) : Below w.heap.size w W := by
 obtain ⟨q, os, rfl⟩ := h
 refine ⟨rfl, rfl, rfl, by show w.heap.size ≤ (w.heap ++ os).size; simp, fun k hk => ?_⟩
 show (w.heap ++ os)[k]? = w.heap[k]?
 exact Array.getElem?_append_left hk
set_option maxHeartbeats 2000000 in
theorem byDeadline_gr (g1 g2 : Nat) (e1 e2 : EntV) (v1 v2 : Value) (u1 u2 c1 c2 : Int) (w : World) (h1 : ItAt w g1 e1 v1 u1 c1) (h2 : ItAt w g2 e2 v2 u2 c2) :
  Calls Tryz.prog 69 #[.pointer (some ⟨g1, 0, none⟩), .pointer (some ⟨g2, 0, none⟩)] w fun e w' => e = .returned (.int .i64 (cmpD e1 e2)) ∧ Gr w w' := by
 have HT : Hid (TwoI w g1 g2 e1 e2 v1 v2 u1 u2 c1 c2) := zH ⟨h1, h2⟩
 clear h1 h2
 go_enter Tryz.func69, Tryz.ntmps69
 go_wp2_with fail
 refine wp_region_noPanic ?_
 refine wp_region_held_drew (S := fun W => TwoI W g1 g2 e1 e2 v1 v2 u1 u2 c1 c2) (by kernel_rfl) (HT.out.below (zL _ _).drew) (fun hHeld => ?_)
 have HB1 : Hid (Gr w w.drew) := zH (Gr.refl _).drew
 generalize w.drew = W1 at hHeld HB1 ⊢
 have H1 := zH hHeld
 refine Pl.go [0, 1, 2, 3, 4, 5, 6, 7, 8, 9] ?_
 iterate 10
  refine tkl (v := ?_) ?_ ?_
  rotate_left 1
  ·intro W hSw
   obtain ⟨-, -, x2, x3, -, -⟩ := hSw.a.cells; obtain ⟨-, -, y2, y3, -, -⟩ := hSw.b.cells
   clear hSw
   go_simp
   try with_reducible rfl
  try dsimp only [zS, zB, zC]
 refine Pl.stop ?_
 refine Pl.go [11, 12] ?_
 iterate 2
  refine tkl (v := ?_) ?_ ?_
  rotate_left 1
  ·intro W hSw
   obtain ⟨-, -, x2, x3, -, -⟩ := hSw.a.cells; obtain ⟨-, -, y2, y3, -, -⟩ := hSw.b.cells
   clear hSw
   go_simp
   try with_reducible rfl
  try dsimp only [zS, zB, zC]
 refine Pl.stop ?_
 refine wpAnyH_ready (rs := [10]) (by kernel_rfl) (by simp) ?_
 refine AllReadyH.cons (o := ⟨_, _, _, _, _, _⟩) rfl (fun F hF => ?_) AllReadyH.nil
 go_simp
 refine (cmp_time e1.dl e2.dl W1).mono ?_
 rintro e w2 ⟨rfl, hw⟩
 subst hw
 go_wp2_with fail
 refine hF.out _ _ H1.out (fun hHeld => ?_)
 clear hF F
 try simp only [Act.put, zA, zB, zC]
 refine wpAnyH_ready (rs := [13]) (by kernel_rfl) (by simp) ?_
 refine AllReadyH.cons (o := ⟨_, _, _, _, _, _⟩) rfl (fun F hF => ?_) AllReadyH.nil
 go_simp
 refine (byBirth_any g1 g2 e1 e2 v1 v2 u1 u2 c1 c2 W1 H1.out.a H1.out.b).mono ?_
 rintro e w2 ⟨rfl, q, rfl⟩
 have H2 := zH (H1.out.below (below_drewN (zL _ _) q))
 have HB2 := zH (Gr.drewN HB1.out q)
 generalize W1.drewN q = W2 at H2 HB2 ⊢
 clear hHeld H1 HB1
 go_wp2_with fail
 refine hF.out _ _ H2.out (fun hHeld => ?_)
 clear hF F
 try simp only [Act.put, zA, zB, zC]
 refine wpAnyH_ready (rs := [14]) (by kernel_rfl) (by simp) ?_
 refine AllReadyH.cons (o := ⟨_, _, _, _, _, _⟩) rfl (fun F hF => ?_) AllReadyH.nil
 go_simp
 have H3 := zH (H2.out.below ((zL _ _).alloc (zN _) (.cells #[.int .i64 (cmpI e1.dl e2.dl), .int .i64 (cmpI e1.birth e2.birth)] 3)))
 have HB3 := zH (HB2.out.alloc (.cells #[.int .i64 (cmpI e1.dl e2.dl), .int .i64 (cmpI e1.birth e2.birth)] 3))
 have HO3 := zH (Blk.new W2 3 #[.int .i64 (cmpI e1.dl e2.dl), .int .i64 (cmpI e1.birth e2.birth)])
 refine hF.out _ _ H3.out (fun hHeld => ?_)
 clear hF F
 try simp only [Act.put, zA, zB, zC]
 generalize W2.heap.size = gB at HO3 ⊢
 generalize W2.alloc _ = W3 at H3 HB3 HO3 hHeld ⊢
 refine wpAnyH_ready (rs := [15]) (by kernel_rfl) (by simp) ?_
 refine AllReadyH.cons (o := ⟨_, _, _, _, _, _⟩) rfl (fun F hF => ?_) AllReadyH.nil
 go_simp
 refine (or_any _ _ gB W3 HO3.out).mono ?_
 rintro e w2 ⟨rfl, hw⟩
 subst hw
 go_wp2_with fail
 refine hF.out _ _ H3.out (fun hHeld => ?_)
 clear hF F
 try simp only [Act.put, zA, zB, zC]
 refine tk 16 (v := ?_) ?_ ?_
 rotate_left 1
 ·intro W hSw
  skip
  clear hSw
  go_simp
  try with_reducible rfl
 try dsimp only [zS, zB, zC]
 refine wpAnyH_done (by kernel_rfl) ?_ _
 refine NoPanic.normal ?_
 go_wp2_with fail
 go_ret
 exact ⟨rfl, HB3.out⟩
def cmpB (a b : EntV) : Int := cmpI a.birth b.birth
theorem cmpI_neg (a b : Int) : cmpI a b < 0 ↔ a < b := by
 unfold cmpI
 split
 ·omega
 ·split <;> omega
theorem cmpI_zero (a b : Int) : cmpI a b = 0 ↔ a = b := by
 unfold cmpI
 split
 ·omega
 ·split <;> omega
theorem cmpB_neg (a b : EntV) : cmpB a b < 0 ↔ a.birth < b.birth := cmpI_neg _ _
theorem cmpD_neg (a b : EntV) : cmpD a b < 0 ↔ a.dl < b.dl ∨ (a.dl = b.dl ∧ a.birth < b.birth) := by
 unfold cmpD orI
 split
 ·rename_i h
  rw [cmpI_zero] at h
  rw [cmpI_neg]; omega
 ·rename_i h
  rw [cmpI_zero] at h
  rw [cmpI_neg]; omega
structure CmpIs (g : Nat) (cf : EntV → EntV → Int) : Prop where
 eg : ∀ args w, (callFunc g args).run Tryz.prog w = .ok (.enter g args) w
 run : ∀ (g1 g2 : Nat) (e1 e2 : EntV) (v1 v2 : Value) (u1 u2 c1 c2 : Int) (w : World), ItAt w g1 e1 v1 u1 c1 → ItAt w g2 e2 v2 u2 c2 →
  Calls Tryz.prog g #[.pointer (some ⟨g1, 0, none⟩), .pointer (some ⟨g2, 0, none⟩)] w fun e w' => e = .returned (.int .i64 (cf e1 e2)) ∧ Gr w w'
 irr : ∀ a, ¬ cf a a < 0
 tr : ∀ a b c, cf a b < 0 → cf b c < 0 → cf a c < 0
 nt : ∀ a b c, ¬ cf a b < 0 → ¬ cf b c < 0 → ¬ cf a c < 0
theorem cmpIs_birth : CmpIs 19 cmpB where
 eg := enters_of Tryz.func19 (by kernel_rfl) rfl
 run := fun g1 g2 e1 e2 v1 v2 u1 u2 c1 c2 w h1 h2 => (byBirth_any g1 g2 e1 e2 v1 v2 u1 u2 c1 c2 w h1 h2).mono fun e w' ⟨h, q, hq⟩ => ⟨h, hq ▸ (Gr.refl w).drewN q⟩
 irr := fun a => by rw [cmpB_neg]; omega
 tr := fun a b c => by rw [cmpB_neg, cmpB_neg, cmpB_neg]; omega
 nt := fun a b c => by rw [cmpB_neg, cmpB_neg, cmpB_neg]; omega
theorem cmpIs_deadline : CmpIs 69 cmpD where
 eg := enters_of Tryz.func69 (by kernel_rfl) rfl
 run := fun g1 g2 e1 e2 v1 v2 u1 u2 c1 c2 w h1 h2 => byDeadline_gr g1 g2 e1 e2 v1 v2 u1 u2 c1 c2 w h1 h2
 irr := fun a => by rw [cmpD_neg]; omega
 tr := fun a b c => by rw [cmpD_neg, cmpD_neg, cmpD_neg]; omega
 nt := fun a b c => by rw [cmpD_neg, cmpD_neg, cmpD_neg]; omega
def ptrI (b : Nat) : Value := .pointer (some ⟨b, 0, none⟩)
def RowT (w : World) (g : Nat) : Prop := ∃ cs, Blk w g 65 cs
theorem RowT.lt {w : World} {g : Nat} (h : RowT w g) : g < w.heap.size := by
 obtain ⟨cs, h⟩ := h
 exact h.lt
theorem RowT.below {w w' : World} {g : Nat} (h : RowT w g) (hb : Below w.heap.size w w') : RowT w' g := by
 obtain ⟨cs, h⟩ := h
 exact ⟨cs, h.below hb⟩
theorem RowT.set_ {w : World} {g : Nat} (h : RowT w g) (i : Nat) (v : Value) : RowT (w.setCell ⟨g, i, none⟩ v) g := by
 obtain ⟨cs, h⟩ := h
 exact ⟨_, h.set_ i v⟩
structure PRow (w : World) (B : Nat) (A : Option Addr) (n c : Nat) (bs : List Nat) : Prop where
 len : n = bs.length
 cap : n ≤ c
 small : n ≤ 1000000
 row : bs = [] ∨ ∃ g, A = some ⟨g, 0, none⟩ ∧ B ≤ g ∧ RowT w g ∧ ∀ i b, bs[i]? = some b → w.cell? ⟨g, i, none⟩ = some (ptrI b) ∧ w.frozen? ⟨g, i, none⟩ = false
theorem PRow.below {w w' : World} {B : Nat} {A : Option Addr} {n c : Nat} {bs : List Nat} (h : PRow w B A n c bs) (hb : Below w.heap.size w w') : PRow w' B A n c bs := by
 refine ⟨h.len, h.cap, h.small, ?_⟩
 rcases h.row with e | ⟨g, h1, h2, h3, h4⟩
 ·exact .inl e
 ·refine .inr ⟨g, h1, h2, h3.below hb, fun i b hi => ?_⟩
  obtain ⟨c1, c2⟩ := h4 i b hi
  exact ⟨(hb.cell (p := ⟨g, i, none⟩) h3.lt).trans c1, by rw [World.frozen?, hb.block g h3.lt]; exact c2⟩
end Go.Proofs.YtnabbimompapfaaGreat
namespace Go.Proofs.YtnabbimompapfaaGreat
open Go Go.RowKit Go.MapKept Go.Maps
section
variable {P : Program} {mt kt et : TypeId} {α β : Type} {kV : α → Value} {vV : β → Value} {zero : Value} {K : MapK P mt kt et α β kV vV zero}
variable {F : Fence} {n : Nat} (w : World) {ops : Array Oper} {rest : List Oper} {o : Oper} {a : Act} {Q : Exit → Act → World → Prop}
theorem wpList_mrange (hg : o.guard = none) (m : Operand) (hop : o.op = Op.range mt m) {b : Nat} {L : List (α × β)} (hm : a.eval m = .map (some b)) (h : MRep K w b L)
  (hK : ∀ w' ob, w' = w.alloc ob → ob.isWalk = true → MRange K w' b w.heap.size L L → wpList P ops Q rest (a.put o.dst (.pointer (some ⟨w.heap.size, 0, none⟩))) w') :
  wpList P ops Q (o :: rest) a w := by
 refine wpList_plain hg fun K' hK' => ?_
 obtain ⟨c, hrun, hr⟩ := h.range
 unfold Oper.wp
 simp [execOp, hop, hm, hrun, Result.andThen]
 exact hK' _ _ (hK _ _ rfl rfl hr)
theorem wpListIn_mrange (hg : o.guard = none) (m : Operand) (hop : o.op = Op.range mt m) {b : Nat} {L : List (α × β)} (hm : a.eval m = .map (some b)) (h : MRep K w b L)
  (hK : ∀ w' ob, w' = w.alloc ob → ob.isWalk = true → MRange K w' b w.heap.size L L → wpListIn F n P ops Q rest (a.put o.dst (.pointer (some ⟨w.heap.size, 0, none⟩))) w') :
  wpListIn F n P ops Q (o :: rest) a w := by
 refine wpListIn_plain hg fun K' hK' => ?_
 obtain ⟨c, hrun, hr⟩ := h.range
 unfold Oper.wpIn
 refine ⟨?_, ?_⟩
 ·simp [Oper.about, hop]
 ·rw [Oper.semAt_plain F _ _ (by rw [hop]; intro c hc'; cases hc')]
  simp [execOp, hop, hm, hrun, Result.andThen]
  exact hK' _ _ (hK _ _ rfl rfl hr)
theorem wpList_mnext (hg : o.guard = none) (it : Operand) (hop : o.op = Op.next it false) {b r : Nat} {L todo : List (α × β)} (hit : a.eval it = .pointer (some ⟨r, 0, none⟩)) (h : MRange K w b r L todo)
  (hDone : todo = [] → wpList P ops Q rest (a.put o.dst (.tuple #[.bool false])) w)
  (hMore : ∀ (i : Nat) (x : α × β) (w' : World), todo[i]? = some x → MRange K w' b r L (todo.eraseIdx i) → Below r w w' → Only (fun k => k = r) w w' → w'.heap.size = w.heap.size → (∃ ob, w.heap[r]? = some ob ∧ ob.isWalk = true) →
   (Instr.entry (.pointer (some ⟨r, 0, none⟩))).run P w' = .ok (.tuple #[kV x.1, vV x.2]) w' → wpList P ops Q rest (a.put o.dst (.tuple #[.bool true, kV x.1, vV x.2])) w') :
  wpList P ops Q (o :: rest) a w := by
 refine wpList_plain hg fun K' hK' => ?_
 unfold Oper.wp
 have hw : ∃ ob, w.heap[r]? = some ob ∧ ob.isWalk = true := by
  obtain ⟨_, _, _, _, _, _, _, hr, _⟩ := h
  exact ⟨_, hr, rfl⟩
 rcases h.next with ⟨h0, hrun⟩ | ⟨i, x, w', hi, hrun, hr, h1, h2, h3, h4, h5⟩
 ·simp [execOp, hop, hit, hrun, Result.andThen]
  exact hK' _ _ (hDone h0)
 ·simp [execOp, hop, hit, hrun, Result.andThen]
  exact hK' _ _ (hMore i x w' hi hr h1 h2 h4 hw h5)
theorem wpListIn_mnext (hg : o.guard = none) (it : Operand) (hop : o.op = Op.next it false) {b r : Nat} {L todo : List (α × β)} (hit : a.eval it = .pointer (some ⟨r, 0, none⟩)) (h : MRange K w b r L todo)
  (hDone : todo = [] → wpListIn F n P ops Q rest (a.put o.dst (.tuple #[.bool false])) w)
  (hMore : ∀ (i : Nat) (x : α × β) (w' : World), todo[i]? = some x → MRange K w' b r L (todo.eraseIdx i) → Below r w w' → Only (fun k => k = r) w w' → w'.heap.size = w.heap.size → (∃ ob, w.heap[r]? = some ob ∧ ob.isWalk = true) →
   (Instr.entry (.pointer (some ⟨r, 0, none⟩))).run P w' = .ok (.tuple #[kV x.1, vV x.2]) w' → wpListIn F n P ops Q rest (a.put o.dst (.tuple #[.bool true, kV x.1, vV x.2])) w') :
  wpListIn F n P ops Q (o :: rest) a w := by
 refine wpListIn_plain hg fun K' hK' => ?_
 unfold Oper.wpIn
 refine ⟨by simp [Oper.about, hop], ?_⟩
 rw [Oper.semAt_plain F _ _ (by rw [hop]; intro c hc'; cases hc')]
 have hw : ∃ ob, w.heap[r]? = some ob ∧ ob.isWalk = true := by
  obtain ⟨_, _, _, _, _, _, _, hr, _⟩ := h
  exact ⟨_, hr, rfl⟩
 rcases h.next with ⟨h0, hrun⟩ | ⟨i, x, w', hi, hrun, hr, h1, h2, h3, h4, h5⟩
 ·simp [execOp, hop, hit, hrun, Result.andThen]
  exact hK' _ _ (hDone h0)
 ·simp [execOp, hop, hit, hrun, Result.andThen]
  exact hK' _ _ (hMore i x w' hi hr h1 h2 h4 hw h5)
variable {w}
theorem MRange.walks {w' : World} {b r : Nat} {L todo : List (α × β)} (h : MRange K w b r L todo) (hk : KeepsWalks w w') : MRange K w' b r L todo := by
 obtain ⟨es, clock, since, seen, c0, h2, h3, h4, h5⟩ := h
 exact ⟨es, clock, since, seen, c0, hk.same b _ h2 rfl, h3, hk.same r _ h4 rfl, h5⟩
theorem MRange.only {w' : World} {S : Nat → Prop} {b r : Nat} {L todo : List (α × β)} (h : MRange K w b r L todo) (ho : Only S w w') (h1 : ¬ S b) (h2 : ¬ S r) : MRange K w' b r L todo := by
 have hl := h.lt
 obtain ⟨es, clock, since, seen, c0, h3, h4, h5, h6⟩ := h
 exact ⟨es, clock, since, seen, c0, (ho.block b hl.1 h1).trans h3, h4, (ho.block r hl.2 h2).trans h5, h6⟩
end
theorem perm_eraseIdx {α : Type} : ∀ (l : List α) (i : Nat) (x : α), l[i]? = some x → (x :: l.eraseIdx i).Perm l
 |[], _, _, h => by simp at h
 |y :: l, 0, x, h => by
  simp at h
  subst h
  exact List.Perm.refl _
 |y :: l, i + 1, x, h => by
  have h2 : l[i]? = some x := by simpa using h
  exact (List.Perm.swap y x _).trans ((perm_eraseIdx l i x h2).cons y)
theorem perm_next {α : Type} {pre todo L : List α} {i : Nat} {x : α} (h : (pre ++ todo).Perm L) (hi : todo[i]? = some x) : ((pre ++ [x]) ++ todo.eraseIdx i).Perm L := by
 refine List.Perm.trans ?_ h
 rw [List.append_assoc]
 refine List.Perm.append_left pre ?_
 exact perm_eraseIdx todo i x hi
theorem len_next {α : Type} {todo : List α} {i : Nat} {x : α} (hi : todo[i]? = some x) : (todo.eraseIdx i).length + 1 = todo.length := by
 obtain ⟨hlt, rfl⟩ := List.getElem?_eq_some_iff.1 hi
 rw [List.length_eraseIdx_of_lt hlt]; omega
end Go.Proofs.YtnabbimompapfaaGreat
namespace Go.Proofs.YtnabbimompapfaaGreat
open Go Go.RowKit Go.MapKept Go.Maps
section
attribute [local go_sem] Oper.semAt_some
set_option maxRecDepth 100000 in
set_option maxHeartbeats 1000000 in
theorem values1_in (n : Nat) (hn : 1 ≤ n) (l Bm gm : Nat) (L : List (ByteArray × Nat)) (J Jx : List (ByteArray × Nat) → World → Prop) (W : World)
  (hY : ∀ pre x W, J pre W → pre.length < L.length → YieldAt Fence.wide (n - 1) Tryz.prog l #[ptrI x.2] W fun e W' =>
   (e = .returned (.bool true) ∧ J (pre ++ [x]) W' ∧ KeepsWalks W W') ∨ (e = .returned (.bool false) ∧ Jx (pre ++ [x]) W'))
  (hJ : AbidesFrom W.heap.size J) (hm : W.cell? ⟨Bm, 0, none⟩ = some (.map (some gm))) (hrep : MRep KI W gm L) (h0 : J [] W) :
  CallsIn Fence.wide n Tryz.prog 61 #[.func (.yield l) #[] #[], .pointer (some ⟨Bm, 0, none⟩)] W fun e W' => (∃ v, e = .returned v) ∧
   ((∃ ys : List (ByteArray × Nat), ys.Perm L ∧ J ys W') ∨ (∃ pre : List (ByteArray × Nat), True ∧ Jx pre W')) := by
 refine callsIn_of_wp Tryz.func61 rfl trivial ?_ rfl
 simp only [Tryz.ntmps61, List.size_toArray, List.length_cons, List.length_nil, Nat.reduceAdd, Nat.reduceSub, Array.replicate_succ, Array.replicate_zero, List.push_toArray, List.append_toArray, List.nil_append, List.cons_append]
 have HY := zH hY
 have HJ := zH hJ
 have H0 := zH h0
 have HR := zH hrep
 clear hY hJ h0 hrep
 gi_wp2_with (first
  |(gi_at_range; refine wpListIn_mrange (K := KI) _ rfl _ rfl rfl HR.out ?_; intro w0 ob hw0 hob hrg0)
  |gi_in)
 have hs0 : W.heap.size ≤ w0.heap.size := by rw [hw0]; simp
 have hJ0 := zH (by rw [hw0]; exact HJ.out [] W _ none H0.out (World.grownBy_alloc W ob none) (fun r e => by cases e) : J [] w0)
 have Hrg0 := zH hrg0
 clear hw0 hob hrg0
 go_frame
 gi_loopw [4] (fun _ wr => ∃ (pre todo : List (ByteArray × Nat)), MRange KI wr gm W.heap.size L todo ∧ (pre ++ todo).Perm L ∧ J pre wr)
  (fun _ wr => wr.rangeLeft gm W.heap.size)
 case atStart => exact ⟨[], L, Hrg0.out, List.Perm.refl _, hJ0.out⟩
 case round =>
  obtain ⟨pre, todo, hrg, hp, hJs⟩ := hrel
  have HRg := zH hrg
  have HP := zH hp
  have HJs := zH hJs
  clear hrg hp hJs
  gi_wp2_with (first
   |(gi_at_next; refine wpListIn_mnext (K := KI) _ rfl _ rfl rfl HRg.out ?_ ?_)
   |gi_in)
  ·intro ht
   have HT := zH ht
   clear ht
   gi_wp2
   go_end0
   exact ⟨⟨_, rfl⟩, .inl ⟨pre, by have := HP.out; rw [HT.out, List.append_nil] at this; exact this, HJs.out⟩⟩
  ·intro i xk xb w2 hi hrg2 hb2 ho2 hs2 ob2 hob1 hob2 hen
   have hJ2 : J pre w2 := HJ.out pre wr w2 (some W.heap.size) HJs.out ⟨hb2.os, hb2.tape, hb2.output, hb2.size, fun k hk hne => ho2.block k hk (fun e => hne (by rw [e]))⟩ (fun r e => by cases e; exact ⟨zN _, ob2, hob1, hob2⟩)
   obtain ⟨fn, tmps, assign, body, hy, hR⟩ := HY.out pre (xk, xb) w2 hJ2 (by
    have h1 := HP.out.length_eq
    have h2 := len_next hi
    rw [List.length_append] at h1; omega)
   have HRr := zH hR
   have HRg2 := zH hrg2
   have HI := zH hi
   unfold ptrI at hy
   dsimp only at hy
   clear hR hrg2 hb2 ho2 hs2 hob1 hob2 hJ2 hi
   gi_wp2
   refine HRr.out.mono ?_
   rintro e W3 (⟨rfl, hJ3, hk3⟩ | ⟨rfl, hJx3⟩)
   ·have HJ3 := zH hJ3
    have HR3 := zH (HRg2.out.walks hk3)
    clear hJ3 hk3
    gi_wp2
    go_roundw
    case rel => exact ⟨pre ++ [(xk, xb)], todo.eraseIdx i, HR3.out, perm_next HP.out HI.out, HJ3.out⟩
    case measure =>
     have := len_next HI.out
     rw [HR3.out.left_eq, HRg.out.left_eq]; omega
   ·have HJx := zH hJx3
    clear hJx3
    gi_wp2
    refine bodyPost_ret (results_none rfl _ _ _) rfl ?_
    exact ⟨⟨_, rfl⟩, .inr ⟨_, trivial, HJx.out⟩⟩
theorem values_stops (n : Nat) (hn : 1 ≤ n) (Bm gm : Nat) (L : List (ByteArray × Nat)) (w : World) (hB : Bm < w.heap.size) (hm : w.cell? ⟨Bm, 0, none⟩ = some (.map (some gm))) (hrep : MRep KI w gm L) :
  SeqStopsK Fence.wide n Tryz.prog 61 #[.pointer (some ⟨Bm, 0, none⟩)] (fun x => #[ptrI x.2]) KeepsWalks (fun ys => ys.Perm L) (fun _ => True) L.length w := fun l J Jx W hW hJ _ hY h0 =>
 values1_in n hn l Bm gm L J Jx W hY hJ ((hW.cell (p := ⟨Bm, 0, none⟩) hB).trans hm) (hrep.below hW) h0
set_option maxHeartbeats 1000000 in
theorem values_in (n : Nat) (gm : Nat) (w : World) :
  CallsIn Fence.wide n Tryz.prog 37 #[.map (some gm)] w fun e w' =>
   e = .returned (.func (.func 61) #[] #[.pointer (some ⟨w.heap.size, 0, none⟩)]) ∧ w' = w.alloc (.cells #[.map (some gm)] 89) := by
 refine callsIn_of_wp Tryz.func37 rfl trivial ?_ rfl
 simp only [Tryz.ntmps37, List.size_toArray, List.length_cons, List.length_nil, Nat.reduceAdd, Nat.reduceSub, Array.replicate_succ, Array.replicate_zero, List.push_toArray, List.append_toArray, List.nil_append, List.cons_append]
 gi_wp2
 go_ret
 exact ⟨rfl, rfl⟩
theorem item_info : (Tryz.prog.info? 65).map (fun i => (i.zero, i.size, i.bytes)) = some (some (.pointer none), 1, 8) := by kernel_rfl
set_option maxRecDepth 100000 in
set_option maxHeartbeats 2000000 in
theorem appendSeq_in (n : Nat) (hn : 3 ≤ n) (Bm gm : Nat) (L : List (ByteArray × Nat)) (hlen : L.length ≤ 1000000) (w : World) (hB : Bm < w.heap.size) (hm : w.cell? ⟨Bm, 0, none⟩ = some (.map (some gm))) (hrep : MRep KI w gm L) :
  CallsIn Fence.wide n Tryz.prog 60 #[.slice none 0 0, .func (.func 61) #[] #[.pointer (some ⟨Bm, 0, none⟩)]] w fun e w' =>
   ∃ (v : Value) (ys : List (ByteArray × Nat)), e = .returned v ∧ ys.Perm L ∧ w'.ownsRow w.heap.size 65 1 v ys.length (ys.map fun x => ptrI x.2) ∧ Below w.heap.size w w' := by
 have h1 : 1 ≤ n := by omega
 obtain ⟨i0, hi, hz0, hz1, hz2⟩ := info_parts item_info
 refine callsIn_of_wp_marks Tryz.func60 rfl trivial ?_ rfl
 simp only [Tryz.ntmps60, List.size_toArray, List.length_cons, List.length_nil, Nat.reduceAdd, Nat.reduceSub, Array.replicate_succ, Array.replicate_zero, List.push_toArray, List.append_toArray, List.nil_append, List.cons_append]
 have HR := zH hrep
 have HM := zH hm
 clear hrep hm
 gi_wp2
 have bO := Boxed.new w 63 (.slice none 0 0)
 have hB0 : Below w.heap.size w (w.alloc (.cells #[.slice none 0 0] 63)) := (zL _ w).alloc (zN _) _
 refine wpIn_rangeFunc_ownG rfl h1 (gf := 61) (lb := #[.pointer (some ⟨Bm, 0, none⟩)]) rfl trivial (enters_of Tryz.func61 (by kernel_rfl) rfl)
  (values_stops (n - 1) (by omega) Bm gm L w hB HM.out HR.out) KeepsWalks.trans (fun W l o o' _ hl _ hw => KeepsWalks.putObj o' hl hw) hB0 (fun _ => rfl)
  (fun pre W => (∃ v, Boxed W w.heap.size 63 v ∧ W.ownsRow w.heap.size 65 1 v pre.length (pre.map fun x => ptrI x.2) ∧ True) ∧ Below w.heap.size w W)
  (fun _ _ _ => False)
  (OwnFrom.and (Own.from (holdsRow_own w.heap.size w.heap.size 63 65 1 (fun pre : List (ByteArray × Nat) => pre.length) (fun pre => pre.map fun x => ptrI x.2) (fun _ _ => True)) _) (ownFrom_below (zN _) (by simp)))
  (fun _ _ _ _ _ hs _ _ => hs)
  ⟨⟨_, bO, World.ownsRow_nil _ _ _ _, trivial⟩, hB0⟩
  (fun x => { tmps := #[.slice none 0 0, .func (.func 61) #[] #[.pointer (some ⟨Bm, 0, none⟩)], .pointer (some ⟨w.heap.size, 0, none⟩), undef, .slice none 0 0, ptrI x.2, .func (.func 61) #[] #[.pointer (some ⟨Bm, 0, none⟩)], ptrI x.2, undef, undef, undef, undef, undef], defers := [] }) ?assign ?body ?done ?stop
 case assign =>
  intro l x W K hK
  unfold ptrI at *
  gi_wp2
  exact hK
 case body =>
  rintro l pre x W ⟨⟨v, hv, hrow, -⟩, hBe⟩ hlt
  have hc := hv.cell
  have hmx : (1000000 : Nat) ≤ maxLen := by decide
  unfold ptrI at *
  gi_wp2_with (gi_at_builtin; refine wpListIn_append_own _ rfl _ _ 63 rfl w.heap.size 65 i0 (.pointer none) 1 8 Tryz.underlying63 hi hz0 hz1 hz2 rfl (by decide) _ _ _ rfl (hrow.alloc _) ⟨W.heap.size, 0, none⟩ 1 1 [.pointer (some ⟨x.2, 0, none⟩)] rfl rfl (cell_one_new _ _ _) (by simp [Value.oneCell']) (by omega) (by omega) (by have := hBe.size; simp; omega) ?_; intro v' w1 hown' hgrow _; obtain ⟨g', cap', rfl⟩ := ownsRow_succ hown'; obtain ⟨hv1, hv2, hr2, hk2, hb2⟩ := hv.appended (by decide) hrow hBe.size (zN _) hown' hgrow; have hc1 := hv1.cell; have hf1 := hv1.frozen)
  exact ⟨hk2.from _, hk2.walks, ⟨⟨_, hv2, by simpa using hr2, trivial⟩, hBe.trans hb2⟩⟩
 case done =>
  rintro D ys W hD hS ⟨⟨v, hv, hrow, -⟩, hBe⟩ hK
  have hc := hv.cell
  have HRow := zH hrow
  have HS := zH hS
  clear hrow hS
  gi_wp2
  refine ⟨by simp, .inl ⟨_, _, rfl, run_takeDeferred hK, ?_⟩⟩
  exact ⟨_, results_tmp rfl _ _ _, v, ys, rfl, HS.out, ownsRow_putObj HRow.out _ hK rfl, hBe.trans (belowK_b (w := w) (zN _) W D _ _ (by simp at hD; omega) hK rfl rfl)⟩
 case stop =>
  rintro D c pre W _ _ h _
  exact h.elim
set_option maxHeartbeats 1000000 in
theorem collect_any (Bm gm : Nat) (L : List (ByteArray × Nat)) (hlen : L.length ≤ 1000000) (w : World) (hB : Bm < w.heap.size) (hm : w.cell? ⟨Bm, 0, none⟩ = some (.map (some gm))) (hrep : MRep KI w gm L) :
  Calls Tryz.prog 36 #[.func (.func 61) #[] #[.pointer (some ⟨Bm, 0, none⟩)]] w fun e w' =>
   ∃ (v : Value) (ys : List (ByteArray × Nat)), e = .returned v ∧ ys.Perm L ∧ w'.ownsRow w.heap.size 65 1 v ys.length (ys.map fun x => ptrI x.2) ∧ Below w.heap.size w w' := by
 have HC := zH ((callsIn_wide (n := 9)).1 (appendSeq_in 9 (by omega) Bm gm L hlen w hB hm hrep))
 clear hm hrep
 go_enter Tryz.func36, Tryz.ntmps36
 go_wp2_with fail
 refine HC.out.mono ?_
 rintro e w1 ⟨v, ys, rfl, h1, h2, h3⟩
 go_wp2_with fail
 go_ret
 exact ⟨v, ys, rfl, h1, h2, h3⟩
end
end Go.Proofs.YtnabbimompapfaaGreat
