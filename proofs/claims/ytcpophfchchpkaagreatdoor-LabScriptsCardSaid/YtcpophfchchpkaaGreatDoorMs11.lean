/- LsA, MapG, Clone, LsB, Phase, Take -/
import Derived.Test.YtcpophfchchpkaaGreatDoorMs10
import Derived.Test.YtcpophfchchpkaaGreatDoorProg
import Derived.Lib.Hide
import Derived.BigQuiet
import Derived.Deep.QuietTactic
import Derived.RegionTactic
import Derived.Maps.RangeWalk
import Derived.DeepKeys4
import Derived.Carry
import Derived.StringKeys
import Derived.Deep.RegionLaw
import Derived.Deep.RegionHeld3
import Derived.StillTail
namespace Go.Proofs.YtcpophfchchpkaaGreatDoor
open Go Go.RowKit
/-- A byte of a string. -/
def sb (s : ByteArray) (i : Nat) : Int := if h : i < s.size then ((s[i]'h).toNat : Int) else 0
theorem sb_run {s : ByteArray} {i : Nat} (h : i < s.size) (t : TypeId) (ht : Tryz.prog.underlying t = some .string) (w : World) : (Instr.index t (.string s) (.int .i64 (i : Int))).run Tryz.prog w = .ok (.int .u8 (sb s i)) w := by
  rw [run_index_string w t s .i64 i ht, dif_pos (by omega)]
  simp [sb, h]
def letB (c : Int) : Bool := decide (97 ≤ c ∧ c ≤ 122) || decide (65 ≤ c ∧ c ≤ 90)
def okC (i : Nat) (c : Int) : Bool := letB c || (decide (i ≠ 0) && (decide (c = 45) || decide (c = 95) || decide (48 ≤ c ∧ c ≤ 57)))
def nameOk (s : ByteArray) : Bool := (List.range s.size).all (fun i => okC i (sb s i)) && decide (1 ≤ s.size ∧ s.size ≤ 32)
theorem nameOk_bad {s : ByteArray} {i : Nat} (h : i < s.size) (hc : okC i (sb s i) = false) : nameOk s = false := by
  unfold nameOk
  have : (List.range s.size).all (fun i => okC i (sb s i)) = false := by
    rw [List.all_eq_false]
    exact ⟨i, List.mem_range.2 h, by simp [hc]⟩
  rw [this]; rfl
theorem nameOk_end {s : ByteArray} (h : ∀ i, i < s.size → okC i (sb s i) = true) : nameOk s = decide (1 ≤ s.size ∧ s.size ≤ 32) := by
  unfold nameOk
  have : (List.range s.size).all (fun i => okC i (sb s i)) = true := by
    rw [List.all_eq_true]
    exact fun i hi => h i (List.mem_range.1 hi)
  rw [this]; rfl
set_option maxHeartbeats 2000000 in
theorem validName_any (s : ByteArray) (w : World) (hs : s.size ≤ maxLen) : Calls Tryz.prog 23 #[.string s] w fun e w' => e = .returned (.bool (nameOk s)) ∧ w' = w := by
  unfold maxLen at hs
  go_enter Tryz.func23, Tryz.ntmps23
  go_wp2_with fail
  go_loopw [3, 4, 5, 8] (fun _ _ _ i wr => ∃ k : Nat, k ≤ s.size ∧ i = .int .i64 k ∧ wr = w ∧ ∀ j, j < k → okC j (sb s j) = true) (fun _ _ _ i _ => s.size - (intOf i).toNat)
  case atStart => exact ⟨0, Nat.zero_le _, rfl, rfl, fun j hj => absurd hj (Nat.not_lt_zero _)⟩
  case round =>
    obtain ⟨k, hk, rfl, rfl, hno⟩ := hrel
    have HNo := Lib.hid hno
    clear hno
    by_cases hlt : k < s.size
    · have hltz : (k : Int) < (s.size : Int) := by omega
      have hc : sb s k = ((s[k]'hlt).toNat : Int) := by simp [sb, hlt]
      have HC := Lib.hid hc
      clear hc
      by_cases h1 : 97 ≤ ((s[k]'hlt).toNat : Int)
      · by_cases h2 : ((s[k]'hlt).toNat : Int) ≤ 122
        · have HOk : Hid (okC k (sb s k) = true) := Lib.hid (by rw [HC.out]; unfold okC letB; simp; omega)
          go_wp2_with fail
          go_roundw
          case rel =>
            refine ⟨k + 1, by omega, by go_num, by first | rfl | trivial, fun j hj => ?_⟩
            by_cases e : j = k
            · subst e; exact HOk.out
            · exact HNo.out j (by omega)
          case measure => simp [intOf]; omega
        · have h3 : ¬ ((s[k]'hlt).toNat : Int) ≤ 90 := by omega
          have h4 : 65 ≤ ((s[k]'hlt).toNat : Int) := by omega
          by_cases h0 : k = 0
          · subst h0
            have HOk : Hid (nameOk s = false) := Lib.hid (nameOk_bad hlt (by rw [HC.out]; unfold okC letB; simp; omega))
            go_wp2_with fail
            go_ret
            exact ⟨by rw [HOk.out]; rfl, rfl⟩
          · have g0 : ¬ (k : Int) = 0 := by omega
            have g1' : (((s[k]'hlt).toNat : Int) != 45) = true := by simp; omega
            have g2' : (((s[k]'hlt).toNat : Int) != 95) = true := by simp; omega
            have g3 : ¬ ((s[k]'hlt).toNat : Int) < 48 := by omega
            have g4 : ((s[k]'hlt).toNat : Int) > 57 := by omega
            have HOk : Hid (nameOk s = false) := Lib.hid (nameOk_bad hlt (by rw [HC.out]; unfold okC letB; simp; omega))
            go_wp2_with fail
            go_ret
            exact ⟨by rw [HOk.out]; rfl, rfl⟩
      · by_cases h3 : 65 ≤ ((s[k]'hlt).toNat : Int)
        · by_cases h4 : ((s[k]'hlt).toNat : Int) ≤ 90
          · have HOk : Hid (okC k (sb s k) = true) := Lib.hid (by rw [HC.out]; unfold okC letB; simp; omega)
            go_wp2_with fail
            go_roundw
            case rel =>
              refine ⟨k + 1, by omega, by go_num, by first | rfl | trivial, fun j hj => ?_⟩
              by_cases e : j = k
              · subst e; exact HOk.out
              · exact HNo.out j (by omega)
            case measure => simp [intOf]; omega
          · by_cases h0 : k = 0
            · subst h0
              have HOk : Hid (nameOk s = false) := Lib.hid (nameOk_bad hlt (by rw [HC.out]; unfold okC letB; simp; omega))
              go_wp2_with fail
              go_ret
              exact ⟨by rw [HOk.out]; rfl, rfl⟩
            · have g0 : ¬ (k : Int) = 0 := by omega
              have g1' : (((s[k]'hlt).toNat : Int) != 45) = true := by simp; omega
              have g3 : ¬ ((s[k]'hlt).toNat : Int) < 48 := by omega
              have g4 : ((s[k]'hlt).toNat : Int) > 57 := by omega
              by_cases g2 : ((s[k]'hlt).toNat : Int) = 95
              · have g2' : (((s[k]'hlt).toNat : Int) != 95) = false := by simp [g2]
                have G1 := Lib.hid g2
                clear g2
                have HOk : Hid (okC k (sb s k) = true) := Lib.hid (by rw [HC.out]; unfold okC letB; rw [G1.out]; simp [h0])
                go_wp2_with fail
                go_roundw
                case rel =>
                  refine ⟨k + 1, by omega, by go_num, by first | rfl | trivial, fun j hj => ?_⟩
                  by_cases e : j = k
                  · subst e; exact HOk.out
                  · exact HNo.out j (by omega)
                case measure => simp [intOf]; omega
              · have g2' : (((s[k]'hlt).toNat : Int) != 95) = true := by simp; omega
                have HOk : Hid (nameOk s = false) := Lib.hid (nameOk_bad hlt (by rw [HC.out]; unfold okC letB; simp; omega))
                go_wp2_with fail
                go_ret
                exact ⟨by rw [HOk.out]; rfl, rfl⟩
        · by_cases h0 : k = 0
          · subst h0
            have HOk : Hid (nameOk s = false) := Lib.hid (nameOk_bad hlt (by rw [HC.out]; unfold okC letB; simp; omega))
            go_wp2_with fail
            go_ret
            exact ⟨by rw [HOk.out]; rfl, rfl⟩
          · have g0 : ¬ (k : Int) = 0 := by omega
            have g2' : (((s[k]'hlt).toNat : Int) != 95) = true := by simp; omega
            by_cases g1 : ((s[k]'hlt).toNat : Int) = 45
            · have g1' : (((s[k]'hlt).toNat : Int) != 45) = false := by simp [g1]
              have G1 := Lib.hid g1
              clear g1
              have HOk : Hid (okC k (sb s k) = true) := Lib.hid (by rw [HC.out]; unfold okC letB; rw [G1.out]; simp [h0])
              go_wp2_with fail
              go_roundw
              case rel =>
                refine ⟨k + 1, by omega, by go_num, by first | rfl | trivial, fun j hj => ?_⟩
                by_cases e : j = k
                · subst e; exact HOk.out
                · exact HNo.out j (by omega)
              case measure => simp [intOf]; omega
            · have g1' : (((s[k]'hlt).toNat : Int) != 45) = true := by simp; omega
              by_cases g3 : ((s[k]'hlt).toNat : Int) < 48
              · have HOk : Hid (nameOk s = false) := Lib.hid (nameOk_bad hlt (by rw [HC.out]; unfold okC letB; simp; omega))
                go_wp2_with fail
                go_ret
                exact ⟨by rw [HOk.out]; rfl, rfl⟩
              · by_cases g4 : ((s[k]'hlt).toNat : Int) > 57
                · have HOk : Hid (nameOk s = false) := Lib.hid (nameOk_bad hlt (by rw [HC.out]; unfold okC letB; simp; omega))
                  go_wp2_with fail
                  go_ret
                  exact ⟨by rw [HOk.out]; rfl, rfl⟩
                · have HOk : Hid (okC k (sb s k) = true) := Lib.hid (by rw [HC.out]; unfold okC letB; simp; omega)
                  go_wp2_with fail
                  go_roundw
                  case rel =>
                    refine ⟨k + 1, by omega, by go_num, by first | rfl | trivial, fun j hj => ?_⟩
                    by_cases e : j = k
                    · subst e; exact HOk.out
                    · exact HNo.out j (by omega)
                  case measure => simp [intOf]; omega
    · obtain rfl : k = s.size := by omega
      have HE := Lib.hid (nameOk_end HNo.out)
      by_cases h1 : 1 ≤ s.size
      · have h1' : (1 : Int) ≤ s.size := by omega
        by_cases h2 : s.size ≤ 32
        · have h2' : (s.size : Int) ≤ 32 := by omega
          have HR : Hid (nameOk s = true) := Lib.hid (by rw [HE.out]; simp; omega)
          go_wp2_with fail
          go_ret
          exact ⟨by rw [HR.out]; rfl, rfl⟩
        · have h2' : ¬ (s.size : Int) ≤ 32 := by omega
          have HR : Hid (nameOk s = false) := Lib.hid (by rw [HE.out]; simp; omega)
          go_wp2_with fail
          go_ret
          exact ⟨by rw [HR.out]; rfl, rfl⟩
      · have h1' : ¬ (1 : Int) ≤ s.size := by omega
        have HR : Hid (nameOk s = false) := Lib.hid (by rw [HE.out]; simp; omega)
        go_wp2_with fail
        go_ret
        exact ⟨by rw [HR.out]; rfl, rfl⟩
end Go.Proofs.YtcpophfchchpkaaGreatDoor
namespace Go.Proofs.YtcpophfchchpkaaGreatDoor
open Go Go.RowKit Go.MapKept Go.Maps
open Go.ChangeMaps (setBlock heap_setBlock_same heap_setBlock_other modify_eq_set)
/-- What is known of a map's types: how keys and values look. -/
structure MapK (P : Program) (mt kt et : TypeId) (α β : Type) (kV : α → Value) (vV : β → Value) (zero : Value) where
  und : P.underlying mt = some (.map kt et)
  keyed : Keyed P kt
  inj : ∀ a b, kV a = kV b → a = b
  wf : α → Prop
  key : ∀ a, wf a → ∃ l, keyOf P kt (kV a) = some l
  zero : ∀ w, (zeroValue et).run P w = .ok zero w
  same : ∀ a, Instr.sameBits 10000 (kV a) (kV a) = true
section
variable {α β : Type} [DecidableEq α]
def mget (L : List (α × β)) (k : α) : Option β := (L.find? fun x => decide (x.1 = k)).map Prod.snd
def mdel (L : List (α × β)) (k : α) : List (α × β) := L.filter fun x => decide (x.1 ≠ k)
theorem mget_some {L : List (α × β)} {k : α} {bs : β} (h : mget L k = some bs) : (k, bs) ∈ L := by
  unfold mget at h
  cases hf : L.find? fun x => decide (x.1 = k) with
  | none => rw [hf] at h; cases h
  | some x =>
    rw [hf] at h
    simp at h
    have h1 := List.mem_of_find?_eq_some hf
    have h2 := List.find?_some hf
    simp at h2
    rw [← h, ← h2]
    exact h1
theorem mget_none {L : List (α × β)} {k : α} (h : mget L k = none) : ∀ x ∈ L, x.1 ≠ k := fun x hx e => by
  unfold mget at h
  rw [Option.map_eq_none_iff, List.find?_eq_none] at h
  exact h x hx (by simp [e])
theorem mget_mem {L : List (α × β)} (hn : (L.map Prod.fst).Nodup) {k : α} {bs : β} (h : (k, bs) ∈ L) : mget L k = some bs := by
  cases hg : mget L k with
  | none => exact absurd rfl (mget_none hg _ h)
  | some cs =>
    have h2 := mget_some hg
    have : ∀ {L : List (α × β)}, (L.map Prod.fst).Nodup → (k, bs) ∈ L → (k, cs) ∈ L → cs = bs := by
      intro L
      induction L with
      | nil => intro _ h; cases h
      | cons x L ih =>
        intro hn h1 h2
        rw [List.map_cons, List.nodup_cons] at hn
        rcases List.mem_cons.1 h1 with h1 | h1 <;> rcases List.mem_cons.1 h2 with h2 | h2
        · rw [← h1] at h2; injection h2
        · exact absurd (List.mem_map.2 ⟨(k, cs), h2, by rw [← h1]⟩) hn.1
        · exact absurd (List.mem_map.2 ⟨(k, bs), h1, by rw [← h2]⟩) hn.1
        · exact ih hn.2 h1 h2
    rw [this hn h h2]
theorem mdel_other {L : List (α × β)} {k : α} (h : ∀ x ∈ L, x.1 ≠ k) : mdel L k = L := List.filter_eq_self.2 (fun x hx => by simpa using h x hx)
theorem mem_mdel {L : List (α × β)} {k : α} {x : α × β} : x ∈ mdel L k ↔ x ∈ L ∧ x.1 ≠ k := by simp [mdel]
end
/-- Block b is the map with these entries, in this order. -/
structure MEnts {P : Program} {mt kt et : TypeId} {α β : Type} {kV : α → Value} {vV : β → Value} {zero : Value} (K : MapK P mt kt et α β kV vV zero) (es : Array MapEntry) (clock : Nat) (L : List (α × β)) : Prop where
  st : Stamped es clock
  is : es.toList.map (fun e => (e.key, e.val)) = L.map fun x => (kV x.1, vV x.2)
  wf : ∀ x ∈ L, K.wf x.1
def MRep {P : Program} {mt kt et : TypeId} {α β : Type} {kV : α → Value} {vV : β → Value} {zero : Value} (K : MapK P mt kt et α β kV vV zero) (w : World) (b : Nat) (L : List (α × β)) : Prop := ∃ es clock, w.heap[b]? = some (.map es clock) ∧ MEnts K es clock L
section
variable {P : Program} {mt kt et : TypeId} {α β : Type} {kV : α → Value} {vV : β → Value} {zero : Value} {K : MapK P mt kt et α β kV vV zero} {w w' : World} {b : Nat} {L : List (α × β)}
theorem MEnts.len {es : Array MapEntry} {clock : Nat} (h : MEnts K es clock L) : es.size = L.length := by
  have := congrArg List.length h.is
  simpa using this
theorem MEnts.at_ {es : Array MapEntry} {clock : Nat} (h : MEnts K es clock L) {i : Nat} {e : MapEntry} (he : es.toList[i]? = some e) : ∃ x, L[i]? = some x ∧ e.key = kV x.1 ∧ e.val = vV x.2 := by
  have := congrArg (fun l => l[i]?) h.is
  simp only [List.getElem?_map, he, Option.map_some] at this
  cases hx : L[i]? with
  | none => rw [hx] at this; cases this
  | some x =>
    rw [hx] at this
    simp only [Option.map_some, Option.some.injEq, Prod.mk.injEq] at this
    exact ⟨x, rfl, this.1, this.2⟩
theorem MEnts.mem {es : Array MapEntry} {clock : Nat} (h : MEnts K es clock L) {e : MapEntry} (he : e ∈ es.toList) : ∃ x ∈ L, e.key = kV x.1 ∧ e.val = vV x.2 := by
  obtain ⟨i, hi⟩ := List.getElem?_of_mem he
  obtain ⟨x, hx, h1, h2⟩ := h.at_ hi
  exact ⟨x, List.mem_of_getElem? hx, h1, h2⟩
theorem MEnts.keys {es : Array MapEntry} {clock : Nat} (h : MEnts K es clock L) : ∀ e ∈ es.toList, ∃ l, keyOf P kt e.key = some l := fun e he => by
  obtain ⟨x, hx, h1, _⟩ := h.mem he
  rw [h1]
  exact K.key _ (h.wf x hx)
theorem MEnts.nodup {es : Array MapEntry} {clock : Nat} (h : MEnts K es clock L) : (L.map Prod.fst).Nodup := by
  have h1 := h.st.2.2
  have h2 : es.toList.map (·.key) = L.map fun x => kV x.1 := by
    have := congrArg (List.map Prod.fst) h.is
    simpa [Function.comp_def] using this
  rw [h2] at h1
  unfold List.Nodup at h1 ⊢
  rw [List.pairwise_map] at h1 ⊢
  exact h1.imp (fun {a b} hne e => hne (by rw [e]))
theorem MRep.lt (h : MRep K w b L) : b < w.heap.size := by
  obtain ⟨es, clock, hb, _⟩ := h
  exact lt_of_heap hb
theorem MRep.nodup (h : MRep K w b L) : (L.map Prod.fst).Nodup := by
  obtain ⟨es, clock, _, h⟩ := h
  exact h.nodup
theorem MRep.block (h : MRep K w b L) (e : w'.heap[b]? = w.heap[b]?) : MRep K w' b L := by
  obtain ⟨es, clock, hb, h⟩ := h
  exact ⟨es, clock, e.trans hb, h⟩
theorem MRep.below (h : MRep K w b L) (hb : Below w.heap.size w w') : MRep K w' b L := h.block (hb.block b h.lt)
theorem MRep.alloc (h : MRep K w b L) (o : Obj) : MRep K (w.alloc o) b L := h.below ((Below.refl _ _).alloc (Nat.le_refl _) o)
theorem MRep.made (w : World) : MRep K (w.alloc (.map #[] 0)) w.heap.size [] := ⟨#[], 0, heap_alloc_new w _, ⟨stamped_empty 0, rfl, fun x hx => by cases hx⟩⟩
theorem find_list [DecidableEq α] {es : Array MapEntry} {clock : Nat} (h : MEnts K es clock L) {k : α} (hk : K.wf k) (w : World) :
    ((Instr.findKey kt (kV k) es.toList).run P w = .ok none w ∧ mget L k = none) ∨
    ∃ j e bs, (Instr.findKey kt (kV k) es.toList).run P w = .ok (some (j, vV bs)) w ∧ es.toList[j]? = some e ∧ L[j]? = some (k, bs) ∧ mget L k = some bs := by
  obtain ⟨l, hl⟩ := K.key _ hk
  rcases K.keyed.find w hl es.toList h.keys with ⟨h1, h2⟩ | ⟨j, e, h1, h2, h3⟩
  · refine .inl ⟨h1, ?_⟩
    cases hg : mget L k with
    | none => rfl
    | some bs =>
      obtain ⟨i, hi⟩ := List.getElem?_of_mem (mget_some hg)
      obtain ⟨hil, _⟩ := List.getElem?_eq_some_iff.1 hi
      obtain ⟨e, he⟩ : ∃ e, es.toList[i]? = some e := ⟨_, List.getElem?_eq_getElem (by rw [Array.length_toList, h.len]; exact hil)⟩
      obtain ⟨x, hx, hxk, _⟩ := h.at_ he
      rw [hi] at hx
      obtain rfl := Option.some.inj hx
      exact absurd hxk (h2 e (List.mem_of_getElem? he))
  · obtain ⟨x, hx, hxk, hxv⟩ := h.at_ h2
    have hkx : x.1 = k := K.inj _ _ (hxk.symm.trans h3)
    refine .inr ⟨j, e, x.2, by rw [← hxv]; exact h1, h2, by rw [hx, ← hkx], ?_⟩
    exact mget_mem h.nodup (by rw [← hkx]; exact List.mem_of_getElem? hx)
/-- 'v, ok := m[k]'. -/
theorem MRep.look [DecidableEq α] (h : MRep K w b L) {k : α} (hk : K.wf k) :
    (Instr.lookup mt (.map (some b)) (kV k) true).run P w = .ok (.tuple #[((mget L k).map vV).getD zero, .bool (mget L k).isSome]) w := by
  obtain ⟨es, clock, hb, h⟩ := h
  obtain ⟨l, hl⟩ := K.key _ hk
  rcases find_list h hk w with ⟨h1, h2⟩ | ⟨j, e, bs, h1, _, _, h2⟩
  · rw [h2]
    simp [Instr.lookup, run_underlying K.und, MapKept.run_getObj_map hb, K.keyed.check w _ hl, h1, K.zero, Result.andThen]
  · rw [h2]
    simp [Instr.lookup, run_underlying K.und, MapKept.run_getObj_map hb, K.keyed.check w _ hl, h1, Result.andThen]
/-- 'm[k]'. -/
theorem MRep.look1 [DecidableEq α] (h : MRep K w b L) {k : α} (hk : K.wf k) :
    (Instr.lookup mt (.map (some b)) (kV k) false).run P w = .ok (((mget L k).map vV).getD zero) w := by
  obtain ⟨es, clock, hb, h⟩ := h
  obtain ⟨l, hl⟩ := K.key _ hk
  rcases find_list h hk w with ⟨h1, h2⟩ | ⟨j, e, bs, h1, _, _, h2⟩
  · rw [h2]
    simp [Instr.lookup, run_underlying K.und, MapKept.run_getObj_map hb, K.keyed.check w _ hl, h1, K.zero, Result.andThen]
  · rw [h2]
    simp [Instr.lookup, run_underlying K.und, MapKept.run_getObj_map hb, K.keyed.check w _ hl, h1, Result.andThen]
/-- Only the map's block has turned. -/
def Turned (w w' : World) (b : Nat) : Prop := ∃ es clock es' clock', w.heap[b]? = some (.map es clock) ∧ w' = setBlock w b (.map es' clock')
theorem Turned.only (h : Turned w w' b) : Only (fun k => k = b) w w' := by
  obtain ⟨es, clock, es', clock', hb, rfl⟩ := h
  exact ⟨rfl, rfl, rfl, by simp [setBlock], fun k _ hn => heap_setBlock_other hb _ hn⟩
theorem Turned.was (h : Turned w w' b) : ∃ es clock, w.heap[b]? = some (.map es clock) := by
  obtain ⟨es, clock, _, _, hb, _⟩ := h
  exact ⟨es, clock, hb⟩
/-- 'm[k] = v' at a key that is not there. -/
theorem MRep.put [DecidableEq α] (h : MRep K w b L) {k : α} (hk : K.wf k) (hn : mget L k = none) (bs : β) :
    ∃ w', (Instr.mapUpdate mt (.map (some b)) (kV k) (vV bs)).run P w = .ok () w' ∧ MRep K w' b (L ++ [(k, bs)]) ∧ Turned w w' b := by
  obtain ⟨es, clock, hb, h⟩ := h
  obtain ⟨l, hl⟩ := K.key _ hk
  rcases find_list h hk w with ⟨h1, h2⟩ | ⟨j, e, bs', h1, _, _, h2⟩
  · have hnk : ∀ x ∈ es.toList, x.key ≠ kV k := fun x hx e => by
      obtain ⟨y, hy, hyk, _⟩ := h.mem hx
      exact mget_none h2 y hy (K.inj _ _ (hyk.symm.trans e))
    refine ⟨setBlock w b (.map (es.push ⟨kV k, vV bs, clock⟩) (clock + 1)), ?_, ⟨_, _, heap_setBlock_same hb _, ⟨stamped_push h.st hnk, ?_, fun x hx => ?_⟩⟩, ⟨es, clock, _, _, hb, rfl⟩⟩
    · simp [Instr.mapUpdate, run_underlying K.und, MapKept.run_getObj_map hb, K.keyed.check w false hl, h1, MapKept.run_setObj_map _ hb, Result.andThen, setBlock]
    · rw [Array.toList_push, List.map_append, h.is, List.map_append]; rfl
    · rw [List.mem_append, List.mem_singleton] at hx
      rcases hx with hx | rfl
      · exact h.wf x hx
      · exact hk
  · rw [hn] at h2; cases h2
/-- 'm[k] = v' at a key that is there. -/
theorem MRep.over [DecidableEq α] (h : MRep K w b L) {k : α} (hk : K.wf k) {v0 : β} (hn : mget L k = some v0) (v : β) :
    ∃ w', (Instr.mapUpdate mt (.map (some b)) (kV k) (vV v)).run P w = .ok () w' ∧ MRep K w' b (L.map fun x => if x.1 = k then (k, v) else x) ∧ Turned w w' b := by
  obtain ⟨es, clock, hb, h⟩ := h
  obtain ⟨l, hl⟩ := K.key _ hk
  rcases find_list h hk w with ⟨h1, h2⟩ | ⟨j, e, bs', h1, he, hj, h2⟩
  · rw [hn] at h2; cases h2
  · obtain ⟨x, hx, hxk, _⟩ := h.at_ he
    rw [hj] at hx
    obtain rfl := Option.some.inj hx
    have he2 : es[j]? = some e := by simpa using he
    have hst : (Instr.keyThatStays (kV k) (kV k)).run P w = .ok (kV k) w := by simp [Instr.keyThatStays, K.same]
    have hnd := h.nodup
    refine ⟨setBlock w b (.map (es.modify j fun e => { e with key := kV k, val := vV v }) clock), ?_, ⟨_, _, heap_setBlock_same hb _, ⟨stamped_modify h.st j _ (fun _ _ => rfl) (fun e' _ he' => by rw [he2] at he'; obtain rfl := Option.some.inj he'; exact hxk.symm), ?_, fun y hy => ?_⟩⟩, ⟨es, clock, _, _, hb, rfl⟩⟩
    · simp [Instr.mapUpdate, run_underlying K.und, MapKept.run_getObj_map hb, K.keyed.check w false hl, h1, he2, hxk, hst, MapKept.run_setObj_map _ hb, Result.andThen, setBlock]
    · apply List.ext_getElem?
      intro i
      simp only [List.getElem?_map, Array.getElem?_toList, Array.getElem?_modify]
      have hi := congrArg (fun l => l[i]?) h.is
      simp only [List.getElem?_map, Array.getElem?_toList] at hi
      by_cases hij : j = i
      · subst hij
        rw [if_pos rfl, he2, hj]
        simp
      · rw [if_neg hij, hi]
        cases hL : L[i]? with
        | none => rfl
        | some y =>
          have hne : y.1 ≠ k := fun e3 => by
            obtain ⟨hjl, hj2⟩ := List.getElem?_eq_some_iff.1 hj
            obtain ⟨hil, hi2⟩ := List.getElem?_eq_some_iff.1 hL
            have := (List.getElem?_inj (l := L.map Prod.fst) (i := j) (j := i) (by simpa using hjl) hnd).1 (by rw [List.getElem?_map, List.getElem?_map, hj, hL]; simp [e3])
            exact hij this
          simp [hne]
    · obtain ⟨z, hz, rfl⟩ := List.mem_map.1 hy
      split
      · exact hk
      · exact h.wf z hz
theorem mdel_at [DecidableEq α] {L : List (α × β)} {i : Nat} {k : α} {bs : β} (hn : (L.map Prod.fst).Nodup) (h : L[i]? = some (k, bs)) : L.eraseIdx i = mdel L k := by
  induction L generalizing i with
  | nil => simp at h
  | cons x L ih =>
    rw [List.map_cons, List.nodup_cons] at hn
    cases i with
    | zero =>
      simp at h
      subst h
      have : mdel ((k, bs) :: L) k = mdel L k := by simp [mdel]
      rw [this, mdel_other (fun y hy e => hn.1 (List.mem_map.2 ⟨y, hy, e⟩))]
      rfl
    | succ i =>
      have h' : L[i]? = some (k, bs) := by simpa using h
      have hx : x.1 ≠ k := fun e => hn.1 (List.mem_map.2 ⟨(k, bs), List.mem_of_getElem? h', e.symm⟩)
      have : mdel (x :: L) k = x :: mdel L k := by simp [mdel, hx]
      rw [this, ← ih hn.2 h']
      rfl
/-- 'delete(m, k)'. -/
theorem MRep.del [DecidableEq α] (h : MRep K w b L) {k : α} (hk : K.wf k) :
    ∃ w', (∀ ty, (Builtin.delete_ #[mt, kt] ty #[.map (some b), kV k]).run P w = .ok (.tuple #[]) w') ∧ MRep K w' b (mdel L k) ∧ Turned w w' b := by
  obtain ⟨es, clock, hb, h⟩ := h
  obtain ⟨l, hl⟩ := K.key _ hk
  rcases find_list h hk w with ⟨h1, h2⟩ | ⟨j, e, bs', h1, he, hj, h2⟩
  · refine ⟨setBlock w b (.map es clock), ?_, ⟨es, clock, heap_setBlock_same hb _, ?_⟩, ⟨es, clock, es, clock, hb, rfl⟩⟩
    · intro ty
      simp [Builtin.delete_, run_underlying K.und, MapKept.run_getObj_map hb, K.keyed.check w _ hl, h1, MapKept.run_setObj_map _ hb, Result.andThen, setBlock]
    · rw [mdel_other (mget_none h2)]; exact h
  · have hjl : j < es.toList.length := (List.getElem?_eq_some_iff.1 he).1
    have hjs : j < es.size := by simpa using hjl
    have hsub : (es.eraseIdxIfInBounds j).toList = es.toList.eraseIdx j := by
      unfold Array.eraseIdxIfInBounds
      rw [dif_pos hjs]
      simp
    refine ⟨setBlock w b (.map (es.eraseIdxIfInBounds j) clock), ?_, ⟨_, _, heap_setBlock_same hb _, ⟨stamped_erase h.st j, ?_, fun x hx => h.wf x (mem_mdel.1 hx).1⟩⟩, ⟨es, clock, _, _, hb, rfl⟩⟩
    · intro ty
      simp [Builtin.delete_, run_underlying K.und, MapKept.run_getObj_map hb, K.keyed.check w _ hl, h1, MapKept.run_setObj_map _ hb, Result.andThen, setBlock]
    · rw [hsub, Go.ChangeMaps.map_eraseIdx, h.is, ← Go.ChangeMaps.map_eraseIdx, mdel_at h.nodup hj]
/-- 'len(m)'. -/
theorem MRep.len (h : MRep K w b L) (ty : TypeId) : (Builtin.len_ #[mt] ty #[.map (some b)]).run P w = .ok (.int .i64 L.length) w := by
  obtain ⟨es, clock, hb, h⟩ := h
  rw [← h.len]
  simp [Builtin.len_, run_underlying K.und, MapKept.run_getObj_map hb, goInt, Result.andThen]
/-- 'for k, v := range m' under way: 'todo' are the entries that are still to come. -/
def MRange {P : Program} {mt kt et : TypeId} {α β : Type} {kV : α → Value} {vV : β → Value} {zero : Value} (K : MapK P mt kt et α β kV vV zero) (w : World) (b r : Nat) (L todo : List (α × β)) : Prop :=
  ∃ es clock since seen c0, w.heap[b]? = some (.map es clock) ∧ MEnts K es clock L ∧ w.heap[r]? = some (.mapIter (some b) since seen c0) ∧ (∀ x ∈ es.toList, x.born < since) ∧ since ≤ c0 ∧ since ≤ clock ∧
    (leftOf es seen).toList.map (fun e => (e.key, e.val)) = todo.map (fun x => (kV x.1, vV x.2))
theorem MRange.rep {r : Nat} {todo : List (α × β)} (h : MRange K w b r L todo) : MRep K w b L := by
  obtain ⟨es, clock, _, _, _, hb, h, _⟩ := h
  exact ⟨es, clock, hb, h⟩
theorem MRange.lt {r : Nat} {todo : List (α × β)} (h : MRange K w b r L todo) : b < w.heap.size ∧ r < w.heap.size := by
  obtain ⟨es, clock, _, _, _, hb, h, hr, _⟩ := h
  exact ⟨lt_of_heap hb, lt_of_heap hr⟩
theorem MRange.below {r : Nat} {todo : List (α × β)} (h : MRange K w b r L todo) (hb : Below w.heap.size w w') : MRange K w' b r L todo := by
  have h1 := h.lt
  obtain ⟨es, clock, since, seen, c0, h2, h3, h4, h5⟩ := h
  exact ⟨es, clock, since, seen, c0, (hb.block b h1.1).trans h2, h3, (hb.block r h1.2).trans h4, h5⟩
theorem MRange.alloc {r : Nat} {todo : List (α × β)} (h : MRange K w b r L todo) (o : Obj) : MRange K (w.alloc o) b r L todo := h.below ((Below.refl _ _).alloc (Nat.le_refl _) o)
theorem MRange.left_eq {r : Nat} {todo : List (α × β)} (h : MRange K w b r L todo) : w.rangeLeft b r = todo.length := by
  obtain ⟨es, clock, since, seen, c0, hb, _, hr, _, _, _, ht⟩ := h
  simp only [World.rangeLeft, hb, hr]
  have := congrArg List.length ht
  simpa using this
theorem MRep.range (h : MRep K w b L) : ∃ c : Nat,
    (Instr.range mt (.map (some b))).run P w = .ok (.pointer (some ⟨w.heap.size, 0, none⟩)) (w.alloc (.mapIter (some b) c #[] c)) ∧ MRange K (w.alloc (.mapIter (some b) c #[] c)) b w.heap.size L L := by
  have hlt := h.lt
  obtain ⟨es, c, hb, hm⟩ := h
  refine ⟨c, run_range_map w _ _ _ b es c K.und hb, ⟨es, c, c, #[], c, (Below.heap_alloc w _ b hlt).trans hb, hm, heap_alloc_new w _, hm.st.1, Nat.le_refl _, Nat.le_refl _, ?_⟩⟩
  rw [← hm.is]
  have e : (leftOf es #[]) = es := Array.filter_eq_self.2 (fun x _ => by simp)
  rw [e]
end
theorem leftOf_push {es : Array MapEntry} (seen : Array Nat) (hn : (es.toList.map (·.born)).Nodup) {i : Nat} {e : MapEntry} (he : (leftOf es seen).toList[i]? = some e) : (leftOf es (seen.push e.born)).toList = (leftOf es seen).toList.eraseIdx i := by
  have h1 : (leftOf es (seen.push e.born)).toList = (leftOf es seen).toList.filter (fun x => decide (x.born ≠ e.born)) := by
    unfold leftOf
    rw [Array.toList_filter, Array.toList_filter, List.filter_filter]
    refine List.filter_congr fun x _ => ?_
    rw [contains_push]
    by_cases hx : x.born = e.born <;> simp [hx]
  rw [h1]
  have h2 : ((leftOf es seen).toList.map (·.born)).Nodup := by
    unfold leftOf
    rw [Array.toList_filter]
    exact hn.sublist (List.Sublist.map _ List.filter_sublist)
  generalize (leftOf es seen).toList = l at h2 he
  clear h1
  induction l generalizing i with
  | nil => simp at he
  | cons x l ih =>
    rw [List.map_cons, List.nodup_cons] at h2
    cases i with
    | zero =>
      simp at he
      subst he
      have : ∀ y ∈ l, y.born ≠ x.born := fun y hy e => h2.1 (List.mem_map.2 ⟨y, hy, e⟩)
      simp
      exact this
    | succ i =>
      have he' : l[i]? = some e := by simpa using he
      have hx : x.born ≠ e.born := fun e2 => h2.1 (List.mem_map.2 ⟨e, List.mem_of_getElem? he', e2.symm⟩)
      simp [hx]
      exact (by simpa using ih h2.2 he')
theorem all_born {es : Array MapEntry} {clock : Nat} (h : Stamped es clock) : (es.toList.map (·.born)).Nodup := h.2.1
/-- The step. -/
theorem MRange.next {P : Program} {mt kt et : TypeId} {α β : Type} {kV : α → Value} {vV : β → Value} {zero : Value} {K : MapK P mt kt et α β kV vV zero} {w : World} {b r : Nat} {L todo : List (α × β)} (h : MRange K w b r L todo) :
    (todo = [] ∧ ∀ ty, (Instr.next (.pointer (some ⟨r, 0, none⟩)) false ty).run P w = .ok (.tuple #[.bool false]) w) ∨
    ∃ i x w', todo[i]? = some x ∧ (∀ ty, (Instr.next (.pointer (some ⟨r, 0, none⟩)) false ty).run P w = .ok (.tuple #[.bool true, kV x.1, vV x.2]) w') ∧ MRange K w' b r L (todo.eraseIdx i) ∧ Below r w w' ∧ Only (fun k => k = r) w w' ∧
      (∀ k o, w.heap[k]? = some o → k ≠ r → w'.heap[k]? = some o) ∧ w'.heap.size = w.heap.size ∧ (Instr.entry (.pointer (some ⟨r, 0, none⟩))).run P w' = .ok (.tuple #[kV x.1, vV x.2]) w' := by
  obtain ⟨es, clock, since, seen, c0, hb, hm, hr, hold, hsc, hsk, htodo⟩ := h
  have hne : r ≠ b := fun e => by rw [e, hb] at hr; cases hr
  rcases run_next_at (P := P) w 0 r b since c0 seen es clock hr hb hold hsc with ⟨h0, hrun⟩ | ⟨e, he, w1, hal, hrun⟩
  · refine .inl ⟨?_, fun _ => hrun⟩
    have : (leftOf es seen).toList = [] := by
      rw [← List.length_eq_zero_iff, Array.length_toList]; exact h0
    rw [this] at htodo
    exact List.map_eq_nil_iff.1 htodo.symm
  · obtain ⟨i, hi⟩ := List.getElem?_of_mem he
    obtain ⟨x, hx, hxk, hxv⟩ : ∃ x, todo[i]? = some x ∧ e.key = kV x.1 ∧ e.val = vV x.2 := by
      have := congrArg (fun l => l[i]?) htodo
      simp only [List.getElem?_map, hi, Option.map_some] at this
      cases hx : todo[i]? with
      | none => rw [hx] at this; cases this
      | some x =>
        rw [hx] at this
        simp only [Option.map_some, Option.some.injEq, Prod.mk.injEq] at this
        exact ⟨x, rfl, this.1, this.2⟩
    have hr1 : w1.heap[r]? = some (.mapIter (some b) since seen c0) := by rcases hal with rfl | rfl <;> exact hr
    have hb1 : w1.heap[b]? = some (.map es clock) := by rcases hal with rfl | rfl <;> exact hb
    have hset : (setBlock w1 r (.mapIter (some b) since (seen.push e.born) clock)).heap[r]? = some (.mapIter (some b) since (seen.push e.born) clock) ∧ ∀ k, k ≠ r → (setBlock w1 r (.mapIter (some b) since (seen.push e.born) clock)).heap[k]? = w1.heap[k]? := by
      refine ⟨?_, fun k hk => ?_⟩
      · show (w1.heap.setIfInBounds r _)[r]? = _
        rw [Array.getElem?_setIfInBounds_self_of_lt (lt_of_heap hr1)]
      · show (w1.heap.setIfInBounds r _)[k]? = _
        rw [Array.getElem?_setIfInBounds_ne (Ne.symm hk)]
    have hb' := (hset.2 b (Ne.symm hne)).trans hb1
    have hsz : (setBlock w1 r (.mapIter (some b) since (seen.push e.born) clock)).heap.size = w.heap.size := by rcases hal with rfl | rfl <;> simp [setBlock]
    have hoth : ∀ k, k ≠ r → (setBlock w1 r (.mapIter (some b) since (seen.push e.born) clock)).heap[k]? = w.heap[k]? := fun k hk => by
      rw [hset.2 k hk]
      rcases hal with rfl | rfl <;> rfl
    refine .inr ⟨i, x, _, hx, fun _ => by rw [← hxk, ← hxv]; exact hrun, ⟨es, clock, since, seen.push e.born, clock, hb', hm, hset.1, hold, hsk, hsk, ?_⟩, ⟨?_, ?_, ?_, by rw [hsz]; exact Nat.le_refl _, fun k hk => hoth k (by omega)⟩, ⟨?_, ?_, ?_, by rw [hsz]; exact Nat.le_refl _, fun k hk hn => hoth k hn⟩, fun k o ho hk => (hoth k hk).trans ho, hsz, ?_⟩
    · rw [leftOf_push seen (all_born hm.st) hi, Go.ChangeMaps.map_eraseIdx, htodo, ← Go.ChangeMaps.map_eraseIdx]
    all_goals first
      | (rcases hal with rfl | rfl <;> rfl)
      | (rw [← hxk, ← hxv]; exact run_entry_at _ r b since seen es clock e hset.1 hb' (mem_left he).1 (all_born hm.st))
theorem bytes_self (k : ByteArray) : (k == k) = true := (MapKept.bytes_beq k k).2 rfl
/-- Keys that are strings, values that are pointers to blocks. -/
def strPtr {P : Program} {mt kt et : TypeId} (h1 : P.underlying mt = some (.map kt et)) (h2 : P.underlying kt = some .string) (h3 : ∀ w, (zeroValue et).run P w = .ok (.pointer none) w) :
    MapK P mt kt et ByteArray Nat (fun k => .string k) (fun g => .pointer (some ⟨g, 0, none⟩)) (.pointer none) where
  und := h1
  keyed := string_keyed h2
  inj := fun a b e => by injection e
  wf := fun k => k.size ≤ maxLen
  key := fun k h => ⟨.string k.data.toList, by simp [keyOf, h2, mapKey, h]⟩
  zero := h3
  same := fun k => by simp [Instr.sameBits, bytes_self]
/-- Keys that are ints, values that are numbers without sign. -/
def intU64 {P : Program} {mt kt et : TypeId} (h1 : P.underlying mt = some (.map kt et)) (h2 : P.underlying kt = some (.int .i64)) (h3 : ∀ w, (zeroValue et).run P w = .ok (.int .u64 0) w) :
    MapK P mt kt et Int Int (fun k => .int .i64 k) (fun v => .int .u64 v) (.int .u64 0) where
  und := h1
  keyed := int_keyed h2
  inj := fun a b e => by injection e
  wf := fun k => (Lit.int .i64 k).wf = true
  key := fun k h => ⟨_, keyOf_int_mk h2 h⟩
  zero := h3
  same := fun k => by simp [Instr.sameBits]
end Go.Proofs.YtcpophfchchpkaaGreatDoor
namespace Go.Proofs.YtcpophfchchpkaaGreatDoor
open Go Go.RowKit
theorem u8_info : (Tryz.prog.info? 5).map (fun i => (i.zero, i.size, i.bytes)) = some (some (.int .u8 0), 1, 1) := by kernel_rfl
/-- A slice of bytes of the call's own is returned. -/
def OwnRet (bs : List UInt8) (w : World) (e : Ending) (w' : World) : Prop :=
  ∃ v, e = .returned v ∧ w'.ownsRow w.heap.size 5 1 v bs.length (bcells bs) ∧ Below w.heap.size w w'
set_option maxHeartbeats 400000 in
theorem bytesClone_any (B : Nat) (v : Value) (bs : List UInt8) (w : World) (hb : Bts w B 5 v bs) (hl : bs.length ≤ 1000000000) :
    Calls Tryz.prog 30 #[v] w (OwnRet bs w) := by
  obtain ⟨A, cap, rfl⟩ := hb.form
  have HL := Lib.hid hl
  clear hl
  obtain ⟨i0, hi0, hz0, hz1, hz2⟩ := info_parts u8_info
  cases A with
  | none =>
    have h0 := hb.src_at.2.2.1 rfl
    have : bs = [] := by simpa using h0
    subst this
    clear hb h0
    go_enter Tryz.func30, Tryz.ntmps30
    go_wp2
    go_ret
    exact ⟨_, rfl, World.ownsRow_nil _ _ _ _, Below.refl _ _⟩
  | some a =>
    have HS := Lib.hid hb
    clear hb
    go_enter Tryz.func30, Tryz.ntmps30
    go_wp2_with (at_builtin; refine wpList_append_src _ rfl _ _ _ rfl w.heap.size 5 i0 _ 1 1 Tryz.underlying29 hi0 hz0 hz1 hz2 rfl (by decide) _ 0 [] rfl (own_empty w _ _) (some a) bs.length cap (bcells bs) rfl (HS.out.alloc _).src_at.2 (bcells_one _) (by have := HL.out; unfold maxLen; omega) (by have := HL.out; omega) (by simp) ?_; intro v1 w1 hown hg hat)
    go_ret
    refine ⟨v1, rfl, by simpa using hown, ?_⟩
    exact ((Below.refl _ _).alloc (Nat.le_refl _) _).grown hg (by simp) (by intro k hk; cases hk; exact Nat.le_refl _)
end Go.Proofs.YtcpophfchchpkaaGreatDoor
namespace Go.Proofs.YtcpophfchchpkaaGreatDoor
open Go Go.RowKit Go.MapKept Go.Maps
/-- A script: its name, its bytes, the slice that holds them. -/
abbrev Sc := ByteArray × List UInt8 × Value
/-- The map of the scripts. -/
def KL : MapK Tryz.prog 24 9 29 ByteArray Value (fun k => .string k) (fun v => v) (.slice none 0 0) where
  und := Tryz.underlying24
  keyed := string_keyed Tryz.underlying9
  inj := fun a b e => by injection e
  wf := fun k => k.size ≤ maxLen
  key := fun k h => ⟨.string k.data.toList, by simp [keyOf, Tryz.underlying9, mapKey, h]⟩
  zero := Tryz.zeroValue29
  same := fun k => by simp [Instr.sameBits, bytes_self]
def scM (X : List Sc) : List (ByteArray × Value) := X.map fun x => (x.1, x.2.2)
def scD (X : List Sc) : List (ByteArray × List UInt8) := X.map fun x => (x.1, x.2.1)
/-- What lies under a name. -/
def scG (X : List Sc) (k : ByteArray) : Option (List UInt8 × Value) := mget X k
theorem mget_map {β γ : Type} (f : β → γ) (X : List (ByteArray × β)) (k : ByteArray) : mget (X.map fun x => (x.1, f x.2)) k = (mget X k).map f := by
  unfold mget
  induction X with
  | nil => rfl
  | cons x X ih =>
    by_cases h : x.1 = k
    · simp [h]
    · simpa [h] using ih
/-- A lab in memory: block b, its map. -/
structure LRep (w : World) (b : Nat) (m : Option Nat) (X : List Sc) : Prop where
  blk : Blk w b 26 #[.map m]
  no : m = none → X = []
  map : ∀ g, m = some g → MRep KL w g (scM X)
  vals : ∀ x ∈ X, Bts w 0 5 x.2.2 x.2.1 ∧ x.2.1.length ≤ 4096 ∧ x.1.size ≤ maxLen
section
variable {w w' : World} {b : Nat} {m : Option Nat} {X : List Sc}
theorem LRep.below (h : LRep w b m X) (hb : Below w.heap.size w w') : LRep w' b m X :=
  ⟨h.blk.below hb, h.no, fun g hg => (h.map g hg).below hb, fun x hx => ⟨(h.vals x hx).1.below hb, (h.vals x hx).2⟩⟩
theorem LRep.cell (h : LRep w b m X) : w.cell? ⟨b, 0, none⟩ = some (.map m) := h.blk.cell 0 _ rfl
/-- A script that is there. -/
theorem LRep.at_ (h : LRep w b m X) {k : ByteArray} {x : List UInt8 × Value} (hx : scG X k = some x) : Bts w 0 5 x.2 x.1 ∧ x.1.length ≤ 4096 := by
  have := h.vals (k, x) (mget_some hx)
  exact ⟨this.1, this.2.1⟩
/-- 'v, ok := m[k]' at a map that may be nil. -/
theorem LRep.look (h : LRep w b m X) {k : ByteArray} (hk : k.size ≤ maxLen) :
    (Instr.lookup 24 (.map m) (.string k) true).run Tryz.prog w = .ok (.tuple #[((scG X k).map Prod.snd).getD (.slice none 0 0), .bool (scG X k).isSome]) w := by
  cases m with
  | none =>
    have := h.no rfl
    subst this
    obtain ⟨l, hl⟩ := KL.key k hk
    obtain ⟨h1, _⟩ | ⟨_, _, _, h2, _⟩ := KL.keyed.find w hl [] (by simp)
    rotate_left
    · simp at h2
    simp [Instr.lookup, run_underlying Tryz.underlying24, KL.keyed.check w _ hl, h1, KL.zero, Result.andThen, scG, mget]
  | some g =>
    have := (h.map g rfl).look (k := k) hk
    rw [show scM X = X.map (fun x => (x.1, (fun y : List UInt8 × Value => y.2) x.2)) from rfl, mget_map] at this
    have e : ((mget X k).map (fun y : List UInt8 × Value => y.2)).map (fun v => v) = (scG X k).map Prod.snd := by unfold scG; cases mget X k <;> rfl
    rw [e] at this
    simpa [scG] using this
/-- 'len(m)'. -/
theorem LRep.len (h : LRep w b m X) (ty : TypeId) : (Builtin.len_ #[24] ty #[.map m]).run Tryz.prog w = .ok (.int .i64 X.length) w := by
  cases m with
  | none =>
    have := h.no rfl
    subst this
    simp [Builtin.len_, run_underlying Tryz.underlying24, goInt, Result.andThen]
  | some g =>
    have := (h.map g rfl).len ty
    simpa [scM] using this
end
def fullB (X : List Sc) (k : ByteArray) : Bool := (scG X k).isNone && decide (50 ≤ X.length)
set_option maxHeartbeats 1000000 in
theorem full_any (b : Nat) (m : Option Nat) (X : List Sc) (k : ByteArray) (w : World) (h : LRep w b m X) (hk : k.size ≤ maxLen) (hX : X.length ≤ 1000000) :
    Calls Tryz.prog 24 #[.pointer (some ⟨b, 0, none⟩), .string k] w fun e w' => e = .returned (.bool (fullB X k)) ∧ w' = w := by
  have h0 := h.cell
  have hl := h.look hk
  have hn := h.len
  unfold fullB
  generalize hq : X.length = q at *
  have hb := h.blk.lt
  have hf := h.blk.frozen 0
  cases hs : scG X k with
  | none =>
    rw [hs] at hl
    simp only [Option.map_none, Option.getD_none, Option.isSome_none] at hl
    clear h hq hs
    by_cases h50 : 50 ≤ q
    · have h51 : (50 : Int) ≤ (q : Int) := by omega
      go_enter Tryz.func24, Tryz.ntmps24
      go_wp2_with fail
      go_ret
      exact ⟨by simp [h50], rfl⟩
    · have h51 : ¬ (50 : Int) ≤ (q : Int) := by omega
      go_enter Tryz.func24, Tryz.ntmps24
      go_wp2_with fail
      go_ret
      exact ⟨by simp [h50], rfl⟩
  | some y =>
    rw [hs] at hl
    simp only [Option.map_some, Option.getD_some, Option.isSome_some] at hl
    clear h hq hs
    generalize y.2 = v at hl
    go_enter Tryz.func24, Tryz.ntmps24
    go_wp2_with fail
    go_ret
    exact ⟨rfl, rfl⟩
/-- What script and Get say. -/
def scV (o : Option (List UInt8 × Value)) : Value := (o.map Prod.snd).getD (.slice none 0 0)
def scE (o : Option (List UInt8 × Value)) : Int := if o.isSome then 0 else 9
set_option maxHeartbeats 1000000 in
theorem script_any (b : Nat) (m : Option Nat) (X : List Sc) (k : ByteArray) (w : World) (h : LRep w b m X) (hk : k.size ≤ maxLen) :
    Calls Tryz.prog 29 #[.pointer (some ⟨b, 0, none⟩), .string k] w fun e w' => e = .returned (.tuple #[scV (scG X k), .int .i64 (scE (scG X k))]) ∧ w' = w := by
  have h0 := h.cell
  have hl := h.look hk
  have hb := h.blk.lt
  have hf := h.blk.frozen 0
  unfold scV scE
  cases hs : scG X k with
  | none =>
    rw [hs] at hl
    simp only [Option.map_none, Option.getD_none, Option.isSome_none] at hl
    clear h hs
    have e9 : (if (none : Option (List UInt8 × Value)).isSome = true then (0 : Int) else 9) = 9 := rfl
    rw [e9]
    simp only [Option.map_none, Option.getD_none]
    go_enter Tryz.func29, Tryz.ntmps29
    go_wp2_with fail
    go_ret2
    exact ⟨rfl, rfl⟩
  | some y =>
    rw [hs] at hl
    simp only [Option.map_some, Option.getD_some, Option.isSome_some] at hl
    clear h hs
    simp only [Option.map_some, Option.getD_some, Option.isSome_some, if_true]
    generalize y.2 = v at hl ⊢
    go_enter Tryz.func29, Tryz.ntmps29
    go_wp2_with fail
    go_ret2
    exact ⟨rfl, rfl⟩
/-- What Get gives: the bytes, in memory of its own. -/
def scB (o : Option (List UInt8 × Value)) : List UInt8 := (o.map Prod.fst).getD []
theorem scV_bts {w : World} {b : Nat} {m : Option Nat} {X : List Sc} (h : LRep w b m X) (k : ByteArray) : Bts w 0 5 (scV (scG X k)) (scB (scG X k)) ∧ (scB (scG X k)).length ≤ 4096 := by
  cases hs : scG X k with
  | none => exact ⟨Bts.nil _ _ _, Nat.zero_le _⟩
  | some y => exact h.at_ hs
set_option maxHeartbeats 1000000 in
theorem get_any (b : Nat) (m : Option Nat) (X : List Sc) (k : ByteArray) (w : World) (h : LRep w b m X) (hk : k.size ≤ maxLen) :
    Calls Tryz.prog 12 #[.pointer (some ⟨b, 0, none⟩), .string k] w fun e w' => ∃ v, e = .returned (.tuple #[v, .int .i64 (scE (scG X k))]) ∧ w'.ownsRow w.heap.size 5 1 v (scB (scG X k)).length (bcells (scB (scG X k))) ∧ Below w.heap.size w w' := by
  have HS := Lib.hid (script_any b m X k w h hk)
  have HC := Lib.hid (bytesClone_any 0 _ _ w (scV_bts h k).1 (Nat.le_trans (scV_bts h k).2 (by decide)))
  clear h
  generalize scV (scG X k) = v at HS HC
  generalize scE (scG X k) = n at HS ⊢
  generalize scB (scG X k) = bs at HC ⊢
  go_enter Tryz.func12, Tryz.ntmps12
  go_wp2_with fail
  refine HS.out.mono ?_
  rintro e w' ⟨rfl, rfl⟩
  go_wp2_with fail
  refine HC.out.mono ?_
  rintro e w1 ⟨u, rfl, ho, hb⟩
  have HO := Lib.hid ho
  have HB := Lib.hid hb
  clear ho hb
  go_wp2_with fail
  go_ret2
  exact ⟨u, rfl, HO.out, HB.out⟩
end Go.Proofs.YtcpophfchchpkaaGreatDoor
namespace Go.Proofs.YtcpophfchchpkaaGreatDoor
open Go Go.RowKit
section
variable {P : Program} {ops : Array Oper} {Q : Exit → Act → World → Prop} {md : Region.Mode} {q : List Nat} {R S : World → Prop}
/-- None of the operations q has come up. -/
def Unstored (q : List Nat) (listed : Array Bool) : Prop := ∀ s ∈ q, listed.getD s true = false
/-- S holds, and as long as none of them has come up, R holds. -/
def Till (q : List Nat) (R S : World → Prop) (listed : Array Bool) (w : World) : Prop := S w ∧ (Unstored q listed → R w)
theorem Till.of {listed : Array Bool} {w : World} (hs : S w) (h : R w) : Till q R S listed w := ⟨hs, fun _ => h⟩
theorem Till.stored {listed : Array Bool} {w : World} (hs : S w) (h : q.any (fun s => listed.getD s true) = true) : Till q R S listed w := ⟨hs, fun hu => by
  obtain ⟨s, hm, hl⟩ := List.any_eq_true.1 h
  rw [hu s hm] at hl
  cases hl⟩
theorem Unstored.set {listed : Array Bool} {j : Nat} (h : Unstored q listed) (hj : j ∉ q) : Unstored q (listed.setIfInBounds j true) := fun s hs => by
  rw [getD_set_ne true (fun e => hj (by rw [e]; exact hs))]; exact h s hs
theorem Unstored.back {listed : Array Bool} {j : Nat} (h : Unstored q (listed.setIfInBounds j true)) (hj : j ∉ q) : Unstored q listed := fun s hs => by
  have := h s hs
  rwa [getD_set_ne true (fun e => hj (by rw [e]; exact hs))] at this
/-- Whatever order is picked from here on; behind each operation R holds as long as it is wanted. -/
def wpTill (P : Program) (md : Region.Mode) (ops : Array Oper) (Q : Exit → Act → World → Prop) (q : List Nat) (R S : World → Prop) : Nat → Array Bool → Act → World → Prop
  | 0, listed, a, w => Region.ready md ops listed = [] ∧ Q .normal a w
  | n + 1, listed, a, w => (Region.ready md ops listed = [] → Q .normal a w) ∧
    ∀ j ∈ Region.ready md ops listed, wpOp P ops Q j (fun b x => Till q R S (listed.setIfInBounds j true) x ∧ wpTill P md ops Q q R S n (listed.setIfInBounds j true) b x) a w
theorem wpTill.any : ∀ (n : Nat) {listed : Array Bool} {a : Act} {w : World}, wpTill P md ops Q q R S n listed a w → wpAny P md ops Q n listed a w
  | 0, _, _, _, h => h
  | n + 1, _, _, _, h => ⟨h.1, fun j hj => wpOp_mono (fun _ _ k => wpTill.any n k.2) (h.2 j hj)⟩
/-- The operation i, none of q, may be taken first: it yields v in every world that meets T, and T is there as long as i has not come up (I says why). -/
theorem wpTill.first {i : Nat} {o : Oper} {v : Value} {T : World → Prop} {I : Array Bool → Prop} (ho : ops[i]? = some o) (hiq : i ∉ q) (hsel : Region.noSelect ops = true)
    (hT : ∀ listed w, I listed → Till q R S listed w → T w) (hI : ∀ listed j, I listed → listed.getD i true = false → j ∈ Region.ready md ops listed → j ≠ i → I (listed.setIfInBounds j true))
    (hQ : ∀ c a w, Q (.panic c) (a.put o.dst v) w → Q (.panic c) a w) (n : Nat) :
    ∀ {listed : Array Bool} {a : Act} {w : World},
      (∀ j oj, ops[j]? = some oj → j ≠ i → listed.getD j true = false → (∀ e ∈ oj.after, Region.binds md e = true → e.on ≠ i) → o.apart ops oj = true) →
      i ∈ Region.ready md ops listed → I listed → YieldsIf P ops T o v a → Till q R S listed w →
      wpTill P md ops Q q R S n (listed.setIfInBounds i true) (a.put o.dst v) w → wpTill P md ops Q q R S (n + 1) listed a w := by
  have done : ∀ {m : Nat} {listed : Array Bool} {a : Act} {w : World}, I listed → YieldsIf P ops T o v a → Till q R S listed w →
      wpTill P md ops Q q R S m (listed.setIfInBounds i true) (a.put o.dst v) w →
      wpOp P ops Q i (fun b x => Till q R S (listed.setIfInBounds i true) x ∧ wpTill P md ops Q q R S m (listed.setIfInBounds i true) b x) a w :=
    fun hl hy hR H => hy.wpOp ho (hT _ _ hl hR) ⟨⟨hR.1, fun hu => hR.2 (hu.back hiq)⟩, H⟩
  induction n with
  | zero =>
    intro listed a w _ hr hl hy hR H
    refine ⟨fun e => by rw [e] at hr; exact absurd hr List.not_mem_nil, fun j hj => ?_⟩
    by_cases e : j = i
    · subst e; exact done hl hy hR H
    · have h2 := ready_mono hj e
      rw [H.1] at h2
      exact absurd h2 List.not_mem_nil
  | succ n ih =>
    intro listed a w hfree hr hl hy hR H
    refine ⟨fun e => by rw [e] at hr; exact absurd hr List.not_mem_nil, fun j hj => ?_⟩
    by_cases e : j = i
    · subst e; exact done hl hy hR H
    · obtain ⟨hun, oj, hoj, hall⟩ := mem_ready.1 hj
      have hiun := (mem_ready.1 hr).1
      have hno : ∀ x ∈ oj.after, Region.binds md x = true → x.on ≠ i := fun x hx hb hon => by
        have h1 := hall x hx hb
        rw [hon, getD_both hiun] at h1
        cases h1
      have hs := Region.noSelect_spec hsel
      refine wpOp_mono ?_ (wpOp_putIf hoj (hfree j oj hoj e hun hno) (fun cs b => hs i o cs b ho) (fun cs b => hs j oj cs b hoj) hQ hy (H.2 j (ready_mono hj e)))
      rintro b x ⟨hyb, hRx, hH⟩
      have hcomm : (listed.setIfInBounds i true).setIfInBounds j true = (listed.setIfInBounds j true).setIfInBounds i true := Array.setIfInBounds_comm _ _ (fun h => e h.symm)
      rw [hcomm] at hRx hH
      have hRj : Till q R S (listed.setIfInBounds j true) x := ⟨hRx.1, fun hu => hRx.2 (hu.set hiq)⟩
      refine ⟨hRj, ih ?_ (ready_mono hr (fun h => e h.symm)) (hI _ _ hl hiun hj e) hyb hRj hH⟩
      intro k ok hk hki hku hkn
      refine hfree k ok hk hki ?_ hkn
      by_cases hjk : j = k
      · subst hjk; exact hun
      · rwa [getD_set_ne true hjk] at hku
/-- Take number i first: all of q wait for it. -/
theorem wpTill.take {i : Nat} {o : Oper} {v : Value} {n : Nat} {listed : Array Bool} {a : Act} {w : World} (ho : ops[i]? = some o) (hsel : Region.noSelect ops = true) (hf : Region.free md ops listed i = true)
    (hr : (Region.ready md ops listed).contains i = true) (hq : (q.all fun s => !(s == i) && Region.waitsFor md ops s i && !listed.getD s true) = true)
    (hQ : ∀ c a w, Q (.panic c) (a.put o.dst v) w → Q (.panic c) a w) (hy : YieldsIf P ops (fun w => S w ∧ R w) o v a) (hR : Till q R S listed w)
    (h : Till q R S (listed.setIfInBounds i true) w → wpTill P md ops Q q R S n (listed.setIfInBounds i true) (a.put o.dst v) w) : wpTill P md ops Q q R S (n + 1) listed a w := by
  have hall := List.all_eq_true.1 hq
  have hiq : i ∉ q := fun hm => by have := hall i hm; simp at this
  refine wpTill.first (I := Unstored q) (T := fun w => S w ∧ R w) ho hiq hsel (fun _ _ hu ht => ⟨ht.1, ht.2 hu⟩) ?_ hQ n (Region.free_spec ho hf) (by simpa using hr) (fun s hs => ?_) hy hR (h ⟨hR.1, fun hu => hR.2 (hu.back hiq)⟩)
  · intro l j hl hiu hj hne
    refine hl.set fun hjq => ?_
    have hw := hall j hjq
    simp only [Bool.and_eq_true] at hw
    obtain ⟨oj, hoj, e, he, hb, hon⟩ := Region.waitsFor_spec hw.1.2
    obtain ⟨_, o2, ho2, h2⟩ := mem_ready.1 hj
    have : oj = o2 := Option.some.inj (hoj.symm.trans ho2)
    subst this
    have h3 := h2 e he hb
    rw [hon, getD_both hiu] at h3
    cases h3
  · have hw := hall s hs
    simp only [Bool.and_eq_true, Bool.not_eq_true'] at hw
    exact hw.2
/-- Take number i first, which yields v in every world that meets S. -/
theorem wpTill.takeAny {i : Nat} {o : Oper} {v : Value} {n : Nat} {listed : Array Bool} {a : Act} {w : World} (ho : ops[i]? = some o) (hsel : Region.noSelect ops = true) (hf : Region.free md ops listed i = true)
    (hr : (Region.ready md ops listed).contains i = true) (hq : (q.all fun s => !(s == i)) = true)
    (hQ : ∀ c a w, Q (.panic c) (a.put o.dst v) w → Q (.panic c) a w) (hy : YieldsIf P ops S o v a) (hR : Till q R S listed w)
    (h : Till q R S (listed.setIfInBounds i true) w → wpTill P md ops Q q R S n (listed.setIfInBounds i true) (a.put o.dst v) w) : wpTill P md ops Q q R S (n + 1) listed a w := by
  have hall := List.all_eq_true.1 hq
  have hiq : i ∉ q := fun hm => by have := hall i hm; simp at this
  exact wpTill.first (I := fun _ => True) (T := S) ho hiq hsel (fun _ _ _ ht => ht.1) (fun _ _ _ _ _ _ => trivial) hQ n (Region.free_spec ho hf) (by simpa using hr) trivial hy hR (h ⟨hR.1, fun hu => hR.2 (hu.back hiq)⟩)
/-- Number i is the only one that may come up. -/
theorem wpTill.only {i : Nat} {o : Oper} {n : Nat} {listed : Array Bool} {a : Act} {w : World} (hr : Region.ready md ops listed = [i]) (ho : ops[i]? = some o)
    (h : ∀ K : Act → World → Prop, Hid (∀ a w, Till q R S (listed.setIfInBounds i true) w → (Till q R S (listed.setIfInBounds i true) w → wpTill P md ops Q q R S n (listed.setIfInBounds i true) a w) → K a w) →
      if Region.wanted o (yielded ops a.tmps) = true then Oper.wp P o a w K Q else K (a.put o.dst undef) w) : wpTill P md ops Q q R S (n + 1) listed a w := by
  refine ⟨fun e => absurd (hr.symm.trans e) (List.cons_ne_nil _ _), fun j hj => ?_⟩
  rw [hr] at hj
  have e := List.mem_singleton.1 hj
  subst e
  exact wpOp_step ho (fun K hK => h K (Lib.hid (fun a w hT hW => hK a w ⟨hT, hW hT⟩)))
/-- Numbers i and j are those that may come up. -/
theorem wpTill.two {i j : Nat} {o o2 : Oper} {n : Nat} {listed : Array Bool} {a : Act} {w : World} (hr : Region.ready md ops listed = [i, j]) (ho : ops[i]? = some o) (ho2 : ops[j]? = some o2)
    (h : ∀ K : Act → World → Prop, Hid (∀ a w, Till q R S (listed.setIfInBounds i true) w → (Till q R S (listed.setIfInBounds i true) w → wpTill P md ops Q q R S n (listed.setIfInBounds i true) a w) → K a w) →
      if Region.wanted o (yielded ops a.tmps) = true then Oper.wp P o a w K Q else K (a.put o.dst undef) w)
    (h2 : ∀ K : Act → World → Prop, Hid (∀ a w, Till q R S (listed.setIfInBounds j true) w → (Till q R S (listed.setIfInBounds j true) w → wpTill P md ops Q q R S n (listed.setIfInBounds j true) a w) → K a w) →
      if Region.wanted o2 (yielded ops a.tmps) = true then Oper.wp P o2 a w K Q else K (a.put o2.dst undef) w) : wpTill P md ops Q q R S (n + 1) listed a w := by
  refine ⟨fun e => absurd (hr.symm.trans e) (List.cons_ne_nil _ _), fun k hk => ?_⟩
  rw [hr] at hk
  rcases List.mem_cons.1 hk with e | hk
  · subst e
    exact wpOp_step ho (fun K hK => h K (Lib.hid (fun a w hT hW => hK a w ⟨hT, hW hT⟩)))
  · have e := List.mem_singleton.1 hk
    subst e
    exact wpOp_step ho2 (fun K hK => h2 K (Lib.hid (fun a w hT hW => hK a w ⟨hT, hW hT⟩)))
theorem wpTill.done {n : Nat} {listed : Array Bool} {a : Act} {w : World} (hr : Region.ready md ops listed = []) (h : Q .normal a w) : wpTill P md ops Q q R S n listed a w := by
  cases n with
  | zero => exact ⟨hr, h⟩
  | succ n => exact ⟨fun _ => h, by rw [hr]; simp⟩
theorem wp_region_till {id : Nat} {a : Act} {w : World} (q : List Nat) (R S : World → Prop) (hm : P.follows .mixedOrders = true) (hS : S w.drew) (hR : R w.drew)
    (h : Till q R S (Array.replicate ops.size false) w.drew → wpTill P .any ops Q q R S ops.size (Array.replicate ops.size false) a w.drew) : (Code.region id ops true).wp P Q a w :=
  wp_region_any hm ((h (Till.of hS hR)).any)
end
end Go.Proofs.YtcpophfchchpkaaGreatDoor
namespace Go.Proofs.YtcpophfchchpkaaGreatDoor
open Go Go.RowKit
/-- A slot is another. -/
def zS (l : List Value) (o : Option Tmp) (v : Value) : List Value := match o with | some d => l.set d v | none => l
theorem zA {α : Type} (l : List α) (i : Nat) (a : α) : l.toArray.setIfInBounds i a = (l.set i a).toArray := List.setIfInBounds_toArray _ _ _
theorem zB {α : Type} (x y : α) (xs : List α) : List.set (x :: xs) 0 y = y :: xs := rfl
theorem zC {α : Type} (x y : α) (xs : List α) (n : Nat) : List.set (x :: xs) (n + 1) y = x :: xs.set n y := rfl
theorem zP (l : List Value) (df : List Deferred) (o : Option Tmp) (v : Value) : Act.put ⟨l.toArray, df⟩ o v = ⟨(zS l o v).toArray, df⟩ := by
  cases o with
  | none => rfl
  | some d => simp only [Act.put, zS, zA]
/-- Beside a proposition, which operations come next. -/
def Pl (_is : List Nat) (p : Prop) : Prop := p
theorem Pl.go (is : List Nat) {p : Prop} (h : Pl is p) : p := h
theorem Pl.stop {p : Prop} (h : p) : Pl [] p := h
/-- Operation i may be taken. -/
def okI (md : Region.Mode) (ops : Array Oper) (listed : Array Bool) (i : Nat) : Bool := Region.noSelect ops && Region.free md ops listed i && (Region.ready md ops listed).contains i
theorem okI.of {md : Region.Mode} {ops : Array Oper} {listed : Array Bool} {i : Nat} (h : okI md ops listed i = true) : Region.noSelect ops = true ∧ Region.free md ops listed i = true ∧ (Region.ready md ops listed).contains i = true := by
  unfold okI at h
  rw [Bool.and_eq_true, Bool.and_eq_true] at h
  exact ⟨h.1.1, h.1.2, h.2⟩
section
variable {P : Program} {ops : Array Oper} {Q : Exit → Act → World → Prop} {md : Region.Mode} {S : World → Prop} {o1 : _} {o2 : _} {o3 : _} {o4 : _} {o5 : _} {o6 : _} {v : Value} {fuel : Nat} {listed : Array Bool} {l : List Value} {df : List Deferred} {w : World}
/-- Operation i is taken. -/
theorem tk (i : Nat) (hy : ∀ w, S w → (execOp (Act.eval ⟨l.toArray, df⟩) ⟨o1, o2, o3, o4, o5, o6⟩).run P w = .ok (.value v) w) (h : wpAnyH P md ops Q S fuel (listed.setIfInBounds i true) ⟨(zS l o1 v).toArray, df⟩ w)
    (hc : okI md ops listed i = true := by kernel_rfl) (ho : ops[i]? = some ⟨o1, o2, o3, o4, o5, o6⟩ := by rfl) (hw : Region.wanted ⟨o1, o2, o3, o4, o5, o6⟩ (yielded ops l.toArray) = true := by rfl)
    (hQ : ∀ c a a' w, Q (.panic c) a' w → Q (.panic c) a w := by exact fun _ _ _ _ h => h) (hS : S w := by assumption) : wpAnyH P md ops Q S (fuel + 1) listed ⟨l.toArray, df⟩ w :=
  wpAnyH_take ho (okI.of hc).1 (okI.of hc).2.1 (okI.of hc).2.2 (fun c b w => hQ c b _ w) (.inl ⟨hw, hy⟩) hS (by rw [zP]; exact h)
/-- Operation i is left out. -/
theorem sk (i : Nat) (h : wpAnyH P md ops Q S fuel (listed.setIfInBounds i true) ⟨(zS l o1 undef).toArray, df⟩ w)
    (hc : okI md ops listed i = true := by kernel_rfl) (ho : ops[i]? = some ⟨o1, o2, o3, o4, o5, o6⟩ := by rfl) (hw : Region.wanted ⟨o1, o2, o3, o4, o5, o6⟩ (yielded ops l.toArray) = false := by rfl)
    (hQ : ∀ c a a' w, Q (.panic c) a' w → Q (.panic c) a w := by exact fun _ _ _ _ h => h) (hS : S w := by assumption) : wpAnyH P md ops Q S (fuel + 1) listed ⟨l.toArray, df⟩ w :=
  wpAnyH_take ho (okI.of hc).1 (okI.of hc).2.1 (okI.of hc).2.2 (fun c b w => hQ c b _ w) (.inr ⟨hw, rfl⟩) hS (by rw [zP]; exact h)
theorem tkl {i : Nat} {is : List Nat} (hy : ∀ w, S w → (execOp (Act.eval ⟨l.toArray, df⟩) ⟨o1, o2, o3, o4, o5, o6⟩).run P w = .ok (.value v) w) (h : Pl is (wpAnyH P md ops Q S fuel (listed.setIfInBounds i true) ⟨(zS l o1 v).toArray, df⟩ w))
    (hc : okI md ops listed i = true := by kernel_rfl) (ho : ops[i]? = some ⟨o1, o2, o3, o4, o5, o6⟩ := by rfl) (hw : Region.wanted ⟨o1, o2, o3, o4, o5, o6⟩ (yielded ops l.toArray) = true := by rfl)
    (hQ : ∀ c a a' w, Q (.panic c) a' w → Q (.panic c) a w := by exact fun _ _ _ _ h => h) (hS : S w := by assumption) : Pl (i :: is) (wpAnyH P md ops Q S (fuel + 1) listed ⟨l.toArray, df⟩ w) := tk i hy h hc ho hw hQ hS
theorem skl {i : Nat} {is : List Nat} (h : Pl is (wpAnyH P md ops Q S fuel (listed.setIfInBounds i true) ⟨(zS l o1 undef).toArray, df⟩ w))
    (hc : okI md ops listed i = true := by kernel_rfl) (ho : ops[i]? = some ⟨o1, o2, o3, o4, o5, o6⟩ := by rfl) (hw : Region.wanted ⟨o1, o2, o3, o4, o5, o6⟩ (yielded ops l.toArray) = false := by rfl)
    (hQ : ∀ c a a' w, Q (.panic c) a' w → Q (.panic c) a w := by exact fun _ _ _ _ h => h) (hS : S w := by assumption) : Pl (i :: is) (wpAnyH P md ops Q S (fuel + 1) listed ⟨l.toArray, df⟩ w) := sk i h hc ho hw hQ hS
end
/-- Operation i may be taken ahead of the stores. -/
def okT (md : Region.Mode) (ops : Array Oper) (q : List Nat) (listed : Array Bool) (i : Nat) : Bool := okI md ops listed i && q.all fun s => !(s == i) && Region.waitsFor md ops s i && !listed.getD s true
def okS (md : Region.Mode) (ops : Array Oper) (q : List Nat) (listed : Array Bool) (i : Nat) : Bool := okI md ops listed i && q.all fun s => !(s == i)
section
variable {P : Program} {ops : Array Oper} {Q : Exit → Act → World → Prop} {md : Region.Mode} {q : List Nat} {R S : World → Prop} {o1 : _} {o2 : _} {o3 : _} {o4 : _} {o5 : _} {o6 : _} {v : Value} {n : Nat} {listed : Array Bool} {l : List Value} {df : List Deferred} {w : World}
theorem tt (i : Nat) (hy : ∀ w, S w ∧ R w → (execOp (Act.eval ⟨l.toArray, df⟩) ⟨o1, o2, o3, o4, o5, o6⟩).run P w = .ok (.value v) w) (h : Till q R S (listed.setIfInBounds i true) w → wpTill P md ops Q q R S n (listed.setIfInBounds i true) ⟨(zS l o1 v).toArray, df⟩ w)
    (hc : okT md ops q listed i = true := by kernel_rfl) (ho : ops[i]? = some ⟨o1, o2, o3, o4, o5, o6⟩ := by rfl) (hw : Region.wanted ⟨o1, o2, o3, o4, o5, o6⟩ (yielded ops l.toArray) = true := by rfl)
    (hQ : ∀ c a a' w, Q (.panic c) a' w → Q (.panic c) a w := by exact fun _ _ _ _ h => h) (hR : Till q R S listed w := by assumption) : wpTill P md ops Q q R S (n + 1) listed ⟨l.toArray, df⟩ w := by
  have hk := hc
  unfold okT at hk
  rw [Bool.and_eq_true] at hk
  exact wpTill.take ho (okI.of hk.1).1 (okI.of hk.1).2.1 (okI.of hk.1).2.2 hk.2 (fun c b w => hQ c b _ w) (.inl ⟨hw, hy⟩) hR (by rw [zP]; exact h)
theorem ts (i : Nat) (hy : ∀ w, S w → (execOp (Act.eval ⟨l.toArray, df⟩) ⟨o1, o2, o3, o4, o5, o6⟩).run P w = .ok (.value v) w) (h : Till q R S (listed.setIfInBounds i true) w → wpTill P md ops Q q R S n (listed.setIfInBounds i true) ⟨(zS l o1 v).toArray, df⟩ w)
    (hc : okS md ops q listed i = true := by kernel_rfl) (ho : ops[i]? = some ⟨o1, o2, o3, o4, o5, o6⟩ := by rfl) (hw : Region.wanted ⟨o1, o2, o3, o4, o5, o6⟩ (yielded ops l.toArray) = true := by rfl)
    (hQ : ∀ c a a' w, Q (.panic c) a' w → Q (.panic c) a w := by exact fun _ _ _ _ h => h) (hR : Till q R S listed w := by assumption) : wpTill P md ops Q q R S (n + 1) listed ⟨l.toArray, df⟩ w := by
  have hk := hc
  unfold okS at hk
  rw [Bool.and_eq_true] at hk
  exact wpTill.takeAny ho (okI.of hk.1).1 (okI.of hk.1).2.1 (okI.of hk.1).2.2 hk.2 (fun c b w => hQ c b _ w) (.inl ⟨hw, hy⟩) hR (by rw [zP]; exact h)
theorem ttl {i : Nat} {is : List Nat} (hy : ∀ w, S w ∧ R w → (execOp (Act.eval ⟨l.toArray, df⟩) ⟨o1, o2, o3, o4, o5, o6⟩).run P w = .ok (.value v) w) (h : Till q R S (listed.setIfInBounds i true) w → Pl is (wpTill P md ops Q q R S n (listed.setIfInBounds i true) ⟨(zS l o1 v).toArray, df⟩ w))
    (hc : okT md ops q listed i = true := by kernel_rfl) (ho : ops[i]? = some ⟨o1, o2, o3, o4, o5, o6⟩ := by rfl) (hw : Region.wanted ⟨o1, o2, o3, o4, o5, o6⟩ (yielded ops l.toArray) = true := by rfl)
    (hQ : ∀ c a a' w, Q (.panic c) a' w → Q (.panic c) a w := by exact fun _ _ _ _ h => h) (hR : Till q R S listed w := by assumption) : Pl (i :: is) (wpTill P md ops Q q R S (n + 1) listed ⟨l.toArray, df⟩ w) := tt i hy h hc ho hw hQ hR
theorem tsl {i : Nat} {is : List Nat} (hy : ∀ w, S w → (execOp (Act.eval ⟨l.toArray, df⟩) ⟨o1, o2, o3, o4, o5, o6⟩).run P w = .ok (.value v) w) (h : Till q R S (listed.setIfInBounds i true) w → Pl is (wpTill P md ops Q q R S n (listed.setIfInBounds i true) ⟨(zS l o1 v).toArray, df⟩ w))
    (hc : okS md ops q listed i = true := by kernel_rfl) (ho : ops[i]? = some ⟨o1, o2, o3, o4, o5, o6⟩ := by rfl) (hw : Region.wanted ⟨o1, o2, o3, o4, o5, o6⟩ (yielded ops l.toArray) = true := by rfl)
    (hQ : ∀ c a a' w, Q (.panic c) a' w → Q (.panic c) a w := by exact fun _ _ _ _ h => h) (hR : Till q R S listed w := by assumption) : Pl (i :: is) (wpTill P md ops Q q R S (n + 1) listed ⟨l.toArray, df⟩ w) := ts i hy h hc ho hw hQ hR
end
end Go.Proofs.YtcpophfchchpkaaGreatDoor
