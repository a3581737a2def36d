/- SymCB, SymCQ -/
import Derived.Test.YtloecagaldepfaaGreatDoorMs12
namespace Go.Sy
open Go Go.RowKit
noncomputable def putRs {β : Type} (rs : List (Nat × GV)) : Heap → (Heap → β) → β :=
  List.rec (motive := fun _ => Heap → (Heap → β) → β) (fun H k => k H)
    (fun g _ ih H k => putCells g.2.l .e 0 fun c => frc (len g.2.l) fun m => Q8.set (some (.row g.2.t (fun _ => none) m c true false)) H g.1 fun H => ih H k) rs
noncomputable def sameRs (H : Heap) (rs : List (Nat × GV)) : Prop :=
  List.rec True (fun g _ ih => sameG g.2 (Q8.get H g.1) ∧ ih) rs
noncomputable def runP (P : Program) (O : Orc) (fuel : Nat) (f : FuncId) (args : List AV) (res : AV) (rs : List (Nat × GV)) (nb : Nat) : Prop :=
  putRs rs Q8.e fun H => match (ev P O fuel).ef f args (Nat.add 64 nb) H with
    | .ok v n' H' => (match Nat.ble n' 65536 with | true => v = res ∧ sameRs H' rs | false => False)
    | .er _ => False
noncomputable def hR : List (Nat × GV) → Heap → Heap
  | [], H => H
  | g :: rs, H => hR rs (Q8.upd H g.1 (some (rowG g.2)))
theorem putRs_k {β : Type} (rs : List (Nat × GV)) : ∀ (H : Heap) (k : Heap → β), putRs rs H k = k (hR rs H) := by
  induction rs with
  | nil => intro H k; rfl
  | cons g rs ih =>
    intro H k
    show putCells g.2.l .e 0 (fun c => frc (len g.2.l) fun m => Q8.set (some (.row g.2.t (fun _ => none) m c true false)) H g.1 fun H => putRs rs H k) = _
    rw [putCells_k, frc_eq, Q8.set_k, ih, len_eq]
    rfl
theorem get_hR (rs : List (Nat × GV)) : ∀ (H : Heap) (x : Nat), (∀ g ∈ rs, g.1 < LIM) → x < LIM → Q8.get (hR rs H) x = Q8.get H x ∨ ∃ g ∈ rs, g.1 = x ∧ Q8.get (hR rs H) x = some (rowG g.2) := by
  induction rs with
  | nil => intro H x _ _; exact .inl rfl
  | cons g rs ih =>
    intro H x hl hx
    rcases ih (Q8.upd H g.1 (some (rowG g.2))) x (fun g hg => hl g (List.mem_cons_of_mem _ hg)) hx with h | ⟨y, h1, h2, h3⟩
    · rw [Q8.get_upd _ _ _ _ (hl g List.mem_cons_self) hx] at h
      by_cases he : g.1 = x
      · rw [if_pos he] at h
        exact .inr ⟨g, List.mem_cons_self, he, h⟩
      · rw [if_neg he] at h; exact .inl h
    · exact .inr ⟨y, List.mem_cons_of_mem _ h1, h2, h3⟩
theorem sameRs_at {H : Heap} : ∀ {rs : List (Nat × GV)}, sameRs H rs → ∀ g ∈ rs, sameG g.2 (Q8.get H g.1)
  | [], _, g, hg => by cases hg
  | g' :: rs, h, g, hg => by
    have h : sameG g'.2 (Q8.get H g'.1) ∧ sameRs H rs := h
    rcases List.mem_cons.1 hg with rfl | hg
    · exact h.1
    · exact sameRs_at h.2 g hg
/-- The symbols at first: the program's variables, the arguments' blocks. -/
def sgB (bs : List Nat) : Sg := ⟨fun x => if x < 64 then some x else bs[x - 64]?, fun _ => 0⟩
theorem sgB_some {bs : List Nat} {x b : Nat} (h : (sgB bs).blk x = some b) : (x < 64 ∧ b = x) ∨ (64 ≤ x ∧ x < 64 + bs.length ∧ bs[x - 64]? = some b) := by
  simp only [sgB] at h
  split at h
  · rename_i hx; injection h with h; exact .inl ⟨hx, h.symm⟩
  · rename_i hx
    have := (List.getElem?_eq_some_iff.1 h).1
    exact .inr ⟨by omega, by omega, h⟩
/-- What a run starts from: rows whole, each in a block of its own. -/
structure RowsAt (w : World) (rs : List (Nat × GV)) (bs : List Nat) : Prop where
  good : ∀ g ∈ rs, g.2.Good
  blk : ∀ g ∈ rs, ∃ b, (sgB bs).blk g.1 = some b ∧ w.heap[b]? = some (Obj.cells ⟨g.2.vs⟩ g.2.t (0, 0))
  inj : ∀ g ∈ rs, ∀ g' ∈ rs, ∀ b, (sgB bs).blk g.1 = some b → (sgB bs).blk g'.1 = some b → g.1 = g'.1
  few : bs.length ≤ 1000
section
variable {P : Program}
theorem run_args {O : Orc} (hm : P.follows .mixedOrders = true) (hO : OrcOk P O) {fuel : Nat} {f : FuncId} {args : List AV} {res : AV} {rs : List (Nat × GV)} {bs : List Nat} {Args : List Value} {V : Value}
    {w : World} (hrs : RowsAt w rs bs) (hA : concL (sgB bs) args = some Args) (hV : ∀ s, res.conc s = some V) (h : runP P O fuel f args res rs bs.length) : Calls P f ⟨Args⟩ w fun e w' => e = .returned V ∧ Below w.heap.size w w' := by
  have hL : (65536 : Nat) = LIM := rfl
  have hfew := hrs.few
  have hlt : ∀ g ∈ rs, g.1 < LIM := fun g hg => by
    obtain ⟨b, hb, _⟩ := hrs.blk g hg
    rcases sgB_some hb with ⟨a1, a2⟩ | ⟨a1, a2, a3⟩ <;> omega
  unfold runP at h
  rw [putRs_k] at h
  have hget : ∀ x, x < LIM → Q8.get (hR rs Q8.e) x = none ∨ ∃ g ∈ rs, g.1 = x ∧ Q8.get (hR rs Q8.e) x = some (rowG g.2) := fun x hx => by
    rcases get_hR rs Q8.e x hlt hx with h | h
    · exact .inl (h.trans (Q8.get_e x))
    · exact .inr h
  have hr0 : Rel P (sgB bs) (hR rs Q8.e) w := by
    refine ⟨fun x b hb => ?_, fun g hg => by simp [sgB, hg], fun x A hx hA => ?_, fun x y b hx hy h1 h2 h3 h4 => ?_⟩
    · rcases sgB_some hb with ⟨a1, a2⟩ | ⟨a1, a2, a3⟩ <;> omega
    · rcases hget x hx with h | ⟨g, hg, rfl, h⟩
      · rw [h] at hA; cases hA
      · rw [h] at hA; injection hA with hA; subst hA
        obtain ⟨b, hb, hw⟩ := hrs.blk g hg
        exact ⟨b, _, hb, hw, rowG_good (hrs.good g hg) _ _⟩
    · rcases hget x hx with h | ⟨g, hg, rfl, h⟩
      · exact absurd h h1
      · rcases hget y hy with h' | ⟨g', hg', rfl, h'⟩
        · exact absurd h' h2
        · exact hrs.inj g hg g' hg' b h3 h4
  split at h
  · rename_i v n' H' hev
    split at h
    · rename_i h2
      obtain ⟨h1, h⟩ := h
      subst h1
      refine callsIn_wide.1 (calls_of_ev hm hO hev hA hr0 (fun x h1 _ => ?_) (Nat.le_of_ble_eq_true h2) fun V' s' w' hv hr hs => ?_)
      · have h1 : 64 + bs.length ≤ x := h1
        simp only [sgB]
        rw [if_neg (by omega), List.getElem?_eq_none (by omega)]
      rw [hV] at hv
      injection hv with hv
      subst hv
      refine ⟨rfl, hs.os, hs.tape, hs.output, hs.size, fun k hk => ?_⟩
      have hoff : ∀ x, x < 64 + bs.length → s'.blk x = (sgB bs).blk x := fun x hx => (hs.off x (.inl hx)).1
      by_cases hex : ∃ x, x < LIM ∧ Q8.get (hR rs Q8.e) x ≠ none ∧ (sgB bs).blk x = some k
      · obtain ⟨x, hx, hxn, hxb⟩ := hex
        rcases hget x hx with h' | ⟨g, hg, rfl, h'⟩
        · exact absurd h' hxn
        · have hsm := sameRs_at h g hg
          cases hB : Q8.get H' g.1 with
          | none => rw [hB] at hsm; exact hsm.elim
          | some B =>
            rw [hB] at hsm
            obtain ⟨b, o, b1, b2, b3⟩ := hr.blk g.1 B hx hB
            have hx2 : g.1 < 64 + bs.length := by rcases sgB_some hxb with ⟨a1, a2⟩ | ⟨a1, a2, a3⟩ <;> omega
            rw [hoff g.1 hx2, hxb] at b1
            injection b1 with b1; subst b1
            obtain ⟨b', hb', hw⟩ := hrs.blk g hg
            rw [hxb] at hb'; injection hb' with hb'; subst hb'
            rw [b2, hw, sameG_row (hrs.good g hg) hsm b3]
      · exact hs.frame k hk fun x hx h1 h2 => hex ⟨x, hx, h1, h2⟩
    · cases h
  · cases h
theorem rowsAt_nil (w : World) : RowsAt w [] [] := ⟨by simp, by simp, by simp, by simp⟩
/-- No rows: values alone. -/
theorem run_vals {O : Orc} (hm : P.follows .mixedOrders = true) (hO : OrcOk P O) {fuel : Nat} {f : FuncId} {args : List AV} {res : AV} {Args : List Value} {V : Value}
    (hA : concL (sgB []) args = some Args) (hV : ∀ s, res.conc s = some V) (h : runP P O fuel f args res [] 0) (w : World) : Calls P f ⟨Args⟩ w fun e w' => e = .returned V ∧ Below w.heap.size w w' :=
  run_args hm hO (rowsAt_nil w) hA hV h
/-- The program's variables. -/
theorem rowsAt_globals {w : World} {rs : List (Nat × GV)} (hg : ∀ g ∈ rs, g.2.Good) (hw : ∀ g ∈ rs, g.1 < 64 ∧ w.heap[g.1]? = some (Obj.cells ⟨g.2.vs⟩ g.2.t (0, 0))) : RowsAt w rs [] := by
  refine ⟨hg, fun g h => ⟨g.1, by simp [sgB, (hw g h).1], (hw g h).2⟩, fun g h g' h' b e e' => ?_, by simp⟩
  rcases sgB_some e with ⟨a1, a2⟩ | ⟨a1, a2, a3⟩ <;> rcases sgB_some e' with ⟨b1, b2⟩ | ⟨b1, b2, b3⟩ <;> first | omega | (simp at a2 b2; omega) | (simp at a3) | (simp at b3)
end
/-- Integers in a row. -/
def gInts (k : IntKind) (t : TypeId) (l : List Nat) : GV := ⟨t, l.map fun n => .i k (.ofNat n), l.map fun n => .int k (.ofNat n)⟩
theorem gInts_good (k : IntKind) (t : TypeId) (l : List Nat) : (gInts k t l).Good := by
  refine ⟨fun s => ?_, fun v hv => ?_⟩
  · show concL s (l.map fun n => .i k (.ofNat n)) = some (l.map fun n => .int k (.ofNat n))
    induction l with
    | nil => rfl
    | cons a r ih => exact concL_cons.2 ⟨_, _, rfl, ih, rfl⟩
  · simp only [gInts, List.mem_map] at hv
    obtain ⟨n, _, rfl⟩ := hv
    rfl
def bruijnN : List Nat := [0,1,56,2,57,49,28,3,61,58,42,50,38,29,17,4,62,47,59,36,45,43,51,22,53,39,33,30,24,18,12,5,63,55,48,27,60,41,37,16,46,35,44,21,52,32,23,11,54,26,40,15,34,20,31,10,25,14,19,9,13,8,7,6]
def kindsN : List Nat := [3,1,2,4,5,6,7,8,9,10,11,12,13,14,3,1]
end Go.Sy
namespace Go.Sy
open Go Go.RowKit
section
variable {P : Program}
theorem Rel.below {s : Sg} {H : Heap} {w w' : World} (h : Rel P s H w) (hb : Below w.heap.size w w') : Rel P s H w' :=
  ⟨h.lim, h.glob, fun x A hx hA => by
    obtain ⟨b, o, h1, h2, h3⟩ := h.blk x A hx hA
    exact ⟨b, o, h1, (hb.block b (Array.getElem?_eq_some_iff.1 h2).1).trans h2, h3⟩, h.inj⟩
theorem Step.below {s : Sg} {n : Nat} {H : Heap} {w w' : World} (hb : Below w.heap.size w w') : Step s n H w s n H w' :=
  ⟨fun _ _ => ⟨rfl, rfl⟩, hb.size, fun b hlt _ => hb.block b hlt, fun y _b hy h1 h2 _ => ⟨y, hy, h1, h2⟩, hb.os, hb.tape, hb.output⟩
theorem fnGood_quiet {f : FuncId} {args : List AV} {n : Nat} {H : Heap} {v : AV} {V : Value} (hv : ∀ s, v.conc s = some V)
    (hT : ∀ (s : Sg) (w : World) (Args : List Value), concL s args = some Args → Rel P s H w → Calls P f ⟨Args⟩ w fun e w' => e = .returned V ∧ Below w.heap.size w w') : FnGood P f args n H v n H := by
  refine ⟨Nat.le_refl _, fun s w Args R hA hr hf hl hR => callsIn_wide.2 ((hT s w Args hA hr).mono ?_)⟩
  rintro e w' ⟨rfl, hb⟩
  exact hR V s w' (hv s) (hr.below hb) (Step.below hb)
/-- A block of the abstract heap reads as some values, whatever its type. -/
noncomputable def readsRow (l : List AV) (b : Option Blk) : Bool :=
  match b with
  | some (.row _ z m c true false) => (match Nat.beq m (len l), cellsAt z m c m 0 with
      | true, some l' => eq1s l' l
      | _, _ => false)
  | _ => false
theorem readsRow_at {s : Sg} {H : Heap} {w : World} {l : List AV} {vs : List Value} {x : Nat} (hr : Rel P s H w) (hx : x < LIM) (hl : ∀ s, concL s l = some vs) (hv : ∀ v ∈ vs, v.oneCell' = true) (h : readsRow l (Q8.get H x) = true) :
    ∃ b t, s.blk x = some b ∧ w.heap[b]? = some (Obj.cells ⟨vs⟩ t (0, 0)) := by
  unfold readsRow at h
  split at h
  · rename_i t z m c hq
    split at h
    · rename_i l' h2 h3
      have h2 := Nat.eq_of_beq_eq_true h2
      rw [len_eq] at h2
      have h4 := eq1s_eq h
      subst h4
      obtain ⟨b, o, b1, b2, b3⟩ := hr.blk x _ hx hq
      have := sameG_row' (g := ⟨t, l', vs⟩) ⟨hl, hv⟩ rfl h2 h3 b3
      subst this
      exact ⟨b, t, b1, b2⟩
    · cases h
  · cases h
noncomputable def readsRows (H : Heap) (rs : List (Nat × List AV)) : Bool :=
  List.rec true (fun g _ ih => match readsRow g.2 (Q8.get H g.1) with | true => ih | false => false) rs
theorem readsRows_at {H : Heap} : ∀ {rs : List (Nat × List AV)}, readsRows H rs = true → ∀ g ∈ rs, readsRow g.2 (Q8.get H g.1) = true
  | [], _, g, hg => by cases hg
  | g' :: rs, h, g, hg => by
    have h : (match readsRow g'.2 (Q8.get H g'.1) with | true => readsRows H rs | false => false) = true := h
    split at h
    · rename_i h1
      rcases List.mem_cons.1 hg with rfl | hg
      · exact h1
      · exact readsRows_at h g hg
    · cases h
/-- Two oracles in one. -/
theorem orcOk_add {O : Orc} {f : FuncId} {g : List AV → Nat → Heap → VR} (hO : OrcOk P O) (h : ∀ args n H v n' H', g args n H = .ok v n' H' → FnGood P f args n H v n' H') : OrcOk P (fun x => match Nat.beq x f with | true => some g | false => O x) := by
  intro x g' hx
  simp only at hx
  split at hx
  · rename_i e
    have e : x = f := by simpa using e
    subst e
    injection hx with hx; subst hx
    exact h
  · exact hO x g' hx
end
end Go.Sy
