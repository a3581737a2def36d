/- SymCA -/
import Derived.Test.YtcpophfchchpkaaGreatDoorMs8
import Derived.Below
namespace Go.Sy
open Go Go.RowKit
/-- A program's variable: its type, what its cells hold. -/
structure GV where
  t : TypeId
  l : List AV
  vs : List Value
def GV.Good (g : GV) : Prop := (∀ s, concL s g.l = some g.vs) ∧ ∀ v ∈ g.vs, v.oneCell' = true
noncomputable def putGs {β : Type} (gs : List GV) : Nat → Heap → (Heap → β) → β :=
  List.rec (motive := fun _ => Nat → Heap → (Heap → β) → β) (fun _ H k => k H)
    (fun g _ ih i H k => putCells g.l .e 0 fun c => frc (len g.l) fun m => Q8.set (some (.row g.t (fun _ => none) m c true false)) H i fun H => frc (Nat.succ i) fun i => ih i H k) gs
/-- The variable reads as at first (its type is no number that the kernel could compare: so a proposition). -/
noncomputable def sameG (g : GV) (b : Option Blk) : Prop :=
  match b with
  | some (.row t z m c true false) => (match Nat.beq m (len g.l), cellsAt z m c m 0 with
      | true, some l => (match eq1s l g.l with | true => t = g.t | false => False)
      | _, _ => False)
  | _ => False
noncomputable def sameGs (H : Heap) (gs : List GV) : Nat → Prop :=
  List.rec (motive := fun _ => Nat → Prop) (fun _ => True) (fun g _ ih i => sameG g (Q8.get H i) ∧ ih (Nat.succ i)) gs
noncomputable def closedP (P : Program) (O : Orc) (fuel : Nat) (f : FuncId) (args : List AV) (res : AV) (gs : List GV) : Prop :=
  putGs gs 0 Q8.e fun H => match (ev P O fuel).ef f args 64 H with
    | .ok v n' H' => (match eqV v res, Nat.ble n' 65536 with | true, true => sameGs H' gs 0 | _, _ => False)
    | .er _ => False
noncomputable def rowG (g : GV) : Blk := .row g.t (fun _ => none) g.l.length (T.e.puts g.l 0) true false
noncomputable def hG : List GV → Nat → Heap → Heap
  | [], _, H => H
  | g :: gs, i, H => hG gs (i + 1) (Q8.upd H i (some (rowG g)))
theorem putGs_k {β : Type} (gs : List GV) : ∀ (i : Nat) (H : Heap) (k : Heap → β), putGs gs i H k = k (hG gs i H) := by
  induction gs with
  | nil => intro i H k; rfl
  | cons g gs ih =>
    intro i H k
    show putCells g.l .e 0 (fun c => frc (len g.l) fun m => Q8.set (some (.row g.t (fun _ => none) m c true false)) H i fun H => frc (Nat.succ i) fun i => putGs gs i H k) = _
    rw [putCells_k, frc_eq, Q8.set_k, frc_eq, ih, len_eq]
    rfl
theorem get_hG (gs : List GV) : ∀ (i : Nat) (H : Heap) (x : Nat), i + gs.length ≤ LIM → x < LIM → Q8.get (hG gs i H) x = if i ≤ x ∧ x < i + gs.length then (gs[x - i]?).map rowG else Q8.get H x := by
  induction gs with
  | nil => intro i H x _ _; rw [if_neg (by simp)]; rfl
  | cons g gs ih =>
    intro i H x hi hx
    have hl : (g :: gs).length = gs.length + 1 := rfl
    rw [hl] at hi ⊢
    show Q8.get (hG gs (i + 1) (Q8.upd H i (some (rowG g)))) x = _
    rw [ih (i + 1) _ x (by omega) hx, Q8.get_upd _ _ _ _ (by omega) hx]
    by_cases h1 : i = x
    · subst h1
      rw [if_neg (by omega), if_pos rfl, if_pos (by omega)]; simp
    · rw [if_neg h1]
      by_cases h2 : i + 1 ≤ x ∧ x < i + 1 + gs.length
      · rw [if_pos h2, if_pos (by omega), show x - i = (x - (i + 1)) + 1 by omega]; simp
      · rw [if_neg h2, if_neg (by omega)]
theorem sameGs_at {H : Heap} : ∀ {gs : List GV} {i : Nat}, sameGs H gs i → ∀ {j : Nat} {g : GV}, gs[j]? = some g → sameG g (Q8.get H (i + j))
  | [], i, _, j, g, hj => by simp at hj
  | g' :: gs, i, h, j, g, hj => by
    have h : sameG g' (Q8.get H i) ∧ sameGs H gs (Nat.succ i) := h
    cases j with
    | zero => simp at hj; subst hj; exact h.1
    | succ j => rw [show i + (j + 1) = Nat.succ i + j by simp; omega]; exact sameGs_at h.2 (by simpa using hj)
/-- The symbols at first: the program's variables. -/
def sg0 : Sg := ⟨fun x => if x < 64 then some x else none, fun _ => 0⟩
theorem sg0_some {x b : Nat} (h : sg0.blk x = some b) : x < 64 ∧ b = x := by
  simp only [sg0] at h
  split at h
  · rename_i hx; injection h with h; exact ⟨hx, h.symm⟩
  · cases h
section
variable {P : Program}
theorem rowG_good {g : GV} (hg : g.Good) (s : Sg) (x : Nat) : BlkR P s x (rowG g) (Obj.cells ⟨g.vs⟩ g.t (0, 0)) := by
  have hl := concL_length (hg.1 s)
  refine ⟨rfl, by simp [hl], fun i A hA => ?_, by simp [hl], .inl rfl⟩
  have hlt := cellAt_lt hA
  rw [cellAt_eq, if_pos hlt, T.get_puts] at hA
  rw [if_pos (by omega)] at hA
  rw [Nat.sub_zero, List.getElem?_eq_getElem hlt] at hA
  have hA' : g.l[i]? = some A := by rw [List.getElem?_eq_getElem hlt]; exact hA
  obtain ⟨V, h1, h2⟩ := concL_get (hg.1 s) hA'
  exact ⟨V, h1, by simpa using h2, hg.2 V (List.mem_of_getElem? h2)⟩
theorem rel0 {gs : List GV} {w : World} (hgs : gs.length ≤ 64) (hg : ∀ g ∈ gs, g.Good) (hw : ∀ (j : Nat) (g : GV), gs[j]? = some g → w.heap[j]? = some (Obj.cells ⟨g.vs⟩ g.t (0, 0))) : Rel P sg0 (hG gs 0 Q8.e) w := by
  have hL : (64 : Nat) < LIM := by decide
  refine ⟨fun x b h => by have := (sg0_some h).1; omega, fun g h => by simp [sg0, h], fun x A hx hA => ?_, fun x y b _ _ _ _ h1 h2 => ?_⟩
  · rw [get_hG gs 0 _ x (by omega) hx] at hA
    split at hA
    · rename_i h
      rw [Nat.sub_zero, Option.map_eq_some_iff] at hA
      obtain ⟨g, h1, rfl⟩ := hA
      exact ⟨x, _, by simp [sg0]; omega, hw x g h1, rowG_good (hg g (List.mem_of_getElem? h1)) _ _⟩
    · rw [Q8.get_e] at hA; cases hA
  · exact (sg0_some h1).2.symm.trans (sg0_some h2).2
theorem sameG_row' {g : GV} (hg : g.Good) {s : Sg} {x : Nat} {t : TypeId} {z : Nat → Option AV} {m : Nat} {c : T AV} {o : Obj} (h1 : t = g.t) (h2 : m = g.l.length) (h3 : cellsAt z m c m 0 = some g.l) (hr : BlkR P s x (.row t z m c true false) o) : o = Obj.cells ⟨g.vs⟩ g.t (0, 0) := by
  cases o with
  | cells a t' fz =>
    obtain ⟨r1, r2, r3, r4, r5⟩ := hr
    rw [if_pos rfl] at r4
    have hf : fz = (0, 0) := by
      rcases r5 with r5 | ⟨r5, _⟩
      · exact r5
      · cases r5
    have ha : a = ⟨g.vs⟩ := by
      have hl := concL_length (hg.1 s)
      apply Array.ext_getElem?
      intro i
      by_cases hi : i < m
      · obtain ⟨k1, k2⟩ := (cellsAt_get h3).2 i hi
        rw [Nat.zero_add] at k1 k2
        obtain ⟨B, hB⟩ := Option.isSome_iff_exists.1 k2
        obtain ⟨V, v1, v2, _⟩ := r3 i B hB
        rw [hB] at k1
        obtain ⟨V', u1, u2⟩ := concL_get (hg.1 s) k1
        rw [v1] at u1; injection u1 with u1; subst u1
        rw [v2]; simpa using u2.symm
      · rw [Array.getElem?_eq_none (by omega), Array.getElem?_eq_none (by simp; omega)]
    subst hf ha
    rw [r1, h1]
  | _ => exact hr.elim
theorem sameG_row {g : GV} (hg : g.Good) {s : Sg} {x : Nat} {A : Blk} {o : Obj} (h : sameG g (some A)) (hr : BlkR P s x A o) : o = Obj.cells ⟨g.vs⟩ g.t (0, 0) := by
  unfold sameG at h
  split at h
  · rename_i t z m c e
    injection e with e
    subst e
    split at h
    · rename_i l h2 h3
      split at h
      · rename_i h4
        have h1 := h
        have h2 := Nat.eq_of_beq_eq_true h2
        rw [len_eq] at h2
        have h4 := eq1s_eq h4
        subst h4
        exact sameG_row' hg h1 h2 h3 hr
      · cases h
    · cases h
  · cases h
/-- A closed run, from what the evaluator says. -/
theorem closed_run {O : Orc} (hm : P.follows .mixedOrders = true) (hO : OrcOk P O) {fuel : Nat} {f : FuncId} {args : List AV} {res : AV} {gs : List GV} {Args : List Value} {V : Value}
    (hgs : gs.length ≤ 64) (hg : ∀ g ∈ gs, g.Good) (hA : ∀ s, concL s args = some Args) (hV : ∀ s, res.conc s = some V) (h : closedP P O fuel f args res gs)
    {w : World} (hw : ∀ (j : Nat) (g : GV), gs[j]? = some g → w.heap[j]? = some (Obj.cells ⟨g.vs⟩ g.t (0, 0))) : Calls P f ⟨Args⟩ w fun e w' => e = .returned V ∧ Below w.heap.size w w' := by
  unfold closedP at h
  rw [putGs_k] at h
  split at h
  · rename_i v n' H' hev
    split at h
    · rename_i h1 h2
      have h3 := h
      have h1 := eqV_eq h1
      subst h1
      have hr0 := rel0 (P := P) hgs hg hw
      refine callsIn_wide.1 (calls_of_ev hm hO hev (hA sg0) hr0 (fun x h1 _ => by simp [sg0]; omega) (Nat.le_of_ble_eq_true h2) fun V' s' w' hv hr hs => ?_)
      rw [hV] at hv
      injection hv with hv
      subst hv
      refine ⟨rfl, hs.os, hs.tape, hs.output, hs.size, fun k hk => ?_⟩
      by_cases hkg : k < gs.length
      · obtain ⟨g, hgk⟩ : ∃ g, gs[k]? = some g := ⟨_, List.getElem?_eq_getElem hkg⟩
        have hsm := sameGs_at h3 hgk
        rw [Nat.zero_add] at hsm
        cases hB : Q8.get H' k with
        | none => rw [hB] at hsm; exact hsm.elim
        | some B =>
          rw [hB] at hsm
          obtain ⟨b, o, b1, b2, b3⟩ := hr.blk k B (by have : (64 : Nat) < LIM := by decide
                                                      omega) hB
          rw [(hs.off k (.inl (by omega))).1] at b1
          have := (sg0_some b1).2
          subst this
          rw [b2, hw _ _ hgk, sameG_row (hg g (List.mem_of_getElem? hgk)) hsm b3]
      · refine hs.frame k hk fun x hx h1 h2 => ?_
        have := (sg0_some h2).2
        subst this
        rw [get_hG gs 0 _ _ (by have : (64 : Nat) < LIM := by decide
                                omega) hx, if_neg (by omega), Q8.get_e] at h1
        exact h1 rfl
    · cases h
  · cases h
end
end Go.Sy
