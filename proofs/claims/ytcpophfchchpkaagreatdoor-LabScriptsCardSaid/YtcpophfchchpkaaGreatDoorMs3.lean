/- SymE, SymF, SymG, SymH -/
import Derived.Test.YtcpophfchchpkaaGreatDoorMs2
import Derived.Laws.Tables
import Derived.Laws.MakeOwn
namespace Go.Sy
open Go
/-- Two lists, one by one. -/
def All2 {α β : Type} (R : α → β → Prop) : List α → List β → Prop
  | [], [] => True
  | a :: l, b :: m => R a b ∧ All2 R l m
  | _, _ => False
theorem All2.imp {α β : Type} {R S : α → β → Prop} (h : ∀ a b, R a b → S a b) : ∀ {l : List α} {m : List β}, All2 R l m → All2 S l m
  | [], [], _ => trivial
  | _ :: _, _ :: _, k => ⟨h _ _ k.1, k.2.imp h⟩
/-! ### Memory -/
section
variable (P : Program)
def MapR (s : Sg) (e : AV × AV × Nat) (f : MapEntry) : Prop := e.1.conc s = some f.key ∧ e.2.1.conc s = some f.val ∧ f.born = e.2.2
/-- What an abstract block says of an object. -/
def BlkR (s : Sg) (x : Nat) : Blk → Obj → Prop
  | .row t z m c ex mk, .cells a t' fz => t' = t ∧ m ≤ a.size ∧ (∀ i A, cellAt z m c i = some A → ∃ V, A.conc s = some V ∧ a[i]? = some V ∧ V.oneCell' = true) ∧
      (if ex = true then a.size = m else a.size = s.cap x * P.cellsOf t) ∧ (fz = (0, 0) ∨ (mk = true ∧ fz = (a.size, a.size + 1)))
  | .map es cl, .map a cl' => cl' = cl ∧ All2 (MapR s) es a.toList
  | .loop st pe ps asg body env N d, .loop l => l.state = st ∧ l.pending = pe ∧ l.params.toList = ps ∧ l.assign = asg ∧ l.body = body ∧ EnvR s env N l.tmps ∧ s.blk d = some l.defers
  | .defd, .deferred (some []) => True
  | .iter none a q l, .mapIter none a' q' l' => a' = a ∧ q'.toList = q ∧ l' = l
  | .iter (some y) a q l, .mapIter (some b) a' q' l' => s.blk y = some b ∧ a' = a ∧ q'.toList = q ∧ l' = l
  | _, _ => False
structure Rel (s : Sg) (H : Heap) (w : World) : Prop where
  lim : ∀ x b, s.blk x = some b → x < LIM
  glob : s.glob
  blk : ∀ x A, x < LIM → Q8.get H x = some A → ∃ b o, s.blk x = some b ∧ w.heap[b]? = some o ∧ BlkR P s x A o
  inj : ∀ x y b, x < LIM → y < LIM → Q8.get H x ≠ none → Q8.get H y ≠ none → s.blk x = some b → s.blk y = some b → x = y
end
/-- From one state to a later one: only blocks of H may have changed, and new ones have come; the symbols from n to n' are new. -/
structure Step (s : Sg) (n : Nat) (H : Heap) (w : World) (s' : Sg) (n' : Nat) (H' : Heap) (w' : World) : Prop where
  off : ∀ x, (x < n ∨ n' ≤ x) → s'.blk x = s.blk x ∧ s'.cap x = s.cap x
  size : w.heap.size ≤ w'.heap.size
  frame : ∀ b, b < w.heap.size → (∀ x, x < LIM → Q8.get H x ≠ none → s.blk x ≠ some b) → w'.heap[b]? = w.heap[b]?
  dom : ∀ y b, y < LIM → Q8.get H' y ≠ none → s'.blk y = some b → b < w.heap.size → ∃ x, x < LIM ∧ Q8.get H x ≠ none ∧ s.blk x = some b
  os : w'.os = w.os
  tape : w'.tape = w.tape
  output : w'.output = w.output
/-- The symbols from n to n' are not taken. -/
def Free (s : Sg) (n n' : Nat) : Prop := ∀ x, n ≤ x → x < n' → s.blk x = none
theorem Free.left {s : Sg} {n m k : Nat} (h : Free s n k) (hm : m ≤ k) : Free s n m := fun x a b => h x a (Nat.lt_of_lt_of_le b hm)
theorem Step.le {s : Sg} {n : Nat} {H : Heap} {w : World} {s' : Sg} {n' : Nat} {H' : Heap} {w' : World} (h : Step s n H w s' n' H' w') (hf : Free s n n') : s.le s' := by
  intro x b hb
  by_cases hx : x < n ∨ n' ≤ x
  · exact ⟨(h.off x hx).1.trans hb, (h.off x hx).2⟩
  · have := hf x (by omega) (by omega)
    rw [this] at hb; cases hb
theorem Step.refl (s : Sg) (n : Nat) (H : Heap) (w : World) : Step s n H w s n H w :=
  ⟨fun _ _ => ⟨rfl, rfl⟩, Nat.le_refl _, fun _ _ _ => rfl, fun y _b hy h1 h2 _ => ⟨y, hy, h1, h2⟩, rfl, rfl, rfl⟩
theorem Step.free {s : Sg} {n : Nat} {H : Heap} {w : World} {s' : Sg} {m : Nat} {H' : Heap} {w' : World} (h : Step s n H w s' m H' w') {k : Nat} (hf : Free s n k) (hn : n ≤ m) : Free s' m k := by
  intro x h1 h2
  rw [(h.off x (.inr h1)).1]
  exact hf x (by omega) h2
theorem Step.trans {s : Sg} {n : Nat} {H : Heap} {w : World} {s₁ : Sg} {n₁ : Nat} {H₁ : Heap} {w₁ : World} {s₂ : Sg} {n₂ : Nat} {H₂ : Heap} {w₂ : World}
    (h : Step s n H w s₁ n₁ H₁ w₁) (k : Step s₁ n₁ H₁ w₁ s₂ n₂ H₂ w₂) (hn : n ≤ n₁) (hn' : n₁ ≤ n₂) : Step s n H w s₂ n₂ H₂ w₂ := by
  refine ⟨fun x hx => ?_, Nat.le_trans h.size k.size, fun b hb hx => ?_, fun y b hy h1 h2 h3 => ?_, k.os.trans h.os, k.tape.trans h.tape, k.output.trans h.output⟩
  · obtain ⟨a1, a2⟩ := h.off x (by omega)
    obtain ⟨b1, b2⟩ := k.off x (by omega)
    exact ⟨b1.trans a1, b2.trans a2⟩
  · rw [k.frame b (Nat.lt_of_lt_of_le hb h.size) (fun y hy h1 h2 => ?_)]
    · exact h.frame b hb hx
    · obtain ⟨x, x1, x2, x3⟩ := h.dom y b hy h1 h2 hb
      exact hx x x1 x2 x3
  · obtain ⟨x, x1, x2, x3⟩ := k.dom y b hy h1 h2 (Nat.lt_of_lt_of_le h3 h.size)
    exact h.dom x b x1 x2 x3 h3
section
variable {P : Program} {s s' : Sg} {H : Heap} {w : World}
theorem MapR.le (h : s.le s') {e : AV × AV × Nat} {f : MapEntry} (k : MapR s e f) : MapR s' e f := ⟨AV.conc_le h _ k.1, AV.conc_le h _ k.2.1, k.2.2⟩
theorem BlkR.le (h : s.le s') {x : Nat} {b : Nat} (hx : s.blk x = some b) : ∀ {A : Blk} {o : Obj}, BlkR P s x A o → BlkR P s' x A o
  | .row t z m c ex mk, .cells a t' fz, k => by
    obtain ⟨k1, k2, k3, k4, k5⟩ := k
    refine ⟨k1, k2, fun i A hA => let ⟨V, v1, v2⟩ := k3 i A hA; ⟨V, AV.conc_le h A v1, v2⟩, ?_, k5⟩
    rw [(h x b hx).2]; exact k4
  | .map es cl, .map a cl', k => ⟨k.1, k.2.imp fun _ _ => MapR.le h⟩
  | .loop _ _ _ _ _ _ _ _, .loop l, k => ⟨k.1, k.2.1, k.2.2.1, k.2.2.2.1, k.2.2.2.2.1, k.2.2.2.2.2.1.le h, (h _ _ k.2.2.2.2.2.2).1⟩
  | .defd, .deferred (some []), _ => trivial
  | .iter none _ _ _, .mapIter none _ _ _, k => k
  | .iter (some _) _ _ _, .mapIter (some _) _ _ _, k => ⟨(h _ _ k.1).1, k.2⟩
/-- Blocks that are not told of may be forgotten. -/
theorem Rel.drop (h : Rel P s H w) {x : Nat} (hx : x < LIM) : Rel P s (Q8.upd H x none) w := by
  refine ⟨h.lim, h.glob, fun y A hy hA => ?_, fun y z b hy hz h1 h2 => ?_⟩
  · rw [Q8.get_upd _ _ _ _ hx hy] at hA
    split at hA
    · cases hA
    · exact h.blk y A hy hA
  · rw [Q8.get_upd _ _ _ _ hx hy] at h1
    rw [Q8.get_upd _ _ _ _ hx hz] at h2
    split at h1
    · exact absurd rfl h1
    · split at h2
      · exact absurd rfl h2
      · exact h.inj y z b hy hz h1 h2
theorem Step.drop (s : Sg) (n : Nat) (H : Heap) (w : World) {x : Nat} (hx : x < LIM) : Step s n H w s n (Q8.upd H x none) w := by
  refine ⟨fun _ _ => ⟨rfl, rfl⟩, Nat.le_refl _, fun _ _ _ => rfl, fun y b hy h1 h2 _ => ⟨y, hy, ?_, h2⟩, rfl, rfl, rfl⟩
  rw [Q8.get_upd _ _ _ _ hx hy] at h1
  split at h1
  · exact absurd rfl h1
  · exact h1
theorem Rel.drew (h : Rel P s H w) : Rel P s H w.drew := ⟨h.lim, h.glob, h.blk, h.inj⟩
theorem Rel.of_heap {w' : World} (h : Rel P s H w) (e : w'.heap = w.heap) : Rel P s H w' := ⟨h.lim, h.glob, fun x A hx hA => by rw [e]; exact h.blk x A hx hA, h.inj⟩
theorem Step.of_heap (s : Sg) (n : Nat) (H : Heap) {w w' : World} (e : w'.heap = w.heap) (e1 : w'.os = w.os) (e2 : w'.tape = w.tape) (e3 : w'.output = w.output) : Step s n H w s n H w' :=
  ⟨fun _ _ => ⟨rfl, rfl⟩, by rw [e]; exact Nat.le_refl _, fun b _ _ => by rw [e], fun y b hy h1 h2 _ => ⟨y, hy, h1, h2⟩, e1, e2, e3⟩
/-- s, and n stands for the block b, of capacity c. -/
def Sg.set (s : Sg) (n b c : Nat) : Sg := ⟨fun x => if x = n then some b else s.blk x, fun x => if x = n then c else s.cap x⟩
theorem Sg.set_le {n b c : Nat} (h : s.blk n = none) : s.le (s.set n b c) := by
  intro x y hy
  have : x ≠ n := fun e => by rw [e, h] at hy; cases hy
  simp [Sg.set, this, hy]
theorem Sg.set_blk (n b c : Nat) : (s.set n b c).blk n = some b := by simp [Sg.set]
theorem Sg.set_cap (n b c : Nat) : (s.set n b c).cap n = c := by simp [Sg.set]
theorem Rel.lt (h : Rel P s H w) {x : Nat} {A : Blk} (hx : x < LIM) (hA : Q8.get H x = some A) {b : Nat} (hb : s.blk x = some b) : b < w.heap.size := by
  obtain ⟨b', o, h1, h2, _⟩ := h.blk x A hx hA
  rw [h1] at hb; injection hb with hb; subst hb
  exact (Array.getElem?_eq_some_iff.1 h2).1
/-- A new block. -/
theorem Rel.alloc (h : Rel P s H w) {n : Nat} (hn : n < LIM) (hf : s.blk n = none) {A : Blk} {o : Obj} (c : Nat) (hA : BlkR P (s.set n w.heap.size c) n A o) :
    Rel P (s.set n w.heap.size c) (Q8.upd H n (some A)) (w.alloc o) ∧ Step s n H w (s.set n w.heap.size c) (n + 1) (Q8.upd H n (some A)) (w.alloc o) := by
  have hle := Sg.set_le (b := w.heap.size) (c := c) hf
  have hg : ∀ g, g < 64 → g ≠ n := fun g hg e => by rw [e] at hg; have := h.glob n hg; rw [hf] at this; cases this
  have hold : ∀ b, b < w.heap.size → (w.alloc o).heap[b]? = w.heap[b]? := fun b hb => by simp only [World.alloc]; rw [Array.getElem?_push]; split <;> first | omega | rfl
  refine ⟨⟨fun x b hb => ?_, fun g hg' => (hle g g (h.glob g hg')).1, fun x B hx hB => ?_, fun x y b hx hy h1 h2 h3 h4 => ?_⟩, fun x hx => ?_, by simp, fun b hb _ => hold b hb, fun y b hy h1 h2 h3 => ?_, rfl, rfl, rfl⟩
  · by_cases hx : x = n
    · subst hx; exact hn
    · simp only [Sg.set, hx, if_false] at hb; exact h.lim x b hb
  · rw [Q8.get_upd _ _ _ _ hn hx] at hB
    split at hB
    · rename_i he; subst he
      injection hB with hB; subst hB
      exact ⟨_, o, Sg.set_blk .., by simp only [World.alloc]; rw [Array.getElem?_push]; simp, hA⟩
    · obtain ⟨b, o', h1, h2, h3⟩ := h.blk x B hx hB
      exact ⟨b, o', (hle x b h1).1, by rw [hold b (Array.getElem?_eq_some_iff.1 h2).1]; exact h2, h3.le hle h1⟩
  · rw [Q8.get_upd _ _ _ _ hn hx] at h1
    rw [Q8.get_upd _ _ _ _ hn hy] at h2
    by_cases ex : n = x
    · by_cases ey : n = y
      · exact ex.symm.trans ey
      · subst ex
        rw [if_neg ey] at h2
        rw [Sg.set_blk] at h3; injection h3 with h3; subst h3
        simp only [Sg.set, Ne.symm ey, if_false] at h4
        obtain ⟨B, hB⟩ := Option.ne_none_iff_exists'.1 h2
        exact absurd (h.lt hy hB h4) (Nat.lt_irrefl _)
    · rw [if_neg ex] at h1
      by_cases ey : n = y
      · subst ey
        rw [Sg.set_blk] at h4; injection h4 with h4; subst h4
        simp only [Sg.set, Ne.symm ex, if_false] at h3
        obtain ⟨B, hB⟩ := Option.ne_none_iff_exists'.1 h1
        exact absurd (h.lt hx hB h3) (Nat.lt_irrefl _)
      · rw [if_neg ey] at h2
        simp only [Sg.set, Ne.symm ex, Ne.symm ey, if_false] at h3 h4
        exact h.inj x y b hx hy h1 h2 h3 h4
  · have : x ≠ n := by omega
    simp [Sg.set, this]
  · rw [Q8.get_upd _ _ _ _ hn hy] at h1
    by_cases ey : n = y
    · subst ey
      rw [Sg.set_blk] at h2; injection h2 with h2; omega
    · rw [if_neg ey] at h1
      simp only [Sg.set, Ne.symm ey, if_false] at h2
      exact ⟨y, hy, h1, h2⟩
/-- A block is written. -/
theorem Rel.write (h : Rel P s H w) (n : Nat) {x : Nat} {A A' : Blk} (hx : x < LIM) (hA : Q8.get H x = some A) {b : Nat} (hb : s.blk x = some b) {w' : World} {o : Obj}
    (hs : w'.heap.size = w.heap.size) (ho : w'.heap[b]? = some o) (hr : BlkR P s x A' o) (hother : ∀ c, c ≠ b → w'.heap[c]? = w.heap[c]?) (e1 : w'.os = w.os) (e2 : w'.tape = w.tape) (e3 : w'.output = w.output) :
    Rel P s (Q8.upd H x (some A')) w' ∧ Step s n H w s n (Q8.upd H x (some A')) w' := by
  have hne : ∀ y, y < LIM → Q8.get (Q8.upd H x (some A')) y ≠ none → Q8.get H y ≠ none := fun y hy h1 => by
    rw [Q8.get_upd _ _ _ _ hx hy] at h1
    split at h1
    · rename_i he; subst he; rw [hA]; simp
    · exact h1
  refine ⟨⟨h.lim, h.glob, fun y B hy hB => ?_, fun y z c hy hz h1 h2 => h.inj y z c hy hz (hne y hy h1) (hne z hz h2)⟩, fun _ _ => ⟨rfl, rfl⟩, by omega, fun c _ hc => hother c (fun e => ?_), fun y c hy h1 h2 _ => ⟨y, hy, hne y hy h1, h2⟩, e1, e2, e3⟩
  · rw [Q8.get_upd _ _ _ _ hx hy] at hB
    split at hB
    · rename_i he; subst he
      injection hB with hB; subst hB
      exact ⟨b, o, hb, ho, hr⟩
    · rename_i he
      obtain ⟨c, o', h1, h2, h3⟩ := h.blk y B hy hB
      refine ⟨c, o', h1, ?_, h3⟩
      rw [hother c (fun e => he ?_)]
      · exact h2
      · subst e
        exact h.inj x y c hx hy (by rw [hA]; simp) (by rw [hB]; simp) hb h1
  · subst e
    exact hc x hx (by rw [hA]; simp) hb
end
/-! ### Cells -/
section
variable {P : Program} {s : Sg} {H : Heap} {w : World}
theorem cellAt_lt {z : Nat → Option AV} {m : Nat} {c : T AV} {i : Nat} {A : AV} (h : cellAt z m c i = some A) : i < m := by
  unfold cellAt at h
  rw [bsel] at h
  split at h
  · rename_i hb; exact Nat.ble_eq.mp hb
  · cases h
theorem cellAt_eq (z : Nat → Option AV) (m : Nat) (c : T AV) (i : Nat) : cellAt z m c i = if i < m then (match c.get i with | some v => some v | none => z i) else none := by
  unfold cellAt
  rw [bsel]
  by_cases h : i < m
  · rw [if_pos h, if_pos (show Nat.blt i m = true from Nat.ble_eq.mpr h)]; rfl
  · rw [if_neg h, if_neg (fun e : Nat.blt i m = true => h (Nat.ble_eq.mp e))]
noncomputable def T.puts (c : T AV) : List AV → Nat → T AV
  | [], _ => c
  | v :: r, o => (c.upd o (some v)).puts r (o + 1)
theorem putCells_k {β : Type} (l : List AV) : ∀ (c : T AV) (o : Nat) (k : T AV → β), putCells l c o k = k (c.puts l o) := by
  induction l with
  | nil => intro c o k; rfl
  | cons v r ih =>
    intro c o k
    show T.set (some v) c o (fun c => frc (Nat.succ o) fun o => putCells r c o k) = _
    rw [T.set_k, frc_eq, ih]; rfl
theorem T.get_puts (l : List AV) : ∀ (c : T AV) (o i : Nat), (c.puts l o).get i = if o ≤ i ∧ i < o + l.length then l[i - o]? else c.get i := by
  induction l with
  | nil => intro c o i; rw [if_neg (by simp)]; rfl
  | cons v r ih =>
    intro c o i
    show ((c.upd o (some v)).puts r (o + 1)).get i = _
    rw [ih, T.get_upd]
    by_cases h1 : o = i
    · subst h1
      rw [if_neg (by omega), if_pos rfl, if_pos (by simp)]; simp [Nat.sub_self]
    · rw [if_neg h1]
      by_cases h2 : o + 1 ≤ i ∧ i < o + 1 + r.length
      · rw [if_pos h2, if_pos (by simp; omega), show i - o = (i - (o + 1)) + 1 by omega]; simp
      · rw [if_neg h2, if_neg (by simp; omega)]
theorem cellsAt_succ (z : Nat → Option AV) (m : Nat) (c : T AV) (k o : Nat) : cellsAt z m c (k + 1) o = (match cellAt z m c o with | some v => (match cellsAt z m c k (o + 1) with | some l => some (v :: l) | none => none) | none => none) := rfl
theorem cellsAt_get {z : Nat → Option AV} {m : Nat} {c : T AV} : ∀ {k o : Nat} {l : List AV}, cellsAt z m c k o = some l → l.length = k ∧ ∀ i, i < k → l[i]? = cellAt z m c (o + i) ∧ (cellAt z m c (o + i)).isSome
  | 0, o, l, h => by injection h with h; subst h; exact ⟨rfl, fun i hi => by omega⟩
  | k + 1, o, l, h => by
    rw [cellsAt_succ] at h
    split at h
    · rename_i v hv
      split at h
      · rename_i r hr
        injection h with h; subst h
        obtain ⟨h1, h2⟩ := cellsAt_get hr
        refine ⟨by simp [h1], fun i hi => ?_⟩
        cases i with
        | zero => simp [hv]
        | succ i =>
          have := h2 i (by omega)
          rw [show o + (i + 1) = o + 1 + i by omega]; simpa using this
      · cases h
    · cases h
/-- Rows of a world, cells written one behind the other. -/
theorem setCells_row (b : Nat) (t : TypeId) (fz : Nat × Nat) : ∀ (vs : List Value) (o : Nat) (w : World) (a : Array Value), w.heap[b]? = some (.cells a t fz) → o + vs.length ≤ a.size →
    ∃ a', (w.setCells b o vs).heap[b]? = some (.cells a' t fz) ∧ a'.size = a.size ∧ (∀ i, a'[i]? = if o ≤ i ∧ i < o + vs.length then vs[i - o]? else a[i]?) ∧
      (∀ c, c ≠ b → (w.setCells b o vs).heap[c]? = w.heap[c]?) ∧ (w.setCells b o vs).heap.size = w.heap.size ∧ (w.setCells b o vs).os = w.os ∧ (w.setCells b o vs).tape = w.tape ∧ (w.setCells b o vs).output = w.output
  | [], o, w, a, h, _ => ⟨a, h, rfl, fun i => by rw [if_neg (by simp)], fun _ _ => rfl, rfl, rfl, rfl, rfl⟩
  | v :: r, o, w, a, h, hl => by
    have h1 : (w.setCell ⟨b, o, none⟩ v).heap[b]? = some (.cells (a.setIfInBounds o v) t fz) := by
      simp only [World.setCell, Array.getElem?_modify, if_true, h, Option.map_some]; rfl
    obtain ⟨a', k1, k2, k3, k4, k5, k6, k7, k8⟩ := setCells_row b t fz r (o + 1) (w.setCell ⟨b, o, none⟩ v) (a.setIfInBounds o v) h1 (by simp at hl ⊢; omega)
    refine ⟨a', k1, by simpa using k2, fun i => ?_, fun c hc => ?_, by rw [World.setCells, k5]; simp, k6, k7, k8⟩
    · rw [k3 i]
      by_cases e : o = i
      · subst e
        rw [if_neg (by omega), if_pos (by simp), Nat.sub_self, List.getElem?_cons_zero]
        rw [List.length_cons] at hl
        simp [show o < a.size by omega]
      · by_cases e2 : o + 1 ≤ i ∧ i < o + 1 + r.length
        · rw [if_pos e2, if_pos (by simp; omega), show i - o = (i - (o + 1)) + 1 by omega]; simp
        · rw [if_neg e2, if_neg (by simp; omega), Array.getElem?_setIfInBounds_ne e]
    · rw [World.setCells, k4 c hc]
      simp only [World.setCell, Array.getElem?_modify]
      rw [if_neg (Ne.symm hc)]
/-- What a row's facts say of the world's cells. -/
theorem BlkR.cell {x : Nat} {t : TypeId} {z : Nat → Option AV} {m : Nat} {c : T AV} {ex mk : Bool} {o : Obj} {b : Nat} (h : BlkR P s x (.row t z m c ex mk) o) (hb : w.heap[b]? = some o) {i : Nat} {A : AV} (hA : cellAt z m c i = some A) :
    ∃ V, A.conc s = some V ∧ w.cell? ⟨b, i, none⟩ = some V ∧ V.oneCell' = true := by
  cases o with
  | cells a t' fz =>
    obtain ⟨_, _, h3, _⟩ := h
    obtain ⟨V, v1, v2, v3⟩ := h3 i A hA
    exact ⟨V, v1, by simp [World.cell?, hb, v2], v3⟩
  | _ => exact h.elim
theorem BlkR.cells {x : Nat} {t : TypeId} {z : Nat → Option AV} {m : Nat} {c : T AV} {ex mk : Bool} {o : Obj} {b : Nat} (h : BlkR P s x (.row t z m c ex mk) o) (hb : w.heap[b]? = some o) {k i : Nat} {l : List AV} (hl : cellsAt z m c k i = some l) :
    ∃ vs, concL s l = some vs ∧ vs.length = k ∧ vs.all Value.oneCell' = true ∧ ∀ (j : Nat) (v : Value), vs[j]? = some v → w.cell? ((⟨b, i, none⟩ : Addr).add j) = some v := by
  induction k generalizing i l with
  | zero => injection hl with hl; subst hl; exact ⟨[], rfl, rfl, rfl, fun j v hv => by simp at hv⟩
  | succ k ih =>
    rw [cellsAt_succ] at hl
    split at hl
    · rename_i u hu
      split at hl
      · rename_i r hr
        injection hl with hl; subst hl
        obtain ⟨V, v1, v2, v3⟩ := h.cell hb hu
        obtain ⟨vs, k1, k2, k3, k4⟩ := ih hr
        refine ⟨V :: vs, concL_cons.2 ⟨V, vs, v1, k1, rfl⟩, by simp [k2], by simp only [List.all_cons, v3, k3, Bool.and_self], fun j v hv => ?_⟩
        cases j with
        | zero => simp at hv; subst hv; exact v2
        | succ j =>
          have := k4 j v (by simpa using hv)
          have e : (⟨b, i, none⟩ : Addr).add (j + 1) = (⟨b, i + 1, none⟩ : Addr).add j := by
            unfold Addr.add
            rw [if_neg (by omega)]
            split
            · rename_i h0; subst h0; rfl
            · simp; omega
          rw [e]; exact this
      · cases hl
    · cases hl
/-- No known row's cell is frozen. -/
theorem BlkR.frozen {x : Nat} {t : TypeId} {z : Nat → Option AV} {m : Nat} {c : T AV} {ex mk : Bool} {a : Array Value} {t' : TypeId} {fz : Nat × Nat} {b : Nat} (h : BlkR P s x (.row t z m c ex mk) (.cells a t' fz)) (hb : w.heap[b]? = some (.cells a t' fz)) {i : Nat} (hi : i < a.size) :
    w.frozen? ⟨b, i, none⟩ = false := by
  obtain ⟨_, _, _, _, h5⟩ := h
  rcases h5 with rfl | ⟨_, rfl⟩ <;> simp [World.frozen?, hb]
  omega
end
end Go.Sy
namespace Go.Sy
open Go
section
variable {P : Program}
/-- What the operation comes to in this world: a value, or nothing. -/
def Gives (P : Program) (o : Oper) (a : Act) (w : World) (V : Value) (w' : World) : Prop :=
  (execOp a.eval o).run P w = .ok (.value V) w' ∨ ((execOp a.eval o).run P w = .ok .skip w' ∧ V = undef)
/-- An operation that looks at no memory. -/
def PureOk (P : Program) (o : Oper) (env : Env) (v : AV) : Prop :=
  ∀ (s : Sg) (N : Nat) (a : Act), EnvR s env N a.tmps → s.glob → ∃ V, v.conc s = some V ∧ ∀ w, (execOp a.eval o).run P w = .ok (.value V) w
/-- An operation that makes a block, whatever else there is. -/
def NewOk (P : Program) (o : Oper) (env : Env) (n : Nat) (v : AV) (A : Blk) : Prop :=
  ∀ (s : Sg) (N : Nat) (a : Act) (w : World), EnvR s env N a.tmps → s.glob → s.blk n = none → ∃ V obj c w', (execOp a.eval o).run P w = .ok (.value V) w' ∧
    w'.heap = w.heap.push obj ∧ w'.os = w.os ∧ w'.tape = w.tape ∧ w'.output = w.output ∧ v.conc (s.set n w.heap.size c) = some V ∧ BlkR P (s.set n w.heap.size c) n A obj
/-- An operation that changes nothing of what is told. -/
def ReadOk (P : Program) (o : Oper) (env : Env) (H : Heap) (v : AV) : Prop :=
  ∀ (s : Sg) (N : Nat) (a : Act) (w : World) (n : Nat), EnvR s env N a.tmps → Rel P s H w → ∃ V w', (execOp a.eval o).run P w = .ok (.value V) w' ∧ v.conc s = some V ∧ Rel P s H w' ∧ Step s n H w s n H w'
def OpOk (P : Program) (o : Oper) (env : Env) (n : Nat) (H : Heap) (v : AV) (n' : Nat) (H' : Heap) : Prop :=
  n ≤ n' ∧ ∀ (s : Sg) (N : Nat) (a : Act) (w : World), EnvR s env N a.tmps → Rel P s H w → Free s n n' → n' ≤ LIM →
    ∃ V s' w', Gives P o a w V w' ∧ v.conc s' = some V ∧ Rel P s' H' w' ∧ Step s n H w s' n' H' w'
theorem PureOk.read {o : Oper} {env : Env} {H : Heap} {v : AV} (h : PureOk P o env v) : ReadOk P o env H v := fun s N a w _n he hr =>
  let ⟨V, h1, h2⟩ := h s N a he hr.glob
  ⟨V, w, h2 w, h1, hr, Step.refl ..⟩
theorem ReadOk.op {o : Oper} {env : Env} {n : Nat} {H : Heap} {v : AV} (h : ReadOk P o env H v) : OpOk P o env n H v n H := ⟨Nat.le_refl _, fun s N a w he hr _ _ =>
  let ⟨V, w', h1, h2, h3, h4⟩ := h s N a w n he hr
  ⟨V, s, w', .inl h1, h2, h3, h4⟩⟩
theorem PureOk.op {o : Oper} {env : Env} {n : Nat} {H : Heap} {v : AV} (h : PureOk P o env v) : OpOk P o env n H v n H := h.read.op
theorem NewOk.op {o : Oper} {env : Env} {n : Nat} {H : Heap} {v : AV} {A : Blk} (h : NewOk P o env n v A) : OpOk P o env n H v (n + 1) (Q8.upd H n (some A)) := ⟨Nat.le_succ _, fun s N a w he hr hf hl => by
  have h0 := hf n (Nat.le_refl _) (Nat.lt_succ_self _)
  obtain ⟨V, obj, c, w', h1, h2, h3, h4, h5, h6, h7⟩ := h s N a w he hr.glob h0
  obtain ⟨r1, r2⟩ := hr.alloc (n := n) (Nat.lt_of_lt_of_le (Nat.lt_succ_self _) hl) h0 c h7
  have e : w'.heap = (w.alloc obj).heap := h2
  refine ⟨V, _, w', .inl h1, h6, r1.of_heap e, ?_⟩
  exact ⟨r2.off, by rw [e]; exact r2.size, fun b hb hx => by rw [e]; exact r2.frame b hb hx, r2.dom, h3, h4, h5⟩⟩
/-! ### The words of types -/
theorem underlying_run {t : TypeId} {d : TypeDesc} (h : P.underlying t = some d) (w : World) : (underlying t).run P w = .ok d w := by simp [underlying, h]
theorem sizeB_run {t : TypeId} {k : Nat} (h : sizeB P t = some k) (w : World) : (sizeOf t).run P w = .ok k w := by
  unfold sizeB at h
  split at h
  · rename_i i hi; injection h with h; subst h; simp [sizeOf, typeInfo, hi]
  · cases h
theorem sizeB_cells {t : TypeId} {k : Nat} (h : sizeB P t = some k) : P.cellsOf t = k := by
  unfold sizeB at h
  split at h
  · rename_i i hi; injection h with h; subst h; simp [Program.cellsOf, hi]
  · cases h
theorem bytesB_run {t : TypeId} {k : Nat} (h : bytesB P t = some k) : ∃ i, P.info? t = some i ∧ i.bytes = k := by
  unfold bytesB at h
  split at h
  · rename_i i hi; injection h with h; exact ⟨i, hi, h⟩
  · cases h
theorem typeInfo_run {t : TypeId} {i : TypeInfo} (h : P.info? t = some i) (w : World) : (typeInfo t).run P w = .ok i w := by simp [typeInfo, h]
theorem isAggB_run {t : TypeId} {b : Bool} (h : isAggB P t = some b) (w : World) : (isAgg t).run P w = .ok b w := by
  unfold isAggB at h
  split at h
  · rename_i d hd; injection h with h; subst h; simp [isAgg, underlying, hd]
  · rename_i d hd; injection h with h; subst h; simp [isAgg, underlying, hd]
  · rename_i d h1 h2 hd; injection h with h; subst h
    simp only [isAgg, Sem.run_bind, underlying_run hd, Result.andThen_ok]
    cases d <;> first | rfl | exact absurd rfl (h1 _) | exact absurd rfl (h2 _ _)
  · cases h
theorem zeroB_run {t : TypeId} {z : AV} (h : zeroB P t = some z) : ∃ v, (∀ w, (zeroValue t).run P w = .ok v w) ∧ ofValue v = some z := by
  unfold zeroB at h
  split at h
  · rename_i i hi
    split at h
    · rename_i v hv
      exact ⟨v, fun w => by simp [zeroValue, typeInfo, hi, hv], h⟩
    · cases h
  · cases h
theorem ofValue_not_tup {v : Value} {z : AV} (h : ofValue v = some z) (hz : ∀ l, z ≠ .tup l) : ∀ s : Sg, ∃ vs, concL s z.cells = some vs ∧ v.cells = ⟨vs⟩ ∧ vs.all Value.oneCell' = true := fun s => cells_conc (ofValue_conc h s) hz
/-! ### Pure operations -/
theorem evMove_ok {o : Oper} {x : Operand} (hop : o.op = .move x ∨ o.op = .assign x) {env : Env} {n n' : Nat} {H H' : Heap} {v : AV} (h : evMove x env n H = .val v n' H') : n' = n ∧ H' = H ∧ PureOk P o env v := by
  unfold evMove at h
  cases hx : opd env x with
  | none => rw [hx] at h; cases h
  | some u =>
    rw [hx] at h
    injection h with h1 h2 h3
    subst h1 h2 h3
    refine ⟨rfl, rfl, fun s N a he hg => ⟨_, opd_conc he hg hx, fun w => ?_⟩⟩
    rcases hop with hop | hop <;> simp [execOp, hop]
theorem evPick_ok {o : Oper} {c x y : Operand} (hop : o.op = .pick c x y) {env : Env} {n n' : Nat} {H H' : Heap} {v : AV} (h : evPick c x y env n H = .val v n' H') : n' = n ∧ H' = H ∧ PureOk P o env v := by
  unfold evPick at h
  split at h
  · rename_i hc
    unfold evMove at h
    cases hx : opd env x with
    | none => rw [hx] at h; cases h
    | some u =>
      rw [hx] at h
      injection h with h1 h2 h3
      subst h1 h2 h3
      refine ⟨rfl, rfl, fun s N a he hg => ⟨_, opd_conc he hg hx, fun w => ?_⟩⟩
      have := opd_conc he hg hc
      simp only [AV.conc, Option.some.injEq] at this
      simp [execOp, hop, ← this, asBool]
  · rename_i hc
    unfold evMove at h
    cases hx : opd env y with
    | none => rw [hx] at h; cases h
    | some u =>
      rw [hx] at h
      injection h with h1 h2 h3
      subst h1 h2 h3
      refine ⟨rfl, rfl, fun s N a he hg => ⟨_, opd_conc he hg hx, fun w => ?_⟩⟩
      have := opd_conc he hg hc
      simp only [AV.conc, Option.some.injEq] at this
      simp [execOp, hop, ← this, asBool]
  · cases h
theorem prun_run {α : Type} {m : Sem α} {r : α} (h : prun P m = some r) (w : World) : m.run P w = .ok r w := by
  induction m with
  | pure a => injection h with h; subst h; rfl
  | program k ih => exact ih P h
  | mark m k ih => exact ih h
  | _ => cases h
theorem allGround_spec {env : Env} : ∀ {l : List Operand}, allGround env l = true → ∀ x ∈ l, ∃ u V, opd env x = some u ∧ valOf u = some V
  | [], _, x, hx => by cases hx
  | y :: r, h, x, hx => by
    have hu : allGround env (y :: r) = (match opd env y with | some a => (match valOf a with | some _ => allGround env r | none => false) | none => false) := rfl
    rw [hu] at h
    split at h
    · rename_i u hu
      split at h
      · rename_i V hV
        cases hx with
        | head => exact ⟨u, V, hu, hV⟩
        | tail _ hm => exact allGround_spec h x hm
      · cases h
    · cases h
theorem evGround_ok {o : Oper} (hs : ∀ cs b, o.op ≠ .select cs b) {env : Env} {n n' : Nat} {H H' : Heap} {v : AV} (h : evGround P o env n H = .val v n' H') : n' = n ∧ H' = H ∧ PureOk P o env v := by
  unfold evGround at h
  split at h
  · cases h
  · rename_i hall
    split at h
    · rename_i V hV
      have key : ∀ u, ofValue V = some u → PureOk P o env u := fun u hu s N a he hg => by
        refine ⟨V, ofValue_conc hu s, fun w => ?_⟩
        rw [execOp_congr (ρ' := groundEnv env) o hs fun x hx => ?_]
        · exact prun_run hV w
        · obtain ⟨q, W, h1, h2⟩ := allGround_spec hall x (by simpa using hx)
          have e1 := opd_conc he hg h1
          have e2 := valOf_conc h2 s
          rw [e1] at e2; injection e2 with e2
          simp [groundEnv, h1, h2, e2]
      split at h
      · rename_i k x hk
        rw [frcI_eq] at h
        injection h with h1 h2 h3
        subst h1 h2 h3
        exact ⟨rfl, rfl, key _ hk⟩
      · rename_i u hnot hu
        injection h with h1 h2 h3
        subst h1 h2 h3
        exact ⟨rfl, rfl, key _ hu⟩
      · cases h
    · cases h
theorem evNilCheck_ok {o : Oper} {x : Operand} (hop : o.op = .nilCheck x) {env : Env} {n n' : Nat} {H H' : Heap} {v : AV} (h : evNilCheck x env n H = .val v n' H') : n' = n ∧ H' = H ∧ PureOk P o env v := by
  unfold evNilCheck at h
  split at h
  · rename_i y q hx
    injection h with h1 h2 h3
    subst h1 h2 h3
    refine ⟨rfl, rfl, fun s N a he hg => ?_⟩
    have e := opd_conc he hg hx
    refine ⟨_, e, fun w => ?_⟩
    simp only [AV.conc, Option.map_eq_some_iff] at e
    obtain ⟨b, _, e⟩ := e
    simp [execOp, hop, ← e]
  · rename_i y hx
    injection h with h1 h2 h3
    subst h1 h2 h3
    refine ⟨rfl, rfl, fun s N a he hg => ?_⟩
    have e := opd_conc he hg hx
    refine ⟨_, e, fun w => ?_⟩
    simp only [AV.conc, Option.map_eq_some_iff] at e
    obtain ⟨b, _, e⟩ := e
    simp [execOp, hop, ← e]
  · rename_i f p c hx
    injection h with h1 h2 h3
    subst h1 h2 h3
    refine ⟨rfl, rfl, fun s N a he hg => ?_⟩
    have e := opd_conc he hg hx
    refine ⟨_, e, fun w => ?_⟩
    simp only [AV.conc] at e
    split at e
    · injection e with e
      simp [execOp, hop, ← e]
    · cases e
  · cases h
theorem evFieldAddr_ok {o : Oper} {t : TypeId} {x : Operand} {f : Nat} (hop : o.op = .fieldAddr t x f) {env : Env} {n n' : Nat} {H H' : Heap} {v : AV} (h : evFieldAddr P t x f env n H = .val v n' H') : n' = n ∧ H' = H ∧ PureOk P o env v := by
  unfold evFieldAddr at h
  split at h
  · rename_i y q hx
    split at h
    · rename_i fs hu
      split at h
      · rename_i fl hf
        split at h
        · rename_i k hk
          rw [frc_eq] at h
          injection h with h1 h2 h3
          subst h1 h2 h3
          refine ⟨rfl, rfl, fun s N a he hg => ?_⟩
          have e := opd_conc he hg hx
          simp only [AV.conc, Option.map_eq_some_iff] at e ⊢
          obtain ⟨b, hb, e⟩ := e
          refine ⟨_, ⟨b, hb, rfl⟩, fun w => ?_⟩
          rw [nth_eq] at hf
          have hf' : fs[f]? = some fl := by simpa using hf
          have ha : (⟨b, q, none⟩ : Addr).add fl.offset = ⟨b, q + fl.offset, none⟩ := by unfold Addr.add; split <;> simp_all
          simp [execOp, hop, Instr.fieldAt, underlying_run hu, hf', ← e, Instr.sureAddr, fieldPlace, sizeB_run hk, ha]
        · cases h
      · cases h
    · cases h
  · cases h
end
end Go.Sy
namespace Go.Sy
open Go
section
variable {P : Program}
theorem all_take {l : List Value} (h : l.all Value.oneCell' = true) (n : Nat) : (l.take n).all Value.oneCell' = true := by
  simp only [List.all_eq_true] at h ⊢
  exact fun x hx => h x (List.mem_of_mem_take hx)
theorem all_drop {l : List Value} (h : l.all Value.oneCell' = true) (n : Nat) : (l.drop n).all Value.oneCell' = true := by
  simp only [List.all_eq_true] at h ⊢
  exact fun x hx => h x (List.mem_of_mem_drop hx)
theorem agg_conc {s : Sg} {l : List AV} {V : Value} (h : (AV.agg l).conc s = some V) : ∃ vs, concL s l = some vs ∧ vs.all Value.oneCell' = true ∧ V = .agg ⟨vs⟩ := by
  simp only [AV.conc] at h
  split at h
  · rename_i vs hvs
    split at h
    · rename_i hall; injection h with h; exact ⟨vs, hvs, hall, h.symm⟩
    · cases h
  · cases h
theorem conc_agg {s : Sg} {l : List AV} {vs : List Value} (h : concL s l = some vs) (h1 : vs.all Value.oneCell' = true) : (AV.agg l).conc s = some (.agg ⟨vs⟩) := by
  simp only [AV.conc, h, h1, if_true]
theorem extract_list (vs : List Value) (i j : Nat) : (⟨vs⟩ : Array Value).extract i j = ⟨(vs.drop i).take (j - i)⟩ := by
  apply Array.ext'
  simp [List.extract]
theorem partA_ok {t : TypeId} {cs : List AV} {off n n' : Nat} {H H' : Heap} {v : AV} (h : partA P t cs off n H = .val v n' H') :
    n' = n ∧ H' = H ∧ ∀ s vs, concL s cs = some vs → vs.all Value.oneCell' = true → ∃ V, v.conc s = some V ∧ ∀ w, (part t ⟨vs⟩ off).run P w = .ok V w := by
  unfold partA at h
  split at h
  · rename_i sz ha hs
    injection h with h1 h2 h3
    subst h1 h2 h3
    refine ⟨rfl, rfl, fun s vs hv h1 => ⟨_, conc_agg (concL_take sz (concL_drop off hv)) (all_take (all_drop h1 off) sz), fun w => ?_⟩⟩
    simp [part, isAggB_run ha, sizeB_run hs]
  · rename_i sz ha hs
    split at h
    · rename_i u hu
      injection h with h1 h2 h3
      subst h1 h2 h3
      refine ⟨rfl, rfl, fun s vs hv h1 => ?_⟩
      rw [nth_eq] at hu
      obtain ⟨V, k1, k2⟩ := concL_get hv hu
      refine ⟨V, k1, fun w => ?_⟩
      simp [part, isAggB_run ha, k2]
    · cases h
  · cases h
theorem evField_ok {o : Oper} {t : TypeId} {x : Operand} {f : Nat} (hop : o.op = .field t x f) {env : Env} {n n' : Nat} {H H' : Heap} {v : AV} (h : evField P t x f env n H = .val v n' H') : n' = n ∧ H' = H ∧ PureOk P o env v := by
  unfold evField at h
  split at h
  · rename_i cs fs hx hu
    split at h
    · rename_i fl hf
      obtain ⟨h1, h2, h3⟩ := partA_ok h
      refine ⟨h1, h2, fun s N a he hg => ?_⟩
      obtain ⟨vs, k1, k2, k3⟩ := agg_conc (opd_conc he hg hx)
      obtain ⟨V, e1, e2⟩ := h3 s vs k1 k2
      rw [nth_eq] at hf
      have hf' : fs[f]? = some fl := by simpa using hf
      refine ⟨V, e1, fun w => ?_⟩
      simp [execOp, hop, Instr.field, underlying_run hu, hf', k3, asAgg, e2]
    · cases h
  · cases h
theorem add_addr (b o n : Nat) : (⟨b, o, none⟩ : Addr).add n = ⟨b, o + n, none⟩ := by unfold Addr.add; split <;> simp_all
theorem evIndexAddr_ok {o : Oper} {t : TypeId} {x ix : Operand} (hop : o.op = .indexAddr t x ix) {env : Env} {n n' : Nat} {H H' : Heap} {v : AV} (h : evIndexAddr P t x ix env n H = .val v n' H') : n' = n ∧ H' = H ∧ PureOk P o env v := by
  unfold evIndexAddr at h
  split at h
  · rename_i y q k i m e hx hi hu
    split at h
    · rename_i sz hs hb
      rw [frc_eq] at h
      injection h with h1 h2 h3
      subst h1 h2 h3
      refine ⟨rfl, rfl, fun s N a he hg => ?_⟩
      have ex := opd_conc he hg hx
      have ei := opd_conc he hg hi
      simp only [AV.conc, Option.map_eq_some_iff, Option.some.injEq] at ex ei ⊢
      obtain ⟨b, hb', ex⟩ := ex
      refine ⟨_, ⟨b, hb', rfl⟩, fun w => ?_⟩
      have hlt : i < m := Nat.ble_eq.mp hb
      simp [execOp, hop, Instr.indexAt, ← ei, asIntOf, underlying_run hu, ← ex, Instr.sureAddr, hlt, sizeB_run hs, add_addr]
    · cases h
  · rename_i y q m c k i e hx hi hu
    split at h
    · rename_i sz hs hb
      rw [frc_eq] at h
      injection h with h1 h2 h3
      subst h1 h2 h3
      refine ⟨rfl, rfl, fun s N a he hg => ?_⟩
      have ex := opd_conc he hg hx
      have ei := opd_conc he hg hi
      rw [sl_conc] at ex
      simp only [AV.conc, Option.map_eq_some_iff, Option.some.injEq] at ei ⊢
      obtain ⟨b, hb', _, ex⟩ := ex
      refine ⟨_, ⟨b, hb', rfl⟩, fun w => ?_⟩
      have hlt : i < m := Nat.ble_eq.mp hb
      simp [execOp, hop, Instr.indexAt, ← ei, asIntOf, underlying_run hu, ex, hlt, sizeB_run hs, add_addr]
    · cases h
  · cases h
theorem evIndex_ok {o : Oper} {t : TypeId} {x ix : Operand} (hop : o.op = .index t x ix) {env : Env} {n n' : Nat} {H H' : Heap} {v : AV} (h : evIndex P o t x ix env n H = .val v n' H') : n' = n ∧ H' = H ∧ PureOk P o env v := by
  unfold evIndex at h
  split at h
  · rename_i cs k i m e hx hi hu
    split at h
    · rename_i sz hs hb
      obtain ⟨h1, h2, h3⟩ := partA_ok h
      refine ⟨h1, h2, fun s N a he hg => ?_⟩
      obtain ⟨vs, k1, k2, k3⟩ := agg_conc (opd_conc he hg hx)
      obtain ⟨V, e1, e2⟩ := h3 s vs k1 k2
      have ei := opd_conc he hg hi
      simp only [AV.conc, Option.some.injEq] at ei
      have hlt : i < m := Nat.ble_eq.mp hb
      refine ⟨V, e1, fun w => ?_⟩
      have e2' : ∀ w, (part e ⟨vs⟩ (i * sz)).run P w = .ok V w := e2
      simp [execOp, hop, Instr.index, ← ei, asIntOf, underlying_run hu, k3, hlt, sizeB_run hs, e2']
    · cases h
  · rename_i l k i hx hi hu
    split at h
    · rename_i b hb
      rw [frc_eq] at h
      injection h with h1 h2 h3
      subst h1 h2 h3
      refine ⟨rfl, rfl, fun s N a he hg => ⟨_, rfl, fun w => ?_⟩⟩
      have ex := opd_conc he hg hx
      have ei := opd_conc he hg hi
      simp only [AV.conc, Option.some.injEq] at ex ei
      rw [nth_eq] at hb
      have hb' : (⟨⟨l⟩⟩ : ByteArray)[i]? = some b := by
        rw [List.getElem?_eq_some_iff] at hb
        obtain ⟨hl, hb⟩ := hb
        have hs : i < (⟨⟨l⟩⟩ : ByteArray).size := hl
        exact (getElem?_pos (⟨⟨l⟩⟩ : ByteArray) i hs).trans (congrArg some hb)
      simp [execOp, hop, Instr.index, ← ei, asIntOf, underlying_run hu, ← ex, hb']
    · cases h
  · exact evGround_ok (fun cs b => by rw [hop]; simp) h
theorem evExtract_ok {o : Oper} {x : Operand} {ix : Nat} (hop : o.op = .extract x ix) {env : Env} {n n' : Nat} {H H' : Heap} {v : AV} (h : evExtract x ix env n H = .val v n' H') : n' = n ∧ H' = H ∧ PureOk P o env v := by
  unfold evExtract at h
  split at h
  · rename_i l hx
    split at h
    · rename_i u hu
      injection h with h1 h2 h3
      subst h1 h2 h3
      refine ⟨rfl, rfl, fun s N a he hg => ?_⟩
      have ex := opd_conc he hg hx
      simp only [AV.conc, Option.map_eq_some_iff] at ex
      obtain ⟨vs, hvs, ex⟩ := ex
      rw [nth_eq] at hu
      obtain ⟨V, k1, k2⟩ := concL_get hvs hu
      refine ⟨V, k1, fun w => ?_⟩
      simp [execOp, hop, Instr.extract, ← ex, k2]
    · cases h
  · cases h
theorem concL_arr {s : Sg} {l : List AV} {vs : List Value} (h : concL s l = some vs) {as : Array Operand} {a : Act} (e : vs = as.toList.map a.eval) : as.map a.eval = ⟨vs⟩ := by
  subst e; apply Array.ext'; simp
theorem evMakeFunc_ok {o : Oper} {f : Fn} {fi ca : Array Operand} (hop : o.op = .makeFunc f fi ca) {env : Env} {n n' : Nat} {H H' : Heap} {v : AV} (h : evMakeFunc f fi.toList ca.toList env n H = .val v n' H') : n' = n ∧ H' = H ∧ PureOk P o env v := by
  unfold evMakeFunc at h
  split at h
  · rename_i g l m hl hm
    injection h with h1 h2 h3
    subst h1 h2 h3
    refine ⟨rfl, rfl, fun s N a he hg => ?_⟩
    have el := opds_conc he hg hl
    have em := opds_conc he hg hm
    refine ⟨.func (.func g) ⟨fi.toList.map a.eval⟩ ⟨ca.toList.map a.eval⟩, by simp only [AV.conc, el, em], fun w => ?_⟩
    rw [← concL_arr el rfl, ← concL_arr em rfl]
    simp [execOp, hop, Instr.makeFunc]
  · cases h
theorem evMakeInterface_ok {o : Oper} {t : TypeId} {x : Operand} (hop : o.op = .makeInterface t x) {env : Env} {n n' : Nat} {H H' : Heap} {v : AV} (h : evMakeInterface P t x env n H = .val v n' H') : n' = n ∧ H' = H ∧ PureOk P o env v := by
  unfold evMakeInterface at h
  split at h
  · cases h
  · rename_i u d hn hx hu
    injection h with h1 h2 h3
    subst h1 h2 h3
    refine ⟨rfl, rfl, fun s N a he hg => ⟨.iface t (a.eval x), by simp only [AV.conc, opd_conc he hg hx, Option.map_some], fun w => ?_⟩⟩
    simp only [execOp, hop, Instr.makeInterface, Sem.run_bind, underlying_run hu, Result.andThen_ok]
    cases d <;> first | rfl | exact absurd rfl (hn _)
  · cases h
/-! Structs and arrays put together -/
theorem replL {pl : Nat} : ∀ {l v r : List AV}, repl pl l v = some r → pl + v.length ≤ l.length ∧ r = l.take pl ++ v ++ l.drop (pl + v.length) := by
  induction pl with
  | zero =>
    intro l v
    induction v generalizing l with
    | nil => intro r h; injection h with h; subst h; simp
    | cons a v ih =>
      intro r h
      cases l with
      | nil => cases h
      | cons b l =>
        have h : (match repl 0 l v with | some r => some (a :: r) | none => none) = some r := h
        split at h
        · rename_i r' hr
          injection h with h; subst h
          obtain ⟨k1, k2⟩ := ih hr
          refine ⟨by simp at k1 ⊢; omega, ?_⟩
          subst k2
          simp [Nat.add_comm]
        · cases h
  | succ pl ih =>
    intro l v r h
    cases l with
    | nil => cases h
    | cons b l =>
      have h : (match repl pl l v with | some r => some (b :: r) | none => none) = some r := h
      split at h
      · rename_i r' hr
        injection h with h; subst h
        obtain ⟨k1, k2⟩ := ih hr
        refine ⟨by simp at k1 ⊢; omega, ?_⟩
        subst k2
        rw [show pl + 1 + v.length = (pl + v.length) + 1 by omega]
        simp
      · cases h
theorem foldl_set : ∀ (vs : List Value) (off j : Nat) (cs : List Value), off + j + vs.length ≤ cs.length →
    (vs.zipIdx j).foldl (fun (cs : Array Value) (x : Value × Nat) => cs.setIfInBounds (off + x.2) x.1) ⟨cs⟩ = ⟨cs.take (off + j) ++ vs ++ cs.drop (off + j + vs.length)⟩
  | [], off, j, cs, _ => by simp
  | v :: r, off, j, cs, h => by
    rw [List.zipIdx_cons, List.foldl_cons]
    have hs : (⟨cs⟩ : Array Value).setIfInBounds (off + j) v = ⟨cs.set (off + j) v⟩ := by apply Array.ext'; simp
    simp only at hs ⊢
    rw [hs, foldl_set r off (j + 1) _ (by simp at h ⊢; omega)]
    congr 1
    simp only [List.length_cons] at h ⊢
    rw [show off + (j + 1) = off + j + 1 by omega, List.take_add_one, List.drop_set]
    rw [if_pos (by omega), List.getElem?_set_self (by omega), List.take_set_of_le (by omega), show off + j + (r.length + 1) = off + j + 1 + r.length by omega]
    simp
theorem fill_one {place : Nat → Option (Nat × Nat)} {i : Nat} {V : Value} {rest : List (Nat × Value)} {off size : Nat} {vs cs : List Value} (hp : place i = some (off, size)) (hV : V.cells = ⟨vs⟩) (hs : vs.length = size) (hl : off + size ≤ cs.length) :
    Instr.fill place ⟨cs⟩ ((i, V) :: rest) = Instr.fill place ⟨cs.take off ++ vs ++ cs.drop (off + vs.length)⟩ rest := by
  simp only [Instr.fill, hp, hV]
  have h1 : ((⟨vs⟩ : Array Value).size ≠ size || off + (⟨vs⟩ : Array Value).size > (⟨cs⟩ : Array Value).size) = false := by
    simp; omega
  rw [h1]
  simp only [Bool.false_eq_true, if_false]
  congr 1
  have := foldl_set vs off 0 cs (by omega)
  simp only [Nat.add_zero] at this
  rw [← this, ← Array.foldl_toList]
  simp
theorem fillA_ok {s : Sg} {N : Nat} {a : Act} {env : Env} (he : EnvR s env N a.tmps) (hg : s.glob) {pA pM : Nat → Option (Nat × Nat)} (hp : ∀ i x, pA i = some x → pM i = some x) :
    ∀ {ps : List (Nat × Operand)} {l r : List AV} {vs : List Value}, fillA pA env ps l = some r → concL s l = some vs → vs.all Value.oneCell' = true →
      ∃ us, concL s r = some us ∧ us.all Value.oneCell' = true ∧ Instr.fill pM ⟨vs⟩ (ps.map fun p => (p.1, a.eval p.2)) = some ⟨us⟩
  | [], l, r, vs, h, hv, h1 => by injection h with h; subst h; exact ⟨vs, hv, h1, rfl⟩
  | (i, x) :: ps, l, r, vs, h, hv, h1 => by
    have h : (match pA i, opd env x with
      | some (o, s), some v => (match Nat.beq (len v.cells) s, v with
          | true, .tup _ => none
          | true, v => (match repl o l v.cells with | some l => fillA pA env ps l | none => none)
          | false, _ => none)
      | _, _ => none) = some r := h
    split at h
    · rename_i off sz _ hpi hx
      split at h
      · cases h
      · rename_i u _ _ hnt hb
        split at h
        · rename_i l' hl'
          have hsz : len u.cells = sz := by rw [natbeq] at hb; exact of_decide_eq_true hb
          rw [len_eq] at hsz
          obtain ⟨k1, k2⟩ := replL hl'
          obtain ⟨ws, c1, c2, c3⟩ := cells_conc (opd_conc he hg hx) (fun t ht => hnt t (by rw [ht]))
          have hvl := concL_length hv
          have hwl := concL_length c1
          obtain ⟨us, d1, d2, d3⟩ := fillA_ok he hg hp (ps := ps) (l := l') (r := r) (vs := vs.take off ++ ws ++ vs.drop (off + ws.length)) h
            (by rw [k2, hwl]; exact concL_append (concL_append (concL_take _ hv) c1) (concL_drop _ hv))
            (by simp only [List.all_append, all_take h1, c3, all_drop h1, Bool.and_self])
          refine ⟨us, d1, d2, ?_⟩
          rw [List.map_cons, fill_one (hp i _ hpi) c2 (by omega) (by omega)]
          exact d3
        · cases h
      · cases h
    · cases h
end
end Go.Sy
namespace Go.Sy
open Go
section
variable {P : Program}
theorem zeroC_run {t : TypeId} {z : List AV} (h : zeroC P t = some z) : ∃ i v vs, P.info? t = some i ∧ i.zero = some v ∧ v.cells = ⟨vs⟩ ∧ vs.length = z.length ∧ ∀ s, concL s z = some vs ∧ vs.all Value.oneCell' = true := by
  unfold zeroC at h
  split at h
  · cases h
  · rename_i u hnt hz
    injection h with h; subst h
    unfold zeroB at hz
    split at hz
    · rename_i i hi
      split at hz
      · rename_i v hv
        obtain ⟨vs, _, h2, _⟩ := ofValue_not_tup hz hnt ⟨fun _ => none, fun _ => 0⟩
        refine ⟨i, v, vs, hi, hv, h2, ?_, fun s => ?_⟩
        · have h1 := (ofValue_not_tup hz hnt ⟨fun _ => none, fun _ => 0⟩)
          obtain ⟨vs', k1, k2, _⟩ := h1
          rw [h2] at k2; injection k2 with k2; subst k2
          exact concL_length k1
        · obtain ⟨vs', k1, k2, k3⟩ := ofValue_not_tup hz hnt s
          rw [h2] at k2; injection k2 with k2; subst k2
          exact ⟨k1, k3⟩
      · cases hz
    · cases hz
  · cases h
theorem zeroB_info {t : TypeId} {z : AV} (h : zeroB P t = some z) : ∃ i v, P.info? t = some i ∧ i.zero = some v ∧ ofValue v = some z := by
  unfold zeroB at h
  split at h
  · rename_i i hi
    split at h
    · rename_i v hv; exact ⟨i, v, hi, hv, h⟩
    · cases h
  · cases h
theorem sizeB_info {t : TypeId} {k : Nat} {i : TypeInfo} (h : sizeB P t = some k) (hi : P.info? t = some i) : i.size = k := by
  unfold sizeB at h; rw [hi] at h; injection h
/-! Rows -/
/-- A row of which all is known. -/
theorem rowR {s : Sg} {x : Nat} {t : TypeId} {z : Nat → Option AV} {m : Nat} {c : T AV} {mk : Bool} {vs : List Value} (hm : vs.length = m) (h1 : vs.all Value.oneCell' = true) (h : ∀ i A, cellAt z m c i = some A → ∃ V, A.conc s = some V ∧ vs[i]? = some V) :
    BlkR P s x (.row t z m c true mk) (.cells ⟨vs⟩ t (0, 0)) := by
  refine ⟨rfl, by simp [hm], fun i A hA => ?_, by simp [hm], .inl rfl⟩
  obtain ⟨V, v1, v2⟩ := h i A hA
  exact ⟨V, v1, by simpa using v2, (List.all_eq_true.1 h1) V (List.mem_of_getElem? v2)⟩
theorem cellAt_puts {l : List AV} {m i : Nat} {A : AV} (h : cellAt (fun _ => none) m (T.e.puts l 0) i = some A) : l[i]? = some A := by
  rw [cellAt_eq] at h
  split at h
  · rw [T.get_puts] at h
    split at h
    · rename_i hi
      split at hi
      · rename_i h2
        rw [Nat.sub_zero] at hi
        rw [h] at hi; exact hi
      · cases hi
    · cases h
  · cases h
theorem rowL {s : Sg} {x : Nat} {t : TypeId} {mk : Bool} {l : List AV} {vs : List Value} (h : concL s l = some vs) (h1 : vs.all Value.oneCell' = true) : BlkR P s x (.row t (fun _ => none) l.length (T.e.puts l 0) true mk) (.cells ⟨vs⟩ t (0, 0)) :=
  rowR (concL_length h) h1 fun _ _ hA => concL_get h (cellAt_puts hA)
theorem zpat_eq {l : List AV} {i : Nat} : zpat l i = l[i % l.length]? := by
  unfold zpat; rw [nth_eq, len_eq]; rfl
/-- Zero cells again and again. -/
theorem rowZ {s : Sg} {x : Nat} {t : TypeId} {mk : Bool} {z : List AV} {vs : List Value} (h : concL s z = some vs) (h1 : vs.all Value.oneCell' = true) (k : Nat) : BlkR P s x (.row t (zpat z) k .e true mk) (.cells (madeCells ⟨vs⟩ k) t (0, 0)) := by
  have key : ∀ i, i < k → ∀ A, zpat z i = some A → ∃ V, A.conc s = some V ∧ (madeCells ⟨vs⟩ k)[i]? = some V ∧ V.oneCell' = true := fun i hi A hA => by
    rw [zpat_eq] at hA
    obtain ⟨V, v1, v2⟩ := concL_get h hA
    refine ⟨V, v1, ?_, (List.all_eq_true.1 h1) V (List.mem_of_getElem? v2)⟩
    have hl := concL_length h
    simp only [madeCells, Array.getElem?_map, Array.getElem?_range, hi, if_true, Option.map_some, Option.some.injEq, List.size_toArray]
    rw [hl]
    have : (⟨vs⟩ : Array Value)[i % z.length]! = (vs[i % z.length]?).getD default := by simp [Array.getElem!_eq_getD]
    rw [this, v2]; rfl
  refine ⟨rfl, by simp [madeCells], fun i A hA => ?_, by simp [madeCells], .inl rfl⟩
  rw [cellAt_eq] at hA
  split at hA
  · rename_i hi
    exact key i hi A hA
  · cases hA
theorem evAlloc_ok {o : Oper} {t : TypeId} (hop : o.op = .alloc t) {env : Env} {n n' : Nat} {H H' : Heap} {v : AV} (h : evAlloc P t env n H = .val v n' H') :
    ∃ A, n' = n + 1 ∧ H' = Q8.upd H n (some A) ∧ NewOk P o env n v A := by
  unfold evAlloc at h
  split at h
  · cases h
  · rename_i z hz
    rw [frc_eq, Q8.set_k, frc_eq] at h
    injection h with h1 h2 h3
    subst h1 h2 h3
    refine ⟨_, rfl, rfl, fun s N a w he hg hn => ?_⟩
    obtain ⟨i, v, vs, hi, hv, hc, hl, hs⟩ := zeroC_run hz
    obtain ⟨c1, c2⟩ := hs (s.set n w.heap.size 0)
    refine ⟨.pointer (some ⟨w.heap.size, 0, none⟩), .cells ⟨vs⟩ t (0, 0), 0, w.alloc (.cells ⟨vs⟩ t), ?_, rfl, rfl, rfl, rfl, by simp [AV.conc, Sg.set], ?_⟩
    · simp [execOp, hop, Instr.alloc, zeroValue, typeInfo, hi, hv, newVar, newRow, hc]
    · refine rowR (by rw [len_eq, hl]) c2 fun i A hA => ?_
      rw [cellAt_eq] at hA
      split at hA
      · rename_i hlt
        have hA : zpat z i = some A := hA
        rw [zpat_eq, Nat.mod_eq_of_lt (by rw [len_eq] at hlt; exact hlt)] at hA
        exact concL_get c1 hA
      · cases hA
theorem newRowA_k {t : TypeId} {l : List AV} {ex mk : Bool} {n : Nat} {H : Heap} {k : Nat → Heap → OR} : newRowA t l ex mk n H k = k (n + 1) (Q8.upd H n (some (.row t (fun _ => none) l.length (T.e.puts l 0) ex mk))) := by
  unfold newRowA
  rw [putCells_k, frc_eq, Q8.set_k, frc_eq, len_eq]
theorem evBox_ok {o : Oper} {t : TypeId} {x : Operand} (hop : o.op = .box t x) {env : Env} {n n' : Nat} {H H' : Heap} {v : AV} (h : evBox P t x env n H = .val v n' H') :
    ∃ A, n' = n + 1 ∧ H' = Q8.upd H n (some A) ∧ NewOk P o env n v A := by
  unfold evBox at h
  split at h
  · cases h
  · rename_i u hnt hx
    rw [newRowA_k] at h
    injection h with h1 h2 h3
    subst h1 h2 h3
    refine ⟨_, rfl, rfl, fun s N a w he hg hn => ?_⟩
    obtain ⟨vs, c1, c2, c3⟩ := cells_conc (opd_conc he hg hx) hnt
    have hle := Sg.set_le (b := w.heap.size) (c := 0) hn
    refine ⟨.pointer (some ⟨w.heap.size, 0, none⟩), .cells ⟨vs⟩ t (0, 0), 0, w.alloc (.cells ⟨vs⟩ t), ?_, rfl, rfl, rfl, rfl, by simp [AV.conc, Sg.set], rowL (concL_le hle _ c1) c3⟩
    simp [execOp, hop, Instr.box, newVar, newRow, c2]
  · cases h
theorem places_eq : ∀ {fs : List Field} {pl : List (Nat × Nat)}, places P fs = some pl → fs.mapM (fun f => (P.info? f.type).map fun i => (f.offset, i.size)) = some pl
  | [], pl, h => by injection h with h; subst h; rfl
  | f :: fs, pl, h => by
    have h : (match sizeB P f.type with | some s => (match places P fs with | some r => some ((f.offset, s) :: r) | none => none) | none => none) = some pl := h
    split at h
    · rename_i k hk
      split at h
      · rename_i r hr
        injection h with h; subst h
        unfold sizeB at hk
        split at hk
        · rename_i i hi
          injection hk with hk; subst hk
          simp [List.mapM_cons, hi, places_eq hr]
        · cases hk
      · cases h
    · cases h
theorem evBuild_ok {o : Oper} {t : TypeId} {ps : Array (Nat × Operand)} (hop : o.op = .build t ps) {env : Env} {n n' : Nat} {H H' : Heap} {v : AV} (h : evBuild P t ps.toList env n H = .val v n' H') : n' = n ∧ H' = H ∧ PureOk P o env v := by
  unfold evBuild at h
  split at h
  · rename_i z fs hz hu
    split at h
    · rename_i pl hpl
      split at h
      · rename_i l hl
        injection h with h1 h2 h3
        subst h1 h2 h3
        refine ⟨rfl, rfl, fun s N a he hg => ?_⟩
        obtain ⟨i, v, vs, hi, hv, hc, _, hs⟩ := zeroC_run hz
        obtain ⟨c1, c2⟩ := hs s
        obtain ⟨us, d1, d2, d3⟩ := fillA_ok he hg (pA := nth pl) (pM := (pl.toArray[·]?)) (fun i x hx => by rw [nth_eq] at hx; simpa using hx) hl c1 c2
        refine ⟨.agg ⟨us⟩, conc_agg d1 d2, fun w => ?_⟩
        have hb : P.built t ((ps.map fun (x : Nat × Operand) => (x.1, a.eval x.2)).toList) = some ⟨us⟩ := by
          simp only [Program.built, hi, hu, hv, places_eq hpl, hc, Array.toList_map]
          exact d3
        have := run_build w t _ _ hb
        simp [execOp, hop, this]
      · cases h
    · cases h
  · rename_i z k e hz hu
    split at h
    · rename_i sz hsz
      split at h
      · rename_i l hl
        injection h with h1 h2 h3
        subst h1 h2 h3
        refine ⟨rfl, rfl, fun s N a he hg => ?_⟩
        obtain ⟨i, v, vs, hi, hv, hc, _, hs⟩ := zeroC_run hz
        obtain ⟨c1, c2⟩ := hs s
        obtain ⟨us, d1, d2, d3⟩ := fillA_ok he hg (pA := fun i => some (Nat.mul i sz, sz)) (pM := fun i => some (i * sz, sz)) (fun i x hx => hx) hl c1 c2
        refine ⟨.agg ⟨us⟩, conc_agg d1 d2, fun w => ?_⟩
        have hie : ∃ ie, P.info? e = some ie ∧ ie.size = sz := by
          unfold sizeB at hsz
          split at hsz
          · rename_i ie hie; injection hsz with hsz; exact ⟨ie, hie, hsz⟩
          · cases hsz
        obtain ⟨ie, hie, hsz'⟩ := hie
        have hb : P.built t ((ps.map fun (x : Nat × Operand) => (x.1, a.eval x.2)).toList) = some ⟨us⟩ := by
          simp only [Program.built, hi, hu, hv, hie, hsz', hc, Array.toList_map]
          exact d3
        have := run_build w t _ _ hb
        simp [execOp, hop, this]
      · cases h
    · cases h
  · cases h
theorem times_conc {s : Sg} {z : List AV} {vs : List Value} (h : concL s z = some vs) (h1 : vs.all Value.oneCell' = true) : ∀ k, ∃ us, concL s (times z k) = some us ∧ us.all Value.oneCell' = true ∧ us = (List.replicate k vs).flatten
  | 0 => ⟨[], rfl, rfl, rfl⟩
  | k + 1 => by
    obtain ⟨us, u1, u2, u3⟩ := times_conc h h1 k
    exact ⟨vs ++ us, concL_append h u1, by simp only [List.all_append, h1, u2, Bool.and_self], by rw [u3, List.replicate_succ, List.flatten_cons]⟩
theorem range_mod (vs : List Value) (k : Nat) (_hp : 0 < vs.length) : ((Array.range (k * vs.length)).map ((⟨vs⟩ : Array Value)[· % vs.length]!)) = ⟨(List.replicate k vs).flatten⟩ := by
  apply Array.ext'
  apply List.ext_getElem?
  intro i
  have e1 : ((Array.range (k * vs.length)).map ((⟨vs⟩ : Array Value)[· % vs.length]!)).toList[i]? = if i < k * vs.length then some ((vs[i % vs.length]?).getD default) else none := by
    rw [Array.getElem?_toList, Array.getElem?_map, Array.getElem?_range]
    split <;> simp [Array.getElem!_eq_getD]
  rw [e1]
  clear e1
  induction k generalizing i with
  | zero => simp
  | succ k ih =>
    rw [List.replicate_succ, List.flatten_cons]
    by_cases hi : i < vs.length
    · rw [List.getElem?_append_left hi, if_pos (by rw [Nat.succ_mul]; omega), Nat.mod_eq_of_lt hi]
      simp [List.getElem?_eq_getElem hi]
    · rw [List.getElem?_append_right (by omega), ← ih (i - vs.length)]
      have hm : i % vs.length = (i - vs.length) % vs.length := (Nat.mod_eq_sub_mod (by omega))
      rw [hm]
      by_cases h2 : i < (k + 1) * vs.length
      · rw [if_pos h2, if_pos (by rw [Nat.succ_mul] at h2; omega)]
      · rw [if_neg h2, if_neg (by rw [Nat.succ_mul] at h2; omega)]
theorem evBuildSlice_ok {o : Oper} {t : TypeId} {m : Nat} {ps : Array (Nat × Operand)} (hop : o.op = .buildSlice t m ps) {env : Env} {n n' : Nat} {H H' : Heap} {v : AV} (h : evBuildSlice P t m ps.toList env n H = .val v n' H') :
    ∃ A, n' = n + 1 ∧ H' = Q8.upd H n (some A) ∧ NewOk P o env n v A := by
  unfold evBuildSlice at h
  split at h
  · rename_i e hu
    split at h
    · rename_i z sz hz hsz
      split at h
      · rename_i l hb hl2 hl
        rw [newRowA_k] at h
        injection h with h1 h2 h3
        subst h1 h2 h3
        refine ⟨_, rfl, rfl, fun s N a w he hg hn => ?_⟩
        obtain ⟨i, v, vs, hi, hv, hc, hvl, hs⟩ := zeroC_run hz
        obtain ⟨c1, c2⟩ := hs s
        have hzl : vs.length = sz := by rw [hvl]; rw [natbeq] at hl2; have := of_decide_eq_true hl2; rwa [len_eq] at this
        have hsi := sizeB_info hsz hi
        obtain ⟨tm, t1, t2, t3⟩ := times_conc c1 c2 m
        obtain ⟨us, d1, d2, d3⟩ := fillA_ok he hg (pA := fun i => some (Nat.mul i sz, sz)) (pM := fun i => some (i * sz, sz)) (fun i x hx => hx) hl t1 t2
        have hle := Sg.set_le (b := w.heap.size) (c := 0) hn
        refine ⟨.slice (some ⟨w.heap.size, 0, none⟩) m m, .cells ⟨us⟩ e (0, 0), 0, w.alloc (.cells ⟨us⟩ e), ?_, rfl, rfl, rfl, rfl, sl_conc.2 ⟨_, Sg.set_blk .., by simp [Cap.fits], by simp [Cap.val]⟩, rowL (concL_le hle _ d1) d2⟩
        have hsmall : ¬ (2 ^ 24 < m * sz) := by have := Nat.ble_eq.mp hb; exact Nat.not_lt.2 this
        have hcells : (if m * sz = 0 then (⟨[]⟩ : Array Value) else ((Array.range (m * sz)).map (v.cells[· % v.cells.size]!))) = ⟨tm⟩ ∨ m * sz = 0 := by
          by_cases h0 : m * sz = 0
          · exact .inr h0
          · left
            rw [if_neg h0, hc, t3]
            have hp : 0 < vs.length := by rw [hzl]; rcases Nat.eq_zero_or_pos sz with e0 | e0; · rw [e0] at h0; simp at h0
                                          · exact e0
            rw [← hzl]
            exact range_mod vs m hp
        have d3' : Instr.fill (fun i => some (i * sz, sz)) ⟨tm⟩ (List.map (fun (x : Nat × Operand) => (x.1, a.eval x.2)) ps.toList) = some ⟨us⟩ := d3
        by_cases h0 : m * sz = 0
        · have htm : tm = [] := by
            have hl0 : tm.length = 0 := by
              rw [t3]; simp [hzl, h0]
            exact List.length_eq_zero_iff.1 hl0
          rw [htm] at d3'
          simp [execOp, hop, Instr.buildSlice, underlying_run hu, sizeB_run hsz, h0, d3', newRow, Array.range_zero']
        · have hcells := hcells.resolve_right h0
          rw [if_neg h0] at hcells
          simp [execOp, hop, Instr.buildSlice, underlying_run hu, sizeB_run hsz, hsmall, h0, zeroValue, typeInfo, hi, hv, hcells, d3', newRow]
      · cases h
    · cases h
  · cases h
end
end Go.Sy
