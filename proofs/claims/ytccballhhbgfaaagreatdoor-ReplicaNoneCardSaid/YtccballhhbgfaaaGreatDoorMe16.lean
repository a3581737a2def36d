/- SymLo, SymCB -/
import Derived.Test.YtccballhhbgfaaaGreatDoorMe15
import Derived.Test.YtccballhhbgfaaaGreatDoorMe14
namespace Go.Proofs.YtccballhhbgfaaaGreatDoor
open Go Go.RowKit Go.Sy
noncomputable def ringZ (nodes i : Nat) : Option AV :=
  match Nat.blt (Nat.div i 3) nodes with
  | true => some (.i .u32 (.ofNat 0))
  | false => (match Nat.mod i 3 with
    | 2 => frc (Nat.sub (Nat.succ (Nat.div i 3)) nodes) fun k => some (.i .u32 (.ofNat k))
    | _ => frc (Nat.div i 3) fun k => some (.i .u32 (.ofNat k)))
noncomputable def linksNew (args : List AV) (n : Nat) (H : Heap) : VR :=
  match args with
  | [.i .i64 (.ofNat nodes), .i .i64 (.ofNat heads)] => frc (Nat.add nodes heads) fun m => (match Nat.ble 1 nodes, Nat.ble 1 heads, Nat.ble m 4096 with
    | true, true, true => frc (Nat.mul 3 m) fun c =>
      Q8.set (some (.row 470 (ringZ nodes) c .e true false)) H n fun H => frc (Nat.succ n) fun n1 =>
      Q8.set (some (.row 3 (zpat [.i .i64 (.ofNat 0)]) heads .e true false)) H n1 fun H => frc (Nat.succ n1) fun n2 =>
      putCells [.sl n 0 m (.k m), .i .i64 (.ofNat nodes), .sl n1 0 heads (.k heads)] .e 0 fun c =>
      Q8.set (some (.row 468 (fun _ => none) 3 c true false)) H n2 fun H => frc (Nat.succ n2) fun n3 => .ok (.tup [.p n2 0, .i .i64 (.ofNat 0)]) n3 H
    | _, _, _ => .er [301])
  | _ => .er [300]
noncomputable def orcL : Orc := fun x => match Nat.beq x 328 with | true => some linksNew | false => none
section
variable {P : Program}
/-- Three new blocks. -/
theorem alloc3 {s : Sg} {H : Heap} {w w' : World} {n b0 b1 b2 : Nat} {A0 A1 A2 : Go.Sy.Blk} {o0 o1 o2 : Obj} (h : Rel P s H w) (hf : Free s n (n + 3)) (hn : n + 3 ≤ LIM) (hb : Below w.heap.size w w') (hs : w'.heap.size = w.heap.size + 3)
    (c0 : w.heap.size ≤ b0) (c1 : w.heap.size ≤ b1) (c2 : w.heap.size ≤ b2) (d1 : b0 ≠ b1) (d2 : b0 ≠ b2) (d3 : b1 ≠ b2) (s' : Sg) (hs' : s' = ((s.set n b0 0).set (n + 1) b1 0).set (n + 2) b2 0)
    (e0 : w'.heap[b0]? = some o0) (e1 : w'.heap[b1]? = some o1) (e2 : w'.heap[b2]? = some o2) (r0 : BlkR P s' n A0 o0) (r1 : BlkR P s' (n + 1) A1 o1) (r2 : BlkR P s' (n + 2) A2 o2) :
    Rel P s' (Q8.upd (Q8.upd (Q8.upd H n (some A0)) (n + 1) (some A1)) (n + 2) (some A2)) w' ∧ Step s n H w s' (n + 3) (Q8.upd (Q8.upd (Q8.upd H n (some A0)) (n + 1) (some A1)) (n + 2) (some A2)) w' := by
  have k0 := hf n (Nat.le_refl _) (by omega)
  have k1 := hf (n + 1) (by omega) (by omega)
  have k2 := hf (n + 2) (by omega) (by omega)
  have hg : ∀ x, x < LIM → Q8.get (Q8.upd (Q8.upd (Q8.upd H n (some A0)) (n + 1) (some A1)) (n + 2) (some A2)) x = if x = n + 2 then some A2 else if x = n + 1 then some A1 else if x = n then some A0 else Q8.get H x := fun x hx => by
    rw [Q8.get_upd _ _ _ _ (by omega) hx, Q8.get_upd _ _ _ _ (by omega) hx, Q8.get_upd _ _ _ _ (by omega) hx]
    simp only [eq_comm (b := x)]
  have hblk : ∀ x, s'.blk x = if x = n + 2 then some b2 else if x = n + 1 then some b1 else if x = n then some b0 else s.blk x := fun x => by subst hs'; rfl
  have hcap : ∀ x, x ≠ n → x ≠ n + 1 → x ≠ n + 2 → s'.cap x = s.cap x := fun x a b c => by subst hs'; simp [Sg.set, a, b, c]
  have hle : s.le s' := fun x b hx => by
    have a : x ≠ n := fun e => by rw [e, k0] at hx; cases hx
    have b' : x ≠ n + 1 := fun e => by rw [e, k1] at hx; cases hx
    have c : x ≠ n + 2 := fun e => by rw [e, k2] at hx; cases hx
    exact ⟨by rw [hblk, if_neg c, if_neg b', if_neg a]; exact hx, hcap x a b' c⟩
  have hold : ∀ x b, x < LIM → Q8.get H x ≠ none → s.blk x = some b → b < w.heap.size := fun x b hx h1 h2 => by
    obtain ⟨B, hB⟩ := Option.ne_none_iff_exists'.1 h1
    exact h.lt hx hB h2
  -- what a symbol of the new heap stands for
  have hwhat : ∀ x b, x < LIM → Q8.get (Q8.upd (Q8.upd (Q8.upd H n (some A0)) (n + 1) (some A1)) (n + 2) (some A2)) x ≠ none → s'.blk x = some b →
      (x = n + 2 ∧ b = b2) ∨ (x = n + 1 ∧ b = b1) ∨ (x = n ∧ b = b0) ∨ (b < w.heap.size ∧ Q8.get H x ≠ none ∧ s.blk x = some b) := fun x b hx h1 h2 => by
    rw [hg x hx] at h1
    rw [hblk] at h2
    by_cases a2 : x = n + 2
    · rw [if_pos a2] at h2; injection h2 with h2; exact .inl ⟨a2, h2.symm⟩
    · rw [if_neg a2] at h1 h2
      by_cases a1 : x = n + 1
      · rw [if_pos a1] at h2; injection h2 with h2; exact .inr (.inl ⟨a1, h2.symm⟩)
      · rw [if_neg a1] at h1 h2
        by_cases a0 : x = n
        · rw [if_pos a0] at h2; injection h2 with h2; exact .inr (.inr (.inl ⟨a0, h2.symm⟩))
        · rw [if_neg a0] at h1 h2
          exact .inr (.inr (.inr ⟨hold x b hx h1 h2, h1, h2⟩))
  refine ⟨⟨fun x b hx => ?_, fun g hgl => (hle g g (h.glob g hgl)).1, fun x A hx hA => ?_, fun x y b hx hy h1 h2 h3 h4 => ?_⟩, fun x hx => ?_, by omega, fun b hb' _ => hb.block b hb', fun y b hy h1 h2 h3 => ?_, hb.os, hb.tape, hb.output⟩
  · rw [hblk] at hx
    by_cases a2 : x = n + 2
    · omega
    · by_cases a1 : x = n + 1
      · omega
      · by_cases a0 : x = n
        · omega
        · rw [if_neg a2, if_neg a1, if_neg a0] at hx; exact h.lim x b hx
  · rw [hg x hx] at hA
    by_cases a2 : x = n + 2
    · rw [if_pos a2] at hA; injection hA with hA; subst hA a2
      exact ⟨b2, o2, by rw [hblk, if_pos rfl], e2, r2⟩
    · rw [if_neg a2] at hA
      by_cases a1 : x = n + 1
      · rw [if_pos a1] at hA; injection hA with hA; subst hA a1
        exact ⟨b1, o1, by rw [hblk, if_neg (by omega), if_pos rfl], e1, r1⟩
      · rw [if_neg a1] at hA
        by_cases a0 : x = n
        · rw [if_pos a0] at hA; injection hA with hA; subst hA a0
          exact ⟨b0, o0, by rw [hblk, if_neg (by omega), if_neg (by omega), if_pos rfl], e0, r0⟩
        · rw [if_neg a0] at hA
          obtain ⟨b, o, x1, x2, x3⟩ := h.blk x A hx hA
          exact ⟨b, o, (hle x b x1).1, by rw [hb.block b (Array.getElem?_eq_some_iff.1 x2).1]; exact x2, x3.le hle x1⟩
  · have p := hwhat x b hx h1 h3
    have q := hwhat y b hy h2 h4
    rcases p with ⟨p1, p2⟩ | ⟨p1, p2⟩ | ⟨p1, p2⟩ | ⟨p1, p2, p3⟩ <;> rcases q with ⟨q1, q2⟩ | ⟨q1, q2⟩ | ⟨q1, q2⟩ | ⟨q1, q2, q3⟩ <;> first | omega | exact h.inj x y b hx hy p2 q2 p3 q3
  · rw [hblk]
    exact ⟨by rw [if_neg (by omega), if_neg (by omega), if_neg (by omega)], hcap x (by omega) (by omega) (by omega)⟩
  · rcases hwhat y b hy h1 h2 with ⟨p1, p2⟩ | ⟨p1, p2⟩ | ⟨p1, p2⟩ | ⟨p1, p2, p3⟩
    · omega
    · omega
    · omega
    · exact ⟨y, hy, p2, p3⟩
end
theorem ringZ_eq (nodes heads i : Nat) (A : AV) (hi : i < 3 * (nodes + heads)) (h : ringZ nodes i = some A) : A = .i .u32 (ringV nodes heads i) := by
  have h3 : Nat.mod i 3 = i % 3 := rfl
  have hd : Nat.div i 3 = i / 3 := rfl
  unfold ringZ at h
  split at h
  · rename_i hb
    have hb : i / 3 < nodes := Nat.le_of_ble_eq_true hb
    injection h with h
    subst h
    unfold ringV; rw [if_neg (by omega)]; rfl
  · rename_i hb
    have hb : ¬ i / 3 < nodes := fun e => by have : Nat.blt (Nat.div i 3) nodes = true := Nat.ble_eq_true_of_le e; rw [hb] at this; cases this
    split at h
    · rename_i hm
      rw [frc_eq] at h
      injection h with h; subst h
      unfold ringV; rw [if_pos (by omega), if_pos (by omega)]
      show AV.i .u32 ((Nat.sub (Nat.succ (Nat.div i 3)) nodes : Nat) : Int) = _
      have : Nat.sub (Nat.succ (Nat.div i 3)) nodes = i / 3 - nodes + 1 := by
        rw [hd]
        show (i / 3 + 1) - nodes = _
        generalize i / 3 = q at hb ⊢
        omega
      rw [this]
    · rename_i hm
      rw [frc_eq] at h
      injection h with h; subst h
      have hm2 : ¬ i % 3 = 2 := fun e => hm (h3.trans e)
      unfold ringV; rw [if_pos (by omega), if_neg hm2]; rfl
theorem linksNew_good (args : List AV) (n : Nat) (H : Heap) (v : AV) (n' : Nat) (H' : Heap) (h : linksNew args n H = .ok v n' H') : FnGood Tryz.prog 328 args n H v n' H' := by
  unfold linksNew at h
  split at h
  · rename_i nodes heads
    rw [frc_eq] at h
    split at h
    · rename_i hb1 hb2 hb3
      have hb1 : 1 ≤ nodes := Nat.le_of_ble_eq_true hb1
      have hb2 : 1 ≤ heads := Nat.le_of_ble_eq_true hb2
      have hb3 : nodes + heads ≤ 4096 := Nat.le_of_ble_eq_true hb3
      simp only [frc_eq, Q8.set_k, putCells_k] at h
      injection h with h1 h2 h3
      subst h1 h2 h3
      refine ⟨by omega, fun s w Args R hA hr hf hl hR => ?_⟩
      obtain ⟨u, us, hu, hus, rfl⟩ := concL_cons.1 hA
      obtain ⟨u2, us2, hu2, hus2, rfl⟩ := concL_cons.1 hus
      rw [concL_nil] at hus2; subst hus2
      simp only [AV.conc, Option.some.injEq] at hu hu2
      subst hu hu2
      refine callsIn_wide.2 ((linksNew_walk nodes heads w hb1 hb2 hb3).mono ?_)
      rintro e w' ⟨gf, gl, rfl, hg, ⟨C, hc, hbf⟩, hbl, hbb, hsz, hbe⟩
      have hs1 : ∀ s0 : Sg, ((((s.set n gf 0).set (n + 1) gl 0).set (n + 2) (w.heap.size + 1 + 1) 0) = s0) → s0.blk n = some gf ∧ s0.blk (n + 1) = some gl ∧ s0.blk (n + 2) = some (w.heap.size + 1 + 1) := by
        rintro s0 rfl
        refine ⟨?_, ?_, ?_⟩ <;> simp [Sg.set]
      obtain ⟨s', hs'⟩ : ∃ s', s' = ((s.set n gf 0).set (n + 1) gl 0).set (n + 2) (w.heap.size + 1 + 1) 0 := ⟨_, rfl⟩
      obtain ⟨x0, x1, x2⟩ := hs1 s' hs'.symm
      have key := alloc3 (P := Tryz.prog) (A0 := .row 470 (ringZ nodes) (Nat.mul 3 (Nat.add nodes heads)) .e true false) (A1 := .row 3 (zpat [.i .i64 (.ofNat 0)]) heads .e true false)
        (A2 := .row 468 (fun _ => none) 3 (T.e.puts [.sl n 0 (Nat.add nodes heads) (.k (Nat.add nodes heads)), .i .i64 (.ofNat nodes), .sl (Nat.succ n) 0 heads (.k heads)] 0) true false)
        hr hf hl hbe hsz (b0 := gf) (b1 := gl) (b2 := w.heap.size + 1 + 1) (by omega) (by omega) (by omega) (by omega) (by omega) (by omega) s' hs' hbf hbl hbb ?_ ?_ ?_
      · refine hR _ s' w' ?_ key.1 key.2
        simp only [AV.conc, concL]
        rw [show (Nat.succ (Nat.succ n)) = n + 2 from rfl, x2]
        rfl
      · refine ⟨rfl, by rw [hc.size]; exact Nat.le_refl _, fun i A hA => ?_, by rw [if_pos rfl, hc.size]; rfl, .inl rfl⟩
        have hlt : i < 3 * (nodes + heads) := cellAt_lt hA
        rw [cellAt_eq, if_pos (show i < Nat.mul 3 (Nat.add nodes heads) from hlt)] at hA
        have := ringZ_eq nodes heads i A hlt hA
        subst this
        exact ⟨_, rfl, hc.at_ i hlt, rfl⟩
      · exact rowZ (vs := [.int .i64 0]) rfl rfl _
      · refine ⟨rfl, by simp, fun i A hA => ?_, rfl, .inl rfl⟩
        have hlt := cellAt_lt hA
        rw [cellAt_eq, if_pos hlt, T.get_puts, if_pos (by simp; omega)] at hA
        have : i = 0 ∨ i = 1 ∨ i = 2 := by omega
        rcases this with rfl | rfl | rfl
        · have hA : AV.sl n 0 (Nat.add nodes heads) (.k (Nat.add nodes heads)) = A := by simpa using hA
          subst hA
          exact ⟨_, sl_conc.2 ⟨gf, x0, by simp [Cap.fits], rfl⟩, rfl, rfl⟩
        · have hA : AV.i .i64 (.ofNat nodes) = A := by simpa using hA
          subst hA
          exact ⟨_, rfl, rfl, rfl⟩
        · have hA : AV.sl (n + 1) 0 heads (.k heads) = A := by simpa using hA
          subst hA
          exact ⟨_, sl_conc.2 ⟨gl, x1, by simp [Cap.fits], rfl⟩, rfl, rfl⟩
    · cases h
  · cases h
theorem orcL_ok : OrcOk Tryz.prog orcL := orcOk_one linksNew_good
end Go.Proofs.YtccballhhbgfaaaGreatDoor
namespace Go.Sy
open Go Go.RowKit
noncomputable def putRs {β : Type} (rs : List (Nat × GV)) : Heap → (Heap → β) → β :=
  List.rec (motive := fun _ => Heap → (Heap → β) → β) (fun H k => k H)
    (fun g _ ih H k => putCells g.2.l .e 0 fun c => frc (len g.2.l) fun m => Q8.set (some (.row g.2.t (fun _ => none) m c true false)) H g.1 fun H => ih H k) rs
noncomputable def sameRs (H : Heap) (rs : List (Nat × GV)) : Prop :=
  List.rec True (fun g _ ih => sameG g.2 (Q8.get H g.1) ∧ ih) rs
noncomputable def runP (P : Program) (O : Orc) (fuel : Nat) (f : FuncId) (args : List AV) (res : AV) (rs : List (Nat × GV)) (nb : Nat) : Prop :=
  putRs rs Q8.e fun H => match (ev P O fuel).ef f args (Nat.add 64 nb) H with
    | .ok v n' H' => (match Nat.ble n' 65536 with | true => v = res ∧ sameRs H' rs | false => False)
    | .er _ => False
noncomputable def hR : List (Nat × GV) → Heap → Heap
  | [], H => H
  | g :: rs, H => hR rs (Q8.upd H g.1 (some (rowG g.2)))
theorem putRs_k {β : Type} (rs : List (Nat × GV)) : ∀ (H : Heap) (k : Heap → β), putRs rs H k = k (hR rs H) := by
  induction rs with
  | nil => intro H k; rfl
  | cons g rs ih =>
    intro H k
    show putCells g.2.l .e 0 (fun c => frc (len g.2.l) fun m => Q8.set (some (.row g.2.t (fun _ => none) m c true false)) H g.1 fun H => putRs rs H k) = _
    rw [putCells_k, frc_eq, Q8.set_k, ih, len_eq]
    rfl
theorem get_hR (rs : List (Nat × GV)) : ∀ (H : Heap) (x : Nat), (∀ g ∈ rs, g.1 < LIM) → x < LIM → Q8.get (hR rs H) x = Q8.get H x ∨ ∃ g ∈ rs, g.1 = x ∧ Q8.get (hR rs H) x = some (rowG g.2) := by
  induction rs with
  | nil => intro H x _ _; exact .inl rfl
  | cons g rs ih =>
    intro H x hl hx
    rcases ih (Q8.upd H g.1 (some (rowG g.2))) x (fun g hg => hl g (List.mem_cons_of_mem _ hg)) hx with h | ⟨y, h1, h2, h3⟩
    · rw [Q8.get_upd _ _ _ _ (hl g List.mem_cons_self) hx] at h
      by_cases he : g.1 = x
      · rw [if_pos he] at h
        exact .inr ⟨g, List.mem_cons_self, he, h⟩
      · rw [if_neg he] at h; exact .inl h
    · exact .inr ⟨y, List.mem_cons_of_mem _ h1, h2, h3⟩
theorem sameRs_at {H : Heap} : ∀ {rs : List (Nat × GV)}, sameRs H rs → ∀ g ∈ rs, sameG g.2 (Q8.get H g.1)
  | [], _, g, hg => by cases hg
  | g' :: rs, h, g, hg => by
    have h : sameG g'.2 (Q8.get H g'.1) ∧ sameRs H rs := h
    rcases List.mem_cons.1 hg with rfl | hg
    · exact h.1
    · exact sameRs_at h.2 g hg
/-- The symbols at first: the program's variables, the arguments' blocks. -/
def sgB (bs : List Nat) : Sg := ⟨fun x => if x < 64 then some x else bs[x - 64]?, fun _ => 0⟩
theorem sgB_some {bs : List Nat} {x b : Nat} (h : (sgB bs).blk x = some b) : (x < 64 ∧ b = x) ∨ (64 ≤ x ∧ x < 64 + bs.length ∧ bs[x - 64]? = some b) := by
  simp only [sgB] at h
  split at h
  · rename_i hx; injection h with h; exact .inl ⟨hx, h.symm⟩
  · rename_i hx
    have := (List.getElem?_eq_some_iff.1 h).1
    exact .inr ⟨by omega, by omega, h⟩
/-- What a run starts from: rows whole, each in a block of its own. -/
structure RowsAt (w : World) (rs : List (Nat × GV)) (bs : List Nat) : Prop where
  good : ∀ g ∈ rs, g.2.Good
  blk : ∀ g ∈ rs, ∃ b, (sgB bs).blk g.1 = some b ∧ w.heap[b]? = some (Obj.cells ⟨g.2.vs⟩ g.2.t (0, 0))
  inj : ∀ g ∈ rs, ∀ g' ∈ rs, ∀ b, (sgB bs).blk g.1 = some b → (sgB bs).blk g'.1 = some b → g.1 = g'.1
  few : bs.length ≤ 1000
section
variable {P : Program}
theorem run_args {O : Orc} (hm : P.follows .mixedOrders = true) (hO : OrcOk P O) {fuel : Nat} {f : FuncId} {args : List AV} {res : AV} {rs : List (Nat × GV)} {bs : List Nat} {Args : List Value} {V : Value}
    {w : World} (hrs : RowsAt w rs bs) (hA : concL (sgB bs) args = some Args) (hV : ∀ s, res.conc s = some V) (h : runP P O fuel f args res rs bs.length) : Calls P f ⟨Args⟩ w fun e w' => e = .returned V ∧ Below w.heap.size w w' := by
  have hL : (65536 : Nat) = LIM := rfl
  have hfew := hrs.few
  have hlt : ∀ g ∈ rs, g.1 < LIM := fun g hg => by
    obtain ⟨b, hb, _⟩ := hrs.blk g hg
    rcases sgB_some hb with ⟨a1, a2⟩ | ⟨a1, a2, a3⟩ <;> omega
  unfold runP at h
  rw [putRs_k] at h
  have hget : ∀ x, x < LIM → Q8.get (hR rs Q8.e) x = none ∨ ∃ g ∈ rs, g.1 = x ∧ Q8.get (hR rs Q8.e) x = some (rowG g.2) := fun x hx => by
    rcases get_hR rs Q8.e x hlt hx with h | h
    · exact .inl (h.trans (Q8.get_e x))
    · exact .inr h
  have hr0 : Rel P (sgB bs) (hR rs Q8.e) w := by
    refine ⟨fun x b hb => ?_, fun g hg => by simp [sgB, hg], fun x A hx hA => ?_, fun x y b hx hy h1 h2 h3 h4 => ?_⟩
    · rcases sgB_some hb with ⟨a1, a2⟩ | ⟨a1, a2, a3⟩ <;> omega
    · rcases hget x hx with h | ⟨g, hg, rfl, h⟩
      · rw [h] at hA; cases hA
      · rw [h] at hA; injection hA with hA; subst hA
        obtain ⟨b, hb, hw⟩ := hrs.blk g hg
        exact ⟨b, _, hb, hw, rowG_good (hrs.good g hg) _ _⟩
    · rcases hget x hx with h | ⟨g, hg, rfl, h⟩
      · exact absurd h h1
      · rcases hget y hy with h' | ⟨g', hg', rfl, h'⟩
        · exact absurd h' h2
        · exact hrs.inj g hg g' hg' b h3 h4
  split at h
  · rename_i v n' H' hev
    split at h
    · rename_i h2
      obtain ⟨h1, h⟩ := h
      subst h1
      refine callsIn_wide.1 (calls_of_ev hm hO hev hA hr0 (fun x h1 _ => ?_) (Nat.le_of_ble_eq_true h2) fun V' s' w' hv hr hs => ?_)
      · have h1 : 64 + bs.length ≤ x := h1
        simp only [sgB]
        rw [if_neg (by omega), List.getElem?_eq_none (by omega)]
      rw [hV] at hv
      injection hv with hv
      subst hv
      refine ⟨rfl, hs.os, hs.tape, hs.output, hs.size, fun k hk => ?_⟩
      have hoff : ∀ x, x < 64 + bs.length → s'.blk x = (sgB bs).blk x := fun x hx => (hs.off x (.inl hx)).1
      by_cases hex : ∃ x, x < LIM ∧ Q8.get (hR rs Q8.e) x ≠ none ∧ (sgB bs).blk x = some k
      · obtain ⟨x, hx, hxn, hxb⟩ := hex
        rcases hget x hx with h' | ⟨g, hg, rfl, h'⟩
        · exact absurd h' hxn
        · have hsm := sameRs_at h g hg
          cases hB : Q8.get H' g.1 with
          | none => rw [hB] at hsm; exact hsm.elim
          | some B =>
            rw [hB] at hsm
            obtain ⟨b, o, b1, b2, b3⟩ := hr.blk g.1 B hx hB
            have hx2 : g.1 < 64 + bs.length := by rcases sgB_some hxb with ⟨a1, a2⟩ | ⟨a1, a2, a3⟩ <;> omega
            rw [hoff g.1 hx2, hxb] at b1
            injection b1 with b1; subst b1
            obtain ⟨b', hb', hw⟩ := hrs.blk g hg
            rw [hxb] at hb'; injection hb' with hb'; subst hb'
            rw [b2, hw, sameG_row (hrs.good g hg) hsm b3]
      · exact hs.frame k hk fun x hx h1 h2 => hex ⟨x, hx, h1, h2⟩
    · cases h
  · cases h
theorem rowsAt_nil (w : World) : RowsAt w [] [] := ⟨by simp, by simp, by simp, by simp⟩
/-- No rows: values alone. -/
theorem run_vals {O : Orc} (hm : P.follows .mixedOrders = true) (hO : OrcOk P O) {fuel : Nat} {f : FuncId} {args : List AV} {res : AV} {Args : List Value} {V : Value}
    (hA : concL (sgB []) args = some Args) (hV : ∀ s, res.conc s = some V) (h : runP P O fuel f args res [] 0) (w : World) : Calls P f ⟨Args⟩ w fun e w' => e = .returned V ∧ Below w.heap.size w w' :=
  run_args hm hO (rowsAt_nil w) hA hV h
/-- The program's variables. -/
theorem rowsAt_globals {w : World} {rs : List (Nat × GV)} (hg : ∀ g ∈ rs, g.2.Good) (hw : ∀ g ∈ rs, g.1 < 64 ∧ w.heap[g.1]? = some (Obj.cells ⟨g.2.vs⟩ g.2.t (0, 0))) : RowsAt w rs [] := by
  refine ⟨hg, fun g h => ⟨g.1, by simp [sgB, (hw g h).1], (hw g h).2⟩, fun g h g' h' b e e' => ?_, by simp⟩
  rcases sgB_some e with ⟨a1, a2⟩ | ⟨a1, a2, a3⟩ <;> rcases sgB_some e' with ⟨b1, b2⟩ | ⟨b1, b2, b3⟩ <;> first | omega | (simp at a2 b2; omega) | (simp at a3) | (simp at b3)
end
/-- Integers in a row. -/
def gInts (k : IntKind) (t : TypeId) (l : List Nat) : GV := ⟨t, l.map fun n => .i k (.ofNat n), l.map fun n => .int k (.ofNat n)⟩
theorem gInts_good (k : IntKind) (t : TypeId) (l : List Nat) : (gInts k t l).Good := by
  refine ⟨fun s => ?_, fun v hv => ?_⟩
  · show concL s (l.map fun n => .i k (.ofNat n)) = some (l.map fun n => .int k (.ofNat n))
    induction l with
    | nil => rfl
    | cons a r ih => exact concL_cons.2 ⟨_, _, rfl, ih, rfl⟩
  · simp only [gInts, List.mem_map] at hv
    obtain ⟨n, _, rfl⟩ := hv
    rfl
def bruijnN : List Nat := [0,1,56,2,57,49,28,3,61,58,42,50,38,29,17,4,62,47,59,36,45,43,51,22,53,39,33,30,24,18,12,5,63,55,48,27,60,41,37,16,46,35,44,21,52,32,23,11,54,26,40,15,34,20,31,10,25,14,19,9,13,8,7,6]
def kindsN : List Nat := [3,1,2,4,5,6,7,8,9,10,11,12,13,14,3,1]
end Go.Sy
