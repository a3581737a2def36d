/- SymX, SymY, SymZ, SymAA, SymBB -/
import Derived.Test.YtcpophfchchpkaaGreatDoorMs7
namespace Go.Sy
open Go
section
variable {P : Program}
/-! ### Equality of values -/
theorem eqInt_eq {a b : Int} (h : eqInt a b = true) : a = b := by
  unfold eqInt at h
  split at h
  · rw [natbeq, decide_eq_true_eq] at h; rw [h]
  · rw [natbeq, decide_eq_true_eq] at h; rw [h]
  · cases h
theorem eqBytes_eq : ∀ {l m : List UInt8}, eqBytes l m = true → l = m
  | [], [], _ => rfl
  | [], _ :: _, h => by cases h
  | a :: l, [], h => by cases h
  | a :: l, b :: m, h => by
    have hu : eqBytes (a :: l) (b :: m) = (match Nat.beq a.toNat b.toNat with | true => eqBytes l m | false => false) := rfl
    rw [hu] at h
    split at h
    · rename_i e
      have e : a.toNat = b.toNat := by simpa using e
      rw [eqBytes_eq h, UInt8.toNat.inj e]
    · cases h
theorem eq1_eq {a b : AV} (h : eq1 a b = true) : a = b := by
  unfold eq1 at h
  split at h
  · simp only [beq_iff_eq] at h; rw [h]
  · split at h
    · rename_i e; rw [ikEq_eq e, eqInt_eq h]
    · cases h
  · rw [eqBytes_eq h]
  · rfl
  · split at h
    · rename_i e; rw [natbeq, decide_eq_true_eq] at e h; rw [e, h]
    · cases h
  · rfl
  · split at h
    · rename_i e1 e2 e3; rw [natbeq, decide_eq_true_eq] at e1 e2 e3 h; rw [e1, e2, e3, h]
    · cases h
  · split at h
    · rename_i e1 e2 e3
      rw [natbeq, decide_eq_true_eq] at e1 e2 e3
      split at h
      · rw [natbeq, decide_eq_true_eq] at h; rw [e1, e2, e3, h]
      · rw [natbeq, decide_eq_true_eq] at h; rw [e1, e2, e3, h]
      · cases h
    · cases h
  · rfl
  · rw [natbeq, decide_eq_true_eq] at h; rw [h]
  · rw [natbeq, decide_eq_true_eq] at h; rw [h]
  · rfl
  · rw [natbeq, decide_eq_true_eq] at h; rw [h]
  · rfl
  · cases h
theorem eq1s_eq : ∀ {l m : List AV}, eq1s l m = true → l = m
  | [], [], _ => rfl
  | [], _ :: _, h => by cases h
  | a :: l, [], h => by cases h
  | a :: l, b :: m, h => by
    have hu : eq1s (a :: l) (b :: m) = (match eq1 a b with | true => eq1s l m | false => false) := rfl
    rw [hu] at h
    split at h
    · rename_i e; rw [eq1s_eq h, eq1_eq e]
    · cases h
theorem eq2_eq {a b : AV} (h : eq2 a b = true) : a = b := by
  unfold eq2 at h
  split at h
  · rw [eq1s_eq h]
  · exact eq1_eq h
theorem eq2s_eq : ∀ {l m : List AV}, eq2s l m = true → l = m
  | [], [], _ => rfl
  | [], _ :: _, h => by cases h
  | a :: l, [], h => by cases h
  | a :: l, b :: m, h => by
    have hu : eq2s (a :: l) (b :: m) = (match eq2 a b with | true => eq2s l m | false => false) := rfl
    rw [hu] at h
    split at h
    · rename_i e; rw [eq2s_eq h, eq2_eq e]
    · cases h
theorem eqV_eq {a b : AV} (h : eqV a b = true) : a = b := by
  unfold eqV at h
  split at h
  · rw [eq1s_eq h]
  · rw [eq2s_eq h]
  · split at h
    · rename_i e1 e2; rw [natbeq, decide_eq_true_eq] at e1; rw [e1, eq1s_eq e2, eq1s_eq h]
    · cases h
  · exact eq1_eq h
/-! ### What was carried out -/
theorem snapsOk_spec {r : Rd} : ∀ {l : List (Nat × Heap)}, snapsOk P r l = true → ∀ s ∈ l, r.lo ≤ s.1 → s.1 ≤ r.hi → ∃ v n H, evOp r.o.op P r.o r.env 0 s.2 = .val v n H ∧ eqV r.v v = true
  | [], _, s, hs => by cases hs
  | x :: l, h, s, hs => by
    have hu : snapsOk P r (x :: l) = (match Nat.ble r.lo x.1 && Nat.ble x.1 r.hi with
      | true => (match evOp r.o.op P r.o r.env 0 x.2 with
          | .val v _ _ => (match eqV r.v v with | true => snapsOk P r l | false => false)
          | _ => false)
      | false => snapsOk P r l) := rfl
    rw [hu] at h
    intro h1 h2
    have rest : snapsOk P r l = true → s ∈ l → ∃ v n H, evOp r.o.op P r.o r.env 0 s.2 = .val v n H ∧ eqV r.v v = true := fun h hs => snapsOk_spec h s hs h1 h2
    split at h
    · split at h
      · rename_i v n H hv
        split at h
        · rename_i he
          cases hs with
          | head => exact ⟨v, n, H, hv, he⟩
          | tail _ hs => exact rest h hs
        · cases h
      · cases h
    · rename_i hc
      cases hs with
      | head =>
        rw [Nat.ble_eq.mpr h1, Nat.ble_eq.mpr h2] at hc
        cases hc
      | tail _ hs => exact rest h hs
theorem rdsOk_spec {snaps : List (Nat × Heap)} : ∀ {l : List Rd}, rdsOk P snaps l = true → ∀ r ∈ l, snapsOk P r snaps = true
  | [], _, r, hr => by cases hr
  | x :: l, h, r, hr => by
    have hu : rdsOk P snaps (x :: l) = (match snapsOk P x snaps with | true => rdsOk P snaps l | false => false) := rfl
    rw [hu] at h
    split at h
    · rename_i hx
      cases hr with
      | head => exact hx
      | tail _ hr => exact rdsOk_spec h r hr
    · cases h
/-- One operation of a region that draws its order, carried out in the written order. -/
def Ent (P : Program) (ec : EC) (ef : EF) (N : Nat) (all : List Oper) (SN : List (Nat × Heap)) (RD : List Rd) (i : Nat) (o : Oper) (x : RI) (env : Env) (n : Nat) (H : Heap) (v : AV) (env' : Env) (n' : Nat) (H' : Heap) : Prop :=
  PutRel o.dst N v env env' ∧ ((wantedA all o.guard env = some false ∧ v = undefA ∧ n' = n ∧ H' = H ∧ (match x with | .chain => (i + 1, H') ∈ SN | .new => (i + 1, H') ∈ SN | _ => True)) ∨
    (wantedA all o.guard env = some true ∧ match x with
      | .pure => evOp o.op P o env n H = .val v n' H'
      | .read lo hi => evOp o.op P o env n H = .val v n' H' ∧ (⟨o, env, v, lo, hi⟩ : Rd) ∈ RD
      | .new => evOp o.op P o env n H = .val v n' H' ∧ (i + 1, H') ∈ SN
      | .chain => evV P ec ef o env n H = .ok v n' H' ∧ (i + 1, H') ∈ SN))
theorem putD_ok {dst : Option Tmp} {N : Nat} {v : AV} {env env' : Env} {n n' : Nat} {H H' : Heap} (h : putD dst N v env n H = .ok env' n' H') : PutRel dst N v env env' ∧ n' = n ∧ H' = H := by
  unfold putD at h
  obtain ⟨e1, h1, h2⟩ := putK_val h (fun _ e => by cases e)
  injection h1 with q1 q2 q3
  subst q1 q2 q3
  exact ⟨h2, rfl, rfl⟩
theorem evWanted_ok {ec : EC} {ef : EF} {N : Nat} {o : Oper} {env env' : Env} {n n' : Nat} {H H' : Heap} (h : evWanted P ec ef N o env n H = .ok env' n' H') : ∃ v, evV P ec ef o env n H = .ok v n' H' ∧ PutRel o.dst N v env env' := by
  unfold evWanted at h
  unfold evV
  cases hr : evOp o.op P o env n H with
  | val v n1 H1 =>
    rw [hr] at h
    obtain ⟨h1, rfl, rfl⟩ := putD_ok h
    exact ⟨v, rfl, h1⟩
  | call g args =>
    rw [hr] at h
    simp only at h ⊢
    split at h
    · rename_i v n1 H1 hc
      obtain ⟨h1, rfl, rfl⟩ := putD_ok h
      exact ⟨v, hc, h1⟩
    · cases h
  | yld y args =>
    rw [hr] at h
    simp only at h ⊢
    split at h
    · rename_i v n1 H1 hc
      obtain ⟨h1, rfl, rfl⟩ := putD_ok h
      exact ⟨v, hc, h1⟩
    · cases h
  | dfr f args => rw [hr] at h; cases h
  | no k => rw [hr] at h; cases h
theorem evDrawn_cons (ec : EC) (ef : EF) (N : Nat) (all : List Oper) (o : Oper) (ops : List Oper) (x : RI) (is : List RI) (i : Nat) (snaps : List (Nat × Heap)) (rds : List Rd) (env : Env) (n : Nat) (H : Heap) :
    evDrawn P ec ef N all (o :: ops) (x :: is) i snaps rds env n H = (match wantedA all o.guard env with
        | some false => (match putD o.dst N undefA env n H with
            | .ok env n H => (match x with
                | .pure => evDrawn P ec ef N all ops is (Nat.succ i) snaps rds env n H
                | .read _ _ => evDrawn P ec ef N all ops is (Nat.succ i) snaps rds env n H
                | _ => evDrawn P ec ef N all ops is (Nat.succ i) ((Nat.succ i, H) :: snaps) rds env n H)
            | .er l => .er l)
        | some true => (match x with
          | .pure => (match evOp o.op P o env n H with
              | .val v n H => (match putD o.dst N v env n H with | .ok env n H => evDrawn P ec ef N all ops is (Nat.succ i) snaps rds env n H | .er l => .er l)
              | .no k => .er [k, 212]
              | _ => .er [212])
          | .read lo hi => (match evOp o.op P o env n H with
              | .val v n H => (match putD o.dst N v env n H with | .ok env' n H => evDrawn P ec ef N all ops is (Nat.succ i) snaps (⟨o, env, v, lo, hi⟩ :: rds) env' n H | .er l => .er l)
              | .no k => .er [k, 213]
              | _ => .er [213])
          | .new => (match evOp o.op P o env n H with
              | .val v n H => (match putD o.dst N v env n H with | .ok env n H => evDrawn P ec ef N all ops is (Nat.succ i) ((Nat.succ i, H) :: snaps) rds env n H | .er l => .er l)
              | .no k => .er [k, 214]
              | _ => .er [214])
          | .chain => (match evWanted P ec ef N o env n H with
              | .ok env n H => evDrawn P ec ef N all ops is (Nat.succ i) ((Nat.succ i, H) :: snaps) rds env n H
              | .er l => .er l))
        | none => .er [215]) := rfl
theorem evDrawn_trace {ec : EC} {ef : EF} {N : Nat} {all : List Oper} : ∀ {ops : List Oper} {is : List RI} {i : Nat} {snaps : List (Nat × Heap)} {rds : List Rd} {env : Env} {n : Nat} {H : Heap} {envF : Env} {nF : Nat} {HF : Heap}, is.length = ops.length →
    evDrawn P ec ef N all ops is i snaps rds env n H = .ok envF nF HF → ∃ (SN : List (Nat × Heap)) (RD : List Rd) (E : Nat → Env) (nn : Nat → Nat) (HH : Nat → Heap) (vv : Nat → AV), (∀ s ∈ snaps, s ∈ SN) ∧ (∀ r ∈ rds, r ∈ RD) ∧ rdsOk P SN RD = true ∧
      E 0 = env ∧ nn 0 = n ∧ HH 0 = H ∧ E ops.length = envF ∧ nn ops.length = nF ∧ HH ops.length = HF ∧
      ∀ j o x, ops[j]? = some o → is[j]? = some x → Ent P ec ef N all SN RD (i + j) o x (E j) (nn j) (HH j) (vv j) (E (j + 1)) (nn (j + 1)) (HH (j + 1))
  | [], is, i, snaps, rds, env, n, H, envF, nF, HF, _, h => by
    have h : (match rdsOk P snaps rds with | true => SR.ok env n H | false => .er [210]) = .ok envF nF HF := h
    split at h
    · rename_i hr
      injection h with q1 q2 q3
      subst q1 q2 q3
      exact ⟨snaps, rds, fun _ => env, fun _ => n, fun _ => H, fun _ => undefA, fun _ h => h, fun _ h => h, hr, rfl, rfl, rfl, rfl, rfl, rfl, fun j o x ho => by simp at ho⟩
    · cases h
  | o :: ops, [], i, snaps, rds, env, n, H, envF, nF, HF, hl, h => by simp at hl
  | o :: ops, x :: is, i, snaps, rds, env, n, H, envF, nF, HF, hl, h => by
    have hl : is.length = ops.length := by simpa using hl
    -- from the rest
    have cons : ∀ {snaps' : List (Nat × Heap)} {rds' : List Rd} {v : AV} {env1 : Env} {n1 : Nat} {H1 : Heap}, evDrawn P ec ef N all ops is (Nat.succ i) snaps' rds' env1 n1 H1 = .ok envF nF HF → (∀ s ∈ snaps, s ∈ snaps') → (∀ r ∈ rds, r ∈ rds') →
        (∀ SN RD, (∀ s ∈ snaps', s ∈ SN) → (∀ r ∈ rds', r ∈ RD) → Ent P ec ef N all SN RD i o x env n H v env1 n1 H1) →
        ∃ (SN : List (Nat × Heap)) (RD : List Rd) (E : Nat → Env) (nn : Nat → Nat) (HH : Nat → Heap) (vv : Nat → AV), (∀ s ∈ snaps, s ∈ SN) ∧ (∀ r ∈ rds, r ∈ RD) ∧ rdsOk P SN RD = true ∧
        E 0 = env ∧ nn 0 = n ∧ HH 0 = H ∧ E (o :: ops).length = envF ∧ nn (o :: ops).length = nF ∧ HH (o :: ops).length = HF ∧
        ∀ j o' x', (o :: ops)[j]? = some o' → (x :: is)[j]? = some x' → Ent P ec ef N all SN RD (i + j) o' x' (E j) (nn j) (HH j) (vv j) (E (j + 1)) (nn (j + 1)) (HH (j + 1)) := by
      intro snaps' rds' v env1 n1 H1 hr h1 h2 h3
      obtain ⟨SN, RD, E, nn, HH, vv, k1, k2, k3, k4, k5, k6, k7, k8, k9, k10⟩ := evDrawn_trace hl hr
      refine ⟨SN, RD, (fun | 0 => env | j + 1 => E j), (fun | 0 => n | j + 1 => nn j), (fun | 0 => H | j + 1 => HH j), (fun | 0 => v | j + 1 => vv j), fun s hs => k1 s (h1 s hs), fun r hr => k2 r (h2 r hr), k3, rfl, rfl, rfl, k7, k8, k9, fun j o' x' ho hx => ?_⟩
      cases j with
      | zero =>
        simp only [List.getElem?_cons_zero, Option.some.injEq] at ho hx
        subst ho hx
        have := h3 SN RD k1 k2
        simp only [k4, k5, k6]
        exact this
      | succ j =>
        have := k10 j o' x' (by simpa using ho) (by simpa using hx)
        rw [show i + (j + 1) = i.succ + j from by omega]
        exact this
    rw [evDrawn_cons] at h
    split at h
    · rename_i hw
      split at h
      · rename_i env1 n1 H1 hp
        obtain ⟨p1, rfl, rfl⟩ := putD_ok hp
        split at h
        · exact cons h (fun _ h => h) (fun _ h => h) fun SN RD h1 h2 => ⟨p1, .inl ⟨hw, rfl, rfl, rfl, trivial⟩⟩
        · exact cons h (fun _ h => h) (fun _ h => h) fun SN RD h1 h2 => ⟨p1, .inl ⟨hw, rfl, rfl, rfl, trivial⟩⟩
        · rename_i x1 x2
          refine cons h (fun _ h => List.mem_cons_of_mem _ h) (fun _ h => h) fun SN RD h1 h2 => ⟨p1, .inl ⟨hw, rfl, rfl, rfl, ?_⟩⟩
          have := h1 _ (List.mem_cons_self ..)
          cases x <;> first | exact this | trivial
      · cases h
    · rename_i hw
      split at h
      · split at h
        · rename_i v n1 H1 hv
          split at h
          · rename_i env1 n2 H2 hp
            obtain ⟨p1, rfl, rfl⟩ := putD_ok hp
            exact cons h (fun _ h => h) (fun _ h => h) fun SN RD h1 h2 => ⟨p1, .inr ⟨hw, hv⟩⟩
          · cases h
        · cases h
        · cases h
      · split at h
        · rename_i v n1 H1 hv
          split at h
          · rename_i env1 n2 H2 hp
            obtain ⟨p1, rfl, rfl⟩ := putD_ok hp
            exact cons h (fun _ h => h) (fun _ h => List.mem_cons_of_mem _ h) fun SN RD h1 h2 => ⟨p1, .inr ⟨hw, hv, h2 _ (List.mem_cons_self ..)⟩⟩
          · cases h
        · cases h
        · cases h
      · split at h
        · rename_i v n1 H1 hv
          split at h
          · rename_i env1 n2 H2 hp
            obtain ⟨p1, rfl, rfl⟩ := putD_ok hp
            exact cons h (fun _ h => List.mem_cons_of_mem _ h) (fun _ h => h) fun SN RD h1 h2 => ⟨p1, .inr ⟨hw, hv, h1 _ (List.mem_cons_self ..)⟩⟩
          · cases h
        · cases h
        · cases h
      · split at h
        · rename_i env1 n1 H1 hv
          obtain ⟨v, v1, v2⟩ := evWanted_ok hv
          exact cons h (fun _ h => List.mem_cons_of_mem _ h) (fun _ h => h) fun SN RD h1 h2 => ⟨v2, .inr ⟨hw, v1, h1 _ (List.mem_cons_self ..)⟩⟩
        · cases h
    · cases h
end
end Go.Sy
namespace Go.Sy
open Go
section
variable {P : Program}
/-- A block that lies already comes to be told of. -/
theorem Rel.add {s : Sg} {H : Heap} {w : World} (h : Rel P s H w) {n : Nat} (hn : n < LIM) {A : Blk} {b : Nat} {obj : Obj} (hb : s.blk n = some b) (ho : w.heap[b]? = some obj) (hA : BlkR P s n A obj)
    (himg : ∀ x, x < LIM → Q8.get H x ≠ none → s.blk x ≠ some b) : Rel P s (Q8.upd H n (some A)) w := by
  have old : ∀ x, x < LIM → x ≠ n → Q8.get (Q8.upd H n (some A)) x = Q8.get H x := fun x hx hxn => by rw [Q8.get_upd _ _ _ _ hn hx, if_neg (Ne.symm hxn)]
  refine ⟨h.lim, h.glob, fun x B hx hB => ?_, fun x y c hx hy h1 h2 h3 h4 => ?_⟩
  · by_cases hxn : x = n
    · subst hxn
      rw [Q8.get_upd _ _ _ _ hn hx, if_pos rfl] at hB
      injection hB with hB; subst hB
      exact ⟨b, obj, hb, ho, hA⟩
    · rw [old x hx hxn] at hB
      exact h.blk x B hx hB
  · by_cases hxn : x = n
    · by_cases hyn : y = n
      · rw [hxn, hyn]
      · rw [old y hy hyn] at h2
        subst hxn
        rw [hb] at h3; injection h3 with h3; subst h3
        exact absurd h4 (himg y hy h2)
    · by_cases hyn : y = n
      · rw [old x hx hxn] at h1
        subst hyn
        rw [hb] at h4; injection h4 with h4; subst h4
        exact absurd h3 (himg x hx h1)
      · rw [old x hx hxn] at h1
        rw [old y hy hyn] at h2
        exact h.inj x y c hx hy h1 h2 h3 h4
/-- A block is laid of which nothing is told as yet. -/
theorem Rel.push {s : Sg} {H : Heap} {w w' : World} (h : Rel P s H w) {n : Nat} (hn : n < LIM) (hf : s.blk n = none) (c : Nat) {obj : Obj} (e0 : w'.heap = w.heap.push obj) (e1 : w'.os = w.os) (e2 : w'.tape = w.tape) (e3 : w'.output = w.output) :
    Rel P (s.set n w.heap.size c) H w' ∧ Step s n H w (s.set n w.heap.size c) (n + 1) H w' ∧ ∀ x, x < LIM → Q8.get H x ≠ none → (s.set n w.heap.size c).blk x ≠ some w.heap.size := by
  have hle := Sg.set_le (b := w.heap.size) (c := c) hf
  have hnone : Q8.get H n = none := by
    cases hg : Q8.get H n with
    | none => rfl
    | some A => obtain ⟨b, o, h1, _⟩ := h.blk n A hn hg; rw [hf] at h1; cases h1
  have hxn : ∀ x, Q8.get H x ≠ none → x ≠ n := fun x hx e => by subst e; exact hx hnone
  have hblk : ∀ x, x ≠ n → (s.set n w.heap.size c).blk x = s.blk x := fun x hx => by simp [Sg.set, hx]
  have hold : ∀ b, b < w.heap.size → w'.heap[b]? = w.heap[b]? := fun b hb => by rw [e0, Array.getElem?_push]; split <;> first | omega | rfl
  refine ⟨⟨fun x b hb => ?_, fun g hg => (hle g g (h.glob g hg)).1, fun x B hx hB => ?_, fun x y b hx hy h1 h2 h3 h4 => ?_⟩, ⟨fun x hx => ?_, by rw [e0]; simp, fun b hb _ => hold b hb, fun y b hy h1 h2 h3 => ⟨y, hy, h1, ?_⟩, e1, e2, e3⟩, fun x hx h1 h2 => ?_⟩
  · by_cases hx : x = n
    · subst hx; exact hn
    · rw [hblk x hx] at hb; exact h.lim x b hb
  · obtain ⟨b, o, k1, k2, k3⟩ := h.blk x B hx hB
    exact ⟨b, o, (hle x b k1).1, by rw [hold b (Array.getElem?_eq_some_iff.1 k2).1]; exact k2, k3.le hle k1⟩
  · rw [hblk x (hxn x h1)] at h3
    rw [hblk y (hxn y h2)] at h4
    exact h.inj x y b hx hy h1 h2 h3 h4
  · have : x ≠ n := by omega
    simp [Sg.set, this]
  · rw [hblk y (hxn y h1)] at h2; exact h2
  · rw [hblk x (hxn x h1)] at h2
    obtain ⟨A, hA⟩ := isSome_ex h1
    exact absurd (h.lt hx hA h2) (Nat.lt_irrefl _)
theorem Step.within {s0 s s' : Sg} {n0 m a b : Nat} {H0 H H' : Heap} {w0 w w' : World} (h : Step s0 n0 H0 w0 s m H w) (k : Step s a H w s' b H' w') (h1 : n0 ≤ a) (h2 : b ≤ m) : Step s0 n0 H0 w0 s' m H' w' := by
  refine ⟨fun x hx => ?_, Nat.le_trans h.size k.size, fun b hb hx => ?_, fun y b hy h1 h2 h3 => ?_, k.os.trans h.os, k.tape.trans h.tape, k.output.trans h.output⟩
  · obtain ⟨a1, a2⟩ := h.off x hx
    obtain ⟨b1, b2⟩ := k.off x (by omega)
    exact ⟨b1.trans a1, b2.trans a2⟩
  · rw [k.frame b (Nat.lt_of_lt_of_le hb h.size) (fun y hy h1 h2 => ?_)]
    · exact h.frame b hb hx
    · obtain ⟨x, x1, x2, x3⟩ := h.dom y b hy h1 h2 hb
      exact hx x x1 x2 x3
  · obtain ⟨x, x1, x2, x3⟩ := k.dom y b hy h1 h2 (Nat.lt_of_lt_of_le h3 h.size)
    exact h.dom x b x1 x2 x3 h3
theorem restrict (env : Env) : ∀ (L : List Tmp), ∃ env', ∀ t, Env.get env' t = if t ∈ L then env.get t else none
  | [] => ⟨.mk 0 [] [] Q4.e, fun t => by rw [Env.get_empty]; simp⟩
  | u :: L => by
    obtain ⟨e, he⟩ := restrict env L
    cases hu : env.get u with
    | none =>
      refine ⟨e, fun t => ?_⟩
      rw [he]
      by_cases h : t = u
      · subst h; simp [hu]
      · simp [h]
    | some A =>
      refine ⟨e.upd u A, fun t => ?_⟩
      rw [Env.get_upd, he]
      by_cases h : u = t
      · subst h; simp [hu]
      · simp [h, Ne.symm h]
def Big (P : Program) (ops : List Oper) (i : Nat) : Prop := ∃ o, ops[i]? = some o ∧ (kindOf P o.op).big = true
/-- A region, and what was carried out of it. -/
structure Ctx (P : Program) (ec : EC) (ef : EF) (N : Nat) (ops : List Oper) (is : List RI) (SN : List (Nat × Heap)) (RD : List Rd) (E : Nat → Env) (nn : Nat → Nat) (HH : Nat → Heap) (vv : Nat → AV) : Prop where
  hec : EcOk P ec
  hef : EfOk P ef
  reg : Reg P ops is
  rds : rdsOk P SN RD = true
  snap0 : (0, HH 0) ∈ SN
  ent : ∀ j o x, ops[j]? = some o → is[j]? = some x → Ent P ec ef N ops SN RD j o x (E j) (nn j) (HH j) (vv j) (E (j + 1)) (nn (j + 1)) (HH (j + 1))
section
variable {ec : EC} {ef : EF} {N : Nat} {ops : List Oper} {is : List RI} {SN : List (Nat × Heap)} {RD : List Rd} {E : Nat → Env} {nn : Nat → Nat} {HH : Nat → Heap} {vv : Nat → AV}
theorem Ctx.cases (c : Ctx P ec ef N ops is SN RD E nn HH vv) {j : Nat} {o : Oper} (ho : ops[j]? = some o) : PutRel o.dst N (vv j) (E j) (E (j + 1)) ∧
    ((kindOf P o.op).big = true → (j + 1, HH (j + 1)) ∈ SN) ∧
    ((wantedA ops o.guard (E j) = some false ∧ vv j = undefA ∧ nn (j + 1) = nn j ∧ HH (j + 1) = HH j) ∨
     (wantedA ops o.guard (E j) = some true ∧
      ((kindOf P o.op = K.pure ∧ evOp o.op P o (E j) (nn j) (HH j) = .val (vv j) (nn (j + 1)) (HH (j + 1))) ∨
       (kindOf P o.op = K.read ∧ evOp o.op P o (E j) (nn j) (HH j) = .val (vv j) (nn (j + 1)) (HH (j + 1)) ∧ ∀ lo hi, is[j]? = some (.read lo hi) → (⟨o, E j, vv j, lo, hi⟩ : Rd) ∈ RD) ∨
       (kindOf P o.op = K.new ∧ evOp o.op P o (E j) (nn j) (HH j) = .val (vv j) (nn (j + 1)) (HH (j + 1))) ∨
       (kindOf P o.op = K.chain ∧ evV P ec ef o (E j) (nn j) (HH j) = .ok (vv j) (nn (j + 1)) (HH (j + 1)))))) := by
  cases hk : kindOf P o.op with
  | chain =>
    obtain ⟨h1, h2⟩ := c.ent j o _ ho (c.reg.chain j o ho hk).1
    rcases h2 with ⟨a1, a2, a3, a4, a5⟩ | ⟨a1, a2, a3⟩
    · exact ⟨h1, fun _ => a5, .inl ⟨a1, a2, a3, a4⟩⟩
    · exact ⟨h1, fun _ => a3, .inr ⟨a1, .inr (.inr (.inr ⟨rfl, a2⟩))⟩⟩
  | new =>
    obtain ⟨h1, h2⟩ := c.ent j o _ ho (c.reg.new j o ho hk)
    rcases h2 with ⟨a1, a2, a3, a4, a5⟩ | ⟨a1, a2, a3⟩
    · exact ⟨h1, fun _ => a5, .inl ⟨a1, a2, a3, a4⟩⟩
    · exact ⟨h1, fun _ => a3, .inr ⟨a1, .inr (.inr (.inl ⟨rfl, a2⟩))⟩⟩
  | pure =>
    obtain ⟨h1, h2⟩ := c.ent j o _ ho (c.reg.pure j o ho hk)
    rcases h2 with ⟨a1, a2, a3, a4, a5⟩ | ⟨a1, a2⟩
    · exact ⟨h1, (fun h => by cases h), .inl ⟨a1, a2, a3, a4⟩⟩
    · exact ⟨h1, (fun h => by cases h), .inr ⟨a1, .inl ⟨rfl, a2⟩⟩⟩
  | read =>
    obtain ⟨lo, hi, r1, r2⟩ := c.reg.read j o ho hk
    obtain ⟨h1, h2⟩ := c.ent j o _ ho r1
    rcases h2 with ⟨a1, a2, a3, a4, a5⟩ | ⟨a1, a2, a3⟩
    · exact ⟨h1, (fun h => by cases h), .inl ⟨a1, a2, a3, a4⟩⟩
    · refine ⟨h1, (fun h => by cases h), .inr ⟨a1, .inr (.inl ⟨rfl, a2, fun lo' hi' e => ?_⟩)⟩⟩
      rw [r1] at e; injection e with e; injection e with e1 e2
      subst e1 e2
      exact a3
theorem Ctx.kok (c : Ctx P ec ef N ops is SN RD E nn HH vv) {j : Nat} {o : Oper} (ho : ops[j]? = some o) : nn j ≤ nn (j + 1) ∧ ((kindOf P o.op).big = false → nn (j + 1) = nn j ∧ HH (j + 1) = HH j) := by
  obtain ⟨_, _, h⟩ := c.cases ho
  rcases h with ⟨_, _, a3, a4⟩ | ⟨_, ⟨hk, h⟩ | ⟨hk, h, _⟩ | ⟨hk, h⟩ | ⟨hk, h⟩⟩
  · exact ⟨by omega, fun _ => ⟨a3, a4⟩⟩
  · have := evOp_ok h
    rw [hk] at this
    exact ⟨by have := this.1; omega, fun _ => ⟨this.1, this.2.1⟩⟩
  · have := evOp_ok h
    rw [hk] at this
    exact ⟨by have := this.1; omega, fun _ => ⟨this.1, this.2.1⟩⟩
  · exact ⟨(evOp_ok h).op.1, fun hb => by rw [hk] at hb; cases hb⟩
  · exact ⟨(evV_ok c.hec c.hef h).1, fun hb => by rw [hk] at hb; cases hb⟩
theorem Ctx.mono (c : Ctx P ec ef N ops is SN RD E nn HH vv) {i : Nat} : ∀ k, i ≤ k → k ≤ ops.length → nn i ≤ nn k := by
  intro k
  induction k with
  | zero => intro h _; have : i = 0 := by omega
            subst this; exact Nat.le_refl _
  | succ k ih =>
    intro h1 h2
    by_cases he : i = k + 1
    · subst he; exact Nat.le_refl _
    · have h3 := ih (by omega) (by omega)
      have ho : ops[k]? = some ops[k] := List.getElem?_eq_getElem (by omega)
      exact Nat.le_trans h3 (c.kok ho).1
theorem Ctx.same (c : Ctx P ec ef N ops is SN RD E nn HH vv) {q : Nat} : ∀ j, q ≤ j → j ≤ ops.length → (∀ k, q ≤ k → k < j → ¬ Big P ops k) → HH j = HH q ∧ nn j = nn q := by
  intro j
  induction j with
  | zero => intro h _ _; have : q = 0 := by omega
            subst this; exact ⟨rfl, rfl⟩
  | succ j ih =>
    intro h1 h2 h3
    by_cases he : q = j + 1
    · subst he; exact ⟨rfl, rfl⟩
    · obtain ⟨a1, a2⟩ := ih (by omega) (by omega) (fun k hk1 hk2 => h3 k hk1 (by omega))
      have ho : ops[j]? = some ops[j] := List.getElem?_eq_getElem (by omega)
      have hnb : (kindOf P ops[j].op).big = false := by
        cases hb : (kindOf P ops[j].op).big with
        | false => rfl
        | true => exact absurd ⟨_, ho, hb⟩ (h3 j (by omega) (by omega))
      obtain ⟨b1, b2⟩ := (c.kok ho).2 hnb
      exact ⟨b2.trans a1, b1.trans a2⟩
/-- What the written order's temporaries hold. -/
theorem Ctx.envGet (c : Ctx P ec ef N ops is SN RD E nn HH vv) (t : Tmp) : ∀ j, j ≤ ops.length →
    (∃ i o, i < j ∧ ops[i]? = some o ∧ o.dst = some t ∧ (∀ k o', i < k → k < j → ops[k]? = some o' → o'.dst ≠ some t) ∧ (E j).get t = some (vv i)) ∨
    ((∀ k o', k < j → ops[k]? = some o' → o'.dst ≠ some t) ∧ (E j).get t = (E 0).get t) := by
  intro j
  induction j with
  | zero => intro _; exact .inr ⟨fun k o' h => by omega, rfl⟩
  | succ j ih =>
    intro hj
    have ho : ops[j]? = some ops[j] := List.getElem?_eq_getElem (by omega)
    obtain ⟨hp, _, _⟩ := c.cases ho
    have keep : ops[j].dst ≠ some t → (E (j + 1)).get t = (E j).get t := fun hd => by
      cases hdst : ops[j].dst with
      | none => rw [hdst] at hp; have hp : E (j + 1) = E j := hp; rw [hp]
      | some d =>
        rw [hdst] at hp
        obtain ⟨_, hp⟩ := hp
        rw [hp, Env.get_upd, if_neg (fun e => hd (by rw [hdst, e]))]
    by_cases hd : ops[j].dst = some t
    · refine .inl ⟨j, _, by omega, ho, hd, fun k o' h1 h2 => by omega, ?_⟩
      rw [hd] at hp
      obtain ⟨_, hp⟩ := hp
      rw [hp, Env.get_upd, if_pos rfl]
    · rw [keep hd]
      rcases ih (by omega) with ⟨i, o, h1, h2, h3, h4, h5⟩ | ⟨h1, h2⟩
      · refine .inl ⟨i, o, by omega, h2, h3, fun k o' k1 k2 k3 => ?_, h5⟩
        by_cases hk : k = j
        · subst hk; rw [ho] at k3; injection k3 with k3; subst k3; exact hd
        · exact h4 k o' k1 (by omega) k3
      · refine .inr ⟨fun k o' k1 k3 => ?_, h2⟩
        by_cases hk : k = j
        · subst hk; rw [ho] at k3; injection k3 with k3; subst k3; exact hd
        · exact h1 k o' (by omega) k3
end
end
end Go.Sy
namespace Go.Sy
open Go
section
variable {P : Program}
/-- A block that an operation has made ahead of its turn. -/
def Pend (P : Program) (nn : Nat → Nat) (HH : Nat → Heap) (w0 : World) (s : Sg) (H : Heap) (w : World) (i : Nat) : Prop :=
  (nn (i + 1) = nn i ∧ HH (i + 1) = HH i) ∨
  ∃ A b obj, nn (i + 1) = nn i + 1 ∧ HH (i + 1) = Q8.upd (HH i) (nn i) (some A) ∧ s.blk (nn i) = some b ∧ w.heap[b]? = some obj ∧ BlkR P s (nn i) A obj ∧ w0.heap.size ≤ b ∧ ∀ x, x < LIM → Q8.get H x ≠ none → s.blk x ≠ some b
structure Inv (P : Program) (N : Nat) (ops : List Oper) (E : Nat → Env) (nn : Nat → Nat) (HH : Nat → Heap) (vv : Nat → AV) (s0 : Sg) (w0 : World) (ds : List Deferred) (s : Sg) (q : Nat) (L : Nat → Prop) (a : Act) (w : World) : Prop where
  closed : Closed ops L
  qle : q ≤ ops.length
  qb : q = 0 ∨ ∃ p, q = p + 1 ∧ Big P ops p
  done : ∀ i, i < q → Big P ops i → L i
  rel : Rel P s (HH q) w
  le : s0.le s
  step : Step s0 (nn 0) (HH 0) w0 s (nn ops.length) (HH q) w
  free : ∀ i, q ≤ i → i < ops.length → ¬ L i → Free s (nn i) (nn (i + 1))
  pend : ∀ i, q ≤ i → Big P ops i → L i → Pend P nn HH w0 s (HH q) w i
  dist : ∀ i j, q ≤ i → q ≤ j → Big P ops i → Big P ops j → L i → L j → i ≠ j → nn (i + 1) = nn i + 1 → nn (j + 1) = nn j + 1 → s.blk (nn i) ≠ s.blk (nn j)
  vals : ∀ i o, L i → ops[i]? = some o → ∃ V, (vv i).conc s = some V ∧ ∀ d, o.dst = some d → (∀ k o', i < k → L k → ops[k]? = some o' → o'.dst ≠ some d) → a.tmps[d]? = some V
  init : ∀ t A, (E 0).get t = some A → (∀ k o', L k → ops[k]? = some o' → o'.dst ≠ some t) → ∃ V, A.conc s = some V ∧ a.tmps[t]? = some V
  size : N ≤ a.tmps.size
  defs : a.defers = ds
section
variable {ec : EC} {ef : EF} {N : Nat} {ops : List Oper} {is : List RI} {SN : List (Nat × Heap)} {RD : List Rd} {E : Nat → Env} {nn : Nat → Nat} {HH : Nat → Heap} {vv : Nat → AV} {s0 : Sg} {w0 : World} {ds : List Deferred} {s : Sg} {q : Nat} {L : Nat → Prop} {a : Act} {w : World}
theorem put_get {o : Oper} {N : Nat} {v : AV} {env env' : Env} (hp : PutRel o.dst N v env env') {a : Act} (hs : N ≤ a.tmps.size) {V : Value} {d : Nat} (hd : o.dst = some d) : (a.put o.dst V).tmps[d]? = some V := by
  rw [hd] at hp ⊢
  obtain ⟨h1, _⟩ := hp
  simp [Act.put, Nat.lt_of_lt_of_le h1 hs]
theorem put_get_ne {o : Oper} {a : Act} {V : Value} {d : Nat} (hd : o.dst ≠ some d) : (a.put o.dst V).tmps[d]? = a.tmps[d]? := by
  cases h : o.dst with
  | none => rfl
  | some e =>
    have : e ≠ d := fun h' => hd (by rw [h, h'])
    simp only [Act.put]
    rw [Array.getElem?_setIfInBounds_ne this]
theorem put_size {o : Oper} {a : Act} {V : Value} : (a.put o.dst V).tmps.size = a.tmps.size := by
  cases o.dst <;> simp [Act.put]
/-- What an operation that may come next finds. -/
theorem Inv.read (c : Ctx P ec ef N ops is SN RD E nn HH vv) (I : Inv P N ops E nn HH vv s0 w0 ds s q L a w) {j : Nat} {o : Oper} (ho : ops[j]? = some o) (hj : ¬ L j) (hb : ∀ i, Bf ops j i → L i) {t : Tmp} (ht : t ∈ names ops o) {A : AV} (hA : (E j).get t = some A) :
    ∃ V, A.conc s = some V ∧ a.tmps[t]? = some V := by
  have hjl : j < ops.length := (List.getElem?_eq_some_iff.1 ho).1
  have later : ∀ k o', L k → ops[k]? = some o' → o'.dst = some t → k < j := fun k o' hk hok hd => by
    rcases c.reg.tmps j o ho t ht k o' hok hd with h | ⟨h, _⟩ | ⟨_, h⟩
    · subst h; exact absurd hk hj
    · exact h
    · exact absurd (c.reg.closed I.closed k j hk h) hj
  rcases c.envGet t j (by omega) with ⟨i, o', h1, h2, h3, h4, h5⟩ | ⟨h1, h2⟩
  · rw [h5] at hA; injection hA with hA; subst hA
    have hi : L i := by
      rcases c.reg.tmps j o ho t ht i o' h2 h3 with h | ⟨_, h⟩ | ⟨h, _⟩
      · omega
      · exact hb i h
      · omega
    obtain ⟨V, v1, v2⟩ := I.vals i o' hi h2
    exact ⟨V, v1, v2 t h3 fun k ok hk hLk hok hd => h4 k ok hk (later k ok hLk hok hd) hok hd⟩
  · rw [h2] at hA
    exact I.init t A hA fun k ok hLk hok hd => h1 k ok (later k ok hLk hok hd) hok hd
theorem names_opd {all : List Oper} {o : Oper} {t : Tmp} (h : Operand.tmp t ∈ o.op.operands) : t ∈ names all o := by
  unfold names tmpsOf
  simp only [List.mem_append, List.mem_filterMap]
  exact .inl (.inr ⟨.tmp t, by simpa using h, rfl⟩)
theorem Inv.env (c : Ctx P ec ef N ops is SN RD E nn HH vv) (I : Inv P N ops E nn HH vv s0 w0 ds s q L a w) {j : Nat} {o : Oper} (ho : ops[j]? = some o) (hj : ¬ L j) (hb : ∀ i, Bf ops j i → L i) :
    ∃ env', EnvR s env' N a.tmps ∧ (∀ x ∈ o.op.operands, opd (E j) x = opd env' x) ∧ wantedA ops o.guard env' = wantedA ops o.guard (E j) := by
  obtain ⟨env', he⟩ := restrict (E j) (names ops o)
  refine ⟨env', ⟨I.size, fun t A hA => ?_⟩, fun x hx => ?_, ?_⟩
  · rw [he] at hA
    split at hA
    · rename_i ht; exact I.read c ho hj hb ht hA
    · cases hA
  · cases x with
    | tmp t =>
      show (E j).get t = env'.get t
      rw [he, if_pos (names_opd hx)]
    | _ => rfl
  · cases hg : o.guard with
    | none => rfl
    | some g =>
      show wantedG ops g env' = wantedG ops g (E j)
      unfold wantedG
      cases hx : nth ops g.1 with
      | none => rfl
      | some x =>
        cases hd : x.dst with
        | none => simp only [hd]
        | some t =>
          have : t ∈ names ops o := by
            unfold names
            obtain ⟨g1, g2⟩ := g
            simp only [hg, hx, hd, List.mem_append]
            exact .inr (by simp)
          have hget : env'.get t = (E j).get t := by rw [he, if_pos this]
          simp only [hd, hget]
/-- One more operation has been carried out. -/
theorem Inv.exec (c : Ctx P ec ef N ops is SN RD E nn HH vv) (I : Inv P N ops E nn HH vv s0 w0 ds s q L a w) {j : Nat} {o : Oper} (ho : ops[j]? = some o) (hj : ¬ L j) (hr : ∀ e ∈ o.after.toList, Region.binds .any e = true → L e.on)
    {s' : Sg} {q' : Nat} {w' : World} {V : Value} (hle : s.le s') (hV : (vv j).conc s' = some V) (hst : Step s (nn j) (HH q) w s' (nn (j + 1)) (HH q') w') (hrel : Rel P s' (HH q') w')
    (hq : (q' = q ∧ (Big P ops j → Pend P nn HH w0 s' (HH q) w' j ∧ (nn (j + 1) = nn j + 1 → ∀ b, s'.blk (nn j) = some b → w.heap.size ≤ b))) ∨ (q' = j + 1 ∧ Big P ops j ∧ q ≤ j ∧ ∀ i, i < j → Big P ops i → L i)) :
    Inv P N ops E nn HH vv s0 w0 ds s' q' (fun i => L i ∨ i = j) (a.put o.dst V) w' := by
  have hjl : j < ops.length := (List.getElem?_eq_some_iff.1 ho).1
  obtain ⟨hp, _, _⟩ := c.cases ho
  have hb : ∀ i, Bf ops j i → L i := fun i h => c.reg.ready I.closed ho hr h
  have hqq : q ≤ q' := by rcases hq with ⟨h, _⟩ | ⟨h, _, h2, _⟩ <;> omega
  have mono := fun i k => c.mono (i := i) k
  have bl : ∀ i, Big P ops i → i < ops.length := fun i ⟨o, h, _⟩ => (List.getElem?_eq_some_iff.1 h).1
  have size0 := I.step.size
  -- the symbols of others
  have off : ∀ i, i < ops.length → i ≠ j → ∀ x, nn i ≤ x → x < nn (i + 1) → s'.blk x = s.blk x := fun i hi hij x h1 h2 => by
    refine (hst.off x ?_).1
    by_cases h : i < j
    · left; have := mono (i + 1) j (by omega) (by omega); omega
    · right; have := mono (j + 1) i (by omega) (by omega); omega
  have blkI : ∀ i, Big P ops i → i ≠ j → nn (i + 1) = nn i + 1 → s'.blk (nn i) = s.blk (nn i) := fun i hi hij hn => off i (bl i hi) hij (nn i) (Nat.le_refl _) (by omega)
  have pendOld : ∀ i, q' ≤ i → Big P ops i → L i → i ≠ j → Pend P nn HH w0 s' (HH q') w' i := fun i h1 h2 h3 h4 => by
    rcases I.pend i (by omega) h2 h3 with h | ⟨A, b, obj, p1, p2, p3, p4, p5, p6, p7⟩
    · exact .inl h
    · have hbl : b < w.heap.size := (Array.getElem?_eq_some_iff.1 p4).1
      refine .inr ⟨A, b, obj, p1, p2, by rw [blkI i h2 h4 p1]; exact p3, by rw [hst.frame b hbl p7]; exact p4, p5.le hle p3, p6, fun x hx h1 h2 => ?_⟩
      obtain ⟨y, y1, y2, y3⟩ := hst.dom x b hx h1 h2 hbl
      exact p7 y y1 y2 y3
  have blkSome : ∀ i, q ≤ i → Big P ops i → L i → nn (i + 1) = nn i + 1 → ∃ b, s.blk (nn i) = some b ∧ b < w.heap.size := fun i h1 h2 h3 h4 => by
    rcases I.pend i h1 h2 h3 with h | ⟨A, b, obj, p1, p2, p3, p4, p5, p6, p7⟩
    · omega
    · exact ⟨b, p3, (Array.getElem?_eq_some_iff.1 p4).1⟩
  have qq : Big P ops j → L j → False := fun _ h => hj h
  refine ⟨fun i oi hoi hi e he hbe => ?_, ?_, ?_, fun i hi hbig => ?_, hrel, I.le.trans hle, I.step.within hst (mono 0 j (by omega) (by omega)) (mono (j + 1) _ (by omega) (Nat.le_refl _)), fun i h1 h2 h3 => ?_, fun i h1 h2 h3 => ?_, fun i k h1 h2 h3 h4 h5 h6 h7 h8 h9 => ?_, fun i oi hi hoi => ?_, fun t A hA hno => ?_, by rw [put_size]; exact I.size, by rw [put_defers]; exact I.defs⟩
  · rcases hi with hi | rfl
    · exact .inl (I.closed i oi hoi hi e he hbe)
    · rw [ho] at hoi; injection hoi with hoi; subst hoi
      exact .inl (hr e he hbe)
  · rcases hq with ⟨h, _⟩ | ⟨h, _⟩
    · rw [h]; exact I.qle
    · omega
  · rcases hq with ⟨h, _⟩ | ⟨h, h2, _⟩
    · rw [h]; exact I.qb
    · exact .inr ⟨j, h, h2⟩
  · rcases hq with ⟨h, _⟩ | ⟨h, _, _, h2⟩
    · exact .inl (I.done i (by omega) hbig)
    · by_cases hij : i = j
      · exact .inr hij
      · exact .inl (h2 i (by omega) hbig)
  · have hij : i ≠ j := fun e => h3 (.inr e)
    have := I.free i (by omega) h2 (fun h => h3 (.inl h))
    intro x x1 x2
    rw [off i h2 hij x x1 x2]
    exact this x x1 x2
  · by_cases hij : i = j
    · subst hij
      rcases hq with ⟨h, h'⟩ | ⟨h, _⟩
      · rw [h]; exact (h' h2).1
      · omega
    · exact pendOld i h1 h2 (h3.resolve_right hij) hij
  · -- distinct
    have one : ∀ i k, q' ≤ i → q' ≤ k → Big P ops i → Big P ops k → L i → k = j → nn (i + 1) = nn i + 1 → nn (k + 1) = nn k + 1 → s'.blk (nn i) ≠ s'.blk (nn k) := by
      intro i k g1 g2 g3 g4 g5 g6 g8 g9
      have hij : i ≠ j := fun e => hj (e ▸ g5)
      rcases hq with ⟨h, h'⟩ | ⟨h, _⟩
      · obtain ⟨b, b1, b2⟩ := blkSome i (by omega) g3 g5 g8
        rw [blkI i g3 hij g8, b1, g6]
        intro e
        have := (h' (g6 ▸ g4)).2 (g6 ▸ g9) b e.symm
        omega
      · omega
    rcases h5 with h5 | h5
    · rcases h6 with h6 | h6
      · rw [blkI i h3 (fun e => hj (e ▸ h5)) h8, blkI k h4 (fun e => hj (e ▸ h6)) h9]
        exact I.dist i k (by omega) (by omega) h3 h4 h5 h6 h7 h8 h9
      · exact one i k h1 h2 h3 h4 h5 h6 h8 h9
    · rcases h6 with h6 | h6
      · exact (one k i h2 h1 h4 h3 h6 h5 h9 h8).symm
      · omega
  · rcases hi with hi | rfl
    · obtain ⟨W, v1, v2⟩ := I.vals i oi hi hoi
      refine ⟨W, AV.conc_le hle _ v1, fun d hd hlat => ?_⟩
      have hne : o.dst ≠ some d := fun e => by
        by_cases hij : i < j
        · exact hlat j o hij (.inr rfl) ho e
        · have ht : d ∈ names ops o := by unfold names; simp [e]
          rcases c.reg.tmps j o ho d ht i oi hoi hd with h | ⟨h, _⟩ | ⟨_, h⟩
          · subst h; exact hj hi
          · exact hij h
          · exact hj (c.reg.closed I.closed i j hi h)
      rw [put_get_ne hne]
      exact v2 d hd fun k ok hk hLk hok => hlat k ok hk (.inl hLk) hok
    · rw [ho] at hoi; injection hoi with hoi; subst hoi
      exact ⟨V, hV, fun d hd _ => put_get hp I.size hd⟩
  · obtain ⟨W, v1, v2⟩ := I.init t A hA fun k ok hLk hok => hno k ok (.inl hLk) hok
    exact ⟨W, AV.conc_le hle _ v1, by rw [put_get_ne (hno j o (.inr rfl) ho)]; exact v2⟩
/-- What was made ahead of its turn is told of, as far as there is no gap. -/
theorem Inv.advance (c : Ctx P ec ef N ops is SN RD E nn HH vv) (hlim : nn ops.length ≤ LIM) : ∀ (m : Nat) {q : Nat}, ops.length - q ≤ m → Inv P N ops E nn HH vv s0 w0 ds s q L a w →
    ∃ q', Inv P N ops E nn HH vv s0 w0 ds s q' L a w ∧ ∀ i, q' ≤ i → Big P ops i → (∀ k, q' ≤ k → k < i → ¬ Big P ops k) → ¬ L i := by
  intro m
  induction m with
  | zero =>
    intro q hm I
    refine ⟨q, I, fun i hi ⟨o, ho, _⟩ _ _ => ?_⟩
    have := (List.getElem?_eq_some_iff.1 ho).1
    omega
  | succ m ih =>
    intro q hm I
    by_cases hmax : ∀ i, q ≤ i → Big P ops i → (∀ k, q ≤ k → k < i → ¬ Big P ops k) → ¬ L i
    · exact ⟨q, I, hmax⟩
    · have : ∃ i, q ≤ i ∧ Big P ops i ∧ (∀ k, q ≤ k → k < i → ¬ Big P ops k) ∧ L i := by
        apply Classical.byContradiction
        intro hno
        exact hmax fun i h1 h2 h3 h4 => hno ⟨i, h1, h2, h3, h4⟩
      obtain ⟨i, h1, h2, h3, h4⟩ := this
      have hil : i < ops.length := by obtain ⟨o, ho, _⟩ := h2; exact (List.getElem?_eq_some_iff.1 ho).1
      obtain ⟨e1, e2⟩ := c.same i h1 (by omega) h3
      have mono := fun i k => c.mono (i := i) k
      have go : Rel P s (HH (i + 1)) w → Step s0 (nn 0) (HH 0) w0 s (nn ops.length) (HH (i + 1)) w → (∀ k, i + 1 ≤ k → Big P ops k → L k → Pend P nn HH w0 s (HH (i + 1)) w k) → Inv P N ops E nn HH vv s0 w0 ds s (i + 1) L a w := fun g1 g2 g3 =>
        ⟨I.closed, by omega, .inr ⟨i, rfl, h2⟩, fun k hk hbig => by
          by_cases hkq : k < q
          · exact I.done k hkq hbig
          · by_cases hki : k = i
            · subst hki; exact h4
            · exact absurd hbig (h3 k (by omega) (by omega)), g1, I.le, g2, fun k hk => I.free k (by omega), g3, fun k l hk hl => I.dist k l (by omega) (by omega), I.vals, I.init, I.size, I.defs⟩
      refine ih (q := i + 1) (by omega) ?_
      rcases I.pend i h1 h2 h4 with ⟨p1, p2⟩ | ⟨A, b, obj, p1, p2, p3, p4, p5, p6, p7⟩
      · have : HH (i + 1) = HH q := p2.trans e1
        refine go (this ▸ I.rel) (this ▸ I.step) fun k hk hbig hL => ?_
        rw [this]
        exact I.pend k (by omega) hbig hL
      · rw [e1] at p2
        have hnl : nn i < LIM := by have := mono (i + 1) ops.length (by omega) (Nat.le_refl _); omega
        have hget : ∀ x, x < LIM → Q8.get (HH (i + 1)) x ≠ none → x = nn i ∨ Q8.get (HH q) x ≠ none := fun x hx h => by
          rw [p2, Q8.get_upd _ _ _ _ hnl hx] at h
          split at h
          · rename_i e; exact .inl e.symm
          · exact .inr h
        refine go (by rw [p2]; exact I.rel.add hnl p3 p4 p5 p7) ⟨I.step.off, I.step.size, I.step.frame, fun y b' hy g1 g2 g3 => ?_, I.step.os, I.step.tape, I.step.output⟩ fun k hk hbig hL => ?_
        · rcases hget y hy g1 with e | e
          · subst e; rw [p3] at g2; injection g2 with g2; omega
          · exact I.step.dom y b' hy e g2 g3
        · rcases I.pend k (by omega) hbig hL with h | ⟨A', b', obj', r1, r2, r3, r4, r5, r6, r7⟩
          · exact .inl h
          · refine .inr ⟨A', b', obj', r1, r2, r3, r4, r5, r6, fun x hx g1 g2 => ?_⟩
            rcases hget x hx g1 with e | e
            · subst e
              exact I.dist i k h1 (by omega) h2 hbig h4 hL (by omega) p1 r1 (by rw [g2, r3])
            · exact r7 x hx e g2
end
end
end Go.Sy
namespace Go.Sy
open Go
section
variable {P : Program}
theorem wp_value {o : Oper} (hd : ∀ c, o.op ≠ .defer c) {ro : Option Nat} {a : Act} {w w' : World} {V : Value} {K : Act → World → Prop} {Q : Exit → Act → World → Prop} (h : (execOp a.eval o).run P w = .ok (.value V) w') (hK : K (a.put o.dst V) w') : o.wpIn (fen ro) 0 P a w K Q := by
  refine ⟨fun _ _ => fen_fn _ _, ?_⟩
  rw [Oper.semAt_eq _ _ _ hd, h]
  exact hK
theorem first_big {ops : List Oper} {q : Nat} : ∀ i, q ≤ i → Big P ops i → ∃ b, q ≤ b ∧ b ≤ i ∧ Big P ops b ∧ ∀ k, q ≤ k → k < b → ¬ Big P ops k := by
  intro i
  induction i using Nat.strongRecOn with
  | _ i ih =>
    intro h1 h2
    by_cases h : ∃ k, q ≤ k ∧ k < i ∧ Big P ops k
    · obtain ⟨k, k1, k2, k3⟩ := h
      obtain ⟨b, b1, b2, b3, b4⟩ := ih k k2 k1 k3
      exact ⟨b, b1, by omega, b3, b4⟩
    · exact ⟨i, h1, Nat.le_refl _, h2, fun k k1 k2 k3 => h ⟨k, k1, k2, k3⟩⟩
theorem mem_ready {ops : Array Oper} {listed : Array Bool} (hs : listed.size = ops.size) {i : Nat} (h : i ∈ Region.ready .any ops listed) : ∃ o, ops[i]? = some o ∧ listed[i]? = some false ∧ ∀ e ∈ o.after.toList, Region.binds .any e = true → listed[e.on]? = some true := by
  unfold Region.ready at h
  simp only [List.mem_filter, List.mem_range, Bool.and_eq_true] at h
  obtain ⟨h1, h2, h3⟩ := h
  have ho : ops[i]? = some ops[i] := Array.getElem?_eq_getElem h1
  rw [ho] at h3
  refine ⟨_, ho, ?_, fun e he hb => ?_⟩
  · have hi : i < listed.size := by omega
    rw [Array.getElem?_eq_getElem hi]
    have h2 : (!listed.getD i true) = true := h2
    rw [Array.getD_eq_getD_getElem?, Array.getElem?_eq_getElem hi] at h2
    simpa using h2
  · simp only [Option.map_some, Option.getD_some] at h3
    have := (Array.all_eq_true_iff_forall_mem.1 h3) e (by simpa using he)
    rw [hb] at this
    simp only [Bool.not_true, Bool.false_or] at this
    rw [Array.getD_eq_getD_getElem?] at this
    cases hl : listed[e.on]? with
    | none => rw [hl] at this; cases this
    | some b => rw [hl] at this; simpa using this
theorem not_ready {ops : Array Oper} {listed : Array Bool} (hs : listed.size = ops.size) (hedge : ∀ i o, ops[i]? = some o → ∀ e ∈ o.after.toList, Region.binds .any e = true → e.on < i) (h : Region.ready .any ops listed = []) : ∀ i, i < ops.size → listed[i]? = some true := by
  intro i
  induction i using Nat.strongRecOn with
  | _ i ih =>
    intro hi
    have hil : i < listed.size := by omega
    cases hb : listed[i] with
    | true => rw [Array.getElem?_eq_getElem hil, hb]
    | false =>
      have ho : ops[i]? = some ops[i] := Array.getElem?_eq_getElem hi
      have : i ∈ Region.ready .any ops listed := by
        unfold Region.ready
        simp only [List.mem_filter, List.mem_range, Bool.and_eq_true]
        refine ⟨hi, by rw [Array.getD_eq_getD_getElem?, Array.getElem?_eq_getElem hil, hb]; rfl, ?_⟩
        rw [ho]
        simp only [Option.map_some, Option.getD_some]
        refine Array.all_eq_true_iff_forall_mem.2 fun e he => ?_
        cases hbe : Region.binds .any e with
        | false => rfl
        | true =>
          have hlt := hedge i _ ho e (by simpa using he) hbe
          rw [Array.getD_eq_getD_getElem?, ih e.on hlt (by omega)]
          rfl
      rw [h] at this
      cases this
section
variable {ec : EC} {ef : EF} {N : Nat} {ops : List Oper} {is : List RI} {SN : List (Nat × Heap)} {RD : List Rd} {E : Nat → Env} {nn : Nat → Nat} {HH : Nat → Heap} {vv : Nat → AV} {s0 : Sg} {w0 : World} {ds : List Deferred}
theorem Ctx.snap (c : Ctx P ec ef N ops is SN RD E nn HH vv) {q : Nat} (h : q = 0 ∨ ∃ p, q = p + 1 ∧ Big P ops p) : (q, HH q) ∈ SN := by
  rcases h with rfl | ⟨p, rfl, o, ho, hb⟩
  · exact c.snap0
  · exact (c.cases ho).2.1 hb
theorem drawn_wp (c : Ctx P ec ef N ops is SN RD E nn HH vv) (hlim : nn ops.length ≤ LIM) {ro : Option Nat} {Q : Exit → Act → World → Prop}
    (hQ : ∀ s' a' w', EnvR s' (E ops.length) N a'.tmps → a'.defers = ds → s0.le s' → Rel P s' (HH ops.length) w' → Step s0 (nn 0) (HH 0) w0 s' (nn ops.length) (HH ops.length) w' → Q .normal a' w') :
    ∀ (fuel : Nat) (listed : Array Bool) (s : Sg) (q : Nat) (a : Act) (w : World), listed.size = ops.length → listed.toList.countP (fun b => !b) ≤ fuel →
      Inv P N ops E nn HH vv s0 w0 ds s q (fun i => listed[i]? = some true) a w → (∀ i, q ≤ i → Big P ops i → (∀ k, q ≤ k → k < i → ¬ Big P ops k) → ¬ listed[i]? = some true) →
      wpAnyIn (fen ro) 0 P .any ⟨ops⟩ Q fuel listed a w := by
  intro fuel
  have fin : ∀ (listed : Array Bool) (s : Sg) (q : Nat) (a : Act) (w : World), Inv P N ops E nn HH vv s0 w0 ds s q (fun i => listed[i]? = some true) a w → (∀ i, q ≤ i → Big P ops i → (∀ k, q ≤ k → k < i → ¬ Big P ops k) → ¬ listed[i]? = some true) →
      (∀ i, i < ops.length → listed[i]? = some true) → Q .normal a w := by
    intro listed s q a w I hmax hall
    have nb : ∀ k, q ≤ k → k < ops.length → ¬ Big P ops k := fun k h1 h2 h3 => by
      obtain ⟨b, b1, b2, b3, b4⟩ := first_big k h1 h3
      exact hmax b b1 b3 b4 (hall b (by omega))
    obtain ⟨e1, e2⟩ := c.same _ I.qle (Nat.le_refl _) nb
    refine hQ s a w ⟨I.size, fun t A hA => ?_⟩ I.defs I.le (e1 ▸ I.rel) (e1 ▸ I.step)
    rcases c.envGet t _ (Nat.le_refl _) with ⟨i, o, h1, h2, h3, h4, h5⟩ | ⟨h1, h2⟩
    · rw [h5] at hA; injection hA with hA; subst hA
      obtain ⟨V, v1, v2⟩ := I.vals i o (hall i h1) h2
      exact ⟨V, v1, v2 t h3 fun k ok hk _ hok => h4 k ok hk (List.getElem?_eq_some_iff.1 hok).1 hok⟩
    · rw [h2] at hA
      exact I.init t A hA fun k ok _ hok => h1 k ok (List.getElem?_eq_some_iff.1 hok).1 hok
  induction fuel with
  | zero =>
    intro listed s q a w hs hc I hmax
    have hall : ∀ i, i < ops.length → listed[i]? = some true := fun i hi => by
      have hil : i < listed.size := by omega
      rw [Array.getElem?_eq_getElem hil]
      have h0 : listed.toList.countP (fun b => !b) = 0 := by omega
      have := (List.countP_eq_zero.1 h0) listed[i] (by simp)
      simpa using this
    refine ⟨?_, fin listed s q a w I hmax hall⟩
    apply List.eq_nil_iff_forall_not_mem.2
    intro i hi
    obtain ⟨o, h1, h2, _⟩ := mem_ready (by simpa using hs) hi
    have := hall i (by have := (Array.getElem?_eq_some_iff.1 h1).1; simpa using this)
    rw [h2] at this; cases this
  | succ fuel ih =>
    intro listed s q a w hs hc I hmax
    refine ⟨fun hr => fin listed s q a w I hmax fun i hi => not_ready (by simpa using hs) (fun i o ho => c.reg.edge i o (by simpa using ho)) hr i (by simpa using hi), fun j hj => ?_⟩
    obtain ⟨o, ho, hjf, hedges⟩ := mem_ready (by simpa using hs) hj
    have ho : ops[j]? = some o := by simpa using ho
    have hjl : j < ops.length := (List.getElem?_eq_some_iff.1 ho).1
    have hjn : ¬ listed[j]? = some true := by rw [hjf]; simp
    have hset : (fun i => (listed.setIfInBounds j true)[i]? = some true) = (fun i => listed[i]? = some true ∨ i = j) := by
      funext i
      apply propext
      by_cases hij : j = i
      · subst hij
        simp [show j < listed.size from by omega]
      · rw [Array.getElem?_setIfInBounds_ne hij]
        constructor
        · exact .inl
        · rintro (h | h)
          · exact h
          · exact absurd h.symm hij
    have hcount : (listed.setIfInBounds j true).toList.countP (fun b => !b) ≤ fuel := by
      have hjs : j < listed.toList.length := by simp; omega
      have h1 : listed.toList[j] = false := by
        have := (Array.getElem?_eq_some_iff.1 hjf).2
        simpa using this
      have h2 : 0 < listed.toList.countP (fun b => !b) := List.countP_pos_iff.2 ⟨false, by rw [← h1]; exact List.getElem_mem hjs, rfl⟩
      rw [Array.toList_setIfInBounds, List.countP_set (h := hjs)]
      simp only [h1, Bool.not_false, Bool.not_true, if_true, Bool.false_eq_true, if_false]
      omega
    have hb : ∀ i, Bf ops j i → listed[i]? = some true := fun i h => c.reg.ready I.closed ho hedges h
    have next : ∀ {s' : Sg} {q' : Nat} {w' : World} {V : Value}, Inv P N ops E nn HH vv s0 w0 ds s' q' (fun i => listed[i]? = some true ∨ i = j) (a.put o.dst V) w' → wpAnyIn (fen ro) 0 P .any ⟨ops⟩ Q fuel (listed.setIfInBounds j true) (a.put o.dst V) w' := fun {s' q' w' V} I' => by
      obtain ⟨q2, I2, hmax2⟩ := I'.advance c hlim _ (Nat.le_refl _)
      rw [← hset] at I2
      refine ih _ s' q2 _ w' (by simpa using hs) hcount I2 fun i h1 h2 h3 => ?_
      have := hmax2 i h1 h2 h3
      intro h
      exact this ((congrFun hset i).mp h)
    obtain ⟨env', he, hcon, hwa⟩ := I.env c ho hjn hb
    obtain ⟨hp, hsn, hcase⟩ := c.cases ho
    unfold wpOpIn
    have ho' : (⟨ops⟩ : Array Oper)[j]? = some o := by simpa using ho
    rw [ho']
    simp only
    have bigq : Big P ops j → q ≤ j := fun hbj => by
      apply Classical.byContradiction
      intro h
      exact hjn (I.done j (by omega) hbj)
    rcases hcase with ⟨h1, h2, h3, h4⟩ | ⟨h1, h⟩
    · -- not wanted
      have hw := wantedA_ok (by rw [hwa]; exact h1) he
      rw [hw]
      simp only [Bool.false_eq_true, if_false]
      refine ⟨fun _ _ => fen_fn _ _, next (I.exec c ho hjn hedges (Sg.le.refl s) (by rw [h2]; exact undefA_conc s) (by rw [h3]; exact Step.refl ..) I.rel (.inl ⟨rfl, fun _ => ⟨.inl ⟨h3, h4⟩, fun e => by omega⟩⟩))⟩
    · have hw := wantedA_ok (by rw [hwa]; exact h1) he
      rw [hw]
      simp only [if_true]
      have pureCase : nn (j + 1) = nn j → HH (j + 1) = HH j → PureOk P o env' (vv j) → (∀ c, o.op ≠ .defer c) → o.wpIn (fen ro) 0 P a w (wpAnyIn (fen ro) 0 P .any ⟨ops⟩ Q fuel (listed.setIfInBounds j true)) Q := fun g1 g2 g3 g4 => by
        obtain ⟨V, v1, v2⟩ := g3 s N a he I.rel.glob
        exact wp_value g4 (v2 w) (next (I.exec c ho hjn hedges (Sg.le.refl s) v1 (by rw [g1]; exact Step.refl ..) I.rel (.inl ⟨rfl, fun _ => ⟨.inl ⟨g1, g2⟩, fun e => by omega⟩⟩)))
      have nodef : ∀ {n : Nat} {H : Heap} {v : AV} {n' : Nat} {H' : Heap}, evOp o.op P o env' n H = .val v n' H' → ∀ c, o.op ≠ .defer c := fun h => evOp_no_dfr h (fun _ _ e => by cases e) (fun _ e => by cases e)
      rcases h with ⟨hk, h⟩ | ⟨hk, h, hrd⟩ | ⟨hk, h⟩ | ⟨hk, h⟩
      · -- pure
        rw [evOp_congr hcon] at h
        have hko := evOp_ok h
        rw [hk] at hko
        exact pureCase hko.1 hko.2.1 hko.2.2 (nodef h)
      · -- read
        have hko0 := evOp_ok h
        rw [hk] at hko0
        obtain ⟨lo, hi, r1, r2, r3, r4⟩ := c.reg.read j o ho hk
        have hlo : lo ≤ q := by
          rcases r3 with rfl | ⟨i, oi, i1, i2, rfl⟩
          · exact Nat.zero_le _
          · apply Classical.byContradiction
            intro hlt
            obtain ⟨b, b1, b2, b3, b4⟩ := first_big (P := P) (ops := ops) i (q := q) (by omega) ⟨oi, i1, i2⟩
            obtain ⟨ob, ob1, ob2⟩ := b3
            exact hmax b b1 ⟨ob, ob1, ob2⟩ b4 (hb b (r2 b ob ob1 (by omega) ob2))
        have hhi : q ≤ hi := by
          rcases r4 with rfl | ⟨oh, h1, h2, h3⟩
          · exact I.qle
          · apply Classical.byContradiction
            intro hlt
            exact hjn (c.reg.closed I.closed hi j (I.done hi (by omega) ⟨oh, h1, h2⟩) h3)
        obtain ⟨v2, n2, H2, e1, e2⟩ := snapsOk_spec (rdsOk_spec c.rds _ (hrd lo hi r1)) _ (c.snap I.qb) hlo hhi
        have e2 := eqV_eq e2
        simp only at e1 e2
        rw [evOp_congr hcon, ← e2] at e1
        have hko := evOp_ok e1
        rw [hk] at hko
        obtain ⟨V, w', v1, v2, v3, v4⟩ := hko.2.2 s N a w (nn j) he I.rel
        exact wp_value (nodef e1) v1 (next (I.exec c ho hjn hedges (Sg.le.refl s) v2 (by rw [hko0.1]; exact v4) v3 (.inl ⟨rfl, fun hbj => by
          obtain ⟨o', ho2, hb2⟩ := hbj
          rw [ho] at ho2; injection ho2 with ho2; subst ho2
          rw [hk] at hb2; cases hb2⟩)))
      · -- a new block
        rw [evOp_congr hcon] at h
        have hko := evOp_ok h
        rw [hk] at hko
        have hbj : Big P ops j := ⟨o, ho, by rw [hk]; rfl⟩
        rcases hko with ⟨g1, g2, g3⟩ | ⟨A, g1, g2, g3⟩
        · exact pureCase g1 g2 g3 (nodef h)
        · have hfree := I.free j (bigq hbj) hjl hjn (nn j) (Nat.le_refl _) (by omega)
          have hnl : nn j < LIM := by have := c.mono (i := j + 1) ops.length (by omega) (Nat.le_refl _); omega
          obtain ⟨V, obj, cc, w', v1, v2, v3, v4, v5, v6, v7⟩ := g3 s N a w he I.rel.glob hfree
          obtain ⟨r1, r2, r3⟩ := I.rel.push hnl hfree cc v2 v3 v4 v5
          refine wp_value (nodef h) v1 (next (I.exec c ho hjn hedges (Sg.set_le hfree) v6 (by rw [g1]; exact r2) r1 (.inl ⟨rfl, fun _ => ⟨.inr ⟨A, w.heap.size, obj, g1, g2, Sg.set_blk .., ?_, v7, I.step.size, r3⟩, fun _ b hbb => ?_⟩⟩)))
          · rw [v2]; simp
          · rw [Sg.set_blk] at hbb; injection hbb with hbb; omega
      · -- in its turn
        have hbj : Big P ops j := ⟨o, ho, by rw [hk]; rfl⟩
        have hqj := bigq hbj
        have hall : ∀ i, i < j → Big P ops i → listed[i]? = some true := fun i hi ⟨oi, i1, i2⟩ => hb i ((c.reg.chain j o ho hk).2 i oi i1 hi i2)
        have nb : ∀ k, q ≤ k → k < j → ¬ Big P ops k := fun k k1 k2 k3 => by
          obtain ⟨b, b1, b2, b3, b4⟩ := first_big k k1 k3
          exact hmax b b1 b3 b4 (hall b (by omega) b3)
        obtain ⟨e1, e2⟩ := c.same j hqj (by omega) nb
        have hcv : evV P ec ef o env' (nn j) (HH j) = .ok (vv j) (nn (j + 1)) (HH (j + 1)) := by
          unfold evV at h ⊢
          rw [evOp_congr hcon] at h
          exact h
        obtain ⟨g1, g2⟩ := evV_ok c.hec c.hef hcv
        have hfr := I.free j hqj hjl hjn
        have hnl : nn (j + 1) ≤ LIM := Nat.le_trans (c.mono (i := j + 1) ops.length (by omega) (Nat.le_refl _)) hlim
        refine g2 s N a w ro _ Q he (by rw [e1]; exact I.rel) hfr hnl fun V s' w' v1 v2 v3 => ?_
        rw [e1] at v3
        exact next (I.exec c ho hjn hedges (v3.le hfr) v1 v3 v2 (.inr ⟨rfl, hbj, hqj, hall⟩))
end
theorem evRegion_drawn {ec : EC} {ef : EF} (hm : P.follows .mixedOrders = true) (hec : EcOk P ec) (hef : EfOk P ef) {rd : Option Nat} {N id : Nat} {ops : Array Oper} {env : Env} {ms : List Df} {n : Nat} {H : Heap} {e : Ext} {env' : Env} {ms' : List Df} {n' : Nat} {H' : Heap}
    (h : evRegion P ec ef rd N id ops.toList true env ms n H = .ok e env' ms' n' H') : CodeGood P (.region id ops true) rd N env ms n H e env' ms' n' H' := by
  have h : (match regInfo P ops.toList with
      | some is => (match evDrawn P ec ef N ops.toList ops.toList is 0 [(0, H)] [] env.fresh n H with | .ok env n H => CR.ok .nrm env ms n H | .er l => .er (id :: l))
      | none => .er [id, 216]) = .ok e env' ms' n' H' := h
  split at h
  · rename_i is hi
    have hreg := regInfo_spec hi
    split at h
    · rename_i env1 n1 H1 hd
      injection h with q1 q2 q3 q4 q5
      subst q1 q2 q3 q4 q5
      obtain ⟨SN, RD, E, nn, HH, vv, t1, t2, t3, t4, t5, t6, t7, t8, t9, t10⟩ := evDrawn_trace hreg.len hd
      have c : Ctx P ec ef N ops.toList is SN RD E nn HH vv := ⟨hec, hef, hreg, t3, by rw [t6]; exact t1 _ (List.mem_cons_self ..), fun j o x ho hx => by have := t10 j o x ho hx; rwa [Nat.zero_add] at this⟩
      have hnn : n ≤ n1 := by rw [← t5, ← t8]; exact c.mono _ (Nat.zero_le _) (Nat.le_refl _)
      refine ⟨hnn, fun s a w ro Q h1 h2 h3 h4 h5 h6 h7 => wpIn_region_any hm ?_⟩
      have I0 : Inv P N ops.toList E nn HH vv s w.drew a.defers s 0 (fun i => (Array.replicate ops.size false)[i]? = some true) a w.drew := by
        have hno : ∀ i, ¬ (Array.replicate ops.size false)[i]? = some true := fun i hi => by
          rw [Array.getElem?_replicate] at hi
          split at hi <;> cases hi
        refine ⟨fun i o _ hi => absurd hi (hno i), Nat.zero_le _, .inl rfl, fun i hi => by omega, by rw [t6]; exact h4.drew, Sg.le.refl s, ⟨fun _ _ => ⟨rfl, rfl⟩, Nat.le_refl _, fun _ _ _ => rfl, fun y b hy k1 k2 _ => ⟨y, hy, k1, k2⟩, rfl, rfl, rfl⟩, fun i _ hi _ x x1 x2 => h5 x ?_ ?_, fun i _ _ hi => absurd hi (hno i), fun i j _ _ _ _ hi => absurd hi (hno i), fun i o hi => absurd hi (hno i), fun t A hA _ => ?_, h1.size, rfl⟩
        · have := c.mono (i := 0) i (Nat.zero_le _) (by omega); rw [t5] at this; omega
        · have := c.mono (i := i + 1) ops.toList.length (by omega) (Nat.le_refl _); rw [t8] at this; omega
        · rw [t4] at hA; exact h1.fresh.get t A hA
      obtain ⟨q, I, hmax⟩ := I0.advance c (by rw [t8]; exact h6) _ (Nat.le_refl _)
      have hdr : Step s n H w s n1 H w.drew := ⟨fun _ _ => ⟨rfl, rfl⟩, Nat.le_refl _, fun _ _ _ => rfl, fun y b hy k1 k2 _ => ⟨y, hy, k1, k2⟩, rfl, rfl, rfl⟩
      refine drawn_wp c (by rw [t8]; exact h6) (s0 := s) (w0 := w.drew) (ds := a.defers) (fun s' a' w' k1 k2 k3 k4 k5 => ?_) ops.size (Array.replicate ops.size false) s q a w.drew (by simp) ?_ I hmax
      · rw [t7] at k1
        rw [t9] at k4
        rw [t5, t6, t8, t9] at k5
        exact h7 s' a' w' k1 (by rw [k2]; exact h2.le k3) k4 (hdr.within k5 (Nat.le_refl _) (Nat.le_refl _))
      · exact Nat.le_trans List.countP_le_length (by simp)
    · cases h
  · cases h
end
end Go.Sy
namespace Go.Sy
open Go
section
variable {P : Program}
theorem stepC_ok {ec : EC} {ef : EF} (hm : P.follows .mixedOrders = true) (hec : EcOk P ec) (hef : EfOk P ef) : EcOk P (fun c => stepC c P ec ef) := by
  intro c rd N env ms n H e env' ms' n' H' h
  have ext : ∀ {x : Ext}, evExt x rd N env ms n H = .ok e env' ms' n' H' → (∀ F (Q : Exit → Act → World → Prop) a w, Q x.exit a w → wpX P F 0 c Q a w) → CodeGood P c rd N env ms n H e env' ms' n' H' := fun h hw => by
    injection h with q1 q2 q3 q4 q5
    subst q1 q2 q3 q4 q5
    exact .nrm0 hw
  cases c with
  | skip => exact ext h fun F Q a w hq => wpIn_skip hq
  | label l => exact ext h fun F Q a w hq => wpIn_label hq
  | region id ops draw =>
    cases draw with
    | false => exact evRegion_plain hec hef h
    | true => exact evRegion_drawn hm hec hef h
  | seq a b => exact evSeq_ok hec h
  | cond x a b => exact evCond_ok hec h
  | block id a => exact evBlock_ok hec h
  | loop a => exact evLoop_ok hec h
  | rangeFunc f ps asg body => exact evRange_ok hec hef h
  | exit id => exact ext h fun F Q a w hq => wpIn_exit hq
  | ret => exact ext h fun F Q a w hq => wpIn_ret hq
  | scope b =>
    have h : evScope ec b 1000000 b rd N env ms n H = .ok e env' ms' n' H' := h
    exact evScope_ok hec h
  | goto l => exact ext h fun F Q a w hq => wpIn_goto hq
  | refuse r => cases h
theorem ev_ok {O : Orc} (hm : P.follows .mixedOrders = true) (hO : OrcOk P O) (fuel : Nat) : EcOk P (ev P O fuel).ec ∧ EfOk P (ev P O fuel).ef := by
  induction fuel with
  | zero => exact ⟨(fun c rd N env ms n H e env' ms' n' H' h => by cases h), (fun f args n H v n' H' h => by cases h)⟩
  | succ m ih => exact ⟨stepC_ok hm ih.1 ih.2, stepF_ok hO ih.1⟩
/-- What is told of no function. -/
theorem orcOk_none : OrcOk P (fun _ => none) := fun f g h => by cases h
theorem orcOk_one {f : FuncId} {g : List AV → Nat → Heap → VR} (h : ∀ args n H v n' H', g args n H = .ok v n' H' → FnGood P f args n H v n' H') : OrcOk P (fun x => match Nat.beq x f with | true => some g | false => none) := by
  intro x g' hx
  simp only at hx
  split at hx
  · rename_i e
    have e : x = f := by simpa using e
    subst e
    injection hx with hx; subst hx
    exact h
  · cases hx
/-- A call, from what the evaluator says of it. -/
theorem calls_of_ev {O : Orc} (hm : P.follows .mixedOrders = true) (hO : OrcOk P O) {fuel : Nat} {f : FuncId} {args : List AV} {n : Nat} {H : Heap} {v : AV} {n' : Nat} {H' : Heap} (h : (ev P O fuel).ef f args n H = .ok v n' H')
    {s : Sg} {w : World} {Args : List Value} (hA : concL s args = some Args) (hr : Rel P s H w) (hf : Free s n n') (hl : n' ≤ LIM) {R : Ending → World → Prop}
    (hR : ∀ V s' w', v.conc s' = some V → Rel P s' H' w' → Step s n H w s' n' H' w' → R (.returned V) w') : CallsIn Fence.wide 0 P f ⟨Args⟩ w R :=
  ((ev_ok hm hO fuel).2 f args n H v n' H' h).2 s w Args R hA hr hf hl hR
end
end Go.Sy
