/- SymF, SymG, SymH, SymI -/
import Derived.Test.YtloecagaldepfaaGreatDoorMb3
import Derived.Laws.Tables
import Derived.Laws.MakeOwn
import Derived.LaidEql
namespace Go.Sy
open Go
section
variable {P : Program}
/-- What the operation comes to in this world: a value, or nothing. -/
def Gives (P : Program) (o : Oper) (a : Act) (w : World) (V : Value) (w' : World) : Prop :=
  (execOp a.eval o).run P w = .ok (.value V) w' ∨ ((execOp a.eval o).run P w = .ok .skip w' ∧ V = undef)
/-- An operation that looks at no memory. -/
def PureOk (P : Program) (o : Oper) (env : Env) (v : AV) : Prop :=
  ∀ (s : Sg) (N : Nat) (a : Act), EnvR s env N a.tmps → s.glob → ∃ V, v.conc s = some V ∧ ∀ w, (execOp a.eval o).run P w = .ok (.value V) w
/-- An operation that makes a block, whatever else there is. -/
def NewOk (P : Program) (o : Oper) (env : Env) (n : Nat) (v : AV) (A : Blk) : Prop :=
  ∀ (s : Sg) (N : Nat) (a : Act) (w : World), EnvR s env N a.tmps → s.glob → s.blk n = none → ∃ V obj c w', (execOp a.eval o).run P w = .ok (.value V) w' ∧
    w'.heap = w.heap.push obj ∧ w'.os = w.os ∧ w'.tape = w.tape ∧ w'.output = w.output ∧ v.conc (s.set n w.heap.size c) = some V ∧ BlkR P (s.set n w.heap.size c) n A obj
/-- An operation that changes nothing of what is told. -/
def ReadOk (P : Program) (o : Oper) (env : Env) (H : Heap) (v : AV) : Prop :=
  ∀ (s : Sg) (N : Nat) (a : Act) (w : World) (n : Nat), EnvR s env N a.tmps → Rel P s H w → ∃ V w', (execOp a.eval o).run P w = .ok (.value V) w' ∧ v.conc s = some V ∧ Rel P s H w' ∧ Step s n H w s n H w'
def OpOk (P : Program) (o : Oper) (env : Env) (n : Nat) (H : Heap) (v : AV) (n' : Nat) (H' : Heap) : Prop :=
  n ≤ n' ∧ ∀ (s : Sg) (N : Nat) (a : Act) (w : World), EnvR s env N a.tmps → Rel P s H w → Free s n n' → n' ≤ LIM →
    ∃ V s' w', Gives P o a w V w' ∧ v.conc s' = some V ∧ Rel P s' H' w' ∧ Step s n H w s' n' H' w'
theorem PureOk.read {o : Oper} {env : Env} {H : Heap} {v : AV} (h : PureOk P o env v) : ReadOk P o env H v := fun s N a w n he hr =>
  let ⟨V, h1, h2⟩ := h s N a he hr.glob
  ⟨V, w, h2 w, h1, hr, Step.refl ..⟩
theorem ReadOk.op {o : Oper} {env : Env} {n : Nat} {H : Heap} {v : AV} (h : ReadOk P o env H v) : OpOk P o env n H v n H := ⟨Nat.le_refl _, fun s N a w he hr _ _ =>
  let ⟨V, w', h1, h2, h3, h4⟩ := h s N a w n he hr
  ⟨V, s, w', .inl h1, h2, h3, h4⟩⟩
theorem PureOk.op {o : Oper} {env : Env} {n : Nat} {H : Heap} {v : AV} (h : PureOk P o env v) : OpOk P o env n H v n H := h.read.op
theorem NewOk.op {o : Oper} {env : Env} {n : Nat} {H : Heap} {v : AV} {A : Blk} (h : NewOk P o env n v A) : OpOk P o env n H v (n + 1) (Q8.upd H n (some A)) := ⟨Nat.le_succ _, fun s N a w he hr hf hl => by
  have h0 := hf n (Nat.le_refl _) (Nat.lt_succ_self _)
  obtain ⟨V, obj, c, w', h1, h2, h3, h4, h5, h6, h7⟩ := h s N a w he hr.glob h0
  obtain ⟨r1, r2⟩ := hr.alloc (n := n) (Nat.lt_of_lt_of_le (Nat.lt_succ_self _) hl) h0 c h7
  have e : w'.heap = (w.alloc obj).heap := h2
  refine ⟨V, _, w', .inl h1, h6, r1.of_heap e, ?_⟩
  exact ⟨r2.off, by rw [e]; exact r2.size, fun b hb hx => by rw [e]; exact r2.frame b hb hx, r2.dom, h3, h4, h5⟩⟩
/-! ### The words of types -/
theorem underlying_run {t : TypeId} {d : TypeDesc} (h : P.underlying t = some d) (w : World) : (underlying t).run P w = .ok d w := by simp [underlying, h]
theorem sizeB_run {t : TypeId} {k : Nat} (h : sizeB P t = some k) (w : World) : (sizeOf t).run P w = .ok k w := by
  unfold sizeB at h
  split at h
  · rename_i i hi; injection h with h; subst h; simp [sizeOf, typeInfo, hi]
  · cases h
theorem sizeB_cells {t : TypeId} {k : Nat} (h : sizeB P t = some k) : P.cellsOf t = k := by
  unfold sizeB at h
  split at h
  · rename_i i hi; injection h with h; subst h; simp [Program.cellsOf, hi]
  · cases h
theorem bytesB_run {t : TypeId} {k : Nat} (h : bytesB P t = some k) : ∃ i, P.info? t = some i ∧ i.bytes = k := by
  unfold bytesB at h
  split at h
  · rename_i i hi; injection h with h; exact ⟨i, hi, h⟩
  · cases h
theorem typeInfo_run {t : TypeId} {i : TypeInfo} (h : P.info? t = some i) (w : World) : (typeInfo t).run P w = .ok i w := by simp [typeInfo, h]
theorem isAggB_run {t : TypeId} {b : Bool} (h : isAggB P t = some b) (w : World) : (isAgg t).run P w = .ok b w := by
  unfold isAggB at h
  split at h
  · rename_i d hd; injection h with h; subst h; simp [isAgg, underlying, hd]
  · rename_i d hd; injection h with h; subst h; simp [isAgg, underlying, hd]
  · rename_i d h1 h2 hd; injection h with h; subst h
    simp only [isAgg, Sem.run_bind, underlying_run hd, Result.andThen_ok]
    cases d <;> first | rfl | exact absurd rfl (h1 _) | exact absurd rfl (h2 _ _)
  · cases h
theorem zeroB_run {t : TypeId} {z : AV} (h : zeroB P t = some z) : ∃ v, (∀ w, (zeroValue t).run P w = .ok v w) ∧ ofValue v = some z := by
  unfold zeroB at h
  split at h
  · rename_i i hi
    split at h
    · rename_i v hv
      exact ⟨v, fun w => by simp [zeroValue, typeInfo, hi, hv], h⟩
    · cases h
  · cases h
theorem ofValue_not_tup {v : Value} {z : AV} (h : ofValue v = some z) (hz : ∀ l, z ≠ .tup l) : ∀ s : Sg, ∃ vs, concL s z.cells = some vs ∧ v.cells = ⟨vs⟩ ∧ vs.all Value.oneCell' = true := fun s => cells_conc (ofValue_conc h s) hz
/-! ### Pure operations -/
theorem evMove_ok {o : Oper} {x : Operand} (hop : o.op = .move x ∨ o.op = .assign x) {env : Env} {n n' : Nat} {H H' : Heap} {v : AV} (h : evMove x env n H = .val v n' H') : n' = n ∧ H' = H ∧ PureOk P o env v := by
  unfold evMove at h
  cases hx : opd env x with
  | none => rw [hx] at h; cases h
  | some u =>
    rw [hx] at h
    injection h with h1 h2 h3
    subst h1 h2 h3
    refine ⟨rfl, rfl, fun s N a he hg => ⟨_, opd_conc he hg hx, fun w => ?_⟩⟩
    rcases hop with hop | hop <;> simp [execOp, hop]
theorem evPick_ok {o : Oper} {c x y : Operand} (hop : o.op = .pick c x y) {env : Env} {n n' : Nat} {H H' : Heap} {v : AV} (h : evPick c x y env n H = .val v n' H') : n' = n ∧ H' = H ∧ PureOk P o env v := by
  unfold evPick at h
  split at h
  · rename_i hc
    unfold evMove at h
    cases hx : opd env x with
    | none => rw [hx] at h; cases h
    | some u =>
      rw [hx] at h
      injection h with h1 h2 h3
      subst h1 h2 h3
      refine ⟨rfl, rfl, fun s N a he hg => ⟨_, opd_conc he hg hx, fun w => ?_⟩⟩
      have := opd_conc he hg hc
      simp only [AV.conc, Option.some.injEq] at this
      simp [execOp, hop, ← this, asBool]
  · rename_i hc
    unfold evMove at h
    cases hx : opd env y with
    | none => rw [hx] at h; cases h
    | some u =>
      rw [hx] at h
      injection h with h1 h2 h3
      subst h1 h2 h3
      refine ⟨rfl, rfl, fun s N a he hg => ⟨_, opd_conc he hg hx, fun w => ?_⟩⟩
      have := opd_conc he hg hc
      simp only [AV.conc, Option.some.injEq] at this
      simp [execOp, hop, ← this, asBool]
  · cases h
theorem prun_run {α : Type} {m : Sem α} {r : α} (h : prun P m = some r) (w : World) : m.run P w = .ok r w := by
  induction m with
  | pure a => injection h with h; subst h; rfl
  | program k ih => exact ih P h
  | mark m k ih => exact ih h
  | _ => cases h
theorem allGround_spec {env : Env} : ∀ {l : List Operand}, allGround env l = true → ∀ x ∈ l, ∃ u V, opd env x = some u ∧ valOf u = some V
  | [], _, x, hx => by cases hx
  | y :: r, h, x, hx => by
    have hu : allGround env (y :: r) = (match opd env y with | some a => (match valOf a with | some _ => allGround env r | none => false) | none => false) := rfl
    rw [hu] at h
    split at h
    · rename_i u hu
      split at h
      · rename_i V hV
        cases hx with
        | head => exact ⟨u, V, hu, hV⟩
        | tail _ hm => exact allGround_spec h x hm
      · cases h
    · cases h
theorem evGround_ok {o : Oper} (hs : ∀ cs b, o.op ≠ .select cs b) {env : Env} {n n' : Nat} {H H' : Heap} {v : AV} (h : evGround P o env n H = .val v n' H') : n' = n ∧ H' = H ∧ PureOk P o env v := by
  unfold evGround at h
  split at h
  · cases h
  · rename_i hall
    split at h
    · rename_i V hV
      have key : ∀ u, ofValue V = some u → PureOk P o env u := fun u hu s N a he hg => by
        refine ⟨V, ofValue_conc hu s, fun w => ?_⟩
        rw [execOp_congr (ρ' := groundEnv env) o hs fun x hx => ?_]
        · exact prun_run hV w
        · obtain ⟨q, W, h1, h2⟩ := allGround_spec hall x (by simpa using hx)
          have e1 := opd_conc he hg h1
          have e2 := valOf_conc h2 s
          rw [e1] at e2; injection e2 with e2
          simp [groundEnv, h1, h2, e2]
      split at h
      · rename_i k x hk
        rw [frcI_eq] at h
        injection h with h1 h2 h3
        subst h1 h2 h3
        exact ⟨rfl, rfl, key _ hk⟩
      · rename_i u hnot hu
        injection h with h1 h2 h3
        subst h1 h2 h3
        exact ⟨rfl, rfl, key _ hu⟩
      · cases h
    · cases h
theorem evNilCheck_ok {o : Oper} {x : Operand} (hop : o.op = .nilCheck x) {env : Env} {n n' : Nat} {H H' : Heap} {v : AV} (h : evNilCheck x env n H = .val v n' H') : n' = n ∧ H' = H ∧ PureOk P o env v := by
  unfold evNilCheck at h
  split at h
  · rename_i y q hx
    injection h with h1 h2 h3
    subst h1 h2 h3
    refine ⟨rfl, rfl, fun s N a he hg => ?_⟩
    have e := opd_conc he hg hx
    refine ⟨_, e, fun w => ?_⟩
    simp only [AV.conc, Option.map_eq_some_iff] at e
    obtain ⟨b, _, e⟩ := e
    simp [execOp, hop, ← e]
  · rename_i y hx
    injection h with h1 h2 h3
    subst h1 h2 h3
    refine ⟨rfl, rfl, fun s N a he hg => ?_⟩
    have e := opd_conc he hg hx
    refine ⟨_, e, fun w => ?_⟩
    simp only [AV.conc, Option.map_eq_some_iff] at e
    obtain ⟨b, _, e⟩ := e
    simp [execOp, hop, ← e]
  · rename_i f p c hx
    injection h with h1 h2 h3
    subst h1 h2 h3
    refine ⟨rfl, rfl, fun s N a he hg => ?_⟩
    have e := opd_conc he hg hx
    refine ⟨_, e, fun w => ?_⟩
    simp only [AV.conc] at e
    split at e
    · injection e with e
      simp [execOp, hop, ← e]
    · cases e
  · cases h
theorem evFieldAddr_ok {o : Oper} {t : TypeId} {x : Operand} {f : Nat} (hop : o.op = .fieldAddr t x f) {env : Env} {n n' : Nat} {H H' : Heap} {v : AV} (h : evFieldAddr P t x f env n H = .val v n' H') : n' = n ∧ H' = H ∧ PureOk P o env v := by
  unfold evFieldAddr at h
  split at h
  · rename_i y q hx
    split at h
    · rename_i fs hu
      split at h
      · rename_i fl hf
        split at h
        · rename_i k hk
          rw [frc_eq] at h
          injection h with h1 h2 h3
          subst h1 h2 h3
          refine ⟨rfl, rfl, fun s N a he hg => ?_⟩
          have e := opd_conc he hg hx
          simp only [AV.conc, Option.map_eq_some_iff] at e ⊢
          obtain ⟨b, hb, e⟩ := e
          refine ⟨_, ⟨b, hb, rfl⟩, fun w => ?_⟩
          rw [nth_eq] at hf
          have hf' : fs[f]? = some fl := by simpa using hf
          have ha : (⟨b, q, none⟩ : Addr).add fl.offset = ⟨b, q + fl.offset, none⟩ := by unfold Addr.add; split <;> simp_all
          simp [execOp, hop, Instr.fieldAt, underlying_run hu, hf', ← e, Instr.sureAddr, fieldPlace, sizeB_run hk, ha]
        · cases h
      · cases h
    · cases h
  · cases h
end
end Go.Sy
namespace Go.Sy
open Go
section
variable {P : Program}
theorem all_take {l : List Value} (h : l.all Value.oneCell' = true) (n : Nat) : (l.take n).all Value.oneCell' = true := by
  simp only [List.all_eq_true] at h ⊢
  exact fun x hx => h x (List.mem_of_mem_take hx)
theorem all_drop {l : List Value} (h : l.all Value.oneCell' = true) (n : Nat) : (l.drop n).all Value.oneCell' = true := by
  simp only [List.all_eq_true] at h ⊢
  exact fun x hx => h x (List.mem_of_mem_drop hx)
theorem agg_conc {s : Sg} {l : List AV} {V : Value} (h : (AV.agg l).conc s = some V) : ∃ vs, concL s l = some vs ∧ vs.all Value.oneCell' = true ∧ V = .agg ⟨vs⟩ := by
  simp only [AV.conc] at h
  split at h
  · rename_i vs hvs
    split at h
    · rename_i hall; injection h with h; exact ⟨vs, hvs, hall, h.symm⟩
    · cases h
  · cases h
theorem conc_agg {s : Sg} {l : List AV} {vs : List Value} (h : concL s l = some vs) (h1 : vs.all Value.oneCell' = true) : (AV.agg l).conc s = some (.agg ⟨vs⟩) := by
  simp only [AV.conc, h, h1, if_true]
theorem extract_list (vs : List Value) (i j : Nat) : (⟨vs⟩ : Array Value).extract i j = ⟨(vs.drop i).take (j - i)⟩ := by
  apply Array.ext'
  simp [List.extract]
theorem partA_ok {t : TypeId} {cs : List AV} {off n n' : Nat} {H H' : Heap} {v : AV} (h : partA P t cs off n H = .val v n' H') :
    n' = n ∧ H' = H ∧ ∀ s vs, concL s cs = some vs → vs.all Value.oneCell' = true → ∃ V, v.conc s = some V ∧ ∀ w, (part t ⟨vs⟩ off).run P w = .ok V w := by
  unfold partA at h
  split at h
  · rename_i sz ha hs
    injection h with h1 h2 h3
    subst h1 h2 h3
    refine ⟨rfl, rfl, fun s vs hv h1 => ⟨_, conc_agg (concL_take sz (concL_drop off hv)) (all_take (all_drop h1 off) sz), fun w => ?_⟩⟩
    simp [part, isAggB_run ha, sizeB_run hs, extract_list]
  · rename_i sz ha hs
    split at h
    · rename_i u hu
      injection h with h1 h2 h3
      subst h1 h2 h3
      refine ⟨rfl, rfl, fun s vs hv h1 => ?_⟩
      rw [nth_eq] at hu
      obtain ⟨V, k1, k2⟩ := concL_get hv hu
      refine ⟨V, k1, fun w => ?_⟩
      simp [part, isAggB_run ha, k2]
    · cases h
  · cases h
theorem evField_ok {o : Oper} {t : TypeId} {x : Operand} {f : Nat} (hop : o.op = .field t x f) {env : Env} {n n' : Nat} {H H' : Heap} {v : AV} (h : evField P t x f env n H = .val v n' H') : n' = n ∧ H' = H ∧ PureOk P o env v := by
  unfold evField at h
  split at h
  · rename_i cs fs hx hu
    split at h
    · rename_i fl hf
      obtain ⟨h1, h2, h3⟩ := partA_ok h
      refine ⟨h1, h2, fun s N a he hg => ?_⟩
      obtain ⟨vs, k1, k2, k3⟩ := agg_conc (opd_conc he hg hx)
      obtain ⟨V, e1, e2⟩ := h3 s vs k1 k2
      rw [nth_eq] at hf
      have hf' : fs[f]? = some fl := by simpa using hf
      refine ⟨V, e1, fun w => ?_⟩
      simp [execOp, hop, Instr.field, underlying_run hu, hf', k3, asAgg, e2]
    · cases h
  · cases h
theorem add_addr (b o n : Nat) : (⟨b, o, none⟩ : Addr).add n = ⟨b, o + n, none⟩ := by unfold Addr.add; split <;> simp_all
theorem evIndexAddr_ok {o : Oper} {t : TypeId} {x ix : Operand} (hop : o.op = .indexAddr t x ix) {env : Env} {n n' : Nat} {H H' : Heap} {v : AV} (h : evIndexAddr P t x ix env n H = .val v n' H') : n' = n ∧ H' = H ∧ PureOk P o env v := by
  unfold evIndexAddr at h
  split at h
  · rename_i y q k i m e hx hi hu
    split at h
    · rename_i sz hs hb
      rw [frc_eq] at h
      injection h with h1 h2 h3
      subst h1 h2 h3
      refine ⟨rfl, rfl, fun s N a he hg => ?_⟩
      have ex := opd_conc he hg hx
      have ei := opd_conc he hg hi
      simp only [AV.conc, Option.map_eq_some_iff, Option.some.injEq] at ex ei ⊢
      obtain ⟨b, hb', ex⟩ := ex
      refine ⟨_, ⟨b, hb', rfl⟩, fun w => ?_⟩
      have hlt : i < m := Nat.ble_eq.mp hb
      simp [execOp, hop, Instr.indexAt, ← ei, asIntOf, underlying_run hu, ← ex, Instr.sureAddr, hlt, sizeB_run hs, add_addr]
    · cases h
  · rename_i y q m c k i e hx hi hu
    split at h
    · rename_i sz hs hb
      rw [frc_eq] at h
      injection h with h1 h2 h3
      subst h1 h2 h3
      refine ⟨rfl, rfl, fun s N a he hg => ?_⟩
      have ex := opd_conc he hg hx
      have ei := opd_conc he hg hi
      rw [sl_conc] at ex
      simp only [AV.conc, Option.map_eq_some_iff, Option.some.injEq] at ei ⊢
      obtain ⟨b, hb', _, ex⟩ := ex
      refine ⟨_, ⟨b, hb', rfl⟩, fun w => ?_⟩
      have hlt : i < m := Nat.ble_eq.mp hb
      simp [execOp, hop, Instr.indexAt, ← ei, asIntOf, underlying_run hu, ex, hlt, sizeB_run hs, add_addr]
    · cases h
  · cases h
theorem evIndex_ok {o : Oper} {t : TypeId} {x ix : Operand} (hop : o.op = .index t x ix) {env : Env} {n n' : Nat} {H H' : Heap} {v : AV} (h : evIndex P o t x ix env n H = .val v n' H') : n' = n ∧ H' = H ∧ PureOk P o env v := by
  unfold evIndex at h
  split at h
  · rename_i cs k i m e hx hi hu
    split at h
    · rename_i sz hs hb
      obtain ⟨h1, h2, h3⟩ := partA_ok h
      refine ⟨h1, h2, fun s N a he hg => ?_⟩
      obtain ⟨vs, k1, k2, k3⟩ := agg_conc (opd_conc he hg hx)
      obtain ⟨V, e1, e2⟩ := h3 s vs k1 k2
      have ei := opd_conc he hg hi
      simp only [AV.conc, Option.some.injEq] at ei
      have hlt : i < m := Nat.ble_eq.mp hb
      refine ⟨V, e1, fun w => ?_⟩
      have e2' : ∀ w, (part e ⟨vs⟩ (i * sz)).run P w = .ok V w := e2
      simp [execOp, hop, Instr.index, ← ei, asIntOf, underlying_run hu, k3, hlt, sizeB_run hs, e2']
    · cases h
  · rename_i l k i hx hi hu
    split at h
    · rename_i b hb
      rw [frc_eq] at h
      injection h with h1 h2 h3
      subst h1 h2 h3
      refine ⟨rfl, rfl, fun s N a he hg => ⟨_, rfl, fun w => ?_⟩⟩
      have ex := opd_conc he hg hx
      have ei := opd_conc he hg hi
      simp only [AV.conc, Option.some.injEq] at ex ei
      rw [nth_eq] at hb
      have hb' : (⟨⟨l⟩⟩ : ByteArray)[i]? = some b := by
        rw [List.getElem?_eq_some_iff] at hb
        obtain ⟨hl, hb⟩ := hb
        have hs : i < (⟨⟨l⟩⟩ : ByteArray).size := hl
        exact (getElem?_pos (⟨⟨l⟩⟩ : ByteArray) i hs).trans (congrArg some hb)
      simp [execOp, hop, Instr.index, ← ei, asIntOf, underlying_run hu, ← ex, hb']
    · cases h
  · exact evGround_ok (fun cs b => by rw [hop]; simp) h
theorem evExtract_ok {o : Oper} {x : Operand} {ix : Nat} (hop : o.op = .extract x ix) {env : Env} {n n' : Nat} {H H' : Heap} {v : AV} (h : evExtract x ix env n H = .val v n' H') : n' = n ∧ H' = H ∧ PureOk P o env v := by
  unfold evExtract at h
  split at h
  · rename_i l hx
    split at h
    · rename_i u hu
      injection h with h1 h2 h3
      subst h1 h2 h3
      refine ⟨rfl, rfl, fun s N a he hg => ?_⟩
      have ex := opd_conc he hg hx
      simp only [AV.conc, Option.map_eq_some_iff] at ex
      obtain ⟨vs, hvs, ex⟩ := ex
      rw [nth_eq] at hu
      obtain ⟨V, k1, k2⟩ := concL_get hvs hu
      refine ⟨V, k1, fun w => ?_⟩
      simp [execOp, hop, Instr.extract, ← ex, k2]
    · cases h
  · cases h
theorem concL_arr {s : Sg} {l : List AV} {vs : List Value} (h : concL s l = some vs) {as : Array Operand} {a : Act} (e : vs = as.toList.map a.eval) : as.map a.eval = ⟨vs⟩ := by
  subst e; apply Array.ext'; simp
theorem evMakeFunc_ok {o : Oper} {f : Fn} {fi ca : Array Operand} (hop : o.op = .makeFunc f fi ca) {env : Env} {n n' : Nat} {H H' : Heap} {v : AV} (h : evMakeFunc f fi.toList ca.toList env n H = .val v n' H') : n' = n ∧ H' = H ∧ PureOk P o env v := by
  unfold evMakeFunc at h
  split at h
  · rename_i g l m hl hm
    injection h with h1 h2 h3
    subst h1 h2 h3
    refine ⟨rfl, rfl, fun s N a he hg => ?_⟩
    have el := opds_conc he hg hl
    have em := opds_conc he hg hm
    refine ⟨.func (.func g) ⟨fi.toList.map a.eval⟩ ⟨ca.toList.map a.eval⟩, by simp only [AV.conc, el, em], fun w => ?_⟩
    rw [← concL_arr el rfl, ← concL_arr em rfl]
    simp [execOp, hop, Instr.makeFunc]
  · cases h
theorem evMakeInterface_ok {o : Oper} {t : TypeId} {x : Operand} (hop : o.op = .makeInterface t x) {env : Env} {n n' : Nat} {H H' : Heap} {v : AV} (h : evMakeInterface P t x env n H = .val v n' H') : n' = n ∧ H' = H ∧ PureOk P o env v := by
  unfold evMakeInterface at h
  split at h
  · cases h
  · rename_i u d hn hx hu
    injection h with h1 h2 h3
    subst h1 h2 h3
    refine ⟨rfl, rfl, fun s N a he hg => ⟨.iface t (a.eval x), by simp only [AV.conc, opd_conc he hg hx, Option.map_some], fun w => ?_⟩⟩
    simp only [execOp, hop, Instr.makeInterface, Sem.run_bind, underlying_run hu, Result.andThen_ok]
    cases d <;> first | rfl | exact absurd rfl (hn _)
  · cases h
/-! Structs and arrays put together -/
theorem replL {pl : Nat} : ∀ {l v r : List AV}, repl pl l v = some r → pl + v.length ≤ l.length ∧ r = l.take pl ++ v ++ l.drop (pl + v.length) := by
  induction pl with
  | zero =>
    intro l v
    induction v generalizing l with
    | nil => intro r h; injection h with h; subst h; simp
    | cons a v ih =>
      intro r h
      cases l with
      | nil => cases h
      | cons b l =>
        have h : (match repl 0 l v with | some r => some (a :: r) | none => none) = some r := h
        split at h
        · rename_i r' hr
          injection h with h; subst h
          obtain ⟨k1, k2⟩ := ih hr
          refine ⟨by simp at k1 ⊢; omega, ?_⟩
          subst k2
          simp [Nat.add_comm]
        · cases h
  | succ pl ih =>
    intro l v r h
    cases l with
    | nil => cases h
    | cons b l =>
      have h : (match repl pl l v with | some r => some (b :: r) | none => none) = some r := h
      split at h
      · rename_i r' hr
        injection h with h; subst h
        obtain ⟨k1, k2⟩ := ih hr
        refine ⟨by simp at k1 ⊢; omega, ?_⟩
        subst k2
        rw [show pl + 1 + v.length = (pl + v.length) + 1 by omega]
        simp
      · cases h
theorem foldl_set : ∀ (vs : List Value) (off j : Nat) (cs : List Value), off + j + vs.length ≤ cs.length →
    (vs.zipIdx j).foldl (fun (cs : Array Value) (x : Value × Nat) => cs.setIfInBounds (off + x.2) x.1) ⟨cs⟩ = ⟨cs.take (off + j) ++ vs ++ cs.drop (off + j + vs.length)⟩
  | [], off, j, cs, _ => by simp
  | v :: r, off, j, cs, h => by
    rw [List.zipIdx_cons, List.foldl_cons]
    have hs : (⟨cs⟩ : Array Value).setIfInBounds (off + j) v = ⟨cs.set (off + j) v⟩ := by apply Array.ext'; simp
    simp only at hs ⊢
    rw [hs, foldl_set r off (j + 1) _ (by simp at h ⊢; omega)]
    congr 1
    simp only [List.length_cons] at h ⊢
    rw [show off + (j + 1) = off + j + 1 by omega, List.take_add_one, List.drop_set]
    rw [if_pos (by omega), List.getElem?_set_self (by omega), List.take_set_of_le (by omega), show off + j + (r.length + 1) = off + j + 1 + r.length by omega]
    simp
theorem fill_one {place : Nat → Option (Nat × Nat)} {i : Nat} {V : Value} {rest : List (Nat × Value)} {off size : Nat} {vs cs : List Value} (hp : place i = some (off, size)) (hV : V.cells = ⟨vs⟩) (hs : vs.length = size) (hl : off + size ≤ cs.length) :
    Instr.fill place ⟨cs⟩ ((i, V) :: rest) = Instr.fill place ⟨cs.take off ++ vs ++ cs.drop (off + vs.length)⟩ rest := by
  simp only [Instr.fill, hp, hV]
  have h1 : ((⟨vs⟩ : Array Value).size ≠ size || off + (⟨vs⟩ : Array Value).size > (⟨cs⟩ : Array Value).size) = false := by
    simp; omega
  rw [h1]
  simp only [Bool.false_eq_true, if_false]
  congr 1
  have := foldl_set vs off 0 cs (by omega)
  simp only [Nat.add_zero] at this
  rw [← this, ← Array.foldl_toList]
  simp
theorem fillA_ok {s : Sg} {N : Nat} {a : Act} {env : Env} (he : EnvR s env N a.tmps) (hg : s.glob) {pA pM : Nat → Option (Nat × Nat)} (hp : ∀ i x, pA i = some x → pM i = some x) :
    ∀ {ps : List (Nat × Operand)} {l r : List AV} {vs : List Value}, fillA pA env ps l = some r → concL s l = some vs → vs.all Value.oneCell' = true →
      ∃ us, concL s r = some us ∧ us.all Value.oneCell' = true ∧ Instr.fill pM ⟨vs⟩ (ps.map fun p => (p.1, a.eval p.2)) = some ⟨us⟩
  | [], l, r, vs, h, hv, h1 => by injection h with h; subst h; exact ⟨vs, hv, h1, rfl⟩
  | (i, x) :: ps, l, r, vs, h, hv, h1 => by
    have h : (match pA i, opd env x with
      | some (o, s), some v => (match Nat.beq (len v.cells) s, v with
          | true, .tup _ => none
          | true, v => (match repl o l v.cells with | some l => fillA pA env ps l | none => none)
          | false, _ => none)
      | _, _ => none) = some r := h
    split at h
    · rename_i off sz _ hpi hx
      split at h
      · cases h
      · rename_i u _ _ hnt hb
        split at h
        · rename_i l' hl'
          have hsz : len u.cells = sz := by rw [natbeq] at hb; exact of_decide_eq_true hb
          rw [len_eq] at hsz
          obtain ⟨k1, k2⟩ := replL hl'
          obtain ⟨ws, c1, c2, c3⟩ := cells_conc (opd_conc he hg hx) (fun t ht => hnt t (by rw [ht]))
          have hvl := concL_length hv
          have hwl := concL_length c1
          obtain ⟨us, d1, d2, d3⟩ := fillA_ok he hg hp (ps := ps) (l := l') (r := r) (vs := vs.take off ++ ws ++ vs.drop (off + ws.length)) h
            (by rw [k2, hwl]; exact concL_append (concL_append (concL_take _ hv) c1) (concL_drop _ hv))
            (by simp only [List.all_append, all_take h1, c3, all_drop h1, Bool.and_self])
          refine ⟨us, d1, d2, ?_⟩
          rw [List.map_cons, fill_one (hp i _ hpi) c2 (by omega) (by omega)]
          exact d3
        · cases h
      · cases h
    · cases h
end
end Go.Sy
namespace Go.Sy
open Go
section
variable {P : Program}
theorem zeroC_run {t : TypeId} {z : List AV} (h : zeroC P t = some z) : ∃ i v vs, P.info? t = some i ∧ i.zero = some v ∧ v.cells = ⟨vs⟩ ∧ vs.length = z.length ∧ ∀ s, concL s z = some vs ∧ vs.all Value.oneCell' = true := by
  unfold zeroC at h
  split at h
  · cases h
  · rename_i u hnt hz
    injection h with h; subst h
    unfold zeroB at hz
    split at hz
    · rename_i i hi
      split at hz
      · rename_i v hv
        obtain ⟨vs, _, h2, _⟩ := ofValue_not_tup hz hnt ⟨fun _ => none, fun _ => 0⟩
        refine ⟨i, v, vs, hi, hv, h2, ?_, fun s => ?_⟩
        · have h1 := (ofValue_not_tup hz hnt ⟨fun _ => none, fun _ => 0⟩)
          obtain ⟨vs', k1, k2, _⟩ := h1
          rw [h2] at k2; injection k2 with k2; subst k2
          exact concL_length k1
        · obtain ⟨vs', k1, k2, k3⟩ := ofValue_not_tup hz hnt s
          rw [h2] at k2; injection k2 with k2; subst k2
          exact ⟨k1, k3⟩
      · cases hz
    · cases hz
  · cases h
theorem zeroB_info {t : TypeId} {z : AV} (h : zeroB P t = some z) : ∃ i v, P.info? t = some i ∧ i.zero = some v ∧ ofValue v = some z := by
  unfold zeroB at h
  split at h
  · rename_i i hi
    split at h
    · rename_i v hv; exact ⟨i, v, hi, hv, h⟩
    · cases h
  · cases h
theorem sizeB_info {t : TypeId} {k : Nat} {i : TypeInfo} (h : sizeB P t = some k) (hi : P.info? t = some i) : i.size = k := by
  unfold sizeB at h; rw [hi] at h; injection h
/-! Rows -/
/-- A row of which all is known. -/
theorem rowR {s : Sg} {x : Nat} {t : TypeId} {z : Nat → Option AV} {m : Nat} {c : T AV} {mk : Bool} {vs : List Value} (hm : vs.length = m) (h1 : vs.all Value.oneCell' = true) (h : ∀ i A, cellAt z m c i = some A → ∃ V, A.conc s = some V ∧ vs[i]? = some V) :
    BlkR P s x (.row t z m c true mk) (.cells ⟨vs⟩ t (0, 0)) := by
  refine ⟨rfl, by simp [hm], fun i A hA => ?_, by simp [hm], .inl rfl⟩
  obtain ⟨V, v1, v2⟩ := h i A hA
  exact ⟨V, v1, by simpa using v2, (List.all_eq_true.1 h1) V (List.mem_of_getElem? v2)⟩
theorem cellAt_puts {l : List AV} {m i : Nat} {A : AV} (h : cellAt (fun _ => none) m (T.e.puts l 0) i = some A) : l[i]? = some A := by
  rw [cellAt_eq] at h
  split at h
  · rw [T.get_puts] at h
    split at h
    · rename_i hi
      split at hi
      · rename_i h2
        rw [Nat.sub_zero] at hi
        rw [h] at hi; exact hi
      · cases hi
    · cases h
  · cases h
theorem rowL {s : Sg} {x : Nat} {t : TypeId} {mk : Bool} {l : List AV} {vs : List Value} (h : concL s l = some vs) (h1 : vs.all Value.oneCell' = true) : BlkR P s x (.row t (fun _ => none) l.length (T.e.puts l 0) true mk) (.cells ⟨vs⟩ t (0, 0)) :=
  rowR (concL_length h) h1 fun _ _ hA => concL_get h (cellAt_puts hA)
theorem zpat_eq {l : List AV} {i : Nat} : zpat l i = l[i % l.length]? := by
  unfold zpat; rw [nth_eq, len_eq]; rfl
/-- Zero cells again and again. -/
theorem rowZ {s : Sg} {x : Nat} {t : TypeId} {mk : Bool} {z : List AV} {vs : List Value} (h : concL s z = some vs) (h1 : vs.all Value.oneCell' = true) (k : Nat) : BlkR P s x (.row t (zpat z) k .e true mk) (.cells (madeCells ⟨vs⟩ k) t (0, 0)) := by
  have key : ∀ i, i < k → ∀ A, zpat z i = some A → ∃ V, A.conc s = some V ∧ (madeCells ⟨vs⟩ k)[i]? = some V ∧ V.oneCell' = true := fun i hi A hA => by
    rw [zpat_eq] at hA
    obtain ⟨V, v1, v2⟩ := concL_get h hA
    refine ⟨V, v1, ?_, (List.all_eq_true.1 h1) V (List.mem_of_getElem? v2)⟩
    have hl := concL_length h
    simp only [madeCells, Array.getElem?_map, Array.getElem?_range, hi, if_true, Option.map_some, Option.some.injEq, List.size_toArray]
    rw [hl]
    have : (⟨vs⟩ : Array Value)[i % z.length]! = (vs[i % z.length]?).getD default := by simp [Array.getElem!_eq_getD]
    rw [this, v2]; rfl
  refine ⟨rfl, by simp [madeCells], fun i A hA => ?_, by simp [madeCells], .inl rfl⟩
  rw [cellAt_eq] at hA
  split at hA
  · rename_i hi
    exact key i hi A hA
  · cases hA
theorem evAlloc_ok {o : Oper} {t : TypeId} (hop : o.op = .alloc t) {env : Env} {n n' : Nat} {H H' : Heap} {v : AV} (h : evAlloc P t env n H = .val v n' H') :
    ∃ A, n' = n + 1 ∧ H' = Q8.upd H n (some A) ∧ NewOk P o env n v A := by
  unfold evAlloc at h
  split at h
  · cases h
  · rename_i z hz
    rw [frc_eq, Q8.set_k, frc_eq] at h
    injection h with h1 h2 h3
    subst h1 h2 h3
    refine ⟨_, rfl, rfl, fun s N a w he hg hn => ?_⟩
    obtain ⟨i, v, vs, hi, hv, hc, hl, hs⟩ := zeroC_run hz
    obtain ⟨c1, c2⟩ := hs (s.set n w.heap.size 0)
    refine ⟨.pointer (some ⟨w.heap.size, 0, none⟩), .cells ⟨vs⟩ t (0, 0), 0, w.alloc (.cells ⟨vs⟩ t), ?_, rfl, rfl, rfl, rfl, by simp [AV.conc, Sg.set], ?_⟩
    · simp [execOp, hop, Instr.alloc, zeroValue, typeInfo, hi, hv, newVar, newRow, hc]
    · refine rowR (by rw [len_eq, hl]) c2 fun i A hA => ?_
      rw [cellAt_eq] at hA
      split at hA
      · rename_i hlt
        have hA : zpat z i = some A := hA
        rw [zpat_eq, Nat.mod_eq_of_lt (by rw [len_eq] at hlt; exact hlt)] at hA
        exact concL_get c1 hA
      · cases hA
theorem newRowA_k {t : TypeId} {l : List AV} {ex mk : Bool} {n : Nat} {H : Heap} {k : Nat → Heap → OR} : newRowA t l ex mk n H k = k (n + 1) (Q8.upd H n (some (.row t (fun _ => none) l.length (T.e.puts l 0) ex mk))) := by
  unfold newRowA
  rw [putCells_k, frc_eq, Q8.set_k, frc_eq, len_eq]
theorem evBox_ok {o : Oper} {t : TypeId} {x : Operand} (hop : o.op = .box t x) {env : Env} {n n' : Nat} {H H' : Heap} {v : AV} (h : evBox P t x env n H = .val v n' H') :
    ∃ A, n' = n + 1 ∧ H' = Q8.upd H n (some A) ∧ NewOk P o env n v A := by
  unfold evBox at h
  split at h
  · cases h
  · rename_i u hnt hx
    rw [newRowA_k] at h
    injection h with h1 h2 h3
    subst h1 h2 h3
    refine ⟨_, rfl, rfl, fun s N a w he hg hn => ?_⟩
    obtain ⟨vs, c1, c2, c3⟩ := cells_conc (opd_conc he hg hx) hnt
    have hle := Sg.set_le (b := w.heap.size) (c := 0) hn
    refine ⟨.pointer (some ⟨w.heap.size, 0, none⟩), .cells ⟨vs⟩ t (0, 0), 0, w.alloc (.cells ⟨vs⟩ t), ?_, rfl, rfl, rfl, rfl, by simp [AV.conc, Sg.set], rowL (concL_le hle _ c1) c3⟩
    simp [execOp, hop, Instr.box, newVar, newRow, c2]
  · cases h
theorem places_eq : ∀ {fs : List Field} {pl : List (Nat × Nat)}, places P fs = some pl → fs.mapM (fun f => (P.info? f.type).map fun i => (f.offset, i.size)) = some pl
  | [], pl, h => by injection h with h; subst h; rfl
  | f :: fs, pl, h => by
    have h : (match sizeB P f.type with | some s => (match places P fs with | some r => some ((f.offset, s) :: r) | none => none) | none => none) = some pl := h
    split at h
    · rename_i k hk
      split at h
      · rename_i r hr
        injection h with h; subst h
        unfold sizeB at hk
        split at hk
        · rename_i i hi
          injection hk with hk; subst hk
          simp [List.mapM_cons, hi, places_eq hr]
        · cases hk
      · cases h
    · cases h
theorem evBuild_ok {o : Oper} {t : TypeId} {ps : Array (Nat × Operand)} (hop : o.op = .build t ps) {env : Env} {n n' : Nat} {H H' : Heap} {v : AV} (h : evBuild P t ps.toList env n H = .val v n' H') : n' = n ∧ H' = H ∧ PureOk P o env v := by
  unfold evBuild at h
  split at h
  · rename_i z fs hz hu
    split at h
    · rename_i pl hpl
      split at h
      · rename_i l hl
        injection h with h1 h2 h3
        subst h1 h2 h3
        refine ⟨rfl, rfl, fun s N a he hg => ?_⟩
        obtain ⟨i, v, vs, hi, hv, hc, _, hs⟩ := zeroC_run hz
        obtain ⟨c1, c2⟩ := hs s
        obtain ⟨us, d1, d2, d3⟩ := fillA_ok he hg (pA := nth pl) (pM := (pl.toArray[·]?)) (fun i x hx => by rw [nth_eq] at hx; simpa using hx) hl c1 c2
        refine ⟨.agg ⟨us⟩, conc_agg d1 d2, fun w => ?_⟩
        have hb : P.built t ((ps.map fun (x : Nat × Operand) => (x.1, a.eval x.2)).toList) = some ⟨us⟩ := by
          simp only [Program.built, hi, hu, hv, places_eq hpl, hc, Array.toList_map]
          exact d3
        have := run_build w t _ _ hb
        simp [execOp, hop, this]
      · cases h
    · cases h
  · rename_i z k e hz hu
    split at h
    · rename_i sz hsz
      split at h
      · rename_i l hl
        injection h with h1 h2 h3
        subst h1 h2 h3
        refine ⟨rfl, rfl, fun s N a he hg => ?_⟩
        obtain ⟨i, v, vs, hi, hv, hc, _, hs⟩ := zeroC_run hz
        obtain ⟨c1, c2⟩ := hs s
        obtain ⟨us, d1, d2, d3⟩ := fillA_ok he hg (pA := fun i => some (Nat.mul i sz, sz)) (pM := fun i => some (i * sz, sz)) (fun i x hx => hx) hl c1 c2
        refine ⟨.agg ⟨us⟩, conc_agg d1 d2, fun w => ?_⟩
        have hie : ∃ ie, P.info? e = some ie ∧ ie.size = sz := by
          unfold sizeB at hsz
          split at hsz
          · rename_i ie hie; injection hsz with hsz; exact ⟨ie, hie, hsz⟩
          · cases hsz
        obtain ⟨ie, hie, hsz'⟩ := hie
        have hb : P.built t ((ps.map fun (x : Nat × Operand) => (x.1, a.eval x.2)).toList) = some ⟨us⟩ := by
          simp only [Program.built, hi, hu, hv, hie, hsz', hc, Array.toList_map]
          exact d3
        have := run_build w t _ _ hb
        simp [execOp, hop, this]
      · cases h
    · cases h
  · cases h
theorem times_conc {s : Sg} {z : List AV} {vs : List Value} (h : concL s z = some vs) (h1 : vs.all Value.oneCell' = true) : ∀ k, ∃ us, concL s (times z k) = some us ∧ us.all Value.oneCell' = true ∧ us = (List.replicate k vs).flatten
  | 0 => ⟨[], rfl, rfl, rfl⟩
  | k + 1 => by
    obtain ⟨us, u1, u2, u3⟩ := times_conc h h1 k
    exact ⟨vs ++ us, concL_append h u1, by simp only [List.all_append, h1, u2, Bool.and_self], by rw [u3, List.replicate_succ, List.flatten_cons]⟩
theorem range_mod (vs : List Value) (k : Nat) (hp : 0 < vs.length) : ((Array.range (k * vs.length)).map ((⟨vs⟩ : Array Value)[· % vs.length]!)) = ⟨(List.replicate k vs).flatten⟩ := by
  apply Array.ext'
  apply List.ext_getElem?
  intro i
  have e1 : ((Array.range (k * vs.length)).map ((⟨vs⟩ : Array Value)[· % vs.length]!)).toList[i]? = if i < k * vs.length then some ((vs[i % vs.length]?).getD default) else none := by
    rw [Array.getElem?_toList, Array.getElem?_map, Array.getElem?_range]
    split <;> simp [Array.getElem!_eq_getD]
  rw [e1]
  clear e1
  induction k generalizing i with
  | zero => simp
  | succ k ih =>
    rw [List.replicate_succ, List.flatten_cons]
    by_cases hi : i < vs.length
    · rw [List.getElem?_append_left hi, if_pos (by rw [Nat.succ_mul]; omega), Nat.mod_eq_of_lt hi]
      simp [List.getElem?_eq_getElem hi]
    · rw [List.getElem?_append_right (by omega), ← ih (i - vs.length)]
      have hm : i % vs.length = (i - vs.length) % vs.length := (Nat.mod_eq_sub_mod (by omega))
      rw [hm]
      by_cases h2 : i < (k + 1) * vs.length
      · rw [if_pos h2, if_pos (by rw [Nat.succ_mul] at h2; omega)]
      · rw [if_neg h2, if_neg (by rw [Nat.succ_mul] at h2; omega)]
theorem evBuildSlice_ok {o : Oper} {t : TypeId} {m : Nat} {ps : Array (Nat × Operand)} (hop : o.op = .buildSlice t m ps) {env : Env} {n n' : Nat} {H H' : Heap} {v : AV} (h : evBuildSlice P t m ps.toList env n H = .val v n' H') :
    ∃ A, n' = n + 1 ∧ H' = Q8.upd H n (some A) ∧ NewOk P o env n v A := by
  unfold evBuildSlice at h
  split at h
  · rename_i e hu
    split at h
    · rename_i z sz hz hsz
      split at h
      · rename_i l hb hl2 hl
        rw [newRowA_k] at h
        injection h with h1 h2 h3
        subst h1 h2 h3
        refine ⟨_, rfl, rfl, fun s N a w he hg hn => ?_⟩
        obtain ⟨i, v, vs, hi, hv, hc, hvl, hs⟩ := zeroC_run hz
        obtain ⟨c1, c2⟩ := hs s
        have hzl : vs.length = sz := by rw [hvl]; rw [natbeq] at hl2; have := of_decide_eq_true hl2; rwa [len_eq] at this
        have hsi := sizeB_info hsz hi
        obtain ⟨tm, t1, t2, t3⟩ := times_conc c1 c2 m
        obtain ⟨us, d1, d2, d3⟩ := fillA_ok he hg (pA := fun i => some (Nat.mul i sz, sz)) (pM := fun i => some (i * sz, sz)) (fun i x hx => hx) hl t1 t2
        have hle := Sg.set_le (b := w.heap.size) (c := 0) hn
        refine ⟨.slice (some ⟨w.heap.size, 0, none⟩) m m, .cells ⟨us⟩ e (0, 0), 0, w.alloc (.cells ⟨us⟩ e), ?_, rfl, rfl, rfl, rfl, sl_conc.2 ⟨_, Sg.set_blk .., by simp [Cap.fits], by simp [Cap.val]⟩, rowL (concL_le hle _ d1) d2⟩
        have hsmall : ¬ (2 ^ 24 < m * sz) := by have := Nat.ble_eq.mp hb; exact Nat.not_lt.2 this
        have hcells : (if m * sz = 0 then (⟨[]⟩ : Array Value) else ((Array.range (m * sz)).map (v.cells[· % v.cells.size]!))) = ⟨tm⟩ ∨ m * sz = 0 := by
          by_cases h0 : m * sz = 0
          · exact .inr h0
          · left
            rw [if_neg h0, hc, t3]
            have hp : 0 < vs.length := by rw [hzl]; rcases Nat.eq_zero_or_pos sz with e0 | e0; · rw [e0] at h0; simp at h0
                                          · exact e0
            rw [← hzl]
            exact range_mod vs m hp
        have d3' : Instr.fill (fun i => some (i * sz, sz)) ⟨tm⟩ (List.map (fun (x : Nat × Operand) => (x.1, a.eval x.2)) ps.toList) = some ⟨us⟩ := d3
        by_cases h0 : m * sz = 0
        · have htm : tm = [] := by
            have hl0 : tm.length = 0 := by
              rw [t3]; simp [hzl, h0]
            exact List.length_eq_zero_iff.1 hl0
          rw [htm] at d3'
          simp [execOp, hop, Instr.buildSlice, underlying_run hu, sizeB_run hsz, h0, d3', newRow, Array.range_zero']
        · have hcells := hcells.resolve_right h0
          rw [if_neg h0] at hcells
          simp [execOp, hop, Instr.buildSlice, underlying_run hu, sizeB_run hsz, hsmall, h0, zeroValue, typeInfo, hi, hv, hcells, d3', newRow]
      · cases h
    · cases h
  · cases h
end
end Go.Sy
namespace Go.Sy
open Go
section
variable {P : Program}
theorem evMakeMap_ok {o : Oper} {t : TypeId} {r : Option Operand} (hop : o.op = .makeMap t r) {env : Env} {n n' : Nat} {H H' : Heap} {v : AV} (h : evMakeMap P t r env n H = .val v n' H') :
    ∃ A, n' = n + 1 ∧ H' = Q8.upd H n (some A) ∧ NewOk P o env n v A := by
  unfold evMakeMap at h
  split at h
  · rw [Q8.set_k, frc_eq] at h
    injection h with h1 h2 h3
    subst h1 h2 h3
    refine ⟨_, rfl, rfl, fun s N a w he hg hn => ⟨.map (some w.heap.size), .map #[] 0, 0, w.alloc (.map #[] 0), ?_, rfl, rfl, rfl, rfl, by simp [AV.conc, Sg.set], rfl, trivial⟩⟩
    simp [execOp, hop, Instr.makeMap]
  · rename_i x
    split at h
    · rename_i k y kt e hx hu
      rw [Q8.set_k, frc_eq] at h
      injection h with h1 h2 h3
      subst h1 h2 h3
      refine ⟨_, rfl, rfl, fun s N a w he hg hn => ⟨.map (some w.heap.size), .map #[] 0, 0, w.alloc (.map #[] 0), ?_, rfl, rfl, rfl, rfl, by simp [AV.conc, Sg.set], rfl, trivial⟩⟩
      have ex := opd_conc he hg hx
      simp only [AV.conc, Option.some.injEq] at ex
      simp [execOp, hop, Instr.makeMap, underlying_run hu, ← ex, asInt, asIntOf]
    · cases h
theorem evMakeSlice_ok {o : Oper} {t : TypeId} {x y : Operand} (hop : o.op = .makeSlice t x y) {env : Env} {n n' : Nat} {H H' : Heap} {v : AV} (h : evMakeSlice P t x y env n H = .val v n' H') :
    ∃ A, n' = n + 1 ∧ H' = Q8.upd H n (some A) ∧ NewOk P o env n v A := by
  unfold evMakeSlice at h
  split at h
  · rename_i k1 l k2 c e hx hy hu
    split at h
    · rename_i z sz by_ hz hsz hby
      split at h
      · rename_i hb
        rw [frc_eq, Q8.set_k, frc_eq] at h
        injection h with h1 h2 h3
        subst h1 h2 h3
        simp only [Bool.and_eq_true] at hb
        obtain ⟨⟨⟨b1, b2⟩, b3⟩, b4⟩ := hb
        have b1 := Nat.ble_eq.mp b1
        have b2 : by_ * c ≤ 2 ^ 48 := Nat.ble_eq.mp b2
        have b3 : c ≤ 2 ^ 48 := Nat.ble_eq.mp b3
        refine ⟨_, rfl, rfl, fun s N a w he hg hn => ?_⟩
        obtain ⟨i, v, vs, hi, hv, hc, hvl, hs⟩ := zeroC_run hz
        obtain ⟨c1, c2⟩ := hs (s.set n w.heap.size 0)
        have hsi := sizeB_info hsz hi
        obtain ⟨i', hi', hbi⟩ := bytesB_run hby
        rw [hi] at hi'; injection hi' with hi'; subst hi'
        have ex := opd_conc he hg hx
        have ey := opd_conc he hg hy
        simp only [AV.conc, Option.some.injEq] at ex ey
        have hbz : (i.bytes : Int) * ((Int.ofNat c : Int)) ≤ 281474976710656 := by
          rw [hbi]
          have : ((by_ * c : Nat) : Int) ≤ ((2 ^ 48 : Nat) : Int) := Int.ofNat_le.2 b2
          simpa using this
        have hm := run_make (P := P) w t e i v hu hi hv k1 k2 (Int.ofNat l) (Int.ofNat c) (Int.natCast_nonneg l) (Int.ofNat_le.2 b1) hbz (by
          have : ((c : Nat) : Int) ≤ ((2 ^ 48 : Nat) : Int) := Int.ofNat_le.2 b3
          have h2 : ((2 ^ 48 : Nat) : Int) ≤ 9223372036854775807 := by decide
          exact Int.le_trans this h2)
        refine ⟨.slice (some ⟨w.heap.size, 0, none⟩) l c, .cells (madeCells ⟨vs⟩ (c * sz)) e (0, 0), 0, w.alloc (.cells (madeCells ⟨vs⟩ (c * sz)) e), ?_, rfl, rfl, rfl, rfl, sl_conc.2 ⟨_, Sg.set_blk .., by simp [Cap.fits, b1], by simp [Cap.val]⟩, rowZ c1 c2 _⟩
        have e1 : (Int.ofNat c).toNat = c := rfl
        have e2 : (Int.ofNat l).toNat = l := rfl
        rw [e1, e2, hsi, hc] at hm
        simp only [execOp, hop, ← ex, ← ey, Sem.run_bind, hm, Result.andThen_ok, Sem.run_pure]
      · cases h
    · cases h
  · cases h
theorem bnd_spec {s : Sg} {N : Nat} {a : Act} {env : Env} (he : EnvR s env N a.tmps) (hg : s.glob) {x : Option Operand} {d l : Nat} (h : bnd env x d = some l) : (x = none ∧ l = d) ∨ ∃ op k, x = some op ∧ a.eval op = .int k (Int.ofNat l) := by
  unfold bnd at h
  split at h
  · injection h with h; exact .inl ⟨rfl, h.symm⟩
  · rename_i op
    split at h
    · rename_i k i hx
      injection h with h; subst h
      have ex := opd_conc he hg hx
      simp only [AV.conc, Option.some.injEq] at ex
      exact .inr ⟨op, k, rfl, ex.symm⟩
    · cases h
theorem bounds_run {s : Sg} {N : Nat} {a : Act} {env : Env} (he : EnvR s env N a.tmps) (hg : s.glob) {lo hi : Option Operand} {m cap l h : Nat} (isS : Bool) (hl : bnd env lo 0 = some l) (hh : bnd env hi m = some h) (h1 : l ≤ h) (h2 : h ≤ cap) (w : World) :
    (Instr.sliceBounds isS m cap (lo.map a.eval) (hi.map a.eval) none).run P w = .ok (l, h, cap) w := by
  rcases bnd_spec he hg hl with ⟨rfl, rfl⟩ | ⟨lo', k, rfl, el⟩ <;> rcases bnd_spec he hg hh with ⟨rfl, rfl⟩ | ⟨hi', k', rfl, eh⟩
  · simp [Instr.sliceBounds]
  · simp [Instr.sliceBounds, Instr.sliceBound, asIntOf, eh, h2]
  · simp [Instr.sliceBounds, Instr.sliceBound, asIntOf, el, h1]
  · simp [Instr.sliceBounds, Instr.sliceBound, asIntOf, el, eh, h1, h2]
theorem evSlice_ok {o : Oper} {t : TypeId} {x : Operand} {lo hi mx : Option Operand} (hop : o.op = .slice t x lo hi mx) {env : Env} {n n' : Nat} {H H' : Heap} {v : AV} (h : evSlice P o t x lo hi mx env n H = .val v n' H') : n' = n ∧ H' = H ∧ PureOk P o env v := by
  unfold evSlice at h
  split at h
  · rename_i y b m c e hx hu
    split at h
    · rename_i sz l hh hsz hl hhi
      split at h
      · cases h
      · rename_i hlh
        have hlh := Nat.ble_eq.mp hlh
        have key : ∀ {s : Sg} {N : Nat} {a : Act}, EnvR s env N a.tmps → s.glob → ∀ B, a.eval x = .slice (some ⟨B, b, none⟩) m (c.val s y) → hh ≤ c.val s y → ∀ (q : Nat), (c.val s y = l → q = b) → (c.val s y ≠ l → q = b + l * sz) → ∀ w,
            (execOp a.eval o).run P w = .ok (.value (.slice (some ⟨B, q, none⟩) (hh - l) (c.val s y - l))) w := by
          intro s N a he hg B ex hk q q1 q2 w
          have hb := bounds_run (P := P) (m := m) (cap := c.val s y) he hg true hl hhi hlh hk w
          have e0 : (execOp a.eval o).run P w = .ok (.value (.slice (if c.val s y = l then some ⟨B, b, none⟩ else (some (⟨B, b, none⟩ : Addr)).map (·.add (l * sz))) (hh - l) (c.val s y - l))) w := by
            simp [execOp, hop, Instr.sliceAt, underlying_run hu, ex, Instr.slice, hb, sizeB_run hsz]
          rw [e0]
          by_cases hk : c.val s y = l
          · simp [hk, q1 hk]
          · simp [hk, add_addr, q2 hk]
        split at h
        · rename_i k
          split at h
          · rename_i hhk
            have hhk := Nat.ble_eq.mp hhk
            simp only [frc_eq] at h
            injection h with h1 h2 h3
            subst h1 h2 h3
            refine ⟨rfl, rfl, fun s N a he hg => ?_⟩
            obtain ⟨B, hB, hf, ex⟩ := sl_conc.1 (opd_conc he hg hx)
            refine ⟨_, sl_conc.2 ⟨B, hB, ?_, rfl⟩, fun w => ?_⟩
            · simp only [Cap.fits, decide_eq_true_eq]
              show hh - l ≤ k - l
              omega
            rw [bsel, natbeq]
            by_cases hk : k = l
            · rw [key he hg B ex hhk b (fun _ => rfl) (fun h => absurd hk h) w]; simp [hk, Cap.val]
            · rw [key he hg B ex hhk (b + l * sz) (fun h => absurd h hk) (fun _ => rfl) w]; simp [hk, Cap.val]
          · cases h
        · rename_i u
          split at h
          · rename_i hc
            simp only [Bool.and_eq_true, Bool.or_eq_true] at hc
            obtain ⟨hm1, hm2⟩ := hc
            have hm1 := Nat.ble_eq.mp hm1
            simp only [frc_eq] at h
            injection h with h1 h2 h3
            subst h1 h2 h3
            refine ⟨rfl, rfl, fun s N a he hg => ?_⟩
            obtain ⟨B, hB, hf, ex⟩ := sl_conc.1 (opd_conc he hg hx)
            simp only [Cap.fits, decide_eq_true_eq] at hf
            refine ⟨_, sl_conc.2 ⟨B, hB, ?_, rfl⟩, fun w => ?_⟩
            · simp only [Cap.fits, decide_eq_true_eq]
              show u + l + (hh - l) ≤ s.cap y
              omega
            have hq : s.cap y - u = l → b + l * sz = b := fun hk => by
              rcases hm2 with hm2 | hm2
              · have : l < m := Nat.ble_eq.mp hm2
                omega
              · rw [natbeq] at hm2
                have : l = 0 := of_decide_eq_true hm2
                subst this; simp
            rw [key he hg B ex (by simp only [Cap.val]; omega) (b + l * sz) hq (fun _ => rfl) w]
            simp only [Cap.val]
            show _ = Result.ok (Next.value (Value.slice (some ⟨B, b + l * sz, none⟩) (hh - l) (s.cap y - (u + l)))) w
            rw [show s.cap y - u - l = s.cap y - (u + l) by omega]
          · split at h
            · rename_i hc
              simp only [Bool.and_eq_true, natbeq, decide_eq_true_eq] at hc
              obtain ⟨rfl, rfl⟩ := hc
              simp only [frc_eq] at h
              injection h with h1 h2 h3
              subst h1 h2 h3
              refine ⟨rfl, rfl, fun s N a he hg => ?_⟩
              obtain ⟨B, hB, hf, ex⟩ := sl_conc.1 (opd_conc he hg hx)
              simp only [Cap.fits, decide_eq_true_eq] at hf
              refine ⟨_, se_conc.2 ⟨B, hB, ?_, rfl⟩, fun w => ?_⟩
              · show u + l ≤ s.cap y; exact hf
              by_cases hk : s.cap y = u + l
              · rw [key he hg B ex (by simp only [Cap.val]; omega) b (fun _ => rfl) (fun h => absurd (show s.cap y - u = l by omega) h) w]
                simp only [Cap.val]
                show _ = Result.ok (Next.value (Value.slice (some ⟨B, if s.cap y = u + l then b else b + l * sz, none⟩) 0 (s.cap y - (u + l)))) w
                rw [if_pos hk, show s.cap y - u - l = s.cap y - (u + l) by omega, Nat.sub_self]
              · rw [key he hg B ex (by simp only [Cap.val]; omega) (b + l * sz) (fun h => absurd (show s.cap y = u + l by simp only [Cap.val] at h; omega) hk) (fun _ => rfl) w]
                simp only [Cap.val]
                show _ = Result.ok (Next.value (Value.slice (some ⟨B, if s.cap y = u + l then b else b + l * sz, none⟩) 0 (s.cap y - (u + l)))) w
                rw [if_neg hk, show s.cap y - u - l = s.cap y - (u + l) by omega, Nat.sub_self]
            · cases h
    · cases h
  · rename_i y b d u e hx hu
    split at h
    · rename_i sz hl hhi hsz
      injection h with h1 h2 h3
      subst h1 h2 h3
      refine ⟨rfl, rfl, fun s N a he hg => ?_⟩
      have ex' := opd_conc he hg hx
      obtain ⟨B, hB, hf, ex⟩ := se_conc.1 ex'
      refine ⟨_, ex', fun w => ?_⟩
      have hb := bounds_run (P := P) (m := 0) (cap := s.cap y - u) he hg true hl hhi (Nat.le_refl 0) (Nat.zero_le _) w
      have e0 : (execOp a.eval o).run P w = .ok (.value (.slice (if s.cap y - u = 0 then some ⟨B, if s.cap y = u then b else b + d, none⟩ else (some (⟨B, if s.cap y = u then b else b + d, none⟩ : Addr)).map (·.add (0 * sz))) (0 - 0) (s.cap y - u - 0))) w := by
        simp [execOp, hop, Instr.sliceAt, underlying_run hu, ex, Instr.slice, hb, sizeB_run hsz]
      rw [e0, ex]
      simp [add_addr]
    · cases h
  · rename_i y b m e hx hu
    split at h
    · rename_i sz l hh hsz hl hhi
      split at h
      · rename_i hc
        simp only [Bool.and_eq_true] at hc
        obtain ⟨hlh, hhm⟩ := hc
        have hlh := Nat.ble_eq.mp hlh
        have hhm := Nat.ble_eq.mp hhm
        simp only [frc_eq] at h
        injection h with h1 h2 h3
        subst h1 h2 h3
        refine ⟨rfl, rfl, fun s N a he hg => ?_⟩
        have ex := opd_conc he hg hx
        simp only [AV.conc, Option.map_eq_some_iff] at ex
        obtain ⟨B, hB, ex⟩ := ex
        refine ⟨_, sl_conc.2 ⟨B, hB, ?_, rfl⟩, fun w => ?_⟩
        · simp only [Cap.fits, decide_eq_true_eq]
          show hh - l ≤ m - l
          omega
        have hb := bounds_run (P := P) he hg false hl hhi hlh hhm w
        rw [bsel, natbeq]
        have e0 : (execOp a.eval o).run P w = .ok (.value (.slice (some (if m = l then ⟨B, b, none⟩ else (⟨B, b, none⟩ : Addr).add (l * sz))) (hh - l) (m - l))) w := by
          simp [execOp, hop, Instr.sliceAt, underlying_run hu, ← ex, Instr.sureAddr, hb, sizeB_run hsz]
        rw [e0]
        simp only [Cap.val, decide_eq_true_eq]
        by_cases hk : m = l
        · simp only [hk, if_true]; rfl
        · simp only [hk, if_false, add_addr]; rfl
      · cases h
    · cases h
  · exact evGround_ok (fun cs b => by rw [hop]; simp) h
end
end Go.Sy
