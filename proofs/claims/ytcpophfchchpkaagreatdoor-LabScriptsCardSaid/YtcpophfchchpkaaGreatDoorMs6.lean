/- SymOI, SymP, SymQ, SymR, SymS -/
import Derived.Test.YtcpophfchchpkaaGreatDoorMs5
import Derived.RangeFuncLeaves
import Derived.RangeFuncCalls
import Derived.RangeFuncRecord
namespace Go.Sy
open Go
section
variable {P : Program}
theorem range_new {o : Oper} {t : TypeId} {x : Operand} (hop : o.op = .range t x) {a : Act} {w : World} {ob : Obj} (h : (Instr.range t (a.eval x)).run P w = .ok (.pointer (some ⟨w.heap.size, 0, none⟩)) (w.alloc ob)) :
    (execOp a.eval o).run P w = .ok (.value (.pointer (some ⟨w.heap.size, 0, none⟩))) (w.alloc ob) := by
  simp [execOp, hop, h]
theorem evMapRange_ok {o : Oper} {t : TypeId} {x : Operand} (hop : o.op = .range t x) {env : Env} {n n' : Nat} {H H' : Heap} {v : AV} (h : evMapRange P t x env n H = .val v n' H') : OpOk P o env n H v n' H' := by
  unfold evMapRange at h
  split at h
  · rename_i kt e hx hu
    rw [Q8.set_k, frc_eq] at h
    injection h with h1 h2 h3
    subst h1 h2 h3
    refine ⟨Nat.le_succ _, fun s N a w he hr hf hl => ?_⟩
    have h0 := hf n (Nat.le_refl _) (Nat.lt_succ_self _)
    have ex := opd_conc he hr.glob hx
    simp only [AV.conc, Option.some.injEq] at ex
    obtain ⟨r1, r2⟩ := hr.alloc (n := n) (Nat.lt_of_lt_of_le (Nat.lt_succ_self _) hl) h0 (A := .iter none 0 [] 0) (o := .mapIter none 0 #[] 0) 0 ⟨rfl, rfl, rfl⟩
    refine ⟨_, _, _, .inl (range_new hop (ob := .mapIter none 0 #[] 0) ?_), by simp [AV.conc, Sg.set], r1, r2⟩
    simp [Instr.range, underlying_run hu, ← ex]
  · rename_i y kt e hx hu
    split at h
    · rename_i es cl hH
      rw [Q8.set_k, frc_eq] at h
      injection h with h1 h2 h3
      subst h1 h2 h3
      refine ⟨Nat.le_succ _, fun s N a w he hr hf hl => ?_⟩
      have h0 := hf n (Nat.le_refl _) (Nat.lt_succ_self _)
      obtain ⟨B, fs, hB, e1, e2, e3⟩ := map_at he hr hx hH
      have hne : y ≠ n := fun e => by rw [e, h0] at hB; cases hB
      obtain ⟨r1, r2⟩ := hr.alloc (n := n) (Nat.lt_of_lt_of_le (Nat.lt_succ_self _) hl) h0 (A := .iter (some y) cl [] cl) (o := .mapIter (some B) cl #[] cl) 0 ⟨by simp [Sg.set, hne, hB], rfl, rfl, rfl⟩
      refine ⟨_, _, _, .inl (range_new hop (ob := .mapIter (some B) cl #[] cl) ?_), by simp [AV.conc, Sg.set], r1, r2⟩
      simp [Instr.range, underlying_run hu, e1, getObj_map (P := P) e2]
    · cases h
  · cases h
theorem iter_at {s : Sg} {N : Nat} {a : Act} {env : Env} {H : Heap} {w : World} (he : EnvR s env N a.tmps) (hr : Rel P s H w) {x : Operand} {y : Nat} (hx : opd env x = some (.p y 0)) {A : Blk} (hH : Q8.get H y = some A) :
    ∃ b ob, s.blk y = some b ∧ a.eval x = .pointer (some ⟨b, 0, none⟩) ∧ w.heap[b]? = some ob ∧ BlkR P s y A ob := by
  have ex := opd_conc he hr.glob hx
  simp only [AV.conc, Option.map_eq_some_iff] at ex
  obtain ⟨b, hb, ex⟩ := ex
  obtain ⟨b', ob, h1, h2, h3⟩ := hr.blk y _ (hr.lim y b hb) hH
  rw [hb] at h1; injection h1 with h1; subst h1
  exact ⟨b, ob, hb, ex.symm, h2, h3⟩
theorem memN_eq (b : Nat) (l : List Nat) : memN b l = l.contains b := by
  induction l with
  | nil => rfl
  | cons a l ih =>
    show (match Nat.beq a b with | true => true | false => memN b l) = _
    rw [ih, List.contains_cons, natbeq]
    by_cases h : a = b
    · subst h; simp
    · have : ¬ b = a := fun e => h e.symm
      simp [h, this]
theorem leftL_rel {s : Sg} {seen : List Nat} : ∀ {es : List (AV × AV × Nat)} {fs : List MapEntry}, All2 (MapR s) es fs → All2 (MapR s) (leftL seen es) (fs.filter fun e => !seen.contains e.born)
  | [], [], _ => trivial
  | e :: es, f :: fs, ⟨h1, h2⟩ => by
    have ih := leftL_rel (seen := seen) h2
    have hb := h1.2.2
    show All2 (MapR s) (match memN e.2.2 seen with | true => leftL seen es | false => e :: leftL seen es) _
    rw [List.filter_cons, hb, memN_eq]
    cases hc : seen.contains e.2.2 with
    | true => simpa using ih
    | false => simp only [Bool.not_false, if_true]; exact ⟨h1, ih⟩
theorem allGe_eq {s : Sg} {last : Nat} : ∀ {es : List (AV × AV × Nat)} {fs : List MapEntry}, All2 (MapR s) es fs → allGe last es = fs.all (fun e => decide (e.born ≥ last))
  | [], [], _ => rfl
  | e :: es, f :: fs, ⟨h1, h2⟩ => by
    have ih := allGe_eq (last := last) h2
    show (match Nat.ble last e.2.2 with | true => allGe last es | false => false) = _
    rw [List.all_cons, h1.2.2, ih]
    cases hc : Nat.ble last e.2.2 with
    | true => simp [Nat.le_of_ble_eq_true hc]
    | false =>
      have : ¬ last ≤ e.2.2 := fun h => by rw [Nat.ble_eq_true_of_le h] at hc; cases hc
      simp [this]
theorem staleB_eq {s : Sg} {seen : List Nat} {last : Nat} {es : List (AV × AV × Nat)} {fs : List MapEntry} (h : All2 (MapR s) es fs) : staleB seen es last = (!seen.isEmpty && !fs.isEmpty && fs.all (fun e => decide (e.born ≥ last))) := by
  unfold staleB
  split
  · rfl
  · cases fs with
    | nil => simp
    | cons => exact h.elim
  · rw [allGe_eq h]
    cases fs with
    | nil => exact h.elim
    | cons => simp
theorem getB_ok {s : Sg} {b : Nat} {e : AV × AV × Nat} : ∀ {es : List (AV × AV × Nat)} {fs : List MapEntry}, All2 (MapR s) es fs → getB b es = some e → ∃ f, fs.find? (fun x => x.born == b) = some f ∧ MapR s e f
  | [], [], _, h => by cases h
  | x :: es, f :: fs, ⟨h1, h2⟩, h => by
    have h : (match Nat.beq x.2.2 b with | true => some x | false => getB b es) = some e := h
    rw [List.find?_cons, h1.2.2]
    cases hc : Nat.beq x.2.2 b with
    | true =>
      rw [hc] at h
      injection h with h; subst h
      have := Nat.eq_of_beq_eq_true hc
      exact ⟨f, by simp [this], h1⟩
    | false =>
      rw [hc] at h
      have : ¬ x.2.2 = b := fun e => by rw [natbeq] at hc; simp [e] at hc
      obtain ⟨f', h3, h4⟩ := getB_ok h2 h
      have hbq : (x.2.2 == b) = false := by simpa using this
      exact ⟨f', by rw [hbq]; exact h3, h4⟩
theorem next_exec {o : Oper} {it : Operand} {st : Bool} (hop : o.op = .next it st) {a : Act} {w w' : World} {V : Value} (h : (Instr.next (a.eval it) st o.type).run P w = .ok V w') : (execOp a.eval o).run P w = .ok (.value V) w' := by
  simp [execOp, hop, h]
theorem getObj_iter {w : World} {b : Nat} {m : Option Nat} {q : Array Nat} {x l : Nat} (h : w.heap[b]? = some (.mapIter m x q l)) : (getObj b).run P w = .ok (.mapIter m x q l) w := by simp [getObj, Sem.run, h]
theorem setObj_iter {w : World} {b : Nat} {m : Option Nat} {q : Array Nat} {x l : Nat} (ob : Obj) (h : w.heap[b]? = some (.mapIter m x q l)) : (setObj b ob).run P w = .ok () { w with heap := w.heap.setIfInBounds b ob } := by simp [setObj, Sem.run, h]
theorem all2_nil {α β : Type} {R : α → β → Prop} {l : List β} (h : All2 R [] l) : l = [] := by cases l with | nil => rfl | cons => exact h.elim
theorem all2_one {α β : Type} {R : α → β → Prop} {a : α} {l : List β} (h : All2 R [a] l) : ∃ b, l = [b] ∧ R a b := by
  match l, h with
  | [b], h => exact ⟨b, rfl, h.1⟩
theorem choose1 (w : World) : (choose (.mapNext 1)).run P w = .ok 0 w := by simp [choose, Sem.run, Question.forced]
theorem evMapNext_ok {o : Oper} {it : Operand} {st : Bool} (hop : o.op = .next it st) {env : Env} {n n' : Nat} {H H' : Heap} {v : AV} (h : evMapNext it st env n H = .val v n' H') : OpOk P o env n H v n' H' := by
  unfold evMapNext at h
  split at h
  · rename_i y hx
    split at h
    · rename_i s1 s2 s3 hH
      injection h with h1 h2 h3
      subst h1 h2 h3
      refine ⟨Nat.le_refl _, fun s N a w he hr _ _ => ?_⟩
      obtain ⟨b, ob, hb, e1, e2, e3⟩ := iter_at he hr hx hH
      cases ob with
      | mapIter m x q l =>
        cases m with
        | none =>
          refine ⟨.tuple #[.bool false], s, w, .inl (next_exec hop ?_), by simp [AV.conc, concL], hr, Step.refl ..⟩
          simp [Instr.next, e1, getObj_iter (P := P) e2]
        | some b' => exact e3.elim
      | _ => exact e3.elim
    · rename_i z since seen last hH
      split at h
      · rename_i es cl hZ
        split at h
        · rename_i hst hleft
          injection h with h1 h2 h3
          subst h1 h2 h3
          refine ⟨Nat.le_refl _, fun s N a w he hr _ _ => ?_⟩
          obtain ⟨b, ob, hb, e1, e2, e3⟩ := iter_at he hr hx hH
          cases ob with
          | mapIter m x q l =>
            cases m with
            | none => exact e3.elim
            | some b' =>
              obtain ⟨k1, rfl, k3, rfl⟩ := e3
              obtain ⟨b2, ob2, g1, g2, g3⟩ := hr.blk z _ (hr.lim z b' k1) hZ
              rw [k1] at g1; injection g1 with g1; subst g1
              cases ob2 with
              | map fs cl' =>
                obtain ⟨rfl, g3⟩ := g3
                refine ⟨_, s, w, .inl (next_exec hop (V := .tuple #[.bool false]) ?_), by simp [AV.conc, concL], hr, Step.refl ..⟩
                have hl := leftL_rel (seen := seen) g3
                rw [hleft] at hl
                have hl := all2_nil hl
                have hs := staleB_eq (seen := seen) (last := l) g3
                rw [hst] at hs
                have hf : (fs.filter fun e => !q.contains e.born) = #[] := by
                  apply Array.toList_inj.1
                  rw [Array.toList_filter, ← hl, ← k3]
                  simp
                have hs' : (!q.isEmpty && !fs.isEmpty && fs.all (fun x => decide (x.born ≥ l))) = false := by
                  rw [hs, ← k3]; simp
                rw [e1]
                simp only [Instr.next, Sem.run_bind, getObj_iter (P := P) e2, getObj_map (P := P) g2, Result.andThen_ok, hs', hf, Bool.false_eq_true, if_false]
                simp [choose, Sem.run, Question.forced]
              | _ => exact g3.elim
          | _ => exact e3.elim
        · rename_i e hst hleft
          split at h
          · rename_i hlt
            have hlt : e.2.2 < since := Nat.le_of_ble_eq_true hlt
            rw [frcL_eq, Q8.set_k] at h
            injection h with h1 h2 h3
            subst h1 h2 h3
            refine ⟨Nat.le_refl _, fun s N a w he hr _ _ => ?_⟩
            obtain ⟨b, ob, hb, e1, e2, e3⟩ := iter_at he hr hx hH
            cases ob with
            | mapIter m x q l =>
              cases m with
              | none => exact e3.elim
              | some b' =>
                obtain ⟨k1, rfl, k3, rfl⟩ := e3
                obtain ⟨b2, ob2, g1, g2, g3⟩ := hr.blk z _ (hr.lim z b' k1) hZ
                rw [k1] at g1; injection g1 with g1; subst g1
                cases ob2 with
                | map fs cl' =>
                  obtain ⟨rfl, g3⟩ := g3
                  have hl := leftL_rel (seen := seen) g3
                  rw [hleft] at hl
                  obtain ⟨f, hl, hm⟩ := all2_one hl
                  have hs := staleB_eq (seen := seen) (last := l) g3
                  rw [hst] at hs
                  have hf : (fs.filter fun e => !q.contains e.born) = #[f] := by
                    apply Array.toList_inj.1
                    rw [Array.toList_filter]
                    show _ = [f]
                    rw [← hl, ← k3]
                    simp
                  have hs' : (!q.isEmpty && !fs.isEmpty && fs.all (fun x => decide (x.born ≥ l))) = false := by
                    rw [hs, ← k3]; simp
                  have hfb : f.born < x := by rw [hm.2.2]; exact hlt
                  obtain ⟨r1, r2⟩ := hr.write n (hr.lim y b hb) hH hb (w' := { w with heap := w.heap.setIfInBounds b (.mapIter (some b') x (q.push f.born) cl') }) (o := .mapIter (some b') x (q.push f.born) cl')
                    (A' := .iter (some z) x (seen ++ [e.2.2]) cl') (by simp) (by
                      have := (Array.getElem?_eq_some_iff.1 e2).1
                      simp [this]) ⟨k1, rfl, by simp [k3, hm.2.2], rfl⟩ (fun c hc => by simp [Ne.symm hc]) rfl rfl rfl
                  refine ⟨.tuple #[.bool true, f.key, f.val], s, _, .inl (next_exec hop ?_), by simp [AV.conc, concL, hm.1, hm.2.1], r1, r2⟩
                  rw [e1]
                  have o1 : (#[f].filter fun e => decide (e.born < x)) = #[f] := by simp [hfb]
                  have o2 : (#[f].filter fun e => decide (e.born ≥ x)) = #[] := by simp; omega
                  simp only [Instr.next, Sem.run_bind, getObj_iter (P := P) e2, getObj_map (P := P) g2, Result.andThen_ok, hs', hf, Bool.false_eq_true, if_false, o1, o2]
                  simp [choose, Sem.run, Question.forced, setObj, e2]
                | _ => exact g3.elim
            | _ => exact e3.elim
          · cases h
        · cases h
      · cases h
    · cases h
  · cases h
theorem evItEntry_ok {o : Oper} {it : Operand} (hop : o.op = .entry it) {env : Env} {n n' : Nat} {H H' : Heap} {v : AV} (h : evItEntry it env n H = .val v n' H') : OpOk P o env n H v n' H' := by
  unfold evItEntry at h
  split at h
  · rename_i y hx
    split at h
    · rename_i z since seen last hH
      split at h
      · rename_i bo es cl hlast hZ
        split at h
        · rename_i e hcl hg
          injection h with h1 h2 h3
          subst h1 h2 h3
          have hcl := Nat.eq_of_beq_eq_true hcl
          refine ⟨Nat.le_refl _, fun s N a w he hr _ _ => ?_⟩
          obtain ⟨b, ob, hb, e1, e2, e3⟩ := iter_at he hr hx hH
          cases ob with
          | mapIter m x q l =>
            cases m with
            | none => exact e3.elim
            | some b' =>
              obtain ⟨k1, rfl, k3, rfl⟩ := e3
              obtain ⟨b2, ob2, g1, g2, g3⟩ := hr.blk z _ (hr.lim z b' k1) hZ
              rw [k1] at g1; injection g1 with g1; subst g1
              cases ob2 with
              | map fs cl' =>
                obtain ⟨rfl, g3⟩ := g3
                obtain ⟨f, hf, hm⟩ := getB_ok g3 hg
                have hbk : q.back? = some bo := by
                  rw [← k3] at hlast
                  simpa using hlast
                have hfd : fs.find? (fun x => x.born == bo) = some f := by
                  rw [← Array.find?_toList]; exact hf
                refine ⟨.tuple #[f.key, f.val], s, w, .inl ?_, by simp [AV.conc, concL, hm.1, hm.2.1], hr, Step.refl ..⟩
                simp [execOp, hop, Instr.entry, e1, getObj_iter (P := P) e2, getObj_map (P := P) g2, hbk, hcl, hfd]
              | _ => exact g3.elim
          | _ => exact e3.elim
        · cases h
      · cases h
    · cases h
  · cases h
end
end Go.Sy
namespace Go.Sy
open Go
section
variable {P : Program}
theorem vo_val {r : OR} {v : AV} {n : Nat} {H : Heap} (h : vo r = .val v n H) : r = .val v n H := by
  cases r <;> first | exact h | cases h
theorem vo_call {r : OR} {f : FuncId} {l : List AV} : vo r ≠ .call f l := by cases r <;> intro h <;> cases h
theorem vo_yld {r : OR} {f : Nat} {l : List AV} : vo r ≠ .yld f l := by cases r <;> intro h <;> cases h
theorem vo_dfr {r : OR} {f : FuncId} {l : List AV} : vo r ≠ .dfr f l := by cases r <;> intro h <;> cases h
theorem evCap_ok {o : Oper} {c : Call} (hop : o.op = .call c) (hc : c.callee = .builtin .cap) {env : Env} {n n' : Nat} {H H' : Heap} {v : AV} (h : evCap P c.argTypes.toList c.args.toList env n H = .val v n' H') : n' = n ∧ H' = H ∧ PureOk P o env v := by
  unfold evCap at h
  split at h
  · rename_i t ts x r hts has
    have key : ∀ {s : Sg} {N : Nat} {a : Act} (k : Nat) (b : Option Addr) (m : Nat), a.eval x = .slice b m k → ∀ e, P.underlying t = some (.slice e) → ∀ w, (execOp a.eval o).run P w = .ok (.value (.int .i64 (.ofNat k))) w := fun {s N a} k b m ha e he w => by
      rw [exec_builtin hop hc]
      have h0 := arr0 hts
      have h1 : (c.args.map a.eval)[0]? = some (a.eval x) := by rw [Array.getElem?_map, arr0 has]; rfl
      simp [builtin, Builtin.cap_, h0, h1, underlying_run he, ha, goInt]
    split at h
    · rename_i e y q m k hu hx
      injection h with h1 h2 h3
      subst h1 h2 h3
      refine ⟨rfl, rfl, fun s N a he hg => ⟨_, rfl, ?_⟩⟩
      obtain ⟨B, hB, hf, ed⟩ := sl_conc.1 (opd_conc he hg hx)
      exact key (s := s) (N := N) k _ m ed e hu
    · rename_i e hu hx
      injection h with h1 h2 h3
      subst h1 h2 h3
      refine ⟨rfl, rfl, fun s N a he hg => ⟨_, rfl, ?_⟩⟩
      have ed := opd_conc he hg hx
      simp only [AV.conc, Option.some.injEq] at ed
      exact key (s := s) (N := N) 0 _ 0 ed.symm e hu
    · cases h
  · cases h
def kindCall (P : Program) (b : Builtin) (ats : List TypeId) : K := match b with
  | .max | .min | .cap => .pure
  | .len => (match ats with | t :: _ => (match P.underlying t with | some (.map _ _) => .read | some _ => .pure | none => .chain) | [] => .chain)
  | _ => .chain
theorem kindOf_call {c : Call} {b : Builtin} (hc : c.callee = .builtin b) : kindOf P (.call c) = kindCall P b c.argTypes.toList := by
  obtain ⟨callee, args, ats⟩ := c
  simp only at hc
  subst hc
  cases b <;> rfl
theorem evOp_ok {o : Oper} {env : Env} {n n' : Nat} {H H' : Heap} {v : AV} (h : evOp o.op P o env n H = .val v n' H') : KOk P (kindOf P o.op) o env n H v n' H' := by
  rw [evOp_eq] at h
  cases hop : o.op <;> rw [hop] at h
  case move x => exact .ofPure (evMove_ok (.inl hop) (vo_val h))
  case assign x => exact .ofPure (evMove_ok (.inr hop) (vo_val h))
  case pick c x y => exact .ofPure (evPick_ok hop (vo_val h))
  case alloc t => exact .inr (evAlloc_ok hop (vo_val h))
  case box t x => exact .inr (evBox_ok hop (vo_val h))
  case build t ps => exact .ofPure (evBuild_ok hop (vo_val h))
  case buildSlice t m ps => exact .inr (evBuildSlice_ok hop (vo_val h))
  case load t a => exact evLoad_ok hop (vo_val h)
  case store t a x => exact evStore_ok hop (vo_val h)
  case nilCheck x => exact .ofPure (evNilCheck_ok hop (vo_val h))
  case binOp op t x y yt =>
    obtain ⟨h1, h2, h3, h4⟩ := evBin_ok hop (vo_val h)
    subst h1 h2
    simp only [kindOf]
    split
    · split
      · exact ⟨rfl, rfl, h3⟩
      · rename_i d hnp hd
        exact ⟨rfl, rfl, h4 (.inr fun e he => by rw [hd] at he; injection he with he; exact hnp e he)⟩
      · exact h3.op
    · split
      · exact ⟨rfl, rfl, h3⟩
      · rename_i d hnp hd
        exact ⟨rfl, rfl, h4 (.inr fun e he => by rw [hd] at he; injection he with he; exact hnp e he)⟩
      · exact h3.op
    · rename_i e1 e2
      exact ⟨rfl, rfl, h4 (.inl ⟨e1, e2⟩)⟩
  case unOp op t x => exact .ofPure (evGround_ok (fun cs b => by rw [hop]; simp) (vo_val h))
  case convert s d x => rw [← hop]; exact evConvert_ok hop (vo_val h)
  case makeInterface t x => exact .ofPure (evMakeInterface_ok hop (vo_val h))
  case makeFunc f fi ca => exact .ofPure (evMakeFunc_ok hop (vo_val h))
  case makeMap t r => exact .inr (evMakeMap_ok hop (vo_val h))
  case makeSlice t l c => exact .inr (evMakeSlice_ok hop (vo_val h))
  case slice t x lo hi mx => exact .ofPure (evSlice_ok hop (vo_val h))
  case fieldAddr s x f => exact .ofPure (evFieldAddr_ok hop (vo_val h))
  case field t x f => exact .ofPure (evField_ok hop (vo_val h))
  case indexAddr t x ix => exact .ofPure (evIndexAddr_ok hop (vo_val h))
  case index t x ix => exact .ofPure (evIndex_ok hop (vo_val h))
  case lookup t x y ok => exact evLookup_ok hop (vo_val h)
  case mapUpdate t x y u => exact evMapUpdate_ok hop (vo_val h)
  case mapEntry t x y => exact evMapEntry_ok hop (vo_val h)
  case entryStore t x y u => exact evEntryStore_ok hop (vo_val h)
  case range t x => exact evMapRange_ok hop (vo_val h)
  case next it str => exact evMapNext_ok hop (vo_val h)
  case entry it => exact evItEntry_ok hop (vo_val h)
  case extract x ix => exact .ofPure (evExtract_ok hop (vo_val h))
  case call c =>
    change evCall P o c env n H = .val v n' H' at h
    unfold evCall at h
    split at h
    · rename_i b hc
      have h := vo_val h
      rw [kindOf_call hc]
      unfold kindCall
      split at h
      · obtain ⟨h1, h2, h3, h4⟩ := evLen_ok hop hc h
        subst h1 h2
        simp only
        split
        · rename_i t r hts
          split
          · exact ⟨rfl, rfl, h3⟩
          · rename_i d hnp hd
            exact ⟨rfl, rfl, h4 fun t' r' e k e' he => by
              rw [hts] at e; injection e with e1 e2; subst e1
              rw [hd] at he; injection he with he
              exact hnp k e' he⟩
          · exact h3.op
        · exact h3.op
      · exact evAppend_ok hop hc h
      · exact evCopy_ok hop hc h
      · exact evDelete_ok hop hc h
      · exact evClear_ok hop hc h
      · exact .ofPure (evGround_ok (fun cs b => by rw [hop]; simp) h)
      · exact .ofPure (evGround_ok (fun cs b => by rw [hop]; simp) h)
      · exact .ofPure (evCap_ok hop hc h)
      · cases h
    · split at h
      · split at h <;> cases h
      · cases h
    · split at h
      · split at h
        · rw [frcL_eq] at h; cases h
        · cases h
      · cases h
      · cases h
  case «defer» c =>
    change evDefer c env = .val v n' H' at h
    unfold evDefer at h
    split at h
    · split at h <;> cases h
    · cases h
  all_goals cases h
end
end Go.Sy
namespace Go.Sy
open Go
section
variable {P : Program}
theorem program_run (w : World) : (program).run P w = .ok P w := rfl
theorem callable_run {f : FuncId} {fn : Func} (h : callable P f = some fn) : P.funcs[f]? = some fn ∧ (∃ c, fn.body = some c) ∧ ∀ args w, (callFunc f args).run P w = .ok (.enter f args) w := by
  unfold callable at h
  split at h
  · rename_i fn' hfn
    split at h
    · rename_i c hn hb
      injection h with h; subst h
      refine ⟨hfn, ⟨c, hb⟩, fun args w => ?_⟩
      have hn' : ¬ fn'.name = "runtime.NumGoroutine" := fun e => by rw [e] at hn; exact absurd hn (by decide)
      simp [callFunc, hfn, hn', hb]
    · cases h
  · cases h
theorem isSome_ex {α : Type} {x : Option α} (h : x ≠ none) : ∃ y, x = some y := by cases x with | none => exact absurd rfl h | some y => exact ⟨y, rfl⟩
/-- The operation calls a function. -/
def CallOk (P : Program) (o : Oper) (env : Env) (g : FuncId) (args : List AV) : Prop :=
  ∀ (s : Sg) (N : Nat) (a : Act), EnvR s env N a.tmps → s.glob → ∃ Args, concL s args = some Args ∧ ∀ w, (execOp a.eval o).run P w = .ok (.enter g ⟨Args⟩) w
def YldOk (P : Program) (o : Oper) (env : Env) (y : Nat) (args : List AV) : Prop :=
  ∀ (s : Sg) (N : Nat) (a : Act), EnvR s env N a.tmps → s.glob → ∃ b Args, s.blk y = some b ∧ concL s args = some Args ∧ ∀ w, (execOp a.eval o).run P w = (Instr.yield b ⟨Args⟩).run P w
def DfrOk (P : Program) (o : Oper) (env : Env) (g : FuncId) (args : List AV) : Prop :=
  (∃ c, o.op = .defer c) ∧ ∀ (s : Sg) (N : Nat) (a : Act), EnvR s env N a.tmps → s.glob → ∃ D C, concL s args = some (D ++ C) ∧ ∀ w, (execOp a.eval o).run P w = .ok (.defer ⟨.fn (.func g) ⟨C⟩, ⟨D⟩⟩) w
theorem args_conc {s : Sg} {N : Nat} {env : Env} {a : Act} (he : EnvR s env N a.tmps) (hg : s.glob) {as : Array Operand} {l : List AV} (h : opds env as.toList = some l) : concL s l = some (as.map a.eval).toList := by
  rw [Array.toList_map]; exact opds_conc he hg h
theorem method_run {t : TypeId} {name : String} {f : FuncId} (h : methB P t name = some f) (v : Value) (w : World) (m : Nat) : (method (m + 1) t v name).run P w = .ok (f, v) w ∧ ∃ fn, callable P f = some fn := by
  unfold methB at h
  split at h
  · rename_i i e hi hu
    split at h
    · rename_i md hm
      split at h
      · rename_i f' hp hf
        split at h
        · rename_i fn hc
          injection h with h; subst h
          refine ⟨?_, fn, hc⟩
          unfold method
          simp [typeInfo_run hi, hm, hp, hf, follow, receiverAt, underlying_run hu, Place.get]
        · cases h
      · cases h
    · cases h
  · cases h
theorem exec_call {o : Oper} {c : Call} (hop : o.op = .call c) (ρ : Operand → Value) : execOp ρ o = (do let d ← resolve ρ c o.type; invoke d.target d.args) := by
  obtain ⟨dst, op', ty, pos, af, gu⟩ := o
  simp only at hop
  subst hop
  rfl
theorem exec_defer {o : Oper} {c : Call} (hop : o.op = .defer c) (ρ : Operand → Value) : execOp ρ o = (do pure (.defer (← resolve ρ c o.type))) := by
  obtain ⟨dst, op', ty, pos, af, gu⟩ := o
  simp only at hop
  subst hop
  rfl
theorem evOp_call {o : Oper} {env : Env} {n : Nat} {H : Heap} {g : FuncId} {args : List AV} (h : evOp o.op P o env n H = .call g args) : CallOk P o env g args := by
  rw [evOp_eq] at h
  cases hop : o.op <;> rw [hop] at h
  case call c =>
    change evCall P o c env n H = _ at h
    unfold evCall at h
    split at h
    · exact absurd h vo_call
    · rename_i r name hc
      split at h
      · rename_i t v l hr hl
        split at h
        · rename_i f hm
          injection h with h1 h2
          subst h1 h2
          intro s N a he hg
          have er := opd_conc he hg hr
          simp only [AV.conc, Option.map_eq_some_iff] at er
          obtain ⟨V, hV, er⟩ := er
          refine ⟨V :: (c.args.map a.eval).toList, concL_cons.2 ⟨_, _, hV, args_conc he hg hl, rfl⟩, fun w => ?_⟩
          obtain ⟨m1, fn, m2⟩ := method_run hm V w (P.types.size + Made.depth - 1)
          have hd : P.types.size + Made.depth - 1 + 1 = P.types.size + Made.depth := by
            have : 0 < Made.depth := by decide
            omega
          rw [hd] at m1
          rw [exec_call hop]
          have h0 : (#[a.eval r] ++ c.args.map a.eval)[0]? = some (Value.iface t V) := by rw [er]; simp [Array.getElem?_append]
          have hx : (#[a.eval r] ++ c.args.map a.eval).extract 1 (#[a.eval r] ++ c.args.map a.eval).size = c.args.map a.eval := by
            apply Array.ext'
            simp only [Array.toList_extract, Array.toList_map, Array.size_append, Array.size_map]
            simp [List.take_of_length_le]
          simp only [resolve, hc, invoke, Sem.run_bind, Sem.run_pure, Result.andThen_ok, h0, hx, callMethod, program_run, m1, (callable_run m2).2.2]
          congr 2
          apply Array.ext'
          simp
        · cases h
      · cases h
    · rename_i f hc
      split at h
      · rename_i f' a' cap l hf hl
        split at h
        · rename_i fn hcal
          rw [frcL_eq] at h
          injection h with h1 h2
          subst h1 h2
          intro s N a he hg
          have ef := opd_conc he hg hf
          simp only [AV.conc] at ef
          split at ef
          · rename_i A C hA hC
            injection ef with ef
            have hl' := args_conc he hg hl
            refine ⟨A ++ (c.args.map a.eval).toList ++ C, concL_append (concL_append hA hl') hC, fun w => ?_⟩
            rw [exec_call hop]
            simp [resolve, hc, ← ef, Deferred.ofValue, invoke, (callable_run hcal).2.2]
          · cases ef
        · cases h
      · cases h
      · cases h
  case «defer» c =>
    change evDefer c env = _ at h
    unfold evDefer at h
    split at h
    · split at h <;> cases h
    · cases h
  all_goals first | exact absurd h vo_call | cases h
theorem evOp_yld {o : Oper} {env : Env} {n : Nat} {H : Heap} {y : Nat} {args : List AV} (h : evOp o.op P o env n H = .yld y args) : YldOk P o env y args := by
  rw [evOp_eq] at h
  cases hop : o.op <;> rw [hop] at h
  case call c =>
    change evCall P o c env n H = _ at h
    unfold evCall at h
    split at h
    · exact absurd h vo_yld
    · split at h
      · split at h <;> cases h
      · cases h
    · rename_i f hc
      split at h
      · split at h
        · rw [frcL_eq] at h; cases h
        · cases h
      · rename_i y' l hf hl
        injection h with h1 h2
        subst h1 h2
        intro s N a he hg
        have ef := opd_conc he hg hf
        simp only [AV.conc, Option.map_eq_some_iff] at ef
        obtain ⟨b, hb, ef⟩ := ef
        refine ⟨b, (c.args.map a.eval).toList, hb, args_conc he hg hl, fun w => ?_⟩
        rw [exec_call hop]
        simp only [resolve, hc, ← ef, Deferred.ofValue, invoke, Sem.run_bind, Sem.run_pure, Result.andThen_ok]
        congr 2
        apply Array.ext'
        simp
      · cases h
  case «defer» c =>
    change evDefer c env = _ at h
    unfold evDefer at h
    split at h
    · split at h <;> cases h
    · cases h
  all_goals first | exact absurd h vo_yld | cases h
theorem evOp_dfr {o : Oper} {env : Env} {n : Nat} {H : Heap} {g : FuncId} {args : List AV} (h : evOp o.op P o env n H = .dfr g args) : DfrOk P o env g args := by
  rw [evOp_eq] at h
  cases hop : o.op <;> rw [hop] at h
  case call c =>
    change evCall P o c env n H = _ at h
    unfold evCall at h
    split at h
    · exact absurd h vo_dfr
    · split at h
      · split at h <;> cases h
      · cases h
    · split at h
      · split at h
        · rw [frcL_eq] at h; cases h
        · cases h
      · cases h
      · cases h
  case «defer» c =>
    change evDefer c env = _ at h
    unfold evDefer at h
    split at h
    · rename_i f hc
      split at h
      · rename_i f' a' cap l hf hl
        injection h with h1 h2
        subst h1 h2
        refine ⟨⟨c, hop⟩, fun s N a he hg => ?_⟩
        have ef := opd_conc he hg hf
        simp only [AV.conc] at ef
        split at ef
        · rename_i A C hA hC
          injection ef with ef
          have hl' := args_conc he hg hl
          refine ⟨A ++ (c.args.map a.eval).toList, C, concL_append (concL_append hA hl') hC, fun w => ?_⟩
          rw [exec_defer hop]
          simp [resolve, hc, ← ef, Deferred.ofValue]
        · cases ef
      · cases h
    · cases h
  all_goals first | exact absurd h vo_dfr | cases h
theorem evOp_no_dfr {o : Oper} {env : Env} {n : Nat} {H : Heap} {r : OR} (h : evOp o.op P o env n H = r) (hr : ∀ f l, r ≠ .dfr f l) (hk : ∀ k, r ≠ .no k) : ∀ c, o.op ≠ .defer c := by
  intro c hop
  rw [evOp_eq, hop] at h
  change evDefer c env = _ at h
  unfold evDefer at h
  split at h
  · split at h
    · exact hr _ _ h.symm
    · exact hk _ h.symm
  · exact hk _ h.symm
end
end Go.Sy
namespace Go.Sy
open Go
def fen : Option Nat → Fence
  | none => Fence.wide
  | some l => Fence.wide.inRound l
theorem fen_round (ro : Option Nat) : (fen ro).round = ro := by cases ro <;> rfl
theorem fen_fn (ro : Option Nat) (f : FuncId) : (fen ro).fn f := by cases ro <;> trivial
theorem fen_in (ro : Option Nat) (l : Nat) : (fen ro).inRound l = fen (some l) := by cases ro <;> rfl
theorem fen_depth (ro : Option Nat) {p : Prop} (h : (fen ro).depth.isSome = true) : p := by cases ro <;> cases h
theorem fen_calls {ro : Option Nat} {n : Nat} {P : Program} {f : FuncId} {args : Array Value} {w : World} {R : Ending → World → Prop} (h : CallsIn Fence.wide n P f args w R) : CallsIn (fen ro) n P f args w R := by
  cases ro with
  | none => exact h
  | some l => exact h.inRound l
def DfR (s : Sg) : Df → Deferred → Prop
  | .mark x, d => ∃ b, s.blk x = some b ∧ d.target = .collected b
  | .call f args, d => ∃ D C, concL s args = some (D ++ C) ∧ d = ⟨.fn (.func f) ⟨C⟩, ⟨D⟩⟩
def DefsR (s : Sg) (ms : List Df) (ds : List Deferred) : Prop := All2 (DfR s) ms ds
theorem DefsR.le {s s' : Sg} {ms : List Df} {ds : List Deferred} (h : DefsR s ms ds) (k : s.le s') : DefsR s' ms ds :=
  All2.imp (fun a d hd => by
    cases a with
    | mark x => obtain ⟨b, h1, h2⟩ := hd; exact ⟨b, (k x b h1).1, h2⟩
    | call f args => obtain ⟨D, C, h1, h2⟩ := hd; exact ⟨D, C, concL_le k _ h1, h2⟩) h
theorem DefsR.nil {s : Sg} {ds : List Deferred} (h : DefsR s [] ds) : ds = [] := by cases ds with | nil => rfl | cons => exact h.elim
def RoR (s : Sg) : Option Nat → Option Nat → Prop
  | none, none => True
  | some y, some l => s.blk y = some l
  | _, _ => False
theorem RoR.le {s s' : Sg} {rd ro : Option Nat} (h : RoR s rd ro) (k : s.le s') : RoR s' rd ro := by
  cases rd <;> cases ro <;> first | exact h | exact (k _ _ h).1
def Ext.exit : Ext → Exit
  | .nrm => .normal
  | .ex id => .exit id
  | .rt => .ret
  | .go l => .goto l
section
variable (P : Program)
/-- A walk of a loop that stands at its round's start. -/
def LoopIn (F : Fence) (n : Nat) (c : Code) (Q : Exit → Act → World → Prop) (a : Act) (w : World) : Prop :=
  ∀ (b : Frame) (k : List Item) (cs : List Frame), b.roundOf = F.round → F.fn b.fn → F.room (cs.length + 1 + n) →
    ∃ e a' w', Q e a' w' ∧ ArrivesIn (Machine.fenced P F) P (lone (b.atR a (.code c :: .inLoop c :: k)) cs w) b k cs e a' w'
def wpX (F : Fence) (n : Nat) (c : Code) (Q : Exit → Act → World → Prop) (a : Act) (w : World) : Prop :=
  match c with
  | .loop c => LoopIn P F n c Q a w
  | c => c.wpIn F n P Q a w
/-- What a function's run comes to. -/
def FnGood (f : FuncId) (args : List AV) (n : Nat) (H : Heap) (v : AV) (n' : Nat) (H' : Heap) : Prop :=
  n ≤ n' ∧ ∀ (s : Sg) (w : World) (Args : List Value) (R : Ending → World → Prop), concL s args = some Args → Rel P s H w → Free s n n' → n' ≤ LIM →
    (∀ V s' w', v.conc s' = some V → Rel P s' H' w' → Step s n H w s' n' H' w' → R (.returned V) w') → CallsIn Fence.wide 0 P f ⟨Args⟩ w R
def CodeGood (c : Code) (rd : Option Nat) (N : Nat) (env : Env) (ms : List Df) (n : Nat) (H : Heap) (e : Ext) (env' : Env) (ms' : List Df) (n' : Nat) (H' : Heap) : Prop :=
  n ≤ n' ∧ ∀ (s : Sg) (a : Act) (w : World) (ro : Option Nat) (Q : Exit → Act → World → Prop), EnvR s env N a.tmps → DefsR s ms a.defers → RoR s rd ro → Rel P s H w → Free s n n' → n' ≤ LIM →
    (∀ s' a' w', EnvR s' env' N a'.tmps → DefsR s' ms' a'.defers → Rel P s' H' w' → Step s n H w s' n' H' w' → Q e.exit a' w') → wpX P (fen ro) 0 c Q a w
def EfOk (ef : EF) : Prop := ∀ f args n H v n' H', ef f args n H = .ok v n' H' → FnGood P f args n H v n' H'
def EcOk (ec : EC) : Prop := ∀ c rd N env ms n H e env' ms' n' H', ec c rd N env ms n H = .ok e env' ms' n' H' → CodeGood P c rd N env ms n H e env' ms' n' H'
end
section
variable {P : Program} {F : Fence} {n : Nat} {Q : Exit → Act → World → Prop} {a : Act} {w : World}
theorem wpX_in {c : Code} (h : wpX P F n c Q a w) : c.wpIn F n P Q a w := by
  cases c with
  | loop c =>
    intro b k cs hro hb hr
    obtain ⟨e, a', w', hq, harr⟩ := h b k cs hro hb hr
    exact ⟨e, a', w', hq, .of_steps (.one (fenced_calm hb hr rfl) stepR_loop) harr⟩
  | _ => exact h
theorem CodeGood.wp {c : Code} {rd : Option Nat} {N : Nat} {env : Env} {ms : List Df} {n : Nat} {H : Heap} {e : Ext} {env' : Env} {ms' : List Df} {n' : Nat} {H' : Heap} (h : CodeGood P c rd N env ms n H e env' ms' n' H')
    {s : Sg} {a : Act} {w : World} {ro : Option Nat} {Q : Exit → Act → World → Prop} (h1 : EnvR s env N a.tmps) (h2 : DefsR s ms a.defers) (h3 : RoR s rd ro) (h4 : Rel P s H w) (h5 : Free s n n') (h6 : n' ≤ LIM)
    (h7 : ∀ s' a' w', EnvR s' env' N a'.tmps → DefsR s' ms' a'.defers → Rel P s' H' w' → Step s n H w s' n' H' w' → Q e.exit a' w') : c.wpIn (fen ro) 0 P Q a w := wpX_in (h.2 s a w ro Q h1 h2 h3 h4 h5 h6 h7)
theorem Exit.then_other {K : Act → World → Prop} {Q : Exit → Act → World → Prop} {e : Ext} (he : e ≠ .nrm) {a : Act} {w : World} (h : Q e.exit a w) : Exit.then K Q e.exit a w := by
  cases e <;> first | exact absurd rfl he | exact h
/-- Two stretches, one behind the other. -/
theorem CodeGood.seq {c d : Code} {rd : Option Nat} {N : Nat} {env : Env} {ms : List Df} {n : Nat} {H : Heap} {env1 : Env} {ms1 : List Df} {n1 : Nat} {H1 : Heap} {e : Ext} {env' : Env} {ms' : List Df} {n' : Nat} {H' : Heap}
    (h : CodeGood P c rd N env ms n H .nrm env1 ms1 n1 H1) (k : CodeGood P d rd N env1 ms1 n1 H1 e env' ms' n' H') : CodeGood P (.seq c d) rd N env ms n H e env' ms' n' H' := by
  refine ⟨Nat.le_trans h.1 k.1, fun s a w ro Q h1 h2 h3 h4 h5 h6 h7 => wpIn_seq (h.wp h1 h2 h3 h4 (h5.left k.1) (Nat.le_trans k.1 h6) fun s1 a1 w1 k1 k2 k3 k4 => ?_)⟩
  have hle := k4.le (h5.left k.1)
  exact k.wp k1 k2 (h3.le hle) k3 (k4.free h5 h.1) h6 fun s' a' w' j1 j2 j3 j4 => h7 s' a' w' j1 j2 j3 (k4.trans j4 h.1 k.1)
theorem evSeq_ok {ec : EC} (hec : EcOk P ec) {c d : Code} {rd : Option Nat} {N : Nat} {env : Env} {ms : List Df} {n : Nat} {H : Heap} {e : Ext} {env' : Env} {ms' : List Df} {n' : Nat} {H' : Heap}
    (h : evSeq ec c d rd N env ms n H = .ok e env' ms' n' H') : CodeGood P (.seq c d) rd N env ms n H e env' ms' n' H' := by
  unfold evSeq at h
  cases hc : ec c rd N env ms n H with
  | er l => rw [hc] at h; cases h
  | ok e1 env1 ms1 n1 H1 =>
    rw [hc] at h
    have g := hec _ _ _ _ _ _ _ _ _ _ _ _ hc
    cases e1 with
    | nrm => exact g.seq (hec _ _ _ _ _ _ _ _ _ _ _ _ h)
    | _ =>
      injection h with q1 q2 q3 q4 q5
      subst q1 q2 q3 q4 q5
      exact ⟨g.1, fun s a w ro Q h1 h2 h3 h4 h5 h6 h7 => wpIn_seq (g.wp h1 h2 h3 h4 h5 h6 fun s1 a1 w1 k1 k2 k3 k4 => Exit.then_other (by simp) (h7 s1 a1 w1 k1 k2 k3 k4))⟩
theorem CodeGood.nrm0 {c : Code} {rd : Option Nat} {N : Nat} {env : Env} {ms : List Df} {n : Nat} {H : Heap} {e : Ext} (h : ∀ F Q a w, Q e.exit a w → wpX P F 0 c Q a w) : CodeGood P c rd N env ms n H e env ms n H :=
  ⟨Nat.le_refl _, fun s a w _ro Q h1 h2 _h3 h4 _h5 _h6 h7 => h _ Q a w (h7 s a w h1 h2 h4 (Step.refl ..))⟩
theorem evCond_ok {ec : EC} (hec : EcOk P ec) {x : Operand} {c d : Code} {rd : Option Nat} {N : Nat} {env : Env} {ms : List Df} {n : Nat} {H : Heap} {e : Ext} {env' : Env} {ms' : List Df} {n' : Nat} {H' : Heap}
    (h : evCond ec x c d rd N env ms n H = .ok e env' ms' n' H') : CodeGood P (.cond x c d) rd N env ms n H e env' ms' n' H' := by
  unfold evCond at h
  cases hbo : booO (opd env x) with
  | some b =>
    have hx := booO_some hbo
    rw [hbo] at h
    have key : CodeGood P (if b then c else d) rd N env ms n H e env' ms' n' H' := by
      cases b <;> exact hec _ _ _ _ _ _ _ _ _ _ _ _ h
    refine ⟨key.1, fun s a w ro Q h1 h2 h3 h4 h5 h6 h7 => ?_⟩
    have ex := opd_conc h1 h4.glob hx
    simp only [AV.conc, Option.some.injEq] at ex
    exact wpIn_cond ex.symm (key.wp h1 h2 h3 h4 h5 h6 h7)
  | none =>
    rw [hbo] at h
    cases h
theorem evBlock_ok {ec : EC} (hec : EcOk P ec) {id : Nat} {c : Code} {rd : Option Nat} {N : Nat} {env : Env} {ms : List Df} {n : Nat} {H : Heap} {e : Ext} {env' : Env} {ms' : List Df} {n' : Nat} {H' : Heap}
    (h : evBlock ec id c rd N env ms n H = .ok e env' ms' n' H') : CodeGood P (.block id c) rd N env ms n H e env' ms' n' H' := by
  unfold evBlock at h
  split at h
  · rename_i e1 env1 ms1 n1 H1 hc
    have g := hec _ _ _ _ _ _ _ _ _ _ _ _ hc
    have key : env1 = env' ∧ ms1 = ms' ∧ n1 = n' ∧ H1 = H' ∧ ∀ (Q : Exit → Act → World → Prop) a w, Q e.exit a w → Exit.inBlock id Q e1.exit a w := by
      cases e1 with
      | nrm => injection h with q1 q2 q3 q4 q5; subst q1; exact ⟨q2, q3, q4, q5, fun Q a w h => h⟩
      | rt => injection h with q1 q2 q3 q4 q5; subst q1; exact ⟨q2, q3, q4, q5, fun Q a w h => h⟩
      | go l => injection h with q1 q2 q3 q4 q5; subst q1; exact ⟨q2, q3, q4, q5, fun Q a w h => h⟩
      | ex j =>
        simp only at h
        rw [bsel] at h
        split at h
        · rename_i hj
          have hj : j = id := by simpa using hj
          injection h with q1 q2 q3 q4 q5; subst q1
          exact ⟨q2, q3, q4, q5, fun Q a w h => by simp only [Ext.exit, Exit.inBlock, hj, if_true]; exact h⟩
        · rename_i hj
          have hj : j ≠ id := fun e => hj (by simpa using e)
          injection h with q1 q2 q3 q4 q5; subst q1
          exact ⟨q2, q3, q4, q5, fun Q a w h => by simp only [Ext.exit, Exit.inBlock, hj, if_false]; exact h⟩
    obtain ⟨rfl, rfl, rfl, rfl, hq⟩ := key
    exact ⟨g.1, fun s a w ro Q h1 h2 h3 h4 h5 h6 h7 => wpIn_block (g.wp h1 h2 h3 h4 h5 h6 fun s1 a1 w1 k1 k2 k3 k4 => hq Q a1 w1 (h7 s1 a1 w1 k1 k2 k3 k4))⟩
  · cases h
theorem evLoop_ok {ec : EC} (hec : EcOk P ec) {c : Code} {rd : Option Nat} {N : Nat} {env : Env} {ms : List Df} {n : Nat} {H : Heap} {e : Ext} {env' : Env} {ms' : List Df} {n' : Nat} {H' : Heap}
    (h : evLoop ec c rd N env ms n H = .ok e env' ms' n' H') : CodeGood P (.loop c) rd N env ms n H e env' ms' n' H' := by
  unfold evLoop at h
  split at h
  · rename_i e1 env1 ms1 n1 H1 hc
    have g := hec _ _ _ _ _ _ _ _ _ _ _ _ hc
    have out : e1 ≠ .nrm → e1 = e → env1 = env' → ms1 = ms' → n1 = n' → H1 = H' → CodeGood P (.loop c) rd N env ms n H e env' ms' n' H' := by
      intro hn q1 q2 q3 q4 q5
      subst q1 q2 q3 q4 q5
      refine ⟨g.1, fun s a w ro Q h1 h2 h3 h4 h5 h6 h7 b k cs hro hb hr => ?_⟩
      obtain ⟨e', a', w', hq, harr⟩ := g.wp h1 h2 h3 h4 h5 h6 (Q := fun e' a' w' => e' = e1.exit ∧ Q e' a' w') (fun s' a' w' k1 k2 k3 k4 => ⟨rfl, h7 s' a' w' k1 k2 k3 k4⟩) b (.inLoop c :: k) cs hro hb hr
      obtain ⟨rfl, hq⟩ := hq
      exact ⟨_, a', w', hq, .pass (x := .inLoop c) rfl (fun _ _ => .inl (by cases e1 <;> first | exact absurd rfl hn | simp [Ext.exit])) harr⟩
    cases e1 with
    | nrm =>
      have g2 := hec _ _ _ _ _ _ _ _ _ _ _ _ h
      refine ⟨Nat.le_trans g.1 g2.1, fun s a w ro Q h1 h2 h3 h4 h5 h6 h7 b k cs hro hb hr => ?_⟩
      obtain ⟨e', a1, w1, hq, harr⟩ := g.wp h1 h2 h3 h4 (h5.left g2.1) (Nat.le_trans g2.1 h6) (Q := fun e' a' w' => e' = .normal ∧ LoopIn P (fen ro) 0 c Q a' w') (fun s1 a1 w1 k1 k2 k3 k4 => ⟨rfl,
        g2.2 s1 a1 w1 ro Q k1 k2 (h3.le (k4.le (h5.left g2.1))) k3 (k4.free h5 g.1) h6 fun s' a' w' j1 j2 j3 j4 => h7 s' a' w' j1 j2 j3 (k4.trans j4 g.1 g2.1)⟩) b (.inLoop c :: k) cs hro hb hr
      obtain ⟨rfl, hl⟩ := hq
      obtain ⟨e2, a2, w2, hq2, harr2⟩ := hl b k cs hro hb hr
      exact ⟨e2, a2, w2, hq2, .of_steps (StepsIn.trans harr (.one (fenced_calm hb hr rfl) stepR_inLoop)) harr2⟩
    | _ =>
      injection h with q1 q2 q3 q4 q5
      exact out (by simp) q1 q2 q3 q4 q5
  · cases h
theorem stepR_scope {b : Frame} {k : List Item} {cs : List Frame} {c : Code} : step P (lone (b.atR a (.code (.scope c) :: k)) cs w) = .next (lone (b.atR a (.code c :: .inScope c :: k)) cs w) :=
  step_lone_go (by simp [stepG, stepG.exec, Frame.atR])
theorem stepR_inScope {b : Frame} {k : List Item} {cs : List Frame} {c : Code} : step P (lone (b.atR a (.inScope c :: k)) cs w) = .next (lone (b.atR a k) cs w) :=
  step_lone_go (by simp [stepG, stepG.exec, Frame.atR])
theorem evScope_go {ec : EC} (hec : EcOk P ec) (S : Code) : ∀ (m : Nat) {c : Code} {rd : Option Nat} {N : Nat} {env : Env} {ms : List Df} {n : Nat} {H : Heap} {e : Ext} {env' : Env} {ms' : List Df} {n' : Nat} {H' : Heap},
    evScope ec S m c rd N env ms n H = .ok e env' ms' n' H' → n ≤ n' ∧ ∀ (s : Sg) (a : Act) (w : World) (ro : Option Nat) (Q : Exit → Act → World → Prop), EnvR s env N a.tmps → DefsR s ms a.defers → RoR s rd ro → Rel P s H w → Free s n n' → n' ≤ LIM →
    (∀ s' a' w', EnvR s' env' N a'.tmps → DefsR s' ms' a'.defers → Rel P s' H' w' → Step s n H w s' n' H' w' → Q e.exit a' w') →
    ∀ (b : Frame) (k : List Item) (cs : List Frame), b.roundOf = (fen ro).round → (fen ro).fn b.fn → (fen ro).room (cs.length + 1 + 0) →
    ∃ e a' w', Q e a' w' ∧ ArrivesIn (Machine.fenced P (fen ro)) P (lone (b.atR a (.code c :: .inScope S :: k)) cs w) b k cs e a' w' := by
  intro m
  induction m with
  | zero => intro c rd N env ms n H e env' ms' n' H' h; cases h
  | succ m ih =>
    intro c rd N env ms n H e env' ms' n' H' h
    have hu : evScope ec S (m + 1) c rd N env ms n H = (match ec c rd N env ms n H with
      | .ok e env ms n H => (match e with
          | .go l => (match findLabel S l with | some c => evScope ec S m c rd N env ms n H | none => .ok (.go l) env ms n H)
          | .nrm => .ok .nrm env ms n H
          | .ex id => .ok (.ex id) env ms n H
          | .rt => .ok .rt env ms n H)
      | .er l => .er l) := rfl
    rw [hu] at h
    split at h
    · rename_i e1 env1 ms1 n1 H1 hc
      have g := hec _ _ _ _ _ _ _ _ _ _ _ _ hc
      have out : e1 = e → env1 = env' → ms1 = ms' → n1 = n' → H1 = H' → (∀ l, e1 = .go l → findLabel S l = none) → n ≤ n' ∧ ∀ (s : Sg) (a : Act) (w : World) (ro : Option Nat) (Q : Exit → Act → World → Prop), EnvR s env N a.tmps → DefsR s ms a.defers → RoR s rd ro → Rel P s H w → Free s n n' → n' ≤ LIM →
          (∀ s' a' w', EnvR s' env' N a'.tmps → DefsR s' ms' a'.defers → Rel P s' H' w' → Step s n H w s' n' H' w' → Q e.exit a' w') →
          ∀ (b : Frame) (k : List Item) (cs : List Frame), b.roundOf = (fen ro).round → (fen ro).fn b.fn → (fen ro).room (cs.length + 1 + 0) →
          ∃ e a' w', Q e a' w' ∧ ArrivesIn (Machine.fenced P (fen ro)) P (lone (b.atR a (.code c :: .inScope S :: k)) cs w) b k cs e a' w' := by
        intro q1 q2 q3 q4 q5 hl
        subst q1 q2 q3 q4 q5
        refine ⟨g.1, fun s a w ro Q h1 h2 h3 h4 h5 h6 h7 b k cs hro hb hr => ?_⟩
        obtain ⟨e', a', w', hq, harr⟩ := g.wp h1 h2 h3 h4 h5 h6 (Q := fun e' a' w' => e' = e1.exit ∧ Q e' a' w') (fun s' a' w' k1 k2 k3 k4 => ⟨rfl, h7 s' a' w' k1 k2 k3 k4⟩) b (.inScope S :: k) cs hro hb hr
        obtain ⟨rfl, hq⟩ := hq
        cases e1 with
        | nrm => exact ⟨_, a', w', hq, StepsIn.trans harr (.one (fenced_calm hb hr rfl) stepR_inScope)⟩
        | ex id => exact ⟨_, a', w', hq, fun k' hk => harr.1 k' (by simp only [exitTo]; exact hk), fun hr' hk => harr.2 hr' (by simp only [exitTo]; exact hk)⟩
        | rt => exact ⟨_, a', w', hq, harr⟩
        | go l =>
          have hg : gotoIn l (.inScope S :: k) = gotoIn l k := by simp [gotoIn, hl l rfl]
          exact ⟨_, a', w', hq, fun k' hk => harr.1 k' (by rw [hg]; exact hk), fun hr' hk => harr.2 hr' (by rw [hg]; exact hk)⟩
      cases e1 with
      | go l =>
        simp only at h
        split at h
        · rename_i c2 hf
          obtain ⟨i1, i2⟩ := ih h
          refine ⟨Nat.le_trans g.1 i1, fun s a w ro Q h1 h2 h3 h4 h5 h6 h7 b k cs hro hb hr => ?_⟩
          obtain ⟨e', a1, w1, hq, harr⟩ := g.wp h1 h2 h3 h4 (h5.left i1) (Nat.le_trans i1 h6) (Q := fun e' a' w' => e' = .goto l ∧ ∃ e2 a2 w2, Q e2 a2 w2 ∧ ArrivesIn (Machine.fenced P (fen ro)) P (lone (b.atR a' (.code c2 :: .inScope S :: k)) cs w') b k cs e2 a2 w2) (fun s1 a1 w1 k1 k2 k3 k4 => ⟨rfl,
            i2 s1 a1 w1 ro Q k1 k2 (h3.le (k4.le (h5.left i1))) k3 (k4.free h5 g.1) h6 (fun s' a' w' j1 j2 j3 j4 => h7 s' a' w' j1 j2 j3 (k4.trans j4 g.1 i1)) b k cs hro hb hr⟩) b (.inScope S :: k) cs hro hb hr
          obtain ⟨rfl, e2, a2, w2, hq2, harr2⟩ := hq
          exact ⟨e2, a2, w2, hq2, .of_steps (harr.1 _ (by simp [gotoIn, hf])) harr2⟩
        · rename_i hf
          injection h with q1 q2 q3 q4 q5
          exact out q1 q2 q3 q4 q5 (fun l' e => by injection e with e; subst e; exact hf)
      | _ =>
        injection h with q1 q2 q3 q4 q5
        exact out q1 q2 q3 q4 q5 (fun l' e => by cases e)
    · cases h
theorem evScope_ok {ec : EC} (hec : EcOk P ec) {c : Code} {m : Nat} {rd : Option Nat} {N : Nat} {env : Env} {ms : List Df} {n : Nat} {H : Heap} {e : Ext} {env' : Env} {ms' : List Df} {n' : Nat} {H' : Heap}
    (h : evScope ec c m c rd N env ms n H = .ok e env' ms' n' H') : CodeGood P (.scope c) rd N env ms n H e env' ms' n' H' := by
  obtain ⟨g1, g2⟩ := evScope_go hec c m h
  refine ⟨g1, fun s a w ro Q h1 h2 h3 h4 h5 h6 h7 b k cs hro hb hr => ?_⟩
  obtain ⟨e', a', w', hq, harr⟩ := g2 s a w ro Q h1 h2 h3 h4 h5 h6 h7 b k cs hro hb hr
  exact ⟨e', a', w', hq, .of_steps (.one (fenced_calm hb hr rfl) stepR_scope) harr⟩
end
end Go.Sy
namespace Go.Sy
open Go
section
variable {P : Program}
/-- A block is changed, and forgotten. -/
theorem Rel.kill {s : Sg} {H : Heap} {w : World} (h : Rel P s H w) (n : Nat) {x : Nat} {A : Blk} (hx : x < LIM) (hA : Q8.get H x = some A) {b : Nat} (hb : s.blk x = some b) {w' : World}
    (hs : w'.heap.size = w.heap.size) (hother : ∀ c, c ≠ b → w'.heap[c]? = w.heap[c]?) (e1 : w'.os = w.os) (e2 : w'.tape = w.tape) (e3 : w'.output = w.output) :
    Rel P s (Q8.upd H x none) w' ∧ Step s n H w s n (Q8.upd H x none) w' := by
  have hold : ∀ y, y < LIM → ∀ B, Q8.get (Q8.upd H x none) y = some B → Q8.get H y = some B ∧ y ≠ x := fun y hy B hB => by
    rw [Q8.get_upd _ _ _ _ hx hy] at hB
    split at hB
    · cases hB
    · rename_i he; exact ⟨hB, Ne.symm he⟩
  have hne : ∀ y, y < LIM → Q8.get (Q8.upd H x none) y ≠ none → Q8.get H y ≠ none := fun y hy h1 => by
    obtain ⟨B, hB⟩ := isSome_ex h1
    rw [(hold y hy B hB).1]; simp
  refine ⟨⟨h.lim, h.glob, fun y B hy hB => ?_, fun y z c hy hz h1 h2 => h.inj y z c hy hz (hne y hy h1) (hne z hz h2)⟩, fun _ _ => ⟨rfl, rfl⟩, by omega, fun c _ hc => hother c (fun e => ?_), fun y c hy h1 h2 _ => ⟨y, hy, hne y hy h1, h2⟩, e1, e2, e3⟩
  · obtain ⟨hB, hyx⟩ := hold y hy B hB
    obtain ⟨c, o', h1, h2, h3⟩ := h.blk y B hy hB
    refine ⟨c, o', h1, ?_, h3⟩
    rw [hother c (fun e => ?_)]
    · exact h2
    · subst e
      exact hyx (h.inj y x c hy hx (by rw [hB]; simp) (by rw [hA]; simp) h1 hb)
  · subst e
    exact hc x hx (by rw [hA]; simp) hb
def PutRel (dst : Option Tmp) (N : Nat) (v : AV) (env env1 : Env) : Prop := match dst with | some d => d < N ∧ env1 = env.upd d v | none => env1 = env
theorem putK_val {β : Type} {dst : Option Tmp} {N : Nat} {v : AV} {env : Env} {er : List Nat → β} {k : Env → β} {r : β} (h : putK dst N v env er k = r) (hr : ∀ l, er l ≠ r) :
    ∃ env1, k env1 = r ∧ PutRel dst N v env env1 := by
  unfold putK at h
  cases dst with
  | none => exact ⟨env, h, rfl⟩
  | some d =>
    simp only at h
    rw [bsel] at h
    split at h
    · rename_i hd
      rw [Env.put_k] at h
      exact ⟨_, h, Nat.ble_eq.mp hd, rfl⟩
    · exact absurd h (hr _)
theorem put_env {dst : Option Tmp} {N : Nat} {v : AV} {env env1 : Env} (h : PutRel dst N v env env1) {s : Sg} {a : Act} {V : Value} (hv : v.conc s = some V) (he : EnvR s env N a.tmps) :
    EnvR s env1 N (a.put dst V).tmps := by
  cases dst with
  | none => have h : env1 = env := h; subst h; exact he
  | some d => obtain ⟨h1, rfl⟩ := h; exact he.upd h1 hv
theorem put_defers (a : Act) (dst : Option Tmp) (V : Value) : (a.put dst V).defers = a.defers := by cases dst <;> rfl
theorem wantedG_ok {all : List Oper} {g : Nat × Bool} {env : Env} {b : Bool} (h : wantedG all g env = some b) {o : Oper} (ho : o.guard = some g) {s : Sg} {N : Nat} {a : Act} (he : EnvR s env N a.tmps) :
    Region.wanted o (yielded ⟨all⟩ a.tmps) = b := by
  obtain ⟨j, want⟩ := g
  unfold wantedG at h
  unfold Region.wanted
  rw [ho]
  simp only [yielded, List.getElem?_toArray]
  rw [nth_eq] at h
  split at h
  · rename_i x hx
    rw [hx]
    split at h
    · rename_i t ht
      split at h
      · rename_i c hc
        obtain ⟨V, h1, h2⟩ := he.get t _ hc
        simp only [AV.conc, Option.some.injEq] at h1
        subst h1
        injection h with h
        simp [ht, h2, ← h]
      · rename_i l hl
        obtain ⟨V, h1, h2⟩ := he.get t _ hl
        simp only [AV.conc, Option.map_eq_some_iff] at h1
        obtain ⟨vs, _, h1⟩ := h1
        subst h1
        injection h with h
        simp [ht, h2, ← h]
      · cases h
    · rename_i ht
      injection h with h
      simp [ht, ← h]
  · rename_i hx
    injection h with h
    simp [hx, ← h]
theorem wantedA_ok {all : List Oper} {o : Oper} {env : Env} {b : Bool} (h : wantedA all o.guard env = some b) {s : Sg} {N : Nat} {a : Act} (he : EnvR s env N a.tmps) : Region.wanted o (yielded ⟨all⟩ a.tmps) = b := by
  unfold wantedA at h
  cases hg : o.guard with
  | none => rw [hg] at h; injection h with h; subst h; simp [Region.wanted, hg]
  | some g => rw [hg] at h; exact wantedG_ok h hg he
theorem bindP_cons (N : Nat) (t : Tmp) (ps : List Tmp) (as : List AV) (env : Env) (k : Env → VR) : bindP N (t :: ps) as env k = (match as with
      | [] => .er [201]
      | a :: r => (match Nat.blt t N with | true => env.put t a fun env => bindP N ps r env k | false => .er [202])) := rfl
theorem bindP_nil (N : Nat) (as : List AV) (env : Env) (k : Env → VR) : bindP N [] as env k = (match as with | [] => k env | _ => .er [200]) := rfl
theorem bindP_ok {N : Nat} {k : Env → VR} {v : AV} {n : Nat} {H : Heap} : ∀ {ps : List Tmp} {as : List AV} {env : Env}, bindP N ps as env k = .ok v n H → ps.length = as.length ∧ ∃ env1, k env1 = .ok v n H ∧
    ∀ (s : Sg) (Args : List Value) (ts : Array Value), concL s as = some Args → EnvR s env N ts → EnvR s env1 N ((ps.zip Args).foldl (fun tmps (x : Tmp × Value) => tmps.setIfInBounds x.1 x.2) ts)
  | [], as, env, h => by
    rw [bindP_nil] at h
    split at h
    · exact ⟨rfl, env, h, fun s Args ts hc he => he⟩
    · cases h
  | t :: ps, as, env, h => by
    rw [bindP_cons] at h
    split at h
    · cases h
    · rename_i a r
      split at h
      · rename_i ht
        rw [Env.put_k] at h
        obtain ⟨h1, env1, h2, h3⟩ := bindP_ok h
        refine ⟨by simp [h1], env1, h2, fun s Args ts hc he => ?_⟩
        obtain ⟨V, us, c1, c2, rfl⟩ := concL_cons.1 hc
        exact h3 s us _ c2 (he.upd (Nat.ble_eq.mp ht) c1)
      · cases h
theorem loop_row {s : Sg} {H : Heap} {w : World} (hr : Rel P s H w) {y : Nat} (hy : y < LIM) {st : LoopState} {pe : Option Code} {ps : List Tmp} {asg body : Code} {env : Env} {N d b : Nat} (hb : s.blk y = some b)
    (hH : Q8.get H y = some (.loop st pe ps asg body env N d)) : ∃ l : Loop, w.heap[b]? = some (.loop l) ∧ l.state = st ∧ l.pending = pe ∧ l.params.toList = ps ∧ l.assign = asg ∧ l.body = body ∧ EnvR s env N l.tmps ∧ s.blk d = some l.defers := by
  obtain ⟨b', o, h1, h2, h3⟩ := hr.blk y _ hy hH
  rw [hb] at h1; injection h1 with h1; subst h1
  cases o with
  | loop l => exact ⟨l, h2, h3⟩
  | _ => exact h3.elim
theorem putObj_facts (w : World) (b : Nat) (o : Obj) (hb : b < w.heap.size) : (w.putObj b o).heap.size = w.heap.size ∧ (w.putObj b o).heap[b]? = some o ∧ (∀ c, c ≠ b → (w.putObj b o).heap[c]? = w.heap[c]?) ∧ (w.putObj b o).os = w.os ∧ (w.putObj b o).tape = w.tape ∧ (w.putObj b o).output = w.output :=
  ⟨World.putObj_size, World.putObj_heap_same hb, fun _ hc => World.putObj_heap_other hc, rfl, rfl, rfl⟩
def stOf (x : Ext) : LoopState := match x with | .nrm => .ready | _ => .done
def isN (x : Ext) : Bool := match x with | .nrm => true | _ => false
theorem jumpOf_none {x : Ext} : (jumpOf x).isNone = true ↔ x = .nrm := by cases x <;> simp [jumpOf]
theorem evRound_ok {ec : EC} (hec : EcOk P ec) {y : Nat} {args : List AV} {n : Nat} {H : Heap} {v : AV} {n' : Nat} {H' : Heap} (h : evRound ec y args n H = .ok v n' H') :
    n ≤ n' ∧ ∀ (s : Sg) (w : World) (b : Nat) (Args : List Value) (ro : Option Nat) (R : Ending → World → Prop), s.blk y = some b → concL s args = some Args → Rel P s H w → Free s n n' → n' ≤ LIM →
      (∀ V s' w', v.conc s' = some V → Rel P s' H' w' → Step s n H w s' n' H' w' → R (.returned V) w') →
      ∃ f tmps asg body, (Instr.yield b ⟨Args⟩).run P w = .ok (.round b f tmps asg body) w ∧ RoundIn (fen ro) 0 P b f tmps asg body w R := by
  unfold evRound at h
  split at h
  · rename_i st pe ps asg body env N d hy
    obtain ⟨hlen, env1, h, henv⟩ := bindP_ok h
    split at h
    · rename_i env2 n2 H2 hc1
      have g1 := hec _ _ _ _ _ _ _ _ _ _ _ _ hc1
      split at h
      · rename_i pe2 ps2 asg2 body2 e2 N2 d2 hy2
        rw [Q8.set_k] at h
        split at h
        · rename_i x env3 n3 H3 hc2
          have g2 := hec _ _ _ _ _ _ _ _ _ _ _ _ hc2
          split at h
          · rename_i st4 pe4 ps4 asg4 body4 e4 N4 d4 hy4
            rw [Q8.set_k] at h
            have key : v = .b (isN x) ∧ n3 = n' ∧ H' = Q8.upd H3 y (some (.loop (stOf x) (jumpOf x) ps4 asg4 body4 e4 N4 d4)) := by
              cases x <;> (injection h with q1 q2 q3; exact ⟨q1.symm, q2, q3.symm⟩)
            obtain ⟨hv, rfl, hH'⟩ := key
            refine ⟨Nat.le_trans g1.1 g2.1, fun s w b Args ro R hb hA hr hf hl hR => ?_⟩
            have hylim := hr.lim y b hb
            obtain ⟨l, l1, l2, l3, l4, l5, l6, l7, l8⟩ := loop_row hr hylim hb hy
            have hsz : (⟨Args⟩ : Array Value).size = l.params.size := by
              have h1 := concL_length hA
              have h2 : l.params.size = ps.length := by rw [← l4, Array.length_toList]
              rw [h2, hlen, ← h1]; rfl
            refine ⟨_, _, _, _, run_yield l1 hsz, roundIn_of_wpIn (fen_fn ro _) ?_⟩
            rw [fen_in, l5, l6]
            have ht : EnvR s env1 N ((l.params.zip ⟨Args⟩).foldl (fun tmps (x : Tmp × Value) => tmps.setIfInBounds x.1 x.2) l.tmps) := by
              have := henv s Args l.tmps hA l7
              rw [← l4] at this
              rw [← Array.foldl_toList]
              simpa using this
            refine g1.wp ht trivial (show RoR s (some y) (some b) from hb) hr (hf.left g2.1) (Nat.le_trans g2.1 hl) fun s2 a2 w2 k1 k2 k3 k4 => ?_
            have hle2 := k4.le (hf.left g2.1)
            have hb2 := (hle2 y b hb).1
            obtain ⟨m, m1, m2, m3, m4, m5, m6, m7, m8⟩ := loop_row k3 hylim hb2 hy2
            have hbl := (Array.getElem?_eq_some_iff.1 m1).1
            obtain ⟨p1, p2, p3, p4, p5, p6⟩ := putObj_facts w2 b (.loop { m with state := .busy }) hbl
            refine ⟨_, run_beginRound m1 m2, ?_⟩
            obtain ⟨r1, r2⟩ := k3.write n2 hylim hy2 hb2 p1 p2 (A' := .loop .busy pe2 ps2 asg2 body2 e2 N2 d2) ⟨rfl, m3, m4, m5, m6, m7, m8⟩ p3 p4 p5 p6
            refine g2.wp k1 k2 (show RoR s2 (some y) (some b) from hb2) r1 (k4.free hf g1.1) hl fun s3 a3 w3 j1 j2 j3 j4 => ?_
            have hle3 := j4.le (k4.free hf g1.1)
            have hb3 := (hle3 y b hb2).1
            obtain ⟨q, q1, q2, q3, q4, q5, q6, q7, q8⟩ := loop_row j3 hylim hb3 hy4
            have hbl3 := (Array.getElem?_eq_some_iff.1 q1).1
            have hst : Step s n H w s3 n3 H3 w3 := ((k4.trans r2 g1.1 (Nat.le_refl _)).trans j4 g1.1 g2.1)
            have fin : ∀ (jump : Option Code), jump = jumpOf x → ∃ V w4, (Instr.endRound b jump).run P w3 = .ok V w4 ∧ R (.returned V) w4 := by
              intro jump hj
              subst hj
              obtain ⟨p1, p2, p3, p4, p5, p6⟩ := putObj_facts w3 b (.loop { q with state := if (jumpOf x).isNone then .ready else .done, pending := jumpOf x }) hbl3
              obtain ⟨r1, r2⟩ := j3.write n3 hylim hy4 hb3 p1 p2 (A' := .loop (stOf x) (jumpOf x) ps4 asg4 body4 e4 N4 d4) ⟨by cases x <;> rfl, rfl, q4, q5, q6, q7, q8⟩ p3 p4 p5 p6
              refine ⟨_, _, run_endRound _ q1, hR _ s3 _ ?_ (hH' ▸ r1) (hH' ▸ hst.trans r2 (Nat.le_trans g1.1 g2.1) (Nat.le_refl _))⟩
              subst hv
              cases x <;> rfl
            cases x with
            | nrm => exact fin _ rfl
            | ex id => exact fin _ rfl
            | rt => exact fin _ rfl
            | go t => exact fin _ rfl
          · cases h
        · cases h
        · cases h
      · cases h
    · cases h
    · cases h
  · cases h
/-- One operation that is wanted, whatever it does, but for a deferred call. -/
noncomputable def evV (P : Program) (ec : EC) (ef : EF) (o : Oper) (env : Env) (n : Nat) (H : Heap) : VR :=
  match evOp o.op P o env n H with
  | .val v n H => .ok v n H
  | .call g args => ef g args n H
  | .yld y args => evRound ec y args n H
  | .dfr _ _ => .er [235]
  | .no k => .er [k]
theorem evV_ok {ec : EC} {ef : EF} (hec : EcOk P ec) (hef : EfOk P ef) {o : Oper} {env : Env} {n : Nat} {H : Heap} {v : AV} {n' : Nat} {H' : Heap} (h : evV P ec ef o env n H = .ok v n' H') :
    n ≤ n' ∧ ∀ (s : Sg) (N : Nat) (a : Act) (w : World) (ro : Option Nat) (K : Act → World → Prop) (Q : Exit → Act → World → Prop), EnvR s env N a.tmps → Rel P s H w → Free s n n' → n' ≤ LIM →
      (∀ V s' w', v.conc s' = some V → Rel P s' H' w' → Step s n H w s' n' H' w' → K (a.put o.dst V) w') → o.wpIn (fen ro) 0 P a w K Q := by
  unfold evV at h
  split at h
  · rename_i v1 n1 H1 hv
    injection h with q1 q2 q3
    subst q1 q2 q3
    obtain ⟨g1, g2⟩ := (evOp_ok hv).op
    have hnd := evOp_no_dfr hv (fun _ _ e => by cases e) (fun _ e => by cases e)
    refine ⟨g1, fun s N a w ro K Q he hr hf hl hK => ⟨fun _ _ => fen_fn _ _, ?_⟩⟩
    rw [Oper.semAt_eq _ _ _ hnd]
    obtain ⟨V, s', w', r1, r2, r3, r4⟩ := g2 s N a w he hr hf hl
    rcases r1 with r1 | ⟨r1, rfl⟩
    · rw [r1]; exact hK V s' w' r2 r3 r4
    · rw [r1]; exact hK _ s' w' r2 r3 r4
  · rename_i g args hv
    have hnd := evOp_no_dfr hv (fun _ _ e => by cases e) (fun _ e => by cases e)
    obtain ⟨g1, g2⟩ := hef _ _ _ _ _ _ _ h
    refine ⟨g1, fun s N a w ro K Q he hr hf hl hK => ⟨fun _ _ => fen_fn _ _, ?_⟩⟩
    rw [Oper.semAt_eq _ _ _ hnd]
    obtain ⟨Args, c1, c2⟩ := evOp_call hv s N a he hr.glob
    rw [c2 w]
    exact ⟨fun h => fen_depth ro h, fen_calls (g2 s w Args (fun | .returned v, w'' => K (a.put o.dst v) w'' | .panicked chain, w'' => Q (.panic chain) a w'' | .outgrown, _ => LetsOut Q) c1 hr hf hl fun V s' w' r2 r3 r4 => hK V s' w' r2 r3 r4)⟩
  · rename_i y args hv
    have hnd := evOp_no_dfr hv (fun _ _ e => by cases e) (fun _ e => by cases e)
    obtain ⟨g1, g2⟩ := evRound_ok hec h
    refine ⟨g1, fun s N a w ro K Q he hr hf hl hK => ⟨fun _ _ => fen_fn _ _, ?_⟩⟩
    rw [Oper.semAt_eq _ _ _ hnd]
    obtain ⟨b, Args, c0, c1, c2⟩ := evOp_yld hv s N a he hr.glob
    obtain ⟨f, tmps, asg, body, d1, d2⟩ := g2 s w b Args ro (fun | .returned v, w'' => K (a.put o.dst v) w'' | .panicked chain, w'' => Q (.panic chain) a w'' | .outgrown, _ => LetsOut Q) c0 c1 hr hf hl fun V s' w' r2 r3 r4 => hK V s' w' r2 r3 r4
    rw [c2 w, d1]
    exact ⟨fun h => fen_depth ro h, d2⟩
  · cases h
  · cases h
end
end Go.Sy
