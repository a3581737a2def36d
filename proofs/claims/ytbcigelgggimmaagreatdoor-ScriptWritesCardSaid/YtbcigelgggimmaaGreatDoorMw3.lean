/- SymK, SymL, SymM, SymN, SymO, SymOI -/
import Derived.Test.YtbcigelgggimmaaGreatDoorMw2
import Derived.Deep.AppendSrc
import Derived.Laws.IdiomStrings
namespace Go.Sy
open Go
section
variable {P : Program}
theorem evLoad_ok {o : Oper} {t : TypeId} {x : Operand} (hop : o.op = .load t x) {env : Env} {n n' : Nat} {H H' : Heap} {v : AV} (h : evLoad P t x env n H = .val v n' H') : n' = n ∧ H' = H ∧ ReadOk P o env H v := by
  unfold evLoad at h
  split at h
  · rename_i y q hx
    split at h
    · rename_i t' z m c ex mk hH
      have addr : ∀ {s : Sg} {N : Nat} {a : Act} {w : World}, EnvR s env N a.tmps → Rel P s H w → ∃ b ob, a.eval x = .pointer (some ⟨b, q, none⟩) ∧ w.heap[b]? = some ob ∧ BlkR P s y (.row t' z m c ex mk) ob := fun he hr => by
        have ex' := opd_conc he hr.glob hx
        simp only [AV.conc, Option.map_eq_some_iff] at ex'
        obtain ⟨b, hb, ex'⟩ := ex'
        obtain ⟨b', ob, h1, h2, h3⟩ := hr.blk y _ (hr.lim y b hb) hH
        rw [hb] at h1; injection h1 with h1; subst h1
        exact ⟨b, ob, ex'.symm, h2, h3⟩
      split at h
      · rename_i hagg
        split at h
        · rename_i u hu
          injection h with h1 h2 h3
          subst h1 h2 h3
          refine ⟨rfl, rfl, fun s N a w k he hr => ?_⟩
          obtain ⟨b, ob, e1, e2, e3⟩ := addr he hr
          obtain ⟨V, v1, v2, _⟩ := e3.cell e2 hu
          refine ⟨V, w, ?_, v1, hr, Step.refl ..⟩
          simp [execOp, hop, Instr.loadAt, e1, Instr.sureAddr, loadVar, isAggB_run hagg, v2]
        · cases h
      · rename_i hagg
        split at h
        · rename_i sz hsz
          split at h
          · rename_i l hl
            injection h with h1 h2 h3
            subst h1 h2 h3
            refine ⟨rfl, rfl, fun s N a w k he hr => ?_⟩
            obtain ⟨b, ob, e1, e2, e3⟩ := addr he hr
            obtain ⟨vs, v1, v2, v3, v4⟩ := e3.cells e2 hl
            refine ⟨.agg ⟨vs⟩, w, ?_, conc_agg v1 v3, hr, Step.refl ..⟩
            have hc := run_loadCells_list (P := P) w ⟨b, q, none⟩ vs v4
            rw [v2] at hc
            simp [execOp, hop, Instr.loadAt, e1, Instr.sureAddr, loadVar, isAggB_run hagg, sizeB_run hsz, hc]
          · cases h
        · cases h
      · cases h
    · cases h
  · cases h
/-- Cells are written into a row. -/
theorem write_ok {s : Sg} {H : Heap} {w : World} (hr : Rel P s H w) {y : Nat} {e : TypeId} {z : Nat → Option AV} {m : Nat} {c : T AV} {ex mk : Bool} (hH : Q8.get H y = some (.row e z m c ex mk)) {b : Nat} (hb : s.blk y = some b)
    {l : List AV} {vs : List Value} (hl : concL s l = some vs) (h1 : vs.all Value.oneCell' = true) {q : Nat} (hq : q + l.length ≤ m) (n : Nat) :
    ∃ w', (storeCells ⟨b, q, none⟩ vs).run P w = .ok () w' ∧ Rel P s (Q8.upd H y (some (.row e z m (c.puts l q) ex mk))) w' ∧ Step s n H w s n (Q8.upd H y (some (.row e z m (c.puts l q) ex mk))) w' := by
  obtain ⟨b', ob, k1, k2, k3⟩ := hr.blk y _ (hr.lim y b hb) hH
  rw [hb] at k1; injection k1 with k1; subst k1
  cases ob with
  | cells a t' fz =>
    have hlen := concL_length hl
    have hm : m ≤ a.size := k3.2.1
    obtain ⟨a', r1, r2, r3, r4, r5, r6, r7, r8⟩ := setCells_row b t' fz vs q w a k2 (by omega)
    refine ⟨w.setCells b q vs, ?_, ?_⟩
    · have := run_storeCells_cells (P := P) b q vs 0 w (fun j hj => ?_) (fun j hj => ?_) (fun v hv => (List.all_eq_true.1 h1) v hv)
      · simpa using this
      · simp only [Nat.add_zero, World.cell?, k2]
        have : q + j < a.size := by omega
        simp [this]
      · exact k3.frozen k2 (show q + 0 + j < a.size by omega)
    · obtain ⟨c1, c2, c3, c4, c5⟩ := k3
      refine hr.write n (hr.lim y b hb) hH hb r5 r1 ⟨c1, by omega, fun i A hA => ?_, by rw [r2]; exact c4, by rw [r2]; exact c5⟩ r4 r6 r7 r8
      rw [cellAt_eq] at hA
      split at hA
      · rename_i hi
        rw [T.get_puts] at hA
        rw [r3 i]
        by_cases hw : q ≤ i ∧ i < q + l.length
        · rw [if_pos hw] at hA
          rw [if_pos (by omega)]
          have hsome : ∃ u, l[i - q]? = some u := ⟨l[i - q]'(by omega), List.getElem?_eq_getElem (by omega)⟩
          obtain ⟨u, hu⟩ := hsome
          rw [hu] at hA
          injection hA with hA; subst hA
          obtain ⟨V, v1, v2⟩ := concL_get hl hu
          exact ⟨V, v1, v2, (List.all_eq_true.1 h1) V (List.mem_of_getElem? v2)⟩
        · rw [if_neg hw] at hA
          rw [if_neg (by omega)]
          exact c3 i A (by rw [cellAt_eq, if_pos hi]; exact hA)
      · cases hA
  | _ => exact k3.elim
theorem evStore_ok {o : Oper} {t : TypeId} {x y : Operand} (hop : o.op = .store t x y) {env : Env} {n n' : Nat} {H H' : Heap} {v : AV} (h : evStore P t x y env n H = .val v n' H') : OpOk P o env n H v n' H' := by
  unfold evStore at h
  split at h
  · rename_i g q u hx hy
    split at h
    · rename_i e z m c ex mk sz hH hsz
      split at h
      · cases h
      · rename_i hnt hb2 hb1
        rw [putCells_k, Q8.set_k] at h
        injection h with h1 h2 h3
        subst h1 h2 h3
        refine ⟨Nat.le_refl _, fun s N a w he hr _ _ => ?_⟩
        have ex' := opd_conc he hr.glob hx
        simp only [AV.conc, Option.map_eq_some_iff] at ex'
        obtain ⟨b, hb, ex'⟩ := ex'
        obtain ⟨vs, c1, c2, c3⟩ := cells_conc (opd_conc he hr.glob hy) hnt
        rw [natbeq] at hb1
        have hb1 := of_decide_eq_true hb1
        rw [len_eq] at hb1
        have hb2 : q + sz ≤ m := Nat.ble_eq.mp hb2
        obtain ⟨w', r1, r2, r3⟩ := write_ok hr hH hb c1 c3 (q := q) (by omega) n
        refine ⟨undef, s, w', .inr ⟨?_, rfl⟩, by simp [undefA, AV.conc, concL, undef], r2, r3⟩
        have hvl : vs.length = sz := by rw [concL_length c1]; exact hb1
        simp [execOp, hop, Instr.storeAt, ← ex', Instr.sureAddr, storeVar, sizeB_run hsz, c2, hvl, r1]
      · cases h
    · cases h
  · cases h
end
end Go.Sy
namespace Go.Sy
open Go
section
variable {P : Program}
theorem bytes_eq (a b : ByteArray) : (a == b) = true ↔ a = b := by
  cases a with | mk x => cases b with | mk y =>
  constructor
  · intro h
    have e : x = y := by simpa using (show (x == y) = true from h)
    rw [e]
  · intro h
    cases h
    show (x == x) = true
    simp
theorem heap_set' {w : World} {r : Nat} {o o' : Obj} (hb : w.heap[r]? = some o) : (w.heap.setIfInBounds r o')[r]? = some o' ∧ ∀ r', r' ≠ r → (w.heap.setIfInBounds r o')[r']? = w.heap[r']? := by
  have hlt : r < w.heap.size := (Array.getElem?_eq_some_iff.1 hb).1
  exact ⟨by simp [hlt], fun r' hne => by simp [Ne.symm hne]⟩
theorem bytes_beq' (l m : List UInt8) : ((⟨⟨l⟩⟩ : ByteArray) == ⟨⟨m⟩⟩) = (l == m) := by
  rw [Bool.eq_iff_iff, bytes_eq]
  simp
theorem getObj_map {w : World} {r : Nat} {es : Array MapEntry} {clock : Nat} (hb : w.heap[r]? = some (.map es clock)) : (getObj r).run P w = .ok (.map es clock) w := by
  simp [getObj, Sem.run, hb]
theorem setObj_map {w : World} {r : Nat} {es : Array MapEntry} {clock : Nat} (o : Obj) (hb : w.heap[r]? = some (.map es clock)) : (setObj r o).run P w = .ok () { w with heap := w.heap.setIfInBounds r o } := by
  simp [setObj, Sem.run, hb]
theorem keyEq_now {d : TypeDesc} {k e : AV} {r : Bool} {s : Sg} {kv ev : Value} (hk : keyType d k = true) (h : keyEq k e = some r) (h1 : k.conc s = some kv) (h2 : e.conc s = some ev) : Instr.sameNow d kv ev = some r ∧ (r = true → kv = ev) := by
  unfold keyEq at h
  split at h
  · rename_i j a k' b
    rw [bsel] at h
    split at h
    · rename_i hk'
      have := ikEq_eq hk'
      subst this
      injection h with h
      simp only [AV.conc, Option.some.injEq] at h1 h2
      subst h1 h2
      cases d <;> simp [keyType] at hk
      rw [natbeq] at h
      subst h
      refine ⟨?_, fun h => by simp at h; rw [h]⟩
      simp only [Instr.sameNow, if_true, Option.some.injEq]
      rw [Bool.eq_iff_iff]; simp; omega
    · cases h
  · injection h with h
    simp only [AV.conc, Option.some.injEq] at h1 h2
    subst h1 h2
    cases d <;> simp [keyType] at hk
    subst h
    refine ⟨by simp only [Instr.sameNow, bytes_beq'], fun h => by simp at h; rw [h]⟩
  · injection h with h
    simp only [AV.conc, Option.some.injEq] at h1 h2
    subst h1 h2
    cases d <;> simp [keyType] at hk
    subst h
    exact ⟨rfl, fun h => by simp at h; rw [h]⟩
  · cases h
theorem findK_ok {d : TypeDesc} {s : Sg} {k : AV} {kv : Value} (hk : keyType d k = true) (h1 : k.conc s = some kv) : ∀ {es : List (AV × AV × Nat)} {fs : List MapEntry} {i : Nat} {r : Option (Nat × AV × Nat)}, All2 (MapR s) es fs → findK k es i = some r →
    (r = none → Instr.findNow d kv fs i = some none) ∧
    (∀ j v b, r = some (j, v, b) → ∃ p V f, j = i + p ∧ fs[p]? = some f ∧ f.key = kv ∧ f.val = V ∧ f.born = b ∧ v.conc s = some V ∧ Instr.findNow d kv fs i = some (some (j, V)))
  | [], [], i, r, _, h => by
    have h : some (none : Option (Nat × AV × Nat)) = some r := h
    injection h with h; subst h
    exact ⟨fun _ => rfl, fun j v b e => (by cases e)⟩
  | e :: es, f :: fs, i, r, hm, h => by
    obtain ⟨⟨m1, m2, m3⟩, hr⟩ := hm
    have h : (match keyEq k e.1 with | some true => some (some (i, e.2)) | some false => findK k es (Nat.succ i) | none => none) = some r := h
    split at h
    · rename_i hq
      injection h with h; subst h
      obtain ⟨q1, q2⟩ := keyEq_now hk hq h1 m1
      refine ⟨fun e => (by cases e), fun j v b e' => ?_⟩
      injection e' with e'
      obtain ⟨e1, e2⟩ := Prod.mk.inj e'
      subst e1
      rw [e2] at m2 m3
      exact ⟨0, f.val, f, rfl, rfl, (q2 rfl).symm, rfl, m3, m2, by simp [Instr.findNow, q1]⟩
    · rename_i hq
      obtain ⟨q1, q2⟩ := keyEq_now hk hq h1 m1
      obtain ⟨k1, k3⟩ := findK_ok hk h1 hr h
      refine ⟨fun e => by simp [Instr.findNow, q1, k1 e], fun j v b e => ?_⟩
      obtain ⟨p, V, f', p1, p2, p3, p4, p5, p6, p7⟩ := k3 j v b e
      exact ⟨p + 1, V, f', by omega, by simpa using p2, p3, p4, p5, p6, by simp [Instr.findNow, q1, p7]⟩
    · cases h
theorem checkKey_run {kt : TypeId} {d : TypeDesc} {s : Sg} {k : AV} {kv : Value} (hd : P.underlying kt = some d) (hk : keyType d k = true) (h1 : k.conc s = some kv) (em : Bool) (w : World) : (Instr.checkKey em 10000 kt kv).run P w = .ok () w := by
  have e : Instr.checkKey em 10000 kt kv = Instr.checkKey em (9999 + 1) kt kv := rfl
  rw [e]
  unfold Instr.checkKey
  simp only [Sem.run_bind, underlying_run hd, Result.andThen_ok]
  unfold keyType at hk
  split at hk <;> first | (cases hk; done) | skip
  all_goals simp only [AV.conc, Option.some.injEq] at h1; subst h1; rfl
theorem findKey_run {kt : TypeId} {d : TypeDesc} {kv : Value} {fs : List MapEntry} {r : Option (Nat × Value)} (hd : P.underlying kt = some d) (h : Instr.findNow d kv fs 0 = some r) (w : World) : (Instr.findKey kt kv fs).run P w = .ok r w := by
  simp [Instr.findKey, underlying_run hd, h]
theorem sameBits_key {d : TypeDesc} {k : AV} {s : Sg} {kv : Value} (hk : keyType d k = true) (h1 : k.conc s = some kv) : Instr.sameBits 10000 kv kv = true := by
  unfold keyType at hk
  split at hk <;> first | (cases hk; done) | skip
  all_goals simp only [AV.conc, Option.some.injEq] at h1; subst h1; simp [Instr.sameBits, bytes_eq]
/-- The map that an operand stands for. -/
theorem map_at {s : Sg} {N : Nat} {a : Act} {env : Env} {H : Heap} {w : World} (he : EnvR s env N a.tmps) (hr : Rel P s H w) {x : Operand} {y : Nat} (hx : opd env x = some (.m y)) {es : List (AV × AV × Nat)} {cl : Nat} (hH : Q8.get H y = some (.map es cl)) :
    ∃ b fs, s.blk y = some b ∧ a.eval x = .map (some b) ∧ w.heap[b]? = some (.map fs cl) ∧ All2 (MapR s) es fs.toList := by
  have ex := opd_conc he hr.glob hx
  simp only [AV.conc, Option.map_eq_some_iff] at ex
  obtain ⟨b, hb, ex⟩ := ex
  obtain ⟨b', ob, h1, h2, h3⟩ := hr.blk y _ (hr.lim y b hb) hH
  rw [hb] at h1; injection h1 with h1; subst h1
  cases ob with
  | map fs cl' =>
    obtain ⟨rfl, h3⟩ := h3
    exact ⟨b, fs, hb, ex.symm, h2, h3⟩
  | _ => exact h3.elim
theorem evLookup_ok {o : Oper} {t : TypeId} {x y : Operand} {ok : Bool} (hop : o.op = .lookup t x y ok) {env : Env} {n n' : Nat} {H H' : Heap} {v : AV} (h : evLookup P t x y ok env n H = .val v n' H') : n' = n ∧ H' = H ∧ ReadOk P o env H v := by
  unfold evLookup at h
  split at h
  · rename_i g kv kt e hx hy hu
    split at h
    · rename_i es cl d z hH hd hz
      obtain ⟨iz, zv, hi, hzv, hzo⟩ := zeroB_info hz
      split at h
      · rename_i j u b hk hf
        have fin : n' = n ∧ H' = H ∧ v = (if ok then .tup [u, .b true] else u) := by
          cases ok <;> injection h with h1 h2 h3 <;> exact ⟨h2.symm, h3.symm, h1.symm⟩
        obtain ⟨rfl, rfl, rfl⟩ := fin
        refine ⟨rfl, rfl, fun s N a w m he hr => ?_⟩
        obtain ⟨B, fs, hB, e1, e2, e3⟩ := map_at he hr hx hH
        have ky := opd_conc he hr.glob hy
        obtain ⟨_, k3⟩ := findK_ok hk ky e3 hf
        obtain ⟨p, V, f', p1, p2, p3, p4, p5, p6, p7⟩ := k3 j u b rfl
        have hl : (Instr.lookup t (a.eval x) (a.eval y) ok).run P w = .ok (if ok then .tuple #[V, .bool true] else V) w := by
          have hg := getObj_map (P := P) e2
          simp [Instr.lookup, underlying_run hu, e1, hg, checkKey_run hd hk ky, findKey_run hd p7]
        refine ⟨if ok then .tuple #[V, .bool true] else V, w, by simp [execOp, hop, hl], ?_, hr, Step.refl ..⟩
        cases ok <;> simp [AV.conc, concL, p6]
      · rename_i hk hf
        have fin : n' = n ∧ H' = H ∧ v = (if ok then .tup [z, .b false] else z) := by
          cases ok <;> injection h with h1 h2 h3 <;> exact ⟨h2.symm, h3.symm, h1.symm⟩
        obtain ⟨rfl, rfl, rfl⟩ := fin
        refine ⟨rfl, rfl, fun s N a w m he hr => ?_⟩
        obtain ⟨B, fs, hB, e1, e2, e3⟩ := map_at he hr hx hH
        have ky := opd_conc he hr.glob hy
        obtain ⟨k1, _⟩ := findK_ok hk ky e3 hf
        have hl : (Instr.lookup t (a.eval x) (a.eval y) ok).run P w = .ok (if ok then .tuple #[zv, .bool false] else zv) w := by
          have hg := getObj_map (P := P) e2
          simp [Instr.lookup, underlying_run hu, e1, hg, checkKey_run hd hk ky, findKey_run hd (k1 rfl), zeroValue, typeInfo, hi, hzv]
        have hzc := ofValue_conc hzo s
        refine ⟨if ok then .tuple #[zv, .bool false] else zv, w, by simp [execOp, hop, hl], ?_, hr, Step.refl ..⟩
        cases ok <;> simp [AV.conc, concL, hzc]
      · cases h
    · cases h
  · cases h
/-! Maps that are written -/
theorem modAt_ok {s : Sg} {g : AV × AV × Nat → AV × AV × Nat} {gm : MapEntry → MapEntry} : ∀ {es : List (AV × AV × Nat)} {fs : List MapEntry} {p : Nat}, All2 (MapR s) es fs →
    (∀ e f, es[p]? = some e → fs[p]? = some f → MapR s (g e) (gm f)) → All2 (MapR s) (modAt es g p) (fs.modify p gm)
  | [], [], p, _, _ => by cases p <;> trivial
  | e :: es, f :: fs, 0, h, hg => by
    show All2 (MapR s) (g e :: es) ((f :: fs).modify 0 gm)
    rw [List.modify_zero_cons]
    exact ⟨hg e f rfl rfl, h.2⟩
  | e :: es, f :: fs, p + 1, h, hg => by
    show All2 (MapR s) (e :: modAt es g p) ((f :: fs).modify (p + 1) gm)
    rw [List.modify_succ_cons]
    exact ⟨h.1, modAt_ok h.2 fun e' f' h1 h2 => hg e' f' (by simpa using h1) (by simpa using h2)⟩
theorem All2.at {α β : Type} {R : α → β → Prop} : ∀ {l : List α} {m : List β} {p : Nat} {a : α} {b : β}, All2 R l m → l[p]? = some a → m[p]? = some b → R a b
  | [], [], p, a, b, _, h, _ => by simp at h
  | _ :: _, _ :: _, 0, a, b, h, h1, h2 => by simp at h1 h2; subst h1 h2; exact h.1
  | _ :: _, _ :: _, p + 1, a, b, h, h1, h2 => h.2.at (by simpa using h1) (by simpa using h2)
theorem All2.push {α β : Type} {R : α → β → Prop} : ∀ {l : List α} {m : List β} {a : α} {b : β}, All2 R l m → R a b → All2 R (l ++ [a]) (m ++ [b])
  | [], [], _, _, _, h => ⟨h, trivial⟩
  | _ :: _, _ :: _, _, _, h, k => ⟨h.1, h.2.push k⟩
theorem All2.erase {α β : Type} {R : α → β → Prop} : ∀ {l : List α} {m : List β} (p : Nat), All2 R l m → All2 R (l.eraseIdx p) (m.eraseIdx p)
  | [], [], p, _ => by simp; trivial
  | _ :: _, _ :: _, 0, h => h.2
  | _ :: _, _ :: _, p + 1, h => ⟨h.1, h.2.erase p⟩
theorem eraseAt_eq : ∀ (es : List (AV × AV × Nat)) (p : Nat), eraseAt es p = es.eraseIdx p
  | [], p => by simp [eraseAt]
  | e :: es, 0 => rfl
  | e :: es, p + 1 => by show e :: eraseAt es p = _; rw [eraseAt_eq es p]; rfl
/-- A map's block is written. -/
theorem map_write {s : Sg} {H : Heap} {w : World} (hr : Rel P s H w) {y b : Nat} (hb : s.blk y = some b) {A : Blk} (hH : Q8.get H y = some A) {fs gs : Array MapEntry} {cl cl' cl2 : Nat} {es : List (AV × AV × Nat)} (hw : w.heap[b]? = some (.map fs cl)) (hes : All2 (MapR s) es gs.toList) (hc : cl' = cl2) (n : Nat) :
    ∃ w', (setObj b (.map gs cl')).run P w = .ok () w' ∧ Rel P s (Q8.upd H y (some (.map es cl2))) w' ∧ Step s n H w s n (Q8.upd H y (some (.map es cl2))) w' := by
  subst hc
  refine ⟨_, setObj_map (P := P) _ hw, ?_⟩
  obtain ⟨h1, h2⟩ := heap_set' (w := w) (o' := .map gs cl') hw
  exact hr.write n (hr.lim y b hb) hH hb (by simp) h1 ⟨rfl, hes⟩ h2 rfl rfl rfl
theorem concU (s : Sg) : undefA.conc s = some undef := rfl
theorem evMapUpdate_ok {o : Oper} {t : TypeId} {x y u : Operand} (hop : o.op = .mapUpdate t x y u) {env : Env} {n n' : Nat} {H H' : Heap} {v : AV} (h : evMapUpdate P t x y u env n H = .val v n' H') : OpOk P o env n H v n' H' := by
  unfold evMapUpdate at h
  split at h
  · rename_i g kv uv kt e hx hy hu' hu
    split at h
    · rename_i es cl d hH hd
      split at h
      · rename_i j ob hk hf
        obtain ⟨ov, b⟩ := ob
        rw [frcL_eq, Q8.set_k] at h
        injection h with h1 h2 h3
        subst h1 h2 h3
        refine ⟨Nat.le_refl _, fun s N a w he hr _ _ => ?_⟩
        obtain ⟨B, fs, hB, e1, e2, e3⟩ := map_at he hr hx hH
        have ky := opd_conc he hr.glob hy
        have kx := opd_conc he hr.glob hu'
        obtain ⟨_, k3⟩ := findK_ok hk ky e3 hf
        obtain ⟨p, V, f', p1, p2, p3, p4, p5, p6, p7⟩ := k3 j ov b rfl
        rw [Nat.zero_add] at p1; subst p1
        have p2' : fs[j]? = some f' := by simpa using p2
        obtain ⟨w', r1, r2, r3⟩ := map_write (es := modAt es (fun e => (kv, uv, e.2.2)) j) (gs := fs.modify j fun e => { e with key := a.eval y, val := a.eval u }) hr hB hH e2 (by
          rw [Array.toList_modify]
          exact modAt_ok e3 fun e f h1 h2 => ⟨ky, kx, (All2.at e3 h1 h2).2.2⟩) rfl n
        refine ⟨undef, s, w', .inr ⟨?_, rfl⟩, concU s, r2, r3⟩
        have hg := getObj_map (P := P) e2
        simp [execOp, hop, Instr.mapUpdate, underlying_run hu, e1, hg, checkKey_run hd hk ky, findKey_run hd p7, Instr.keyThatStays, p2', p3, sameBits_key hk ky, r1]
      · rename_i hk hf
        rw [frcL_eq, frc_eq, Q8.set_k] at h
        injection h with h1 h2 h3
        subst h1 h2 h3
        refine ⟨Nat.le_refl _, fun s N a w he hr _ _ => ?_⟩
        obtain ⟨B, fs, hB, e1, e2, e3⟩ := map_at he hr hx hH
        have ky := opd_conc he hr.glob hy
        have kx := opd_conc he hr.glob hu'
        obtain ⟨k1, _⟩ := findK_ok hk ky e3 hf
        obtain ⟨w', r1, r2, r3⟩ := map_write (cl' := cl + 1) (cl2 := Nat.succ cl) (es := es ++ [(kv, uv, cl)]) (gs := fs.push { key := a.eval y, val := a.eval u, born := cl }) hr hB hH e2 (by
          rw [Array.toList_push]
          exact e3.push ⟨ky, kx, rfl⟩) rfl n
        refine ⟨undef, s, w', .inr ⟨?_, rfl⟩, concU s, r2, r3⟩
        have hg := getObj_map (P := P) e2
        simp [execOp, hop, Instr.mapUpdate, underlying_run hu, e1, hg, checkKey_run hd hk ky, findKey_run hd (k1 rfl), r1]
      · cases h
    · cases h
  · cases h
theorem evMapEntry_ok {o : Oper} {t : TypeId} {x y : Operand} (hop : o.op = .mapEntry t x y) {env : Env} {n n' : Nat} {H H' : Heap} {v : AV} (h : evMapEntry P t x y env n H = .val v n' H') : OpOk P o env n H v n' H' := by
  unfold evMapEntry at h
  split at h
  · rename_i g kv kt e hx hy hu
    split at h
    · rename_i es cl d z hH hd hz
      split at h
      · rename_i j ov b hk hf
        rw [frcL_eq, Q8.set_k] at h
        injection h with h1 h2 h3
        subst h1 h2 h3
        refine ⟨Nat.le_refl _, fun s N a w he hr _ _ => ?_⟩
        obtain ⟨B, fs, hB, e1, e2, e3⟩ := map_at he hr hx hH
        have ky := opd_conc he hr.glob hy
        obtain ⟨_, k3⟩ := findK_ok hk ky e3 hf
        obtain ⟨p, V, f', p1, p2, p3, p4, p5, p6, p7⟩ := k3 j ov b rfl
        rw [Nat.zero_add] at p1; subst p1
        have p2' : fs[j]? = some f' := by simpa using p2
        obtain ⟨w', r1, r2, r3⟩ := map_write (es := modAt es (fun e => (kv, e.2)) j) (gs := fs.modify j fun e => { e with key := a.eval y }) hr hB hH e2 (by
          rw [Array.toList_modify]
          exact modAt_ok e3 fun e f h1 h2 => ⟨ky, (All2.at e3 h1 h2).2.1, (All2.at e3 h1 h2).2.2⟩) rfl n
        refine ⟨.tuple #[V, goInt f'.born], s, w', .inl ?_, ?_, r2, r3⟩
        · have hg := getObj_map (P := P) e2
          simp [execOp, hop, Instr.mapEntry, underlying_run hu, e1, hg, checkKey_run hd hk ky, findKey_run hd p7, Instr.keyThatStays, p2', p3, sameBits_key hk ky, r1]
        · simp [AV.conc, concL, p6, p5, goInt]
      · rename_i hk hf
        rw [frcL_eq, Q8.set_k] at h
        injection h with h1 h2 h3
        subst h1 h2 h3
        refine ⟨Nat.le_refl _, fun s N a w he hr _ _ => ?_⟩
        obtain ⟨iz, zv, hi, hzv, hzo⟩ := zeroB_info hz
        have hzc := ofValue_conc hzo s
        obtain ⟨B, fs, hB, e1, e2, e3⟩ := map_at he hr hx hH
        have ky := opd_conc he hr.glob hy
        obtain ⟨k1, _⟩ := findK_ok hk ky e3 hf
        obtain ⟨w', r1, r2, r3⟩ := map_write (cl' := cl + 1) (cl2 := Nat.succ cl) (es := es ++ [(kv, z, cl)]) (gs := fs.push { key := a.eval y, val := zv, born := cl }) hr hB hH e2 (by
          rw [Array.toList_push]
          exact e3.push ⟨ky, hzc, rfl⟩) rfl n
        refine ⟨.tuple #[zv, goInt cl], s, w', .inl ?_, ?_, r2, r3⟩
        · have hg := getObj_map (P := P) e2
          simp [execOp, hop, Instr.mapEntry, underlying_run hu, e1, hg, checkKey_run hd hk ky, findKey_run hd (k1 rfl), zeroValue, typeInfo, hi, hzv, r1]
        · simp [AV.conc, concL, hzc, goInt]
      · cases h
    · cases h
  · cases h
theorem findB_ok {s : Sg} {b : Nat} : ∀ {es : List (AV × AV × Nat)} {fs : List MapEntry} {i j : Nat}, All2 (MapR s) es fs → findB b es i = some j → ∃ p, j = i + p ∧ fs.findIdx? (fun e => (e.born : Int) == (b : Int)) = some p
  | [], [], i, j, _, h => by cases h
  | e :: es, f :: fs, i, j, hm, h => by
    have h : Bool.rec (motive := fun _ => Option Nat) (findB b es (Nat.succ i)) (some i) (Nat.beq e.2.2 b) = some j := h
    rw [bsel, natbeq] at h
    have hb : f.born = e.2.2 := hm.1.2.2
    split at h
    · rename_i hq
      have hq := of_decide_eq_true hq
      injection h with h; subst h
      exact ⟨0, rfl, by rw [List.findIdx?_cons]; simp [hb, hq]⟩
    · rename_i hq
      have hq : ¬ e.2.2 = b := fun e0 => hq (by simp [e0])
      obtain ⟨p, h1, h2⟩ := findB_ok hm.2 h
      refine ⟨p + 1, by omega, ?_⟩
      rw [List.findIdx?_cons, if_neg (by simp [hb]; omega), h2]; rfl
theorem evEntryStore_ok {o : Oper} {t : TypeId} {x y u : Operand} (hop : o.op = .entryStore t x y u) {env : Env} {n n' : Nat} {H H' : Heap} {v : AV} (h : evEntryStore x y u env n H = .val v n' H') : OpOk P o env n H v n' H' := by
  unfold evEntryStore at h
  split at h
  · rename_i g k b uv hx hy hu'
    split at h
    · rename_i es cl hH
      split at h
      · rename_i j hf
        rw [frcL_eq, Q8.set_k] at h
        injection h with h1 h2 h3
        subst h1 h2 h3
        refine ⟨Nat.le_refl _, fun s N a w he hr _ _ => ?_⟩
        obtain ⟨B, fs, hB, e1, e2, e3⟩ := map_at he hr hx hH
        have ky := opd_conc he hr.glob hy
        have kx := opd_conc he hr.glob hu'
        simp only [AV.conc, Option.some.injEq] at ky
        obtain ⟨p, p1, p2⟩ := findB_ok e3 hf
        rw [Nat.zero_add] at p1; subst p1
        obtain ⟨w', r1, r2, r3⟩ := map_write (es := modAt es (fun e => (e.1, uv, e.2.2)) j) (gs := fs.modify j fun e => { e with val := a.eval u }) hr hB hH e2 (by
          rw [Array.toList_modify]
          exact modAt_ok e3 fun e f h1 h2 => ⟨(All2.at e3 h1 h2).1, kx, (All2.at e3 h1 h2).2.2⟩) rfl n
        refine ⟨undef, s, w', .inr ⟨?_, rfl⟩, concU s, r2, r3⟩
        have hg := getObj_map (P := P) e2
        have p2' : fs.findIdx? (fun e => (e.born : Int) == (b : Int)) = some j := by cases fs with | mk l => simpa using p2
        have p2'' : fs.findIdx? (fun e => (e.born : Int) == Int.ofNat b) = some j := p2'
        simp only [execOp, hop, Instr.entryStore, Sem.run_bind, e1, hg, Result.andThen_ok, ← ky, asInt, asIntOf, Sem.run_pure, p2'', r1]
      · cases h
    · cases h
  · cases h
end
end Go.Sy
namespace Go.Sy
open Go
section
variable {P : Program}
theorem exec_builtin {o : Oper} {c : Call} {b : Builtin} (hop : o.op = .call c) (hc : c.callee = .builtin b) (ρ : Operand → Value) :
    execOp ρ o = builtin b c.argTypes o.type (c.args.map fun | .const _ => true | _ => false) (c.args.map ρ) := by
  obtain ⟨dst, op', ty, pos, af, gu⟩ := o
  simp only at hop
  subst hop
  simp only [execOp, resolve, hc]
  rfl
theorem arr0 {α : Type} {as : Array α} {x : α} {r : List α} (h : as.toList = x :: r) : as[0]? = some x := by
  rw [← Array.getElem?_toList, h]; rfl
theorem arr1 {α : Type} {as : Array α} {x y : α} {r : List α} (h : as.toList = x :: y :: r) : as[1]? = some y := by
  rw [← Array.getElem?_toList, h]; rfl
theorem evDelete_ok {o : Oper} {c : Call} (hop : o.op = .call c) (hc : c.callee = .builtin .delete) {env : Env} {n n' : Nat} {H H' : Heap} {v : AV} (h : evDelete P c.argTypes.toList c.args.toList env n H = .val v n' H') : OpOk P o env n H v n' H' := by
  unfold evDelete at h
  split at h
  · rename_i t ts x y r hts has
    split at h
    · rename_i kt e g kv hu hx hy
      split at h
      · rename_i es cl d hH hd
        split at h
        · rename_i j ob hk hf
          obtain ⟨ov, b⟩ := ob
          rw [frcL_eq, Q8.set_k] at h
          injection h with h1 h2 h3
          subst h1 h2 h3
          refine ⟨Nat.le_refl _, fun s N a w he hr _ _ => ?_⟩
          obtain ⟨B, fs, hB, e1, e2, e3⟩ := map_at he hr hx hH
          have ky := opd_conc he hr.glob hy
          obtain ⟨_, k3⟩ := findK_ok hk ky e3 hf
          obtain ⟨p, V, f', p1, p2, p3, p4, p5, p6, p7⟩ := k3 j ov b rfl
          rw [Nat.zero_add] at p1; subst p1
          obtain ⟨w', r1, r2, r3⟩ := map_write (es := eraseAt es j) (gs := fs.eraseIdxIfInBounds j) hr hB hH e2 (by
            rw [eraseAt_eq]
            have : (fs.eraseIdxIfInBounds j).toList = fs.toList.eraseIdx j := by
              unfold Array.eraseIdxIfInBounds
              split
              · simp
              · rw [List.eraseIdx_of_length_le (by simpa using Nat.not_lt.1 ‹_›)]
            rw [this]
            exact e3.erase j) rfl n
          refine ⟨undef, s, w', .inl ?_, concU s, r2, r3⟩
          have hg := getObj_map (P := P) e2
          rw [exec_builtin hop hc]
          simp [builtin, Builtin.delete_, arr0 hts, arr0 has, arr1 has, underlying_run hu, e1, hg, checkKey_run hd hk ky, findKey_run hd p7, r1, undef]
        · rename_i hk hf
          injection h with h1 h2 h3
          subst h1 h2 h3
          refine ⟨Nat.le_refl _, fun s N a w he hr _ _ => ?_⟩
          obtain ⟨B, fs, hB, e1, e2, e3⟩ := map_at he hr hx hH
          have ky := opd_conc he hr.glob hy
          obtain ⟨k1, _⟩ := findK_ok hk ky e3 hf
          have hset := setObj_map (P := P) (.map fs cl) e2
          have heq : w.heap.setIfInBounds B (.map fs cl) = w.heap := by
            apply Array.ext_getElem?
            intro i
            by_cases hi : i = B
            · subst hi; rw [(heap_set' e2).1, e2]
            · rw [(heap_set' e2).2 i hi]
          rw [heq] at hset
          refine ⟨undef, s, w, .inl ?_, concU s, hr, Step.refl ..⟩
          have hg := getObj_map (P := P) e2
          rw [exec_builtin hop hc]
          simp [builtin, Builtin.delete_, arr0 hts, arr0 has, arr1 has, underlying_run hu, e1, hg, checkKey_run hd hk ky, findKey_run hd (k1 rfl), hset, undef]
        · cases h
      · cases h
    · cases h
  · cases h
theorem All2.length {α β : Type} {R : α → β → Prop} : ∀ {l : List α} {m : List β}, All2 R l m → l.length = m.length
  | [], [], _ => rfl
  | _ :: _, _ :: _, h => by simp only [List.length_cons, h.2.length]
theorem evLen_ok {o : Oper} {c : Call} (hop : o.op = .call c) (hc : c.callee = .builtin .len) {env : Env} {n n' : Nat} {H H' : Heap} {v : AV} (h : evLen P o c.argTypes.toList c.args.toList env n H = .val v n' H') :
    n' = n ∧ H' = H ∧ ReadOk P o env H v ∧ ((∀ t r, c.argTypes.toList = t :: r → ∀ k e, P.underlying t ≠ some (.map k e)) → PureOk P o env v) := by
  unfold evLen at h
  split at h
  · rename_i t ts x r hts has
    have pure' : ∀ {m : Nat}, (∀ (s : Sg) (N : Nat) (a : Act), EnvR s env N a.tmps → s.glob → ∀ w, (Builtin.len_ c.argTypes o.type (c.args.map a.eval)).run P w = .ok (goInt m) w) → PureOk P o env (.i .i64 (.ofNat m)) := fun hl s N a he hg =>
      ⟨goInt _, rfl, fun w => by rw [exec_builtin hop hc]; simp [builtin, hl s N a he hg w]⟩
    have fin : ∀ {m : Nat}, OR.val (.i .i64 (.ofNat m)) n H = .val v n' H' → PureOk P o env (.i .i64 (.ofNat m)) → n' = n ∧ H' = H ∧ ReadOk P o env H v ∧ ((∀ t r, c.argTypes.toList = t :: r → ∀ k e, P.underlying t ≠ some (.map k e)) → PureOk P o env v) := fun e hp => by
      injection e with h1 h2 h3
      subst h1 h2 h3
      exact ⟨rfl, rfl, hp.read, fun _ => hp⟩
    have finO : ∀ {lv : Value} {lx : Int} {lts : List (Nat × Int × Bool)}, OR.val (.oi .i64 lx lts) n H = .val v n' H' → opd env x = some (.ol lv lx lts) →
        (∀ (s : Sg) (N : Nat) (a : Act), EnvR s env N a.tmps → s.glob → lenV lv = some lx → ∀ w, a.eval x = lv → (Builtin.len_ c.argTypes o.type (c.args.map a.eval)).run P w = .ok (.int .i64 lx) w) →
        n' = n ∧ H' = H ∧ ReadOk P o env H v ∧ ((∀ t r, c.argTypes.toList = t :: r → ∀ k e, P.underlying t ≠ some (.map k e)) → PureOk P o env v) := fun e hx hl => by
      injection e with h1 h2 h3
      subst h1 h2 h3
      have hp : PureOk P o env (.oi .i64 _ _) := fun s N a he hg => by
        have ex := opd_conc he hg hx
        simp only [AV.conc] at ex
        split at ex
        · rename_i hts
          rw [Bool.and_eq_true, Bool.and_eq_true, decide_eq_true_eq] at hts
          injection ex with ex
          exact ⟨_, by simp only [AV.conc]; rw [if_pos hts.2], fun w => by rw [exec_builtin hop hc]; simp [builtin, hl s N a he hg hts.1.2 w ex.symm]⟩
        · cases ex
      exact ⟨rfl, rfl, hp.read, fun _ => hp⟩
    split at h
    · rename_i e y q m cp hu hx
      refine fin h (pure' fun s N a he hg w => ?_)
      obtain ⟨B, _, _, ex⟩ := sl_conc.1 (opd_conc he hg hx)
      simp [Builtin.len_, arr0 hts, arr0 has, underlying_run hu, ex]
    · rename_i e hu hx
      refine fin h (pure' fun s N a he hg w => ?_)
      have ex := opd_conc he hg hx
      simp only [AV.conc, Option.some.injEq] at ex
      simp [Builtin.len_, arr0 hts, arr0 has, underlying_run hu, ← ex]
    · rename_i e y q m cp hu hx
      refine fin h (pure' fun s N a he hg w => ?_)
      obtain ⟨B, _, _, ex⟩ := se_conc.1 (opd_conc he hg hx)
      simp [Builtin.len_, arr0 hts, arr0 has, underlying_run hu, ex]
    · rename_i m e u hu hx
      refine fin h (pure' fun s N a he hg w => ?_)
      simp [Builtin.len_, arr0 hts, arr0 has, underlying_run hu]
    · rename_i p u hu hx
      split at h
      · rename_i m e hu2
        refine fin h (pure' fun s N a he hg w => ?_)
        simp [Builtin.len_, arr0 hts, arr0 has, underlying_run hu, underlying_run hu2]
      · cases h
    · rename_i kt e y hu hx
      split at h
      · rename_i es cl hH
        rw [frc_eq] at h
        injection h with h1 h2 h3
        subst h1 h2 h3
        refine ⟨rfl, rfl, fun s N a w m he hr => ?_, fun hn => absurd hu (hn t ts hts kt e)⟩
        obtain ⟨B, fs, hB, e1, e2, e3⟩ := map_at he hr hx hH
        have hl : fs.size = len es := by
          rw [len_eq, ← Array.length_toList]
          exact e3.length.symm
        refine ⟨goInt (len es), w, ?_, rfl, hr, Step.refl ..⟩
        have hg := getObj_map (P := P) e2
        rw [exec_builtin hop hc]
        simp [builtin, Builtin.len_, arr0 hts, arr0 has, underlying_run hu, e1, hg, hl]
      · cases h
    · rename_i l hu hx
      rw [frc_eq] at h
      refine fin h (pure' fun s N a he hg w => ?_)
      have ex := opd_conc he hg hx
      simp only [AV.conc, Option.some.injEq] at ex
      simp [Builtin.len_, arr0 hts, arr0 has, underlying_run hu, ← ex, len_eq]
      rfl
    · rename_i e _ _ _ lx lts hu hx
      exact finO h hx fun s N a he hg hl w hV => by
        simp [lenV] at hl
        simp [Builtin.len_, arr0 hts, arr0 has, underlying_run hu, hV, hl, goInt]
    · rename_i _ lx lts hu hx
      exact finO h hx fun s N a he hg hl w hV => by
        simp [lenV] at hl
        simp [Builtin.len_, arr0 hts, arr0 has, underlying_run hu, hV, hl, goInt]
    · obtain ⟨h1, h2, h3⟩ := evGround_ok (fun cs b => by rw [hop]; simp) h
      exact ⟨h1, h2, h3.read, fun _ => h3⟩
    · cases h
  · cases h
/-- What append and copy read. -/
theorem srcCells_ok {s : Sg} {H : Heap} {w : World} (hr : Rel P s H w) {sz k : Nat} {x : AV} {V : Value} (hx : x.conc s = some V) {l : List AV} (h : srcCells H sz k x = some l) (hk : lenA x = some k ∨ ∃ m, lenA x = some m ∧ k ≤ m) :
    ∃ vs, concL s l = some vs ∧ vs.all Value.oneCell' = true ∧ (vs.length = k * sz ∨ ∃ b, x = .s b) ∧ (∀ b, x = .s b → vs.length = k) ∧ (Builtin.firstCells sz k V).run P w = .ok ⟨vs⟩ w ∧ ∀ w', w'.heap = w.heap → (Builtin.firstCells sz k V).run P w' = .ok ⟨vs⟩ w' := by
  unfold srcCells at h
  split at h
  · injection h with h; subst h
    simp only [AV.conc, Option.some.injEq] at hx
    subst hx
    have hk0 : k = 0 := by rcases hk with hk | ⟨m, hm, hk⟩; · injection hk with hk; exact hk.symm
                           · injection hm with hm; omega
    subst hk0
    exact ⟨[], rfl, rfl, .inl (by simp), fun b e => (by cases e), by simp [Builtin.firstCells], fun w' _ => by simp [Builtin.firstCells]⟩
  · split at h
    · injection h with h; subst h
      obtain ⟨B, _, _, rfl⟩ := se_conc.1 hx
      exact ⟨[], rfl, rfl, .inl (by simp), fun b e => (by cases e), by simp [Builtin.firstCells, loadCells, loadCellsFrom], fun w' _ => by simp [Builtin.firstCells, loadCells, loadCellsFrom]⟩
    · cases h
  · rename_i y q m c
    split at h
    · rename_i t z mm cs ex mk hH
      obtain ⟨B, hB, _, rfl⟩ := sl_conc.1 hx
      obtain ⟨b', ob, h1, h2, h3⟩ := hr.blk y _ (hr.lim y B hB) hH
      rw [hB] at h1; injection h1 with h1; subst h1
      obtain ⟨vs, v1, v2, v3, v4⟩ := h3.cells h2 h
      have hh : ∀ w', w'.heap = w.heap → (Builtin.firstCells sz k (.slice (some ⟨B, q, none⟩) m (c.val s y))).run P w' = .ok ⟨vs⟩ w' := fun w' hw' =>
        run_firstCells_some w' sz k ⟨B, q, none⟩ m _ vs v2 (fun j v hv => by
          have := v4 j v hv
          unfold World.cell? at this ⊢
          rw [hw']; exact this)
      exact ⟨vs, v1, v3, .inl v2, fun b e => (by cases e), hh w rfl, hh⟩
    · cases h
  · rename_i bs
    injection h with h; subst h
    simp only [AV.conc, Option.some.injEq] at hx
    subst hx
    have hlen : k ≤ bs.length := by
      rcases hk with hk | ⟨m, hm, hk⟩
      · have hk : some (len bs) = some k := hk
        rw [len_eq] at hk; injection hk with hk; omega
      · have hm : some (len bs) = some m := hm
        rw [len_eq] at hm; injection hm with hm; omega
    have key : ∀ (l : List UInt8), concL s (l.map fun b => AV.i .u8 (.ofNat b.toNat)) = some (l.map fun b => Value.int .u8 b.toNat) := fun l => by
      induction l with
      | nil => rfl
      | cons a r ih => exact concL_cons.2 ⟨_, _, rfl, ih, rfl⟩
    have run : ∀ w', (Builtin.firstCells sz k (.string ⟨⟨bs⟩⟩)).run P w' = .ok ⟨(bs.take k).map fun b => Value.int .u8 b.toNat⟩ w' := fun w' => by
      simp only [Builtin.firstCells, Sem.run_pure]
      congr 1
      have : ((⟨⟨bs⟩⟩ : ByteArray).extract 0 k).data = ⟨bs.take k⟩ := by
        rw [ByteArray.data_extract]
        apply Array.ext'
        simp [List.extract]
      rw [this]
      apply Array.ext'
      simp
    exact ⟨_, key _, List.all_eq_true.2 (fun x hx => by obtain ⟨_, _, rfl⟩ := List.mem_map.1 hx; rfl), .inr ⟨bs, rfl⟩, fun _ _ => by simp [hlen], run w, fun w' _ => run w'⟩
  · cases h
theorem lenA_run {s : Sg} {x : AV} {V : Value} (hx : x.conc s = some V) {k : Nat} (h : lenA x = some k) (w : World) : (Builtin.lenOf V).run P w = .ok k w := by
  unfold lenA at h
  split at h
  · injection h with h; subst h
    simp only [AV.conc, Option.some.injEq] at hx; subst hx; simp [Builtin.lenOf]
  · injection h with h; subst h
    obtain ⟨B, _, _, rfl⟩ := se_conc.1 hx; simp [Builtin.lenOf]
  · injection h with h; subst h
    obtain ⟨B, _, _, rfl⟩ := sl_conc.1 hx; simp [Builtin.lenOf]
  · injection h with h; subst h
    simp only [AV.conc, Option.some.injEq] at hx; subst hx; simp [Builtin.lenOf, len_eq]; rfl
  · cases h
theorem evCopy_ok {o : Oper} {c : Call} (hop : o.op = .call c) (hc : c.callee = .builtin .copy) {env : Env} {n n' : Nat} {H H' : Heap} {v : AV} (h : evCopy P c.argTypes.toList c.args.toList env n H = .val v n' H') : OpOk P o env n H v n' H' := by
  unfold evCopy at h
  split at h
  · rename_i t ts x y hts has
    split at h
    · rename_i e d u hu hx hy
      split at h
      · rename_i sz dl xl hsz hdl hxl
        rw [frc_eq] at h
        split at h
        · rename_i l hl
          have base : ∀ {s : Sg} {N : Nat} {a : Act} {w : World}, EnvR s env N a.tmps → Rel P s H w → ∃ vs, concL s l = some vs ∧ vs.all Value.oneCell' = true ∧
              (Builtin.copy_ c.argTypes o.type (c.args.map a.eval)).run P w = ((match a.eval x with | .slice (some b) _ _ => storeCells b vs | _ => pure ()) >>= fun _ => (pure (goInt (Nat.min xl dl)) : Sem Value)).run P w := fun {s N a w} he hr => by
            obtain ⟨vs, v1, v2, _, _, v5, _⟩ := srcCells_ok hr (opd_conc he hr.glob hy) hl (.inr ⟨xl, hxl, Nat.min_le_left _ _⟩)
            refine ⟨vs, v1, v2, ?_⟩
            have e1 := lenA_run (P := P) (opd_conc he hr.glob hy) hxl w
            have hd : ∃ bs cap, a.eval x = .slice bs dl cap := by
              have ed := opd_conc he hr.glob hx
              cases d with
              | sl0 => simp only [AV.conc, Option.some.injEq] at ed; injection hdl with hdl; subst hdl; exact ⟨none, 0, ed.symm⟩
              | se => injection hdl with hdl; subst hdl; obtain ⟨B, _, _, ed⟩ := se_conc.1 ed; exact ⟨_, _, ed⟩
              | sl => injection hdl with hdl; subst hdl; obtain ⟨B, _, _, ed⟩ := sl_conc.1 ed; exact ⟨_, _, ed⟩
              | _ => first | (cases h; done) | cases hdl
            obtain ⟨bs, cap, hd⟩ := hd
            have e2 : (Builtin.firstCells sz (Nat.min xl dl) (a.eval y)).run P w = .ok ⟨vs⟩ w := v5
            cases bs with
            | none => simp [Builtin.copy_, arr0 hts, arr0 has, arr1 has, underlying_run hu, hd, e1, sizeB_run hsz, e2]
            | some b => simp [Builtin.copy_, arr0 hts, arr0 has, arr1 has, underlying_run hu, hd, e1, sizeB_run hsz, e2]
          have done0 : (∀ {s : Sg} {N : Nat} {a : Act}, EnvR s env N a.tmps → s.glob → (∃ c, a.eval x = .slice none 0 c) ∨ (l = [] ∧ ∃ b c, a.eval x = .slice (some b) 0 c)) → OR.val (.i .i64 (.ofNat (Nat.min xl dl))) n H = .val v n' H' → OpOk P o env n H v n' H' := fun hd e => by
            injection e with h1 h2 h3
            subst h1 h2 h3
            refine ⟨Nat.le_refl _, fun s N a w he hr _ _ => ?_⟩
            obtain ⟨vs, v1, v2, v3⟩ := base he hr
            refine ⟨goInt (Nat.min xl dl), s, w, .inl ?_, rfl, hr, Step.refl ..⟩
            rw [exec_builtin hop hc]
            rcases hd he hr.glob with ⟨cp, hd⟩ | ⟨rfl, b, cp, hd⟩
            · simp [builtin, v3, hd]
            · have : vs = [] := by simpa [concL] using v1.symm
              subst this
              simp [builtin, v3, hd, storeCells]
          split at h
          · refine done0 (fun {s N a} he hg => .inl ⟨0, ?_⟩) h
            have ed := opd_conc he hg hx
            simp only [AV.conc, Option.some.injEq] at ed
            exact ed.symm
          · injection hdl with hdl
            subst hdl
            refine done0 (fun {s N a} he hg => .inr ⟨?_, ?_⟩) h
            · have hl' : srcCells H sz 0 u = some l := by rw [show Nat.min xl 0 = 0 from Nat.min_zero xl] at hl; exact hl
              unfold srcCells at hl'
              split at hl'
              · injection hl' with hl'; exact hl'.symm
              · injection hl' with hl'; exact hl'.symm
              · split at hl'
                · rw [show Nat.mul 0 sz = 0 from Nat.zero_mul sz] at hl'; injection hl' with hl'; exact hl'.symm
                · cases hl'
              · injection hl' with hl'; exact hl'.symm
              · cases hl'
            · obtain ⟨B, _, _, ed⟩ := se_conc.1 (opd_conc he hg hx)
              exact ⟨_, _, ed⟩
          · rename_i g q m cp
            split at h
            · rename_i e' z r cs ex mk hH
              split at h
              · rename_i hb
                rw [putCells_k, Q8.set_k] at h
                injection h with h1 h2 h3
                subst h1 h2 h3
                refine ⟨Nat.le_refl _, fun s N a w he hr _ _ => ?_⟩
                obtain ⟨vs, v1, v2, v3⟩ := base he hr
                obtain ⟨B, hB, _, ed⟩ := sl_conc.1 (opd_conc he hr.glob hx)
                have hb := Nat.ble_eq.mp hb
                rw [len_eq] at hb
                obtain ⟨w', r1, r2, r3⟩ := write_ok hr hH hB v1 v2 (q := q) hb n
                refine ⟨goInt (Nat.min xl dl), s, w', .inl ?_, rfl, r2, r3⟩
                rw [exec_builtin hop hc]
                simp [builtin, v3, ed, r1]
              · cases h
            · cases h
          · cases h
        · cases h
      · cases h
    · cases h
  · cases h
theorem evClear_ok {o : Oper} {c : Call} (hop : o.op = .call c) (hc : c.callee = .builtin .clear) {env : Env} {n n' : Nat} {H H' : Heap} {v : AV} (h : evClear P c.argTypes.toList c.args.toList env n H = .val v n' H') : OpOk P o env n H v n' H' := by
  unfold evClear at h
  split at h
  · rename_i t ts x r hts has
    split at h
    · rename_i e g q m cp hu hx
      split at h
      · rename_i sz z e' zz r' cs ex mk hsz hz hH
        split at h
        · rename_i hz1 hb
          rw [putCells_k, Q8.set_k] at h
          injection h with h1 h2 h3
          subst h1 h2 h3
          refine ⟨Nat.le_refl _, fun s N a w he hr _ _ => ?_⟩
          obtain ⟨i, zv, vs, hi, hzv, hzc, hvl, hs⟩ := zeroC_run hz
          obtain ⟨c1, c2⟩ := hs s
          have hzl : vs.length = sz := by rw [hvl]; rw [natbeq] at hz1; have := of_decide_eq_true hz1; rwa [len_eq] at this
          obtain ⟨us, u1, u2, u3⟩ := times_conc c1 c2 m
          obtain ⟨B, hB, _, ed⟩ := sl_conc.1 (opd_conc he hr.glob hx)
          have hb : q + m * sz ≤ r' := Nat.ble_eq.mp hb
          have hul : us.length = m * sz := by rw [u3]; simp [hzl]
          obtain ⟨w', r1, r2, r3⟩ := write_ok hr hH hB u1 u2 (q := q) (by rw [← concL_length u1]; omega) n
          refine ⟨undef, s, w', .inl ?_, concU s, r2, r3⟩
          have hzz : (Builtin.zeroCells zv.cells m).toList = us := by
            rw [hzc, u3]
            by_cases h0 : vs.length = 0
            · have : vs = [] := List.length_eq_zero_iff.1 h0
              subst this
              simp [Builtin.zeroCells, Array.range_zero']
            · have := range_mod vs m (by omega)
              unfold Builtin.zeroCells
              simp only [List.size_toArray]
              rw [this]
          rw [exec_builtin hop hc]
          cases m with
          | zero =>
            have hus : us = [] := List.length_eq_zero_iff.1 (by rw [hul, Nat.zero_mul])
            subst hus
            have hw' : w' = w := by simp [storeCells] at r1; exact r1.symm
            subst hw'
            simp [builtin, Builtin.clear_, arr0 hts, arr0 has, underlying_run hu, ed, undef]
          | succ m =>
            simp [builtin, Builtin.clear_, arr0 hts, arr0 has, underlying_run hu, ed, zeroValue, typeInfo, hi, hzv, hzz, r1, undef]
        · cases h
      · cases h
    · rename_i e hu hx
      injection h with h1 h2 h3
      subst h1 h2 h3
      refine ⟨Nat.le_refl _, fun s N a w he hr _ _ => ?_⟩
      have ed := opd_conc he hr.glob hx
      simp only [AV.conc, Option.some.injEq] at ed
      refine ⟨undef, s, w, .inl ?_, concU s, hr, Step.refl ..⟩
      rw [exec_builtin hop hc]
      simp [builtin, Builtin.clear_, arr0 hts, arr0 has, underlying_run hu, ← ed, undef]
    · rename_i e g q m cp hu hx
      injection h with h1 h2 h3
      subst h1 h2 h3
      refine ⟨Nat.le_refl _, fun s N a w he hr _ _ => ?_⟩
      obtain ⟨B, hB, _, ed⟩ := se_conc.1 (opd_conc he hr.glob hx)
      refine ⟨undef, s, w, .inl ?_, concU s, hr, Step.refl ..⟩
      rw [exec_builtin hop hc]
      simp [builtin, Builtin.clear_, arr0 hts, arr0 has, underlying_run hu, ed, undef]
    · cases h
  · cases h
end
end Go.Sy
namespace Go.Sy
open Go
section
variable {P : Program}
theorem nextcap_le {need old : Nat} (h : old < need) : Builtin.nextslicecap need old ≤ 1024 + 4 * need := by
  unfold Builtin.nextslicecap
  split
  · omega
  · split
    · omega
    · rw [growBy_four]
      repeat' split
      all_goals omega
/-- A symbol takes the place of another that is forgotten. -/
theorem Rel.alias {s : Sg} {H : Heap} {w w' : World} (h : Rel P s H w) {n : Nat} (hn : n < LIM) (hf : s.blk n = none) {y b : Nat} (hy : y < LIM) {A A' : Blk} (hA : Q8.get H y = some A) (hb : s.blk y = some b) {o : Obj}
    (hs : w'.heap.size = w.heap.size) (ho : w'.heap[b]? = some o) (hr : BlkR P (s.set n b (s.cap y)) n A' o) (hother : ∀ c, c ≠ b → w'.heap[c]? = w.heap[c]?) (e1 : w'.os = w.os) (e2 : w'.tape = w.tape) (e3 : w'.output = w.output) :
    Rel P (s.set n b (s.cap y)) (Q8.upd (Q8.upd H y none) n (some A')) w' ∧ Step s n H w (s.set n b (s.cap y)) (n + 1) (Q8.upd (Q8.upd H y none) n (some A')) w' := by
  have hle := Sg.set_le (b := b) (c := s.cap y) hf
  have old : ∀ x, x < LIM → x ≠ n → ∀ B, Q8.get (Q8.upd (Q8.upd H y none) n (some A')) x = some B → Q8.get H x = some B ∧ x ≠ y := fun x hx hxn B hB => by
    rw [Q8.get_upd _ _ _ _ hn hx, if_neg (Ne.symm hxn), Q8.get_upd _ _ _ _ hy hx] at hB
    split at hB
    · cases hB
    · rename_i hxy; exact ⟨hB, Ne.symm hxy⟩
  have nb : ∀ x, x < LIM → x ≠ y → ∀ B, Q8.get H x = some B → ∀ c, s.blk x = some c → c ≠ b := fun x hx hxy B hB c hc e => by
    subst e
    exact hxy (h.inj x y c hx hy (by rw [hB]; simp) (by rw [hA]; simp) hc hb)
  refine ⟨⟨fun x c hc => ?_, fun g hg' => (hle g g (h.glob g hg')).1, fun x B hx hB => ?_, fun x z c hx hz h1 h2 h3 h4 => ?_⟩, fun x hx => ?_, by omega, fun c hc hx => hother c (fun e => hx y hy (by rw [hA]; simp) (by rw [e]; exact hb)), fun x c hx h1 h2 h3 => ?_, e1, e2, e3⟩
  · by_cases hx : x = n
    · subst hx; exact hn
    · simp only [Sg.set, hx, if_false] at hc; exact h.lim x c hc
  · by_cases hxn : x = n
    · subst hxn
      rw [Q8.get_upd _ _ _ _ hn hx, if_pos rfl] at hB
      injection hB with hB; subst hB
      exact ⟨b, o, Sg.set_blk .., ho, hr⟩
    · obtain ⟨hB, hxy⟩ := old x hx hxn B hB
      obtain ⟨c, o', k1, k2, k3⟩ := h.blk x B hx hB
      exact ⟨c, o', (hle x c k1).1, by rw [hother c (nb x hx hxy B hB c k1)]; exact k2, k3.le hle k1⟩
  · obtain ⟨B1, hB1⟩ := Option.ne_none_iff_exists'.1 h1
    obtain ⟨B2, hB2⟩ := Option.ne_none_iff_exists'.1 h2
    by_cases ex : x = n
    · by_cases ez : z = n
      · rw [ex, ez]
      · obtain ⟨k1, k2⟩ := old z hz ez B2 hB2
        subst ex
        rw [Sg.set_blk] at h3; injection h3 with h3; subst h3
        simp only [Sg.set, ez, if_false] at h4
        exact absurd rfl (nb z hz k2 B2 k1 _ h4)
    · obtain ⟨k1, k2⟩ := old x hx ex B1 hB1
      simp only [Sg.set, ex, if_false] at h3
      by_cases ez : z = n
      · subst ez
        rw [Sg.set_blk] at h4; injection h4 with h4; subst h4
        exact absurd rfl (nb x hx k2 B1 k1 _ h3)
      · obtain ⟨l1, l2⟩ := old z hz ez B2 hB2
        simp only [Sg.set, ez, if_false] at h4
        exact h.inj x z c hx hz (by rw [k1]; simp) (by rw [l1]; simp) h3 h4
  · have : x ≠ n := by omega
    simp [Sg.set, this]
  · by_cases ex : x = n
    · subst ex
      rw [Sg.set_blk] at h2; injection h2 with h2; subst h2
      exact ⟨y, hy, by rw [hA]; simp, hb⟩
    · obtain ⟨B1, hB1⟩ := Option.ne_none_iff_exists'.1 h1
      obtain ⟨k1, k2⟩ := old x hx ex B1 hB1
      simp only [Sg.set, ex, if_false] at h2
      exact ⟨x, hx, by rw [k1]; simp, h2⟩
theorem app3 (a b : List Value) (z : Array Value) : (⟨a⟩ : Array Value) ++ ((⟨b⟩ : Array Value) ++ z) = ⟨a ++ b⟩ ++ z := by
  rw [← Array.append_assoc]; congr 1; simp
theorem app3' (a : List Value) (b z : Array Value) : (⟨a⟩ : Array Value) ++ (b ++ z) = ⟨a ++ b.toList⟩ ++ z := by
  rw [← Array.append_assoc]; congr 1; apply Array.ext'; simp
/-- What an append brings, in the model's words. -/
structure AppS (P : Program) (t' : TypeId) (sz : Nat) (zv : Value) (V : Value) (k : Nat) (vs : List Value) (w : World) : Prop where
  kind : (∃ e, P.underlying t' = some (.slice e)) ∨ P.underlying t' = some .string ∨ (P.underlying t' = some (.int .i64) ∧ V = .int .i64 (Int.ofNat k) ∧ vs = (if k * sz = 0 then [] else (Builtin.zeroCells zv.cells k).toList))
  len : (∀ j, P.underlying t' ≠ some (.int j)) → ∀ w', (Builtin.lenOf V).run P w' = .ok k w'
  cells : (∀ j, P.underlying t' ≠ some (.int j)) → ∀ w', w'.heap = w.heap → (Builtin.firstCells sz k V).run P w' = .ok ⟨vs⟩ w'
theorem append_run {ats : Array TypeId} {args : Array Value} {t t' ty e : TypeId} (h0 : ats[0]? = some t) (h1 : ats[1]? = some t') {base : Option Addr} {m cap : Nat} {V : Value} (a0 : args[0]? = some (.slice base m cap)) (a1 : args[1]? = some V)
    (hu : P.underlying t = some (.slice e)) {i : TypeInfo} (hi : P.info? e = some i) {zv : Value} (hz : i.zero = some zv) {k : Nat} {vs : List Value} {w : World} (hs : AppS P t' i.size zv V k vs w)
    (hb : (1024 + 4 * (m + k)) * (i.bytes + 1) ≤ 2 ^ 40) :
    (m + k ≤ cap → (Builtin.append_ ats ty args).run P w = ((match base with | some a => storeCells (a.add (m * i.size)) vs | none => pure ()) >>= fun _ => (pure (.slice base (m + k) cap) : Sem Value)).run P w) ∧
    (cap < m + k → ∀ old, (∀ w', w'.heap = w.heap → (Builtin.firstCells i.size m (.slice base m cap)).run P w' = .ok ⟨old⟩ w') → ∃ c, m + k ≤ c ∧ (Builtin.append_ ats ty args).run P w =
      .ok (.slice (some ⟨w.heap.size, 0, none⟩) (m + k) c) (w.drew.alloc (.cells (⟨old ++ vs⟩ ++ Builtin.zeroCells zv.cells (c - (m + k))) e))) := by
  have hk1 : m + k ≤ 2 ^ 40 := by
    have : 1024 + 4 * (m + k) ≤ (1024 + 4 * (m + k)) * (i.bytes + 1) := Nat.le_mul_of_pos_right _ (Nat.succ_pos _)
    omega
  have hmul : ∀ x, x ≤ 1024 + 4 * (m + k) → x * i.bytes ≤ 2 ^ 40 := fun x hx =>
    Nat.le_trans (Nat.mul_le_mul hx (Nat.le_succ i.bytes)) hb
  have hwrap : IntKind.i64.wrap (Int.ofNat k) = Int.ofNat k := wrap_nat (by simp only [lid]; omega)
  have hkb : ¬ ((Int.ofNat k : Int) * (i.bytes : Int) > 2 ^ 48) := by
    have h3 := hmul k (by omega)
    have : ((k * i.bytes : Nat) : Int) ≤ ((2 ^ 40 : Nat) : Int) := Int.ofNat_le.2 h3
    have e : (Int.ofNat k : Int) * (i.bytes : Int) = ((k * i.bytes : Nat) : Int) := by simp
    rw [e]; omega
  have hk0 : ¬ ((Int.ofNat k : Int) < 0) := by simp
  refine ⟨fun hroom => ?_, fun hgrow old hold => ?_⟩
  · rcases hs.kind with ⟨e', hk⟩ | hk | ⟨hk, hV, hvs⟩
    · have hni : ∀ j, P.underlying t' ≠ some (.int j) := fun j hj => by rw [hk] at hj; cases hj
      simp [Builtin.append_, h0, h1, a0, a1, underlying_run hu, underlying_run hk, sizeOf, typeInfo, hi, hs.len hni, hroom, hs.cells hni w rfl]
      cases base <;> simp
    · have hni : ∀ j, P.underlying t' ≠ some (.int j) := fun j hj => by rw [hk] at hj; cases hj
      simp [Builtin.append_, h0, h1, a0, a1, underlying_run hu, underlying_run hk, sizeOf, typeInfo, hi, hs.len hni, hroom, hs.cells hni w rfl]
      cases base <;> simp
    · subst hV
      have e1 : (Int.ofNat k).toNat = k := rfl
      simp only [Builtin.append_, h0, h1, a0, a1, Sem.run_bind, underlying_run hu, underlying_run hk, sizeOf, typeInfo, run_program, hi, Result.andThen_ok, Sem.run_pure, asInt, asIntOf, hwrap, e1, if_true]
      rw [if_neg hk0]
      simp only [Sem.run_bind, run_program, hi, Result.andThen_ok, Sem.run_pure]
      rw [if_neg hkb]
      simp only [Sem.run_bind, Result.andThen_ok, Sem.run_pure, if_pos hroom]
      by_cases h00 : k * i.size = 0
      · rw [if_pos h00] at hvs; subst hvs
        simp [h00]
        cases base <;> simp
      · rw [if_neg h00] at hvs; subst hvs
        simp [h00, zeroValue, typeInfo, hi, hz]
        cases base <;> simp
  · have hn : ¬ (m + k ≤ cap) := by omega
    have h63 : ¬ (((m + k : Nat) : Int) > IntKind.i64.max) := by simp [IntKind.max, IntKind.signed, IntKind.bits]; omega
    have hcap := hmul _ (nextcap_le hgrow)
    have h48 : ¬ (Builtin.nextslicecap (m + k) cap * i.bytes > 2 ^ 48) := by omega
    refine ⟨(Question.appendCap (m + k) cap e).cut (w.tape w.drawn (.appendCap (m + k) cap e)), by simp [Question.cut], ?_⟩
    have hcut : (Question.appendCap (m + k) cap e).forced = false := rfl
    have hold' := hold w.drew rfl
    rcases hs.kind with ⟨e', hk⟩ | hk | ⟨hk, hV, hvs⟩
    · have hni : ∀ j, P.underlying t' ≠ some (.int j) := fun j hj => by rw [hk] at hj; cases hj
      have hcd := hs.cells hni w.drew rfl
      simp only [Builtin.append_, h0, h1, a0, a1, Sem.run_bind, underlying_run hu, underlying_run hk, sizeOf, typeInfo, run_program, hi, Result.andThen_ok, Sem.run_pure, hs.len hni, if_neg hn, if_false, Bool.false_eq_true]
      rw [if_neg (fun h => h63 h.1)]
      simp only [Sem.run_bind, run_program, hi, Result.andThen_ok, Sem.run_pure]
      rw [if_neg h48]
      simp [hcut, hold', hcd, zeroValue, typeInfo, hi, hz, newRow]
      rw [app3]
    · have hni : ∀ j, P.underlying t' ≠ some (.int j) := fun j hj => by rw [hk] at hj; cases hj
      have hcd := hs.cells hni w.drew rfl
      simp only [Builtin.append_, h0, h1, a0, a1, Sem.run_bind, underlying_run hu, underlying_run hk, sizeOf, typeInfo, run_program, hi, Result.andThen_ok, Sem.run_pure, hs.len hni, if_neg hn, if_false, Bool.false_eq_true]
      rw [if_neg (fun h => h63 h.1)]
      simp only [Sem.run_bind, run_program, hi, Result.andThen_ok, Sem.run_pure]
      rw [if_neg h48]
      simp [hcut, hold', hcd, zeroValue, typeInfo, hi, hz, newRow]
      rw [app3]
    · subst hV
      have e1 : (Int.ofNat k).toNat = k := rfl
      simp only [Builtin.append_, h0, h1, a0, a1, Sem.run_bind, underlying_run hu, underlying_run hk, sizeOf, typeInfo, run_program, hi, Result.andThen_ok, Sem.run_pure, asInt, asIntOf, hwrap, e1, if_true]
      rw [if_neg hk0]
      simp only [Sem.run_bind, run_program, hi, Result.andThen_ok, Sem.run_pure]
      rw [if_neg hkb]
      simp only [Sem.run_bind, Result.andThen_ok, Sem.run_pure, if_neg hn, Bool.not_true, Bool.false_eq_true, if_false, run_program, hi]
      rw [if_neg (show ¬ (((m + k : Nat) : Int) > IntKind.i64.max ∧ (True ∨ i.bytes = 0)) from fun h => h63 h.1)]
      simp only [Sem.run_bind, run_program, hi, Result.andThen_ok, Sem.run_pure]
      rw [if_neg h48]
      by_cases h00 : k * i.size = 0
      · rw [if_pos h00] at hvs; subst hvs
        simp [hcut, hold', h00, zeroValue, typeInfo, hi, hz, newRow]
      · rw [if_neg h00] at hvs; subst hvs
        simp [hcut, hold', h00, zeroValue, typeInfo, hi, hz, newRow]
        rw [app3']
theorem appS_ok {s : Sg} {H : Heap} {w : World} (hr : Rel P s H w) {t' : TypeId} {sz k : Nat} {xv : AV} {V : Value} (hx : xv.conc s = some V) (hN : appN P t' xv = some k) {z new : List AV} (hC : appC P t' H sz k z xv = some new)
    {zv : Value} {zs : List Value} (hzc : zv.cells = ⟨zs⟩) (hzl : zs.length = sz) (c1 : concL s z = some zs) (c2 : zs.all Value.oneCell' = true) :
    ∃ vs, concL s new = some vs ∧ vs.all Value.oneCell' = true ∧ AppS P t' sz zv V k vs w := by
  unfold appN at hN
  split at hN
  · rename_i k' hk
    injection hN with hN; subst hN
    simp only [AV.conc, Option.some.injEq] at hx
    subst hx
    unfold appC at hC
    rw [hk] at hC
    injection hC with hC; subst hC
    obtain ⟨us, u1, u2, u3⟩ := times_conc c1 c2 k'
    refine ⟨us, u1, u2, .inr (.inr ⟨hk, rfl, ?_⟩), fun hn => absurd hk (hn _), fun hn => absurd hk (hn _)⟩
    by_cases h0 : k' * sz = 0
    · rw [if_pos h0, u3]
      have : (List.replicate k' zs).flatten.length = 0 := by simp [hzl, h0]
      exact List.length_eq_zero_iff.1 this
    · rw [if_neg h0, u3, hzc]
      have hp : 0 < zs.length := by rw [hzl]; exact Nat.pos_of_ne_zero (fun e => h0 (by rw [e, Nat.mul_zero]))
      unfold Builtin.zeroCells
      simp only [List.size_toArray]
      rw [range_mod zs k' hp]
  · rename_i e hk
    unfold appC at hC
    rw [hk] at hC
    obtain ⟨vs, v1, v2, v3, v4, v5, v6⟩ := srcCells_ok hr hx hC (.inl hN)
    exact ⟨vs, v1, v2, .inl ⟨e, hk⟩, fun _ w' => lenA_run hx hN w', fun _ w' hw => v6 w' hw⟩
  · rename_i hk
    unfold appC at hC
    rw [hk] at hC
    obtain ⟨vs, v1, v2, v3, v4, v5, v6⟩ := srcCells_ok hr hx hC (.inl hN)
    exact ⟨vs, v1, v2, .inr (.inl hk), fun _ w' => lenA_run hx hN w', fun _ w' hw => v6 w' hw⟩
  · cases hN
/-- The new row of a grown slice. -/
theorem grown_row {s : Sg} {x : Nat} {e : TypeId} {mk : Bool} {l : List AV} {vs : List Value} (h : concL s l = some vs) (h1 : vs.all Value.oneCell' = true) {rest : Array Value} {sz c need : Nat} (hsz : sizeB P e = some sz) (hl : vs.length = need * sz) (hrest : rest.size = (c - need) * sz) (hc : need ≤ c) (hcap : s.cap x = c) :
    BlkR P s x (.row e (fun _ => none) l.length (T.e.puts l 0) false mk) (.cells (⟨vs⟩ ++ rest) e (0, 0)) := by
  have hlen := concL_length h
  refine ⟨rfl, by simp; omega, fun i A hA => ?_, ?_, .inl rfl⟩
  · obtain ⟨V, v1, v2⟩ := concL_get h (cellAt_puts hA)
    refine ⟨V, v1, ?_, (List.all_eq_true.1 h1) V (List.mem_of_getElem? v2)⟩
    have hi : i < vs.length := (List.getElem?_eq_some_iff.1 v2).1
    rw [Array.getElem?_append_left (by simpa using hi)]
    simpa using v2
  · simp only [Bool.false_eq_true, if_false, Array.size_append, List.size_toArray]
    rw [hcap, sizeB_cells hsz, hl, hrest, ← Nat.add_mul]
    congr 1; omega
theorem evAppend_ok {o : Oper} {c : Call} (hop : o.op = .call c) (hc : c.callee = .builtin .append) {env : Env} {n n' : Nat} {H H' : Heap} {v : AV} (h : evAppend P c.argTypes.toList c.args.toList env n H = .val v n' H') : OpOk P o env n H v n' H' := by
  unfold evAppend at h
  split at h
  · rename_i t t' ts x y hts has
    split at h
    · rename_i e sv xv hu hx hy
      split at h
      · rename_i sz z by_ m k hsz hz hby hm hk
        split at h
        · rename_i hb1 hb2 hb3
          split at h
          · rename_i new hnew
            split at h
            · rename_i hnl
              rw [natbeq] at hnl
              have hnl := of_decide_eq_true hnl
              rw [len_eq] at hnl
              have hnl : new.length = k * sz := hnl
              have hb1 : (1024 + 4 * (m + k)) * (by_ + 1) ≤ 2 ^ 40 := Nat.ble_eq.mp hb1
              have hb3 : 0 < sz := Nat.ble_eq.mp hb3
              rw [natbeq] at hb2
              have hb2 := of_decide_eq_true hb2
              rw [len_eq] at hb2
              obtain ⟨i, zv, zs, hi, hzv, hzc, hzl, hzs⟩ := zeroC_run hz
              have hsi := sizeB_info hsz hi
              obtain ⟨i', hi', hbi⟩ := bytesB_run hby
              rw [hi] at hi'; injection hi' with hi'; subst hi'
              -- what the model does, once the slice's form is known
              have facts : ∀ {s : Sg} {N : Nat} {a : Act} {w : World}, EnvR s env N a.tmps → Rel P s H w → ∀ {base : Option Addr} {cap : Nat}, a.eval x = .slice base m cap → ∃ vs, concL s new = some vs ∧ vs.all Value.oneCell' = true ∧ vs.length = k * sz ∧
                  (m + k ≤ cap → (execOp a.eval o).run P w = (((match base with | some a => storeCells (a.add (m * sz)) vs | none => pure ()) >>= fun _ => (pure (.slice base (m + k) cap) : Sem Value)).run P w).andThen fun v w' => .ok (.value v) w') ∧
                  (cap < m + k → ∀ old, (∀ w', w'.heap = w.heap → (Builtin.firstCells sz m (.slice base m cap)).run P w' = .ok ⟨old⟩ w') → ∃ cc, m + k ≤ cc ∧ (execOp a.eval o).run P w =
                    .ok (.value (.slice (some ⟨w.heap.size, 0, none⟩) (m + k) cc)) (w.drew.alloc (.cells (⟨old ++ vs⟩ ++ Builtin.zeroCells zv.cells (cc - (m + k))) e))) := by
                intro s N a w he hr base cap hb
                obtain ⟨c1, c2⟩ := hzs s
                obtain ⟨vs, v1, v2, v3⟩ := appS_ok hr (opd_conc he hr.glob hy) hk hnew hzc (by rw [hzl, hb2]) c1 c2
                have v3' : AppS P t' i.size zv (a.eval y) k vs w := by rw [hsi]; exact v3
                obtain ⟨r1, r2⟩ := append_run (P := P) (ty := o.type) (arr0 hts) (arr1 hts) (args := c.args.map a.eval) (base := base) (m := m) (cap := cap) (by rw [Array.getElem?_map, arr0 has]; simp [hb]) (by rw [Array.getElem?_map, arr1 has]; rfl) hu hi hzv v3' (by rw [hbi]; exact hb1)
                rw [hsi] at r1 r2
                refine ⟨vs, v1, v2, by rw [concL_length v1]; exact hnl, fun h => ?_, fun h old hold => ?_⟩
                · rw [exec_builtin hop hc]
                  simp only [builtin, Sem.run_bind, r1 h, Sem.run_pure]
                · obtain ⟨cc, q1, q2⟩ := r2 h old hold
                  refine ⟨cc, q1, ?_⟩
                  rw [exec_builtin hop hc]
                  simp only [builtin, Sem.run_bind, q2, Result.andThen_ok, Sem.run_pure]
              have zcells : ∀ j, (Builtin.zeroCells zv.cells j).size = j * sz := fun j => by
                rw [size_zeroCells, hzc]; simp [hzl, hb2]
              -- a new row
              have grow : ∀ {s : Sg} {N : Nat} {a : Act} {w : World}, EnvR s env N a.tmps → ∀ {G : Heap}, Rel P s H w → Rel P s G w → Step s n H w s n G w → s.blk n = none → n < LIM → ∀ {base : Option Addr} {cap : Nat}, a.eval x = .slice base m cap → cap < m + k →
                  ∀ {old : List AV} {os : List Value}, concL s old = some os → os.all Value.oneCell' = true → os.length = m * sz → (∀ w', w'.heap = w.heap → (Builtin.firstCells sz m (.slice base m cap)).run P w' = .ok ⟨os⟩ w') → ∀ mk,
                  ∃ V s' w', Gives P o a w V w' ∧ (AV.sl n 0 (m + k) (.u 0)).conc s' = some V ∧ Rel P s' (Q8.upd G n (some (.row e (fun _ => none) (old ++ new).length (T.e.puts (old ++ new) 0) false mk))) w' ∧ Step s n H w s' (n + 1) (Q8.upd G n (some (.row e (fun _ => none) (old ++ new).length (T.e.puts (old ++ new) 0) false mk))) w' := by
                intro s N a w he G hr hG hst hn hl base cap hb hgr old os ho h1 hol hold mk
                obtain ⟨vs, v1, v2, v3, _, v5⟩ := facts he hr hb
                obtain ⟨cc, q1, q2⟩ := v5 hgr os hold
                have hle := Sg.set_le (s := s) (n := n) (b := w.heap.size) (c := cc) hn
                have hcon : concL (s.set n w.heap.size cc) (old ++ new) = some (os ++ vs) := concL_append (concL_le hle _ ho) (concL_le hle _ v1)
                have hrow := grown_row (P := P) (x := n) (e := e) (mk := mk) hcon (by simp only [List.all_append, h1, v2, Bool.and_self]) (rest := Builtin.zeroCells zv.cells (cc - (m + k))) hsz (c := cc) (need := m + k) (by simp [hol, v3, Nat.add_mul]) (zcells _) q1 (Sg.set_cap ..)
                have hGd : Rel P s G w.drew := hG.drew
                obtain ⟨r1, r2⟩ := hGd.alloc (n := n) hl hn cc hrow
                refine ⟨_, _, _, .inl q2, sl_conc.2 ⟨_, Sg.set_blk .., by simp [Cap.fits, Sg.set_cap, q1], by simp [Cap.val, Sg.set_cap]⟩, r1, ?_⟩
                have hd : Step s n G w s n G w.drew := Step.of_heap s n G rfl rfl rfl rfl
                exact (hst.trans hd (Nat.le_refl _) (Nat.le_refl _)).trans r2 (Nat.le_refl _) (Nat.le_succ _)
              unfold evApp at h
              rw [frc_eq] at h
              split at h
              · -- nil
                injection hm with hm; subst hm
                split at h
                · injection h with h1 h2 h3
                  subst h1 h2 h3
                  refine ⟨Nat.le_refl _, fun s N a w he hr _ _ => ?_⟩
                  have ed := opd_conc he hr.glob hx
                  simp only [AV.conc, Option.some.injEq] at ed
                  obtain ⟨vs, v1, v2, v3, v4, _⟩ := facts he hr ed.symm
                  refine ⟨_, s, w, .inl ?_, rfl, hr, Step.refl ..⟩
                  rw [v4 (Nat.le_refl _)]
                  simp
                · rename_i hk0
                  rw [newRowA_k] at h
                  injection h with h1 h2 h3
                  subst h1 h2 h3
                  refine ⟨Nat.le_succ _, fun s N a w he hr hf hl => ?_⟩
                  have ed := opd_conc he hr.glob hx
                  simp only [AV.conc, Option.some.injEq] at ed
                  have := grow he hr hr (Step.refl ..) (hf n (Nat.le_refl _) (Nat.lt_succ_self _)) hl ed.symm (by rw [Nat.zero_add]; exact Nat.pos_of_ne_zero hk0) (old := []) (os := []) rfl rfl (by simp) (fun w' _ => by simp [Builtin.firstCells]) (mkB P e)
                  exact this
              · rename_i g q m' cp
                injection hm with hm; subst hm
                split at h
                · rename_i e' z' r cs ex mk hH
                  split at h
                  · rename_i hle
                    have hle : m' + k ≤ cp := Nat.ble_eq.mp hle
                    split at h
                    · rename_i hroom
                      have hroom : q + (m' + k) * sz ≤ r := Nat.ble_eq.mp hroom
                      rw [putCells_k, Q8.set_k] at h
                      injection h with h1 h2 h3
                      subst h1 h2 h3
                      refine ⟨Nat.le_refl _, fun s N a w he hr _ _ => ?_⟩
                      obtain ⟨B, hB, hf, ed⟩ := sl_conc.1 (opd_conc he hr.glob hx)
                      obtain ⟨vs, v1, v2, v3, v4, _⟩ := facts he hr ed
                      obtain ⟨w', r1, r2, r3⟩ := write_ok hr hH hB v1 v2 (q := q + m' * sz) (by rw [hnl, Nat.add_assoc, ← Nat.add_mul]; exact hroom) n
                      refine ⟨_, s, w', .inl ?_, sl_conc.2 ⟨B, hB, by simp [Cap.fits, hle], rfl⟩, r2, r3⟩
                      rw [v4 hle]
                      simp [add_addr, r1, Cap.val]
                    · cases h
                  · rename_i hgr
                    have hgr : cp < m' + k := by
                      have : ¬ (m' + k ≤ cp) := fun e => by rw [show (m'.add k).ble cp = true from Nat.ble_eq.mpr e] at hgr; cases hgr
                      omega
                    split at h
                    · rename_i old hold
                      rw [frcL_eq, newRowA_k] at h
                      injection h with h1 h2 h3
                      subst h1 h2 h3
                      refine ⟨Nat.le_succ _, fun s N a w he hr hf hl => ?_⟩
                      obtain ⟨B, hB, hfi, ed⟩ := sl_conc.1 (opd_conc he hr.glob hx)
                      obtain ⟨b', ob, k1, k2, k3⟩ := hr.blk g _ (hr.lim g B hB) hH
                      rw [hB] at k1; injection k1 with k1; subst k1
                      obtain ⟨os, o1, o2, o3, o4⟩ := k3.cells k2 hold
                      exact grow he hr hr (Step.refl ..) (hf n (Nat.le_refl _) (Nat.lt_succ_self _)) hl ed (by simpa [Cap.val] using hgr) o1 o3 o2 (fun w' hw' => run_firstCells_some w' sz m' ⟨B, q, none⟩ m' _ os o2 (fun j v hv => by
                        have := o4 j v hv
                        unfold World.cell? at this ⊢
                        rw [hw']; exact this)) (mkB P e)
                    · cases h
                · cases h
              · rename_i g q m' u
                injection hm with hm; subst hm
                split at h
                · rename_i e' z' r cs ex mk hH
                  split at h
                  · cases h
                  · rename_i hcond
                    simp only [Bool.and_eq_true, natbeq, decide_eq_true_eq, Bool.not_eq_true'] at hcond
                    obtain ⟨⟨hq, he'⟩, hex⟩ := hcond
                    subst he' hex
                    have hq : q = u * sz := hq
                    have capEq : ∀ {s : Sg} {w : World} {B : Nat} {ob : Obj}, w.heap[B]? = some ob → BlkR P s g (.row e z' r cs false mk) ob → ∃ a fz, ob = .cells a e fz ∧ a.size = s.cap g * sz ∧ r ≤ a.size := by
                      intro s w B ob _ k3
                      cases ob with
                      | cells a t2 fz =>
                        obtain ⟨rfl, c2, c3, c4, c5⟩ := k3
                        simp only [Bool.false_eq_true, if_false] at c4
                        rw [sizeB_cells hsz] at c4
                        exact ⟨a, fz, rfl, c4, c2⟩
                      | _ => exact k3.elim
                    split at h
                    · rename_i hroom
                      have hroom : q + (m' + k) * sz ≤ r := Nat.ble_eq.mp hroom
                      rw [putCells_k, Q8.set_k] at h
                      injection h with h1 h2 h3
                      subst h1 h2 h3
                      refine ⟨Nat.le_refl _, fun s N a w he hr _ _ => ?_⟩
                      obtain ⟨B, hB, hf, ed⟩ := sl_conc.1 (opd_conc he hr.glob hx)
                      obtain ⟨b', ob, k1, k2, k3⟩ := hr.blk g _ (hr.lim g B hB) hH
                      rw [hB] at k1; injection k1 with k1; subst k1
                      obtain ⟨ar, fz, _, g1, g2⟩ := capEq k2 k3
                      have hcap : u + (m' + k) ≤ s.cap g := by
                        have h3 : (u + (m' + k)) * sz ≤ s.cap g * sz := by rw [Nat.add_mul, ← hq, ← g1]; omega
                        exact Nat.le_of_mul_le_mul_right h3 hb3
                      obtain ⟨vs, v1, v2, v3, v4, _⟩ := facts he hr ed
                      obtain ⟨w', r1, r2, r3⟩ := write_ok hr hH hB v1 v2 (q := q + m' * sz) (by rw [hnl, Nat.add_assoc, ← Nat.add_mul]; exact hroom) n
                      refine ⟨_, s, w', .inl ?_, sl_conc.2 ⟨B, hB, by simp [Cap.fits, hcap], rfl⟩, r2, r3⟩
                      rw [v4 (by simp only [Cap.val]; omega)]
                      simp [add_addr, r1, Cap.val]
                    · split at h
                      · split at h
                        · rename_i old hold
                          rw [frcL_eq, Q8.set_k, newRowA_k] at h
                          injection h with h1 h2 h3
                          subst h1 h2 h3
                          refine ⟨Nat.le_succ _, fun s N a w he hr hf hl => ?_⟩
                          have hn0 := hf n (Nat.le_refl _) (Nat.lt_succ_self _)
                          have hu0 : u = 0 := by
                            rcases Nat.eq_zero_or_pos u with e0 | e0
                            · exact e0
                            · have := Nat.mul_pos e0 hb3; omega
                          subst hu0
                          obtain ⟨B, hB, hfi, ed⟩ := sl_conc.1 (opd_conc he hr.glob hx)
                          have hglim := hr.lim g B hB
                          obtain ⟨b', ob, k1, k2, k3⟩ := hr.blk g _ hglim hH
                          rw [hB] at k1; injection k1 with k1; subst k1
                          obtain ⟨os, o1, o2, o3, o4⟩ := k3.cells k2 hold
                          have o2 : os.length = m' * sz := o2
                          by_cases hgr : s.cap g < m' + k
                          · exact grow he hr (hr.drop hglim) (Step.drop s n H w hglim) hn0 hl ed (by simpa [Cap.val] using hgr) o1 o3 o2 (fun w' hw' => run_firstCells_some w' sz m' ⟨B, 0, none⟩ m' _ os o2 (fun j v hv => by
                              have := o4 j v hv
                              unfold World.cell? at this ⊢
                              rw [hw']; exact this)) (mkB P e || mk)
                          · obtain ⟨ar, fz, hob, g1, g2⟩ := capEq k2 k3
                            subst hob
                            obtain ⟨vs, v1, v2, v3, v4, _⟩ := facts he hr ed
                            have hsize : (m' + k) * sz ≤ ar.size := by rw [g1]; exact Nat.mul_le_mul_right _ (by omega)
                            have hsz2 : m' * sz + vs.length ≤ ar.size := by rw [v3, ← Nat.add_mul]; exact hsize
                            obtain ⟨a', q1, q2, q3, q4, q5, q6, q7, q8⟩ := setCells_row B e fz vs (m' * sz) w ar k2 hsz2
                            have hrun : (storeCells ⟨B, m' * sz, none⟩ vs).run P w = .ok () (w.setCells B (m' * sz) vs) := by
                              have := run_storeCells_cells (P := P) B (m' * sz) vs 0 w (fun j hj => ?_) (fun j hj => ?_) (fun v hv => (List.all_eq_true.1 v2) v hv)
                              · simpa using this
                              · simp only [Nat.add_zero, World.cell?, k2]
                                have : m' * sz + j < ar.size := by omega
                                simp [this]
                              · exact k3.frozen k2 (show m' * sz + 0 + j < ar.size by omega)
                            have hle := Sg.set_le (s := s) (n := n) (b := B) (c := s.cap g) hn0
                            have hrow : BlkR P (s.set n B (s.cap g)) n (.row e (fun _ => none) (old ++ new).length (T.e.puts (old ++ new) 0) false (mkB P e || mk)) (.cells a' e fz) := by
                              have hcon : concL (s.set n B (s.cap g)) (old ++ new) = some (os ++ vs) := concL_append (concL_le hle _ o1) (concL_le hle _ v1)
                              have hll := concL_length hcon
                              refine ⟨rfl, by rw [q2, ← hll, List.length_append, o2]; exact hsz2, fun i A hA => ?_, ?_, ?_⟩
                              · obtain ⟨V, w1, w2⟩ := concL_get hcon (cellAt_puts hA)
                                refine ⟨V, w1, ?_, (List.all_eq_true.1 (show (os ++ vs).all Value.oneCell' = true by simp only [List.all_append, o3, v2, Bool.and_self])) V (List.mem_of_getElem? w2)⟩
                                rw [q3 i]
                                by_cases hi : i < m' * sz
                                · rw [if_neg (by omega)]
                                  rw [List.getElem?_append_left (by omega)] at w2
                                  have := o4 i V w2
                                  rw [add_addr, Nat.zero_add] at this
                                  simpa [World.cell?, k2] using this
                                · have hlt : i < m' * sz + vs.length := by
                                    have := (List.getElem?_eq_some_iff.1 w2).1
                                    rw [List.length_append, o2] at this; exact this
                                  rw [if_pos ⟨by omega, hlt⟩]
                                  rw [List.getElem?_append_right (by omega), o2] at w2
                                  exact w2
                              · simp only [Bool.false_eq_true, if_false, Sg.set_cap, q2, g1, sizeB_cells hsz]
                              · obtain ⟨_, _, _, _, c5⟩ := k3
                                rcases c5 with c5 | ⟨c5, c6⟩
                                · exact .inl c5
                                · exact .inr ⟨by simp [c5], by rw [q2]; exact c6⟩
                            obtain ⟨r1, r2⟩ := hr.alias (n := n) hl hn0 hglim hH hB q5 q1 hrow q4 q6 q7 q8
                            refine ⟨_, _, _, .inl ?_, sl_conc.2 ⟨B, Sg.set_blk .., by simp [Cap.fits, Sg.set_cap]; omega, rfl⟩, r1, r2⟩
                            rw [v4 (by simp only [Cap.val]; omega)]
                            simp [add_addr, hrun, Cap.val, Sg.set_cap]
                        · cases h
                      · cases h
                · cases h
              · cases h
            · cases h
          · cases h
        · cases h
      · cases h
    · cases h
  · cases h
end
end Go.Sy
namespace Go.Sy
open Go
section
variable {P : Program}
/-- What an operation of that kind keeps. -/
def KOk (P : Program) (k : K) (o : Oper) (env : Env) (n : Nat) (H : Heap) (v : AV) (n' : Nat) (H' : Heap) : Prop :=
  match k with
  | .pure => n' = n ∧ H' = H ∧ PureOk P o env v
  | .read => n' = n ∧ H' = H ∧ ReadOk P o env H v
  | .new => (n' = n ∧ H' = H ∧ PureOk P o env v) ∨ ∃ A, n' = n + 1 ∧ H' = Q8.upd H n (some A) ∧ NewOk P o env n v A
  | .chain => OpOk P o env n H v n' H'
theorem KOk.op {k : K} {o : Oper} {env : Env} {n n' : Nat} {H H' : Heap} {v : AV} (h : KOk P k o env n H v n' H') : OpOk P o env n H v n' H' := by
  cases k with
  | pure => obtain ⟨rfl, rfl, h⟩ := h; exact h.op
  | read => obtain ⟨rfl, rfl, h⟩ := h; exact h.op
  | new =>
    rcases h with ⟨rfl, rfl, h⟩ | ⟨A, rfl, rfl, h⟩
    · exact h.op
    · exact h.op
  | chain => exact h
theorem KOk.ofPure {k : K} {o : Oper} {env : Env} {n n' : Nat} {H H' : Heap} {v : AV} (h : n' = n ∧ H' = H ∧ PureOk P o env v) : KOk P k o env n H v n' H' := by
  cases k with
  | pure => exact h
  | read => exact ⟨h.1, h.2.1, h.2.2.read⟩
  | new => exact .inl h
  | chain => obtain ⟨rfl, rfl, h⟩ := h; exact h.op
theorem foldl_push : ∀ (ns : List Int) (r : ByteArray), ns.foldl (fun r n => r.push (UInt8.ofNat n.toNat)) r = ⟨r.data ++ (ns.map fun n => UInt8.ofNat n.toNat).toArray⟩
  | [], r => by simp
  | n :: ns, r => by
    rw [List.foldl_cons, foldl_push ns]
    simp [ByteArray.push]
/-- The bytes of some cells. -/
noncomputable def bytesC (l : List AV) : Option (List UInt8) := List.rec (some []) (fun v _ ih => match v with | .i .u8 (.ofNat b) => (match ih with | some r => some (UInt8.ofNat b :: r) | none => none) | _ => none) l
theorem bytesC_cons (v : AV) (l : List AV) : bytesC (v :: l) = (match v with | .i .u8 (.ofNat b) => (match bytesC l with | some r => some (UInt8.ofNat b :: r) | none => none) | _ => none) := rfl
theorem bytesC_ok {s : Sg} : ∀ {l : List AV} {vs : List Value} {r : List UInt8}, bytesC l = some r → concL s l = some vs → ∃ ns : List Int, vs = ns.map (Value.int .u8) ∧ r = ns.map (fun n => UInt8.ofNat n.toNat)
  | [], vs, r, h, hc => by
    injection h with h; injection hc with hc
    subst h hc
    exact ⟨[], rfl, rfl⟩
  | v :: l, vs, r, h, hc => by
    rw [bytesC_cons] at h
    obtain ⟨V, us, h1, h2, rfl⟩ := concL_cons.1 hc
    split at h
    · rename_i b
      split at h
      · rename_i r' hr'
        injection h with h; subst h
        obtain ⟨ns, k1, k2⟩ := bytesC_ok hr' h2
        simp only [AV.conc, Option.some.injEq] at h1
        refine ⟨Int.ofNat b :: ns, ?_, ?_⟩
        · rw [List.map_cons, ← k1, ← h1]
        · rw [List.map_cons, ← k2]; rfl
      · cases h
    · cases h
theorem Rel.congr {s : Sg} {H H' : Heap} {w : World} (h : Rel P s H w) (e : ∀ x, x < LIM → Q8.get H' x = Q8.get H x) : Rel P s H' w :=
  ⟨h.lim, h.glob, fun x A hx hA => h.blk x A hx (by rw [← e x hx]; exact hA), fun x y b hx hy h1 h2 => h.inj x y b hx hy (by rw [← e x hx]; exact h1) (by rw [← e y hy]; exact h2)⟩
theorem Step.congr {s s' : Sg} {n n' : Nat} {H H1 H2 : Heap} {w w' : World} (h : Step s n H w s' n' H1 w') (e : ∀ x, x < LIM → Q8.get H2 x = Q8.get H1 x) : Step s n H w s' n' H2 w' :=
  ⟨h.off, h.size, h.frame, fun y b hy h1 h2 h3 => h.dom y b hy (by rw [← e y hy]; exact h1) h2 h3, h.os, h.tape, h.output⟩
theorem exec_convert {o : Oper} {s d : TypeId} {x : Operand} (hop : o.op = .convert s d x) (ρ : Operand → Value) : execOp ρ o = (do pure (.value (← convert s d (ρ x)))) := by
  obtain ⟨dst, op', ty, pos, af, gu⟩ := o
  simp only at hop
  subst hop
  rfl
theorem exec_convert_run {o : Oper} {s d : TypeId} {x : Operand} (hop : o.op = .convert s d x) {ρ : Operand → Value} {w w' : World} {V : Value} (h : (convert s d (ρ x)).run P w = .ok V w') : (execOp ρ o).run P w = .ok (.value V) w' := by
  rw [exec_convert hop]
  simp only [Sem.run_bind, h, Result.andThen_ok, Sem.run_pure]
theorem evConvert_ok {o : Oper} {sT dT : TypeId} {x : Operand} (hop : o.op = .convert sT dT x) {env : Env} {n n' : Nat} {H H' : Heap} {v : AV} (h : evConvert P o sT dT x env n H = .val v n' H') :
    KOk P (kindOf P o.op) o env n H v n' H' := by
  have ground : ∀ {v n' H'}, evGround P o env n H = .val v n' H' → ∀ k, KOk P k o env n H v n' H' := fun hg k => .ofPure (evGround_ok (P := P) (o := o) (fun cs b => by rw [hop]; simp) hg)
  rw [hop]
  unfold evConvert at h
  split at h
  · rename_i j k j2 a hs hd hx
    rcases natV_ok h with e | ⟨h1, h2, h3, h4⟩
    · exact ground e _
    · subst h1 h2 h3
      refine .ofPure ⟨rfl, rfl, fun s N ac he hg => ⟨_, rfl, fun w => exec_convert_run hop ?_⟩⟩
      have ex := opd_conc he hg hx
      simp only [AV.conc, Option.some.injEq] at ex
      rw [← ex]
      have := wrap_nat h4
      simp [convert, run_underlying hs, run_underlying hd, Conv.intToInt]
      exact this
  · rename_i e l hs hd hx
    split at h
    · rename_i z hu hz
      split at h
      · rename_i hb
        have hb : z = 1 := by simpa using hb
        subst hb
        rw [frcL_eq, frc_eq, newRowA_k] at h
        injection h with h1 h2 h3
        subst h1 h2 h3
        simp only [kindOf, hs, hd]
        refine .inr ⟨_, rfl, rfl, fun s N ac w he hg hn => ?_⟩
        have ex := opd_conc he hg hx
        simp only [AV.conc, Option.some.injEq] at ex
        have hlen : len l = l.length := len_eq l
        have hrun := run_bytes_of_string (P := P) w sT dT e ⟨⟨l⟩⟩ hs hd hu
        have hge := grownCap_ge w (ByteArray.size ⟨⟨l⟩⟩) 0 e
        have hsz : ByteArray.size ⟨⟨l⟩⟩ = l.length := rfl
        rw [hsz] at hge
        rw [ex] at hrun
        refine ⟨_, _, grownCap w l.length 0 e, _, exec_convert_run hop hrun, rfl, rfl, rfl, rfl, ?_, ?_⟩
        · rw [hlen]
          exact sl_conc.2 ⟨_, Sg.set_blk .., by simp [Cap.fits, Sg.set_cap]; exact hge, by simp [Cap.val, Sg.set_cap, hsz]⟩
        · have hsize : (bytesRow ⟨⟨l⟩⟩ (grownCap w l.length 0 e)).size = grownCap w l.length 0 e := by
            simp [bytesRow, hsz]; omega
          refine ⟨rfl, ?_, fun i A hA => ?_, ?_, .inr ⟨rfl, rfl⟩⟩
          · rw [hsz, hsize]; simpa using hge
          · have hc : ∀ (s' : Sg) (l : List UInt8), concL s' (l.map fun b => AV.i .u8 (.ofNat b.toNat)) = some (l.map fun b => Value.int .u8 (.ofNat b.toNat)) := fun s' l => by
              induction l with
              | nil => rfl
              | cons b l ih => rw [List.map_cons, List.map_cons]; exact concL_cons.2 ⟨_, _, rfl, ih, rfl⟩
            have hc := hc (s.set n w.heap.size (grownCap w l.length 0 e)) l
            obtain ⟨V, v1, v2⟩ := concL_get hc (cellAt_puts hA)
            rw [List.getElem?_map] at v2
            refine ⟨V, v1, ?_, ?_⟩
            · have hi : i < l.length := by
                cases hli : l[i]? with
                | none => rw [hli] at v2; cases v2
                | some b => exact (List.getElem?_eq_some_iff.1 hli).1
              rw [hsz, bytesRow, Array.getElem?_append_left (by simpa using hi)]
              simpa using v2
            · cases hli : l[i]? with
              | none => rw [hli] at v2; cases v2
              | some b => rw [hli] at v2; injection v2 with v2; subst v2; rfl
          · simp only [Bool.false_eq_true, if_false]
            rw [hsz, hsize, Sg.set_cap, sizeB_cells hz, Nat.mul_one]
      · cases h
    · cases h
  · rename_i e2 e y q m c hs hd hx
    split at h
    · rename_i et ez m2 cs2 ex2 hu hsd hH
      injection h with h1 h2 h3
      subst h1 h2 h3
      have hsd : sT = dT := by simpa using hsd
      subst hsd
      simp only [kindOf, hs]
      refine ⟨rfl, rfl, fun s N ac w n he hr => ?_⟩
      obtain ⟨B, hB, hf, ed⟩ := sl_conc.1 (opd_conc he hr.glob hx)
      have hy := hr.lim y B hB
      obtain ⟨b', ob, k1, k2, k3⟩ := hr.blk y _ hy hH
      rw [hB] at k1; injection k1 with k1; subst k1
      cases ob with
      | cells a t2 fz =>
        obtain ⟨rfl, c2, c3, c4, c5⟩ := k3
        have hfr : (World.freeze w ⟨B, a.size, none⟩ 1).heap[B]? = some (.cells a t2 (a.size, a.size + 1)) := by
          unfold World.freeze
          rw [if_neg (by decide)]
          simp only [Array.getElem?_modify, k2, if_true, Option.map_some, Option.some.injEq, Obj.cells.injEq, true_and]
          rcases c5 with e | ⟨_, e⟩
          · rw [e]; simp
          · rw [e]
            have : (a.size == a.size + 1) = false := by simp
            simp [this]
        have hoth : ∀ b, b ≠ B → (World.freeze w ⟨B, a.size, none⟩ 1).heap[b]? = w.heap[b]? := fun b hb => by
          unfold World.freeze
          rw [if_neg (by decide)]
          simp [Array.getElem?_modify, Ne.symm hb]
        have hrow : BlkR P s y (.row t2 ez m2 cs2 ex2 true) (.cells a t2 (a.size, a.size + 1)) := ⟨rfl, c2, c3, c4, .inr ⟨rfl, rfl⟩⟩
        obtain ⟨r1, r2⟩ := hr.write n hy hH hB (w' := World.freeze w ⟨B, a.size, none⟩ 1) (A' := .row t2 ez m2 cs2 ex2 true) (by unfold World.freeze; rw [if_neg (by decide)]; simp) hfr hrow hoth (by unfold World.freeze; rw [if_neg (by decide)]) (by unfold World.freeze; rw [if_neg (by decide)]) (by unfold World.freeze; rw [if_neg (by decide)])
        have hsame : ∀ x, x < LIM → Q8.get H x = Q8.get (Q8.upd H y (some (.row t2 ez m2 cs2 ex2 true))) x := fun x hx => by
          rw [Q8.get_upd _ _ _ _ hy hx]
          split
          · rename_i e; subst e; exact hH
          · rfl
        have hsh : w.shape? B = some (t2, a.size) := by unfold World.shape?; rw [k2]
        refine ⟨_, _, exec_convert_run hop ?_, sl_conc.2 ⟨B, hB, hf, rfl⟩, r1.congr hsame, r2.congr hsame⟩
        rw [ed]
        simp [convert, run_underlying hd, run_underlying hu, markStringish, hsh]
      | _ => exact k3.elim
    · cases h
  · rename_i e a hs hd hx
    simp only [kindOf, hs, hd]
    have empty : ∀ {u : AV}, (∀ (s : Sg) V, u.conc s = some V → V = .slice none 0 0 ∨ ∃ b c, V = .slice (some b) 0 c) → opd env x = some u → P.underlying e = some (.int .u8) → ReadOk P o env H (.s []) := fun {u} hu hx he8 s N ac w n he hr => by
      have ed := opd_conc he hr.glob hx
      refine ⟨.string ⟨⟨[]⟩⟩, w, exec_convert_run hop ?_, rfl, hr, Step.refl ..⟩
      rcases hu s _ ed with e1 | ⟨b, c, e1⟩
      · rw [e1, run_convert_bytes_string w sT dT e none 0 0 hs he8 hd]
        rfl
      · rw [e1]
        exact run_convert_bytes_back w sT dT e b c [] hs he8 hd (fun j hj => absurd hj (Nat.not_lt_zero _))
    split at h
    · rename_i he8
      injection h with h1 h2 h3
      subst h1 h2 h3
      exact ⟨rfl, rfl, empty (fun s V hV => .inl (by simpa [AV.conc] using hV.symm)) hx he8⟩
    · rename_i x1 x2 x3 x4 he8
      injection h with h1 h2 h3
      subst h1 h2 h3
      exact ⟨rfl, rfl, empty (fun s V hV => let ⟨b, _, _, h3⟩ := se_conc.1 hV; .inr ⟨_, _, h3⟩) hx he8⟩
    · rename_i y q m c he8
      split at h
      · rename_i t z r cs ex mk hH
        split at h
        · rename_i l hl
          split at h
          · rename_i bs hbs
            injection h with h1 h2 h3
            subst h1 h2 h3
            refine ⟨rfl, rfl, fun s N ac w n he hr => ?_⟩
            obtain ⟨B, hB, hf, ed⟩ := sl_conc.1 (opd_conc he hr.glob hx)
            have hy := hr.lim y B hB
            obtain ⟨b', ob, k1, k2, k3⟩ := hr.blk y _ hy hH
            rw [hB] at k1; injection k1 with k1; subst k1
            obtain ⟨os, o1, o2, o3, o4⟩ := k3.cells k2 hl
            obtain ⟨ns, p1, p2⟩ := bytesC_ok hbs o1
            refine ⟨_, w, exec_convert_run hop ?_, rfl, hr, Step.refl ..⟩
            rw [ed, run_convert_bytes_string w sT dT e _ _ _ hs he8 hd]
            have hl := run_loadCells_list (P := P) w ⟨B, q, none⟩ os (fun j v hv => o4 j v hv)
            rw [o2, p1] at hl
            rw [run_bytesToString w ⟨B, q, none⟩ m _ ns hl]
            have he0 : ByteArray.empty.data = #[] := rfl
            rw [p2, foldl_push ns ByteArray.empty, he0]
            simp
          · cases h
        · cases h
      · cases h
    · cases h
  · exact ground h _
end
end Go.Sy
namespace Go.Sy
open Go
section
variable {P : Program}
theorem range_new {o : Oper} {t : TypeId} {x : Operand} (hop : o.op = .range t x) {a : Act} {w : World} {ob : Obj} (h : (Instr.range t (a.eval x)).run P w = .ok (.pointer (some ⟨w.heap.size, 0, none⟩)) (w.alloc ob)) :
    (execOp a.eval o).run P w = .ok (.value (.pointer (some ⟨w.heap.size, 0, none⟩))) (w.alloc ob) := by
  simp [execOp, hop, h]
theorem evMapRange_ok {o : Oper} {t : TypeId} {x : Operand} (hop : o.op = .range t x) {env : Env} {n n' : Nat} {H H' : Heap} {v : AV} (h : evMapRange P t x env n H = .val v n' H') : OpOk P o env n H v n' H' := by
  unfold evMapRange at h
  split at h
  · rename_i kt e hx hu
    rw [Q8.set_k, frc_eq] at h
    injection h with h1 h2 h3
    subst h1 h2 h3
    refine ⟨Nat.le_succ _, fun s N a w he hr hf hl => ?_⟩
    have h0 := hf n (Nat.le_refl _) (Nat.lt_succ_self _)
    have ex := opd_conc he hr.glob hx
    simp only [AV.conc, Option.some.injEq] at ex
    obtain ⟨r1, r2⟩ := hr.alloc (n := n) (Nat.lt_of_lt_of_le (Nat.lt_succ_self _) hl) h0 (A := .iter none 0 [] 0) (o := .mapIter none 0 #[] 0) 0 ⟨rfl, rfl, rfl⟩
    refine ⟨_, _, _, .inl (range_new hop (ob := .mapIter none 0 #[] 0) ?_), by simp [AV.conc, Sg.set], r1, r2⟩
    simp [Instr.range, underlying_run hu, ← ex]
  · rename_i y kt e hx hu
    split at h
    · rename_i es cl hH
      rw [Q8.set_k, frc_eq] at h
      injection h with h1 h2 h3
      subst h1 h2 h3
      refine ⟨Nat.le_succ _, fun s N a w he hr hf hl => ?_⟩
      have h0 := hf n (Nat.le_refl _) (Nat.lt_succ_self _)
      obtain ⟨B, fs, hB, e1, e2, e3⟩ := map_at he hr hx hH
      have hne : y ≠ n := fun e => by rw [e, h0] at hB; cases hB
      obtain ⟨r1, r2⟩ := hr.alloc (n := n) (Nat.lt_of_lt_of_le (Nat.lt_succ_self _) hl) h0 (A := .iter (some y) cl [] cl) (o := .mapIter (some B) cl #[] cl) 0 ⟨by simp [Sg.set, hne, hB], rfl, rfl, rfl⟩
      refine ⟨_, _, _, .inl (range_new hop (ob := .mapIter (some B) cl #[] cl) ?_), by simp [AV.conc, Sg.set], r1, r2⟩
      simp [Instr.range, underlying_run hu, e1, getObj_map (P := P) e2]
    · cases h
  · cases h
theorem iter_at {s : Sg} {N : Nat} {a : Act} {env : Env} {H : Heap} {w : World} (he : EnvR s env N a.tmps) (hr : Rel P s H w) {x : Operand} {y : Nat} (hx : opd env x = some (.p y 0)) {A : Blk} (hH : Q8.get H y = some A) :
    ∃ b ob, s.blk y = some b ∧ a.eval x = .pointer (some ⟨b, 0, none⟩) ∧ w.heap[b]? = some ob ∧ BlkR P s y A ob := by
  have ex := opd_conc he hr.glob hx
  simp only [AV.conc, Option.map_eq_some_iff] at ex
  obtain ⟨b, hb, ex⟩ := ex
  obtain ⟨b', ob, h1, h2, h3⟩ := hr.blk y _ (hr.lim y b hb) hH
  rw [hb] at h1; injection h1 with h1; subst h1
  exact ⟨b, ob, hb, ex.symm, h2, h3⟩
theorem memN_eq (b : Nat) (l : List Nat) : memN b l = l.contains b := by
  induction l with
  | nil => rfl
  | cons a l ih =>
    show (match Nat.beq a b with | true => true | false => memN b l) = _
    rw [ih, List.contains_cons, natbeq]
    by_cases h : a = b
    · subst h; simp
    · have : ¬ b = a := fun e => h e.symm
      simp [h, this]
theorem leftL_rel {s : Sg} {seen : List Nat} : ∀ {es : List (AV × AV × Nat)} {fs : List MapEntry}, All2 (MapR s) es fs → All2 (MapR s) (leftL seen es) (fs.filter fun e => !seen.contains e.born)
  | [], [], _ => trivial
  | e :: es, f :: fs, ⟨h1, h2⟩ => by
    have ih := leftL_rel (seen := seen) h2
    have hb := h1.2.2
    show All2 (MapR s) (match memN e.2.2 seen with | true => leftL seen es | false => e :: leftL seen es) _
    rw [List.filter_cons, hb, memN_eq]
    cases hc : seen.contains e.2.2 with
    | true => simpa using ih
    | false => simp only [Bool.not_false, if_true]; exact ⟨h1, ih⟩
theorem allGe_eq {s : Sg} {last : Nat} : ∀ {es : List (AV × AV × Nat)} {fs : List MapEntry}, All2 (MapR s) es fs → allGe last es = fs.all (fun e => decide (e.born ≥ last))
  | [], [], _ => rfl
  | e :: es, f :: fs, ⟨h1, h2⟩ => by
    have ih := allGe_eq (last := last) h2
    show (match Nat.ble last e.2.2 with | true => allGe last es | false => false) = _
    rw [List.all_cons, h1.2.2, ih]
    cases hc : Nat.ble last e.2.2 with
    | true => simp [Nat.le_of_ble_eq_true hc]
    | false =>
      have : ¬ last ≤ e.2.2 := fun h => by rw [Nat.ble_eq_true_of_le h] at hc; cases hc
      simp [this]
theorem staleB_eq {s : Sg} {seen : List Nat} {last : Nat} {es : List (AV × AV × Nat)} {fs : List MapEntry} (h : All2 (MapR s) es fs) : staleB seen es last = (!seen.isEmpty && !fs.isEmpty && fs.all (fun e => decide (e.born ≥ last))) := by
  unfold staleB
  split
  · rfl
  · cases fs with
    | nil => simp
    | cons => exact h.elim
  · rw [allGe_eq h]
    cases fs with
    | nil => exact h.elim
    | cons => simp
theorem getB_ok {s : Sg} {b : Nat} {e : AV × AV × Nat} : ∀ {es : List (AV × AV × Nat)} {fs : List MapEntry}, All2 (MapR s) es fs → getB b es = some e → ∃ f, fs.find? (fun x => x.born == b) = some f ∧ MapR s e f
  | [], [], _, h => by cases h
  | x :: es, f :: fs, ⟨h1, h2⟩, h => by
    have h : (match Nat.beq x.2.2 b with | true => some x | false => getB b es) = some e := h
    rw [List.find?_cons, h1.2.2]
    cases hc : Nat.beq x.2.2 b with
    | true =>
      rw [hc] at h
      injection h with h; subst h
      have := Nat.eq_of_beq_eq_true hc
      exact ⟨f, by simp [this], h1⟩
    | false =>
      rw [hc] at h
      have : ¬ x.2.2 = b := fun e => by rw [natbeq] at hc; simp [e] at hc
      obtain ⟨f', h3, h4⟩ := getB_ok h2 h
      have hbq : (x.2.2 == b) = false := by simpa using this
      exact ⟨f', by rw [hbq]; exact h3, h4⟩
theorem next_exec {o : Oper} {it : Operand} {st : Bool} (hop : o.op = .next it st) {a : Act} {w w' : World} {V : Value} (h : (Instr.next (a.eval it) st o.type).run P w = .ok V w') : (execOp a.eval o).run P w = .ok (.value V) w' := by
  simp [execOp, hop, h]
theorem getObj_iter {w : World} {b : Nat} {m : Option Nat} {q : Array Nat} {x l : Nat} (h : w.heap[b]? = some (.mapIter m x q l)) : (getObj b).run P w = .ok (.mapIter m x q l) w := by simp [getObj, Sem.run, h]
theorem setObj_iter {w : World} {b : Nat} {m : Option Nat} {q : Array Nat} {x l : Nat} (ob : Obj) (h : w.heap[b]? = some (.mapIter m x q l)) : (setObj b ob).run P w = .ok () { w with heap := w.heap.setIfInBounds b ob } := by simp [setObj, Sem.run, h]
theorem all2_nil {α β : Type} {R : α → β → Prop} {l : List β} (h : All2 R [] l) : l = [] := by cases l with | nil => rfl | cons => exact h.elim
theorem all2_one {α β : Type} {R : α → β → Prop} {a : α} {l : List β} (h : All2 R [a] l) : ∃ b, l = [b] ∧ R a b := by
  match l, h with
  | [b], h => exact ⟨b, rfl, h.1⟩
theorem choose1 (w : World) : (choose (.mapNext 1)).run P w = .ok 0 w := by simp [choose, Sem.run, Question.forced]
theorem evMapNext_ok {o : Oper} {it : Operand} {st : Bool} (hop : o.op = .next it st) {env : Env} {n n' : Nat} {H H' : Heap} {v : AV} (h : evMapNext it st env n H = .val v n' H') : OpOk P o env n H v n' H' := by
  unfold evMapNext at h
  split at h
  · rename_i y hx
    split at h
    · rename_i s1 s2 s3 hH
      injection h with h1 h2 h3
      subst h1 h2 h3
      refine ⟨Nat.le_refl _, fun s N a w he hr _ _ => ?_⟩
      obtain ⟨b, ob, hb, e1, e2, e3⟩ := iter_at he hr hx hH
      cases ob with
      | mapIter m x q l =>
        cases m with
        | none =>
          refine ⟨.tuple #[.bool false], s, w, .inl (next_exec hop ?_), by simp [AV.conc, concL], hr, Step.refl ..⟩
          simp [Instr.next, e1, getObj_iter (P := P) e2]
        | some b' => exact e3.elim
      | _ => exact e3.elim
    · rename_i z since seen last hH
      split at h
      · rename_i es cl hZ
        split at h
        · rename_i hst hleft
          injection h with h1 h2 h3
          subst h1 h2 h3
          refine ⟨Nat.le_refl _, fun s N a w he hr _ _ => ?_⟩
          obtain ⟨b, ob, hb, e1, e2, e3⟩ := iter_at he hr hx hH
          cases ob with
          | mapIter m x q l =>
            cases m with
            | none => exact e3.elim
            | some b' =>
              obtain ⟨k1, rfl, k3, rfl⟩ := e3
              obtain ⟨b2, ob2, g1, g2, g3⟩ := hr.blk z _ (hr.lim z b' k1) hZ
              rw [k1] at g1; injection g1 with g1; subst g1
              cases ob2 with
              | map fs cl' =>
                obtain ⟨rfl, g3⟩ := g3
                refine ⟨_, s, w, .inl (next_exec hop (V := .tuple #[.bool false]) ?_), by simp [AV.conc, concL], hr, Step.refl ..⟩
                have hl := leftL_rel (seen := seen) g3
                rw [hleft] at hl
                have hl := all2_nil hl
                have hs := staleB_eq (seen := seen) (last := l) g3
                rw [hst] at hs
                have hf : (fs.filter fun e => !q.contains e.born) = #[] := by
                  apply Array.toList_inj.1
                  rw [Array.toList_filter, ← hl, ← k3]
                  simp
                have hs' : (!q.isEmpty && !fs.isEmpty && fs.all (fun x => decide (x.born ≥ l))) = false := by
                  rw [hs, ← k3]; simp
                rw [e1]
                simp only [Instr.next, Sem.run_bind, getObj_iter (P := P) e2, getObj_map (P := P) g2, Result.andThen_ok, hs', hf, Bool.false_eq_true, if_false]
                simp [choose, Sem.run, Question.forced]
              | _ => exact g3.elim
          | _ => exact e3.elim
        · rename_i e hst hleft
          split at h
          · rename_i hlt
            have hlt : e.2.2 < since := Nat.le_of_ble_eq_true hlt
            rw [frcL_eq, Q8.set_k] at h
            injection h with h1 h2 h3
            subst h1 h2 h3
            refine ⟨Nat.le_refl _, fun s N a w he hr _ _ => ?_⟩
            obtain ⟨b, ob, hb, e1, e2, e3⟩ := iter_at he hr hx hH
            cases ob with
            | mapIter m x q l =>
              cases m with
              | none => exact e3.elim
              | some b' =>
                obtain ⟨k1, rfl, k3, rfl⟩ := e3
                obtain ⟨b2, ob2, g1, g2, g3⟩ := hr.blk z _ (hr.lim z b' k1) hZ
                rw [k1] at g1; injection g1 with g1; subst g1
                cases ob2 with
                | map fs cl' =>
                  obtain ⟨rfl, g3⟩ := g3
                  have hl := leftL_rel (seen := seen) g3
                  rw [hleft] at hl
                  obtain ⟨f, hl, hm⟩ := all2_one hl
                  have hs := staleB_eq (seen := seen) (last := l) g3
                  rw [hst] at hs
                  have hf : (fs.filter fun e => !q.contains e.born) = #[f] := by
                    apply Array.toList_inj.1
                    rw [Array.toList_filter]
                    show _ = [f]
                    rw [← hl, ← k3]
                    simp
                  have hs' : (!q.isEmpty && !fs.isEmpty && fs.all (fun x => decide (x.born ≥ l))) = false := by
                    rw [hs, ← k3]; simp
                  have hfb : f.born < x := by rw [hm.2.2]; exact hlt
                  obtain ⟨r1, r2⟩ := hr.write n (hr.lim y b hb) hH hb (w' := { w with heap := w.heap.setIfInBounds b (.mapIter (some b') x (q.push f.born) cl') }) (o := .mapIter (some b') x (q.push f.born) cl')
                    (A' := .iter (some z) x (seen ++ [e.2.2]) cl') (by simp) (by
                      have := (Array.getElem?_eq_some_iff.1 e2).1
                      simp [this]) ⟨k1, rfl, by simp [k3, hm.2.2], rfl⟩ (fun c hc => by simp [Ne.symm hc]) rfl rfl rfl
                  refine ⟨.tuple #[.bool true, f.key, f.val], s, _, .inl (next_exec hop ?_), by simp [AV.conc, concL, hm.1, hm.2.1], r1, r2⟩
                  rw [e1]
                  have o1 : (#[f].filter fun e => decide (e.born < x)) = #[f] := by simp [hfb]
                  have o2 : (#[f].filter fun e => decide (e.born ≥ x)) = #[] := by simp; omega
                  simp only [Instr.next, Sem.run_bind, getObj_iter (P := P) e2, getObj_map (P := P) g2, Result.andThen_ok, hs', hf, Bool.false_eq_true, if_false, o1, o2]
                  simp [choose, Sem.run, Question.forced, setObj, e2]
                | _ => exact g3.elim
            | _ => exact e3.elim
          · cases h
        · cases h
      · cases h
    · cases h
  · cases h
theorem evItEntry_ok {o : Oper} {it : Operand} (hop : o.op = .entry it) {env : Env} {n n' : Nat} {H H' : Heap} {v : AV} (h : evItEntry it env n H = .val v n' H') : OpOk P o env n H v n' H' := by
  unfold evItEntry at h
  split at h
  · rename_i y hx
    split at h
    · rename_i z since seen last hH
      split at h
      · rename_i bo es cl hlast hZ
        split at h
        · rename_i e hcl hg
          injection h with h1 h2 h3
          subst h1 h2 h3
          have hcl := Nat.eq_of_beq_eq_true hcl
          refine ⟨Nat.le_refl _, fun s N a w he hr _ _ => ?_⟩
          obtain ⟨b, ob, hb, e1, e2, e3⟩ := iter_at he hr hx hH
          cases ob with
          | mapIter m x q l =>
            cases m with
            | none => exact e3.elim
            | some b' =>
              obtain ⟨k1, rfl, k3, rfl⟩ := e3
              obtain ⟨b2, ob2, g1, g2, g3⟩ := hr.blk z _ (hr.lim z b' k1) hZ
              rw [k1] at g1; injection g1 with g1; subst g1
              cases ob2 with
              | map fs cl' =>
                obtain ⟨rfl, g3⟩ := g3
                obtain ⟨f, hf, hm⟩ := getB_ok g3 hg
                have hbk : q.back? = some bo := by
                  rw [← k3] at hlast
                  simpa using hlast
                have hfd : fs.find? (fun x => x.born == bo) = some f := by
                  rw [← Array.find?_toList]; exact hf
                refine ⟨.tuple #[f.key, f.val], s, w, .inl ?_, by simp [AV.conc, concL, hm.1, hm.2.1], hr, Step.refl ..⟩
                simp [execOp, hop, Instr.entry, e1, getObj_iter (P := P) e2, getObj_map (P := P) g2, hbk, hcl, hfd]
              | _ => exact g3.elim
          | _ => exact e3.elim
        · cases h
      · cases h
    · cases h
  · cases h
end
end Go.Sy
