/- SymL, SymM -/
import Derived.Test.YtcpophfchchpkaaGreatDoorMf5
import Derived.Deep.AppendSrc
namespace Go.Sy
open Go
section
variable {P : Program}
theorem bytes_eq (a b : ByteArray) : (a == b) = true ↔ a = b := by
  cases a with | mk x => cases b with | mk y =>
  constructor
  · intro h
    have e : x = y := by simpa using (show (x == y) = true from h)
    rw [e]
  · intro h
    cases h
    show (x == x) = true
    simp
theorem heap_set' {w : World} {r : Nat} {o o' : Obj} (hb : w.heap[r]? = some o) : (w.heap.setIfInBounds r o')[r]? = some o' ∧ ∀ r', r' ≠ r → (w.heap.setIfInBounds r o')[r']? = w.heap[r']? := by
  have hlt : r < w.heap.size := (Array.getElem?_eq_some_iff.1 hb).1
  exact ⟨by simp [hlt], fun r' hne => by simp [Ne.symm hne]⟩
theorem bytes_beq' (l m : List UInt8) : ((⟨⟨l⟩⟩ : ByteArray) == ⟨⟨m⟩⟩) = (l == m) := by
  rw [Bool.eq_iff_iff, bytes_eq]
  simp
theorem getObj_map {w : World} {r : Nat} {es : Array MapEntry} {clock : Nat} (hb : w.heap[r]? = some (.map es clock)) : (getObj r).run P w = .ok (.map es clock) w := by
  simp [getObj, Sem.run, hb]
theorem setObj_map {w : World} {r : Nat} {es : Array MapEntry} {clock : Nat} (o : Obj) (hb : w.heap[r]? = some (.map es clock)) : (setObj r o).run P w = .ok () { w with heap := w.heap.setIfInBounds r o } := by
  simp [setObj, Sem.run, hb]
theorem keyEq_now {d : TypeDesc} {k e : AV} {r : Bool} {s : Sg} {kv ev : Value} (hk : keyType d k = true) (h : keyEq k e = some r) (h1 : k.conc s = some kv) (h2 : e.conc s = some ev) : Instr.sameNow d kv ev = some r ∧ (r = true → kv = ev) := by
  unfold keyEq at h
  split at h
  · rename_i j a k' b
    rw [bsel] at h
    split at h
    · rename_i hk'
      have := ikEq_eq hk'
      subst this
      injection h with h
      simp only [AV.conc, Option.some.injEq] at h1 h2
      subst h1 h2
      cases d <;> simp [keyType] at hk
      rw [natbeq] at h
      subst h
      refine ⟨?_, fun h => by simp at h; rw [h]⟩
      simp only [Instr.sameNow, if_true, Option.some.injEq]
      rw [Bool.eq_iff_iff]; simp; omega
    · cases h
  · injection h with h
    simp only [AV.conc, Option.some.injEq] at h1 h2
    subst h1 h2
    cases d <;> simp [keyType] at hk
    subst h
    refine ⟨by simp only [Instr.sameNow, bytes_beq'], fun h => by simp at h; rw [h]⟩
  · injection h with h
    simp only [AV.conc, Option.some.injEq] at h1 h2
    subst h1 h2
    cases d <;> simp [keyType] at hk
    subst h
    exact ⟨rfl, fun h => by simp at h; rw [h]⟩
  · cases h
theorem findK_ok {d : TypeDesc} {s : Sg} {k : AV} {kv : Value} (hk : keyType d k = true) (h1 : k.conc s = some kv) : ∀ {es : List (AV × AV × Nat)} {fs : List MapEntry} {i : Nat} {r : Option (Nat × AV × Nat)}, All2 (MapR s) es fs → findK k es i = some r →
    (r = none → Instr.findNow d kv fs i = some none) ∧
    (∀ j v b, r = some (j, v, b) → ∃ p V f, j = i + p ∧ fs[p]? = some f ∧ f.key = kv ∧ f.val = V ∧ f.born = b ∧ v.conc s = some V ∧ Instr.findNow d kv fs i = some (some (j, V)))
  | [], [], i, r, _, h => by
    have h : some (none : Option (Nat × AV × Nat)) = some r := h
    injection h with h; subst h
    exact ⟨fun _ => rfl, fun j v b e => (by cases e)⟩
  | e :: es, f :: fs, i, r, hm, h => by
    obtain ⟨⟨m1, m2, m3⟩, hr⟩ := hm
    have h : (match keyEq k e.1 with | some true => some (some (i, e.2)) | some false => findK k es (Nat.succ i) | none => none) = some r := h
    split at h
    · rename_i hq
      injection h with h; subst h
      obtain ⟨q1, q2⟩ := keyEq_now hk hq h1 m1
      refine ⟨fun e => (by cases e), fun j v b e' => ?_⟩
      injection e' with e'
      obtain ⟨e1, e2⟩ := Prod.mk.inj e'
      subst e1
      rw [e2] at m2 m3
      exact ⟨0, f.val, f, rfl, rfl, (q2 rfl).symm, rfl, m3, m2, by simp [Instr.findNow, q1]⟩
    · rename_i hq
      obtain ⟨q1, q2⟩ := keyEq_now hk hq h1 m1
      obtain ⟨k1, k3⟩ := findK_ok hk h1 hr h
      refine ⟨fun e => by simp [Instr.findNow, q1, k1 e], fun j v b e => ?_⟩
      obtain ⟨p, V, f', p1, p2, p3, p4, p5, p6, p7⟩ := k3 j v b e
      exact ⟨p + 1, V, f', by omega, by simpa using p2, p3, p4, p5, p6, by simp [Instr.findNow, q1, p7]⟩
    · cases h
theorem checkKey_run {kt : TypeId} {d : TypeDesc} {s : Sg} {k : AV} {kv : Value} (hd : P.underlying kt = some d) (hk : keyType d k = true) (h1 : k.conc s = some kv) (em : Bool) (w : World) : (Instr.checkKey em 10000 kt kv).run P w = .ok () w := by
  have e : Instr.checkKey em 10000 kt kv = Instr.checkKey em (9999 + 1) kt kv := rfl
  rw [e]
  unfold Instr.checkKey
  simp only [Sem.run_bind, underlying_run hd, Result.andThen_ok]
  unfold keyType at hk
  split at hk <;> first | (cases hk; done) | skip
  all_goals simp only [AV.conc, Option.some.injEq] at h1; subst h1; rfl
theorem findKey_run {kt : TypeId} {d : TypeDesc} {kv : Value} {fs : List MapEntry} {r : Option (Nat × Value)} (hd : P.underlying kt = some d) (h : Instr.findNow d kv fs 0 = some r) (w : World) : (Instr.findKey kt kv fs).run P w = .ok r w := by
  simp [Instr.findKey, underlying_run hd, h]
theorem sameBits_key {d : TypeDesc} {k : AV} {s : Sg} {kv : Value} (hk : keyType d k = true) (h1 : k.conc s = some kv) : Instr.sameBits 10000 kv kv = true := by
  unfold keyType at hk
  split at hk <;> first | (cases hk; done) | skip
  all_goals simp only [AV.conc, Option.some.injEq] at h1; subst h1; simp [Instr.sameBits, bytes_eq]
/-- The map that an operand stands for. -/
theorem map_at {s : Sg} {N : Nat} {a : Act} {env : Env} {H : Heap} {w : World} (he : EnvR s env N a.tmps) (hr : Rel P s H w) {x : Operand} {y : Nat} (hx : opd env x = some (.m y)) {es : List (AV × AV × Nat)} {cl : Nat} (hH : Q8.get H y = some (.map es cl)) :
    ∃ b fs, s.blk y = some b ∧ a.eval x = .map (some b) ∧ w.heap[b]? = some (.map fs cl) ∧ All2 (MapR s) es fs.toList := by
  have ex := opd_conc he hr.glob hx
  simp only [AV.conc, Option.map_eq_some_iff] at ex
  obtain ⟨b, hb, ex⟩ := ex
  obtain ⟨b', ob, h1, h2, h3⟩ := hr.blk y _ (hr.lim y b hb) hH
  rw [hb] at h1; injection h1 with h1; subst h1
  cases ob with
  | map fs cl' =>
    obtain ⟨rfl, h3⟩ := h3
    exact ⟨b, fs, hb, ex.symm, h2, h3⟩
  | _ => exact h3.elim
theorem evLookup_ok {o : Oper} {t : TypeId} {x y : Operand} {ok : Bool} (hop : o.op = .lookup t x y ok) {env : Env} {n n' : Nat} {H H' : Heap} {v : AV} (h : evLookup P t x y ok env n H = .val v n' H') : n' = n ∧ H' = H ∧ ReadOk P o env H v := by
  unfold evLookup at h
  split at h
  · rename_i g kv kt e hx hy hu
    split at h
    · rename_i es cl d z hH hd hz
      obtain ⟨iz, zv, hi, hzv, hzo⟩ := zeroB_info hz
      split at h
      · rename_i j u b hk hf
        have fin : n' = n ∧ H' = H ∧ v = (if ok then .tup [u, .b true] else u) := by
          cases ok <;> injection h with h1 h2 h3 <;> exact ⟨h2.symm, h3.symm, h1.symm⟩
        obtain ⟨rfl, rfl, rfl⟩ := fin
        refine ⟨rfl, rfl, fun s N a w m he hr => ?_⟩
        obtain ⟨B, fs, hB, e1, e2, e3⟩ := map_at he hr hx hH
        have ky := opd_conc he hr.glob hy
        obtain ⟨_, k3⟩ := findK_ok hk ky e3 hf
        obtain ⟨p, V, f', p1, p2, p3, p4, p5, p6, p7⟩ := k3 j u b rfl
        have hl : (Instr.lookup t (a.eval x) (a.eval y) ok).run P w = .ok (if ok then .tuple #[V, .bool true] else V) w := by
          have hg := getObj_map (P := P) e2
          simp [Instr.lookup, underlying_run hu, e1, hg, checkKey_run hd hk ky, findKey_run hd p7]
        refine ⟨if ok then .tuple #[V, .bool true] else V, w, by simp [execOp, hop, hl], ?_, hr, Step.refl ..⟩
        cases ok <;> simp [AV.conc, concL, p6]
      · rename_i hk hf
        have fin : n' = n ∧ H' = H ∧ v = (if ok then .tup [z, .b false] else z) := by
          cases ok <;> injection h with h1 h2 h3 <;> exact ⟨h2.symm, h3.symm, h1.symm⟩
        obtain ⟨rfl, rfl, rfl⟩ := fin
        refine ⟨rfl, rfl, fun s N a w m he hr => ?_⟩
        obtain ⟨B, fs, hB, e1, e2, e3⟩ := map_at he hr hx hH
        have ky := opd_conc he hr.glob hy
        obtain ⟨k1, _⟩ := findK_ok hk ky e3 hf
        have hl : (Instr.lookup t (a.eval x) (a.eval y) ok).run P w = .ok (if ok then .tuple #[zv, .bool false] else zv) w := by
          have hg := getObj_map (P := P) e2
          simp [Instr.lookup, underlying_run hu, e1, hg, checkKey_run hd hk ky, findKey_run hd (k1 rfl), zeroValue, typeInfo, hi, hzv]
        have hzc := ofValue_conc hzo s
        refine ⟨if ok then .tuple #[zv, .bool false] else zv, w, by simp [execOp, hop, hl], ?_, hr, Step.refl ..⟩
        cases ok <;> simp [AV.conc, concL, hzc]
      · cases h
    · cases h
  · rename_i kv kt e hx hy hu
    split at h
    · rename_i d z hd hz
      obtain ⟨iz, zv, hi, hzv, hzo⟩ := zeroB_info hz
      split at h
      · rename_i hk
        have fin : n' = n ∧ H' = H ∧ v = (if ok then .tup [z, .b false] else z) := by
          cases ok <;> injection h with h1 h2 h3 <;> exact ⟨h2.symm, h3.symm, h1.symm⟩
        obtain ⟨rfl, rfl, rfl⟩ := fin
        refine ⟨rfl, rfl, fun s N a w m he hr => ?_⟩
        have e1 : a.eval x = .map none := by
          have ex := opd_conc he hr.glob hx
          simp only [AV.conc, Option.some.injEq] at ex
          exact ex.symm
        have ky := opd_conc he hr.glob hy
        obtain ⟨k1, _⟩ := findK_ok (es := []) (fs := []) (i := 0) (r := none) hk ky trivial rfl
        have hl : (Instr.lookup t (a.eval x) (a.eval y) ok).run P w = .ok (if ok then .tuple #[zv, .bool false] else zv) w := by
          simp [Instr.lookup, underlying_run hu, e1, checkKey_run hd hk ky, findKey_run hd (k1 rfl), zeroValue, typeInfo, hi, hzv]
        have hzc := ofValue_conc hzo s
        refine ⟨if ok then .tuple #[zv, .bool false] else zv, w, by simp [execOp, hop, hl], ?_, hr, Step.refl ..⟩
        cases ok <;> simp [AV.conc, concL, hzc]
      · cases h
    · cases h
  · cases h
/-! Maps that are written -/
theorem modAt_ok {s : Sg} {g : AV × AV × Nat → AV × AV × Nat} {gm : MapEntry → MapEntry} : ∀ {es : List (AV × AV × Nat)} {fs : List MapEntry} {p : Nat}, All2 (MapR s) es fs →
    (∀ e f, es[p]? = some e → fs[p]? = some f → MapR s (g e) (gm f)) → All2 (MapR s) (modAt es g p) (fs.modify p gm)
  | [], [], p, _, _ => by cases p <;> trivial
  | e :: es, f :: fs, 0, h, hg => by
    show All2 (MapR s) (g e :: es) ((f :: fs).modify 0 gm)
    rw [List.modify_zero_cons]
    exact ⟨hg e f rfl rfl, h.2⟩
  | e :: es, f :: fs, p + 1, h, hg => by
    show All2 (MapR s) (e :: modAt es g p) ((f :: fs).modify (p + 1) gm)
    rw [List.modify_succ_cons]
    exact ⟨h.1, modAt_ok h.2 fun e' f' h1 h2 => hg e' f' (by simpa using h1) (by simpa using h2)⟩
theorem All2.at {α β : Type} {R : α → β → Prop} : ∀ {l : List α} {m : List β} {p : Nat} {a : α} {b : β}, All2 R l m → l[p]? = some a → m[p]? = some b → R a b
  | [], [], p, a, b, _, h, _ => by simp at h
  | _ :: _, _ :: _, 0, a, b, h, h1, h2 => by simp at h1 h2; subst h1 h2; exact h.1
  | _ :: _, _ :: _, p + 1, a, b, h, h1, h2 => h.2.at (by simpa using h1) (by simpa using h2)
theorem All2.push {α β : Type} {R : α → β → Prop} : ∀ {l : List α} {m : List β} {a : α} {b : β}, All2 R l m → R a b → All2 R (l ++ [a]) (m ++ [b])
  | [], [], _, _, _, h => ⟨h, trivial⟩
  | _ :: _, _ :: _, _, _, h, k => ⟨h.1, h.2.push k⟩
theorem All2.erase {α β : Type} {R : α → β → Prop} : ∀ {l : List α} {m : List β} (p : Nat), All2 R l m → All2 R (l.eraseIdx p) (m.eraseIdx p)
  | [], [], p, _ => by simp; trivial
  | _ :: _, _ :: _, 0, h => h.2
  | _ :: _, _ :: _, p + 1, h => ⟨h.1, h.2.erase p⟩
theorem eraseAt_eq : ∀ (es : List (AV × AV × Nat)) (p : Nat), eraseAt es p = es.eraseIdx p
  | [], p => by simp [eraseAt]
  | e :: es, 0 => rfl
  | e :: es, p + 1 => by show e :: eraseAt es p = _; rw [eraseAt_eq es p]; rfl
/-- A map's block is written. -/
theorem map_write {s : Sg} {H : Heap} {w : World} (hr : Rel P s H w) {y b : Nat} (hb : s.blk y = some b) {A : Blk} (hH : Q8.get H y = some A) {fs gs : Array MapEntry} {cl cl' cl2 : Nat} {es : List (AV × AV × Nat)} (hw : w.heap[b]? = some (.map fs cl)) (hes : All2 (MapR s) es gs.toList) (hc : cl' = cl2) (n : Nat) :
    ∃ w', (setObj b (.map gs cl')).run P w = .ok () w' ∧ Rel P s (Q8.upd H y (some (.map es cl2))) w' ∧ Step s n H w s n (Q8.upd H y (some (.map es cl2))) w' := by
  subst hc
  refine ⟨_, setObj_map (P := P) _ hw, ?_⟩
  obtain ⟨h1, h2⟩ := heap_set' (w := w) (o' := .map gs cl') hw
  exact hr.write n (hr.lim y b hb) hH hb (by simp) h1 ⟨rfl, hes⟩ h2 rfl rfl rfl
theorem concU (s : Sg) : undefA.conc s = some undef := rfl
theorem evMapUpdate_ok {o : Oper} {t : TypeId} {x y u : Operand} (hop : o.op = .mapUpdate t x y u) {env : Env} {n n' : Nat} {H H' : Heap} {v : AV} (h : evMapUpdate P t x y u env n H = .val v n' H') : OpOk P o env n H v n' H' := by
  unfold evMapUpdate at h
  split at h
  · rename_i g kv uv kt e hx hy hu' hu
    split at h
    · rename_i es cl d hH hd
      split at h
      · rename_i j ob hk hf
        obtain ⟨ov, b⟩ := ob
        rw [frcL_eq, Q8.set_k] at h
        injection h with h1 h2 h3
        subst h1 h2 h3
        refine ⟨Nat.le_refl _, fun s N a w he hr _ _ => ?_⟩
        obtain ⟨B, fs, hB, e1, e2, e3⟩ := map_at he hr hx hH
        have ky := opd_conc he hr.glob hy
        have kx := opd_conc he hr.glob hu'
        obtain ⟨_, k3⟩ := findK_ok hk ky e3 hf
        obtain ⟨p, V, f', p1, p2, p3, p4, p5, p6, p7⟩ := k3 j ov b rfl
        rw [Nat.zero_add] at p1; subst p1
        have p2' : fs[j]? = some f' := by simpa using p2
        obtain ⟨w', r1, r2, r3⟩ := map_write (es := modAt es (fun e => (kv, uv, e.2.2)) j) (gs := fs.modify j fun e => { e with key := a.eval y, val := a.eval u }) hr hB hH e2 (by
          rw [Array.toList_modify]
          exact modAt_ok e3 fun e f h1 h2 => ⟨ky, kx, (All2.at e3 h1 h2).2.2⟩) rfl n
        refine ⟨undef, s, w', .inr ⟨?_, rfl⟩, concU s, r2, r3⟩
        have hg := getObj_map (P := P) e2
        simp [execOp, hop, Instr.mapUpdate, underlying_run hu, e1, hg, checkKey_run hd hk ky, findKey_run hd p7, Instr.keyThatStays, p2', p3, sameBits_key hk ky, r1]
      · rename_i hk hf
        rw [frcL_eq, frc_eq, Q8.set_k] at h
        injection h with h1 h2 h3
        subst h1 h2 h3
        refine ⟨Nat.le_refl _, fun s N a w he hr _ _ => ?_⟩
        obtain ⟨B, fs, hB, e1, e2, e3⟩ := map_at he hr hx hH
        have ky := opd_conc he hr.glob hy
        have kx := opd_conc he hr.glob hu'
        obtain ⟨k1, _⟩ := findK_ok hk ky e3 hf
        obtain ⟨w', r1, r2, r3⟩ := map_write (cl' := cl + 1) (cl2 := Nat.succ cl) (es := es ++ [(kv, uv, cl)]) (gs := fs.push { key := a.eval y, val := a.eval u, born := cl }) hr hB hH e2 (by
          rw [Array.toList_push]
          exact e3.push ⟨ky, kx, rfl⟩) rfl n
        refine ⟨undef, s, w', .inr ⟨?_, rfl⟩, concU s, r2, r3⟩
        have hg := getObj_map (P := P) e2
        simp [execOp, hop, Instr.mapUpdate, underlying_run hu, e1, hg, checkKey_run hd hk ky, findKey_run hd (k1 rfl), r1]
      · cases h
    · cases h
  · cases h
theorem evMapEntry_ok {o : Oper} {t : TypeId} {x y : Operand} (hop : o.op = .mapEntry t x y) {env : Env} {n n' : Nat} {H H' : Heap} {v : AV} (h : evMapEntry P t x y env n H = .val v n' H') : OpOk P o env n H v n' H' := by
  unfold evMapEntry at h
  split at h
  · rename_i g kv kt e hx hy hu
    split at h
    · rename_i es cl d z hH hd hz
      split at h
      · rename_i j ov b hk hf
        rw [frcL_eq, Q8.set_k] at h
        injection h with h1 h2 h3
        subst h1 h2 h3
        refine ⟨Nat.le_refl _, fun s N a w he hr _ _ => ?_⟩
        obtain ⟨B, fs, hB, e1, e2, e3⟩ := map_at he hr hx hH
        have ky := opd_conc he hr.glob hy
        obtain ⟨_, k3⟩ := findK_ok hk ky e3 hf
        obtain ⟨p, V, f', p1, p2, p3, p4, p5, p6, p7⟩ := k3 j ov b rfl
        rw [Nat.zero_add] at p1; subst p1
        have p2' : fs[j]? = some f' := by simpa using p2
        obtain ⟨w', r1, r2, r3⟩ := map_write (es := modAt es (fun e => (kv, e.2)) j) (gs := fs.modify j fun e => { e with key := a.eval y }) hr hB hH e2 (by
          rw [Array.toList_modify]
          exact modAt_ok e3 fun e f h1 h2 => ⟨ky, (All2.at e3 h1 h2).2.1, (All2.at e3 h1 h2).2.2⟩) rfl n
        refine ⟨.tuple #[V, goInt f'.born], s, w', .inl ?_, ?_, r2, r3⟩
        · have hg := getObj_map (P := P) e2
          simp [execOp, hop, Instr.mapEntry, underlying_run hu, e1, hg, checkKey_run hd hk ky, findKey_run hd p7, Instr.keyThatStays, p2', p3, sameBits_key hk ky, r1]
        · simp [AV.conc, concL, p6, p5, goInt]
      · rename_i hk hf
        rw [frcL_eq, Q8.set_k] at h
        injection h with h1 h2 h3
        subst h1 h2 h3
        refine ⟨Nat.le_refl _, fun s N a w he hr _ _ => ?_⟩
        obtain ⟨iz, zv, hi, hzv, hzo⟩ := zeroB_info hz
        have hzc := ofValue_conc hzo s
        obtain ⟨B, fs, hB, e1, e2, e3⟩ := map_at he hr hx hH
        have ky := opd_conc he hr.glob hy
        obtain ⟨k1, _⟩ := findK_ok hk ky e3 hf
        obtain ⟨w', r1, r2, r3⟩ := map_write (cl' := cl + 1) (cl2 := Nat.succ cl) (es := es ++ [(kv, z, cl)]) (gs := fs.push { key := a.eval y, val := zv, born := cl }) hr hB hH e2 (by
          rw [Array.toList_push]
          exact e3.push ⟨ky, hzc, rfl⟩) rfl n
        refine ⟨.tuple #[zv, goInt cl], s, w', .inl ?_, ?_, r2, r3⟩
        · have hg := getObj_map (P := P) e2
          simp [execOp, hop, Instr.mapEntry, underlying_run hu, e1, hg, checkKey_run hd hk ky, findKey_run hd (k1 rfl), zeroValue, typeInfo, hi, hzv, r1]
        · simp [AV.conc, concL, hzc, goInt]
      · cases h
    · cases h
  · cases h
theorem findB_ok {s : Sg} {b : Nat} : ∀ {es : List (AV × AV × Nat)} {fs : List MapEntry} {i j : Nat}, All2 (MapR s) es fs → findB b es i = some j → ∃ p, j = i + p ∧ fs.findIdx? (fun e => (e.born : Int) == (b : Int)) = some p
  | [], [], i, j, _, h => by cases h
  | e :: es, f :: fs, i, j, hm, h => by
    have h : Bool.rec (motive := fun _ => Option Nat) (findB b es (Nat.succ i)) (some i) (Nat.beq e.2.2 b) = some j := h
    rw [bsel, natbeq] at h
    have hb : f.born = e.2.2 := hm.1.2.2
    split at h
    · rename_i hq
      have hq := of_decide_eq_true hq
      injection h with h; subst h
      exact ⟨0, rfl, by rw [List.findIdx?_cons]; simp [hb, hq]⟩
    · rename_i hq
      have hq : ¬ e.2.2 = b := fun e0 => hq (by simp [e0])
      obtain ⟨p, h1, h2⟩ := findB_ok hm.2 h
      refine ⟨p + 1, by omega, ?_⟩
      rw [List.findIdx?_cons, if_neg (by simp [hb]; omega), h2]; rfl
theorem evEntryStore_ok {o : Oper} {t : TypeId} {x y u : Operand} (hop : o.op = .entryStore t x y u) {env : Env} {n n' : Nat} {H H' : Heap} {v : AV} (h : evEntryStore x y u env n H = .val v n' H') : OpOk P o env n H v n' H' := by
  unfold evEntryStore at h
  split at h
  · rename_i g k b uv hx hy hu'
    split at h
    · rename_i es cl hH
      split at h
      · rename_i j hf
        rw [frcL_eq, Q8.set_k] at h
        injection h with h1 h2 h3
        subst h1 h2 h3
        refine ⟨Nat.le_refl _, fun s N a w he hr _ _ => ?_⟩
        obtain ⟨B, fs, hB, e1, e2, e3⟩ := map_at he hr hx hH
        have ky := opd_conc he hr.glob hy
        have kx := opd_conc he hr.glob hu'
        simp only [AV.conc, Option.some.injEq] at ky
        obtain ⟨p, p1, p2⟩ := findB_ok e3 hf
        rw [Nat.zero_add] at p1; subst p1
        obtain ⟨w', r1, r2, r3⟩ := map_write (es := modAt es (fun e => (e.1, uv, e.2.2)) j) (gs := fs.modify j fun e => { e with val := a.eval u }) hr hB hH e2 (by
          rw [Array.toList_modify]
          exact modAt_ok e3 fun e f h1 h2 => ⟨(All2.at e3 h1 h2).1, kx, (All2.at e3 h1 h2).2.2⟩) rfl n
        refine ⟨undef, s, w', .inr ⟨?_, rfl⟩, concU s, r2, r3⟩
        have hg := getObj_map (P := P) e2
        have p2' : fs.findIdx? (fun e => (e.born : Int) == (b : Int)) = some j := by cases fs with | mk l => simpa using p2
        have p2'' : fs.findIdx? (fun e => (e.born : Int) == Int.ofNat b) = some j := p2'
        simp only [execOp, hop, Instr.entryStore, Sem.run_bind, e1, hg, Result.andThen_ok, ← ky, asInt, asIntOf, Sem.run_pure, p2'', r1]
      · cases h
    · cases h
  · cases h
end
end Go.Sy
namespace Go.Sy
open Go
section
variable {P : Program}
theorem exec_builtin {o : Oper} {c : Call} {b : Builtin} (hop : o.op = .call c) (hc : c.callee = .builtin b) (ρ : Operand → Value) :
    execOp ρ o = builtin b c.argTypes o.type (c.args.map fun | .const _ => true | _ => false) (c.args.map ρ) := by
  obtain ⟨dst, op', ty, pos, af, gu⟩ := o
  simp only at hop
  subst hop
  simp only [execOp, resolve, hc]
  rfl
theorem arr0 {α : Type} {as : Array α} {x : α} {r : List α} (h : as.toList = x :: r) : as[0]? = some x := by
  rw [← Array.getElem?_toList, h]; rfl
theorem arr1 {α : Type} {as : Array α} {x y : α} {r : List α} (h : as.toList = x :: y :: r) : as[1]? = some y := by
  rw [← Array.getElem?_toList, h]; rfl
theorem evDelete_ok {o : Oper} {c : Call} (hop : o.op = .call c) (hc : c.callee = .builtin .delete) {env : Env} {n n' : Nat} {H H' : Heap} {v : AV} (h : evDelete P c.argTypes.toList c.args.toList env n H = .val v n' H') : OpOk P o env n H v n' H' := by
  unfold evDelete at h
  split at h
  · rename_i t ts x y r hts has
    split at h
    · rename_i kt e g kv hu hx hy
      split at h
      · rename_i es cl d hH hd
        split at h
        · rename_i j ob hk hf
          obtain ⟨ov, b⟩ := ob
          rw [frcL_eq, Q8.set_k] at h
          injection h with h1 h2 h3
          subst h1 h2 h3
          refine ⟨Nat.le_refl _, fun s N a w he hr _ _ => ?_⟩
          obtain ⟨B, fs, hB, e1, e2, e3⟩ := map_at he hr hx hH
          have ky := opd_conc he hr.glob hy
          obtain ⟨_, k3⟩ := findK_ok hk ky e3 hf
          obtain ⟨p, V, f', p1, p2, p3, p4, p5, p6, p7⟩ := k3 j ov b rfl
          rw [Nat.zero_add] at p1; subst p1
          obtain ⟨w', r1, r2, r3⟩ := map_write (es := eraseAt es j) (gs := fs.eraseIdxIfInBounds j) hr hB hH e2 (by
            rw [eraseAt_eq]
            have : (fs.eraseIdxIfInBounds j).toList = fs.toList.eraseIdx j := by
              unfold Array.eraseIdxIfInBounds
              split
              · simp
              · rw [List.eraseIdx_of_length_le (by simpa using Nat.not_lt.1 ‹_›)]
            rw [this]
            exact e3.erase j) rfl n
          refine ⟨undef, s, w', .inl ?_, concU s, r2, r3⟩
          have hg := getObj_map (P := P) e2
          rw [exec_builtin hop hc]
          simp [builtin, Builtin.delete_, arr0 hts, arr0 has, arr1 has, underlying_run hu, e1, hg, checkKey_run hd hk ky, findKey_run hd p7, r1, undef]
        · rename_i hk hf
          injection h with h1 h2 h3
          subst h1 h2 h3
          refine ⟨Nat.le_refl _, fun s N a w he hr _ _ => ?_⟩
          obtain ⟨B, fs, hB, e1, e2, e3⟩ := map_at he hr hx hH
          have ky := opd_conc he hr.glob hy
          obtain ⟨k1, _⟩ := findK_ok hk ky e3 hf
          have hset := setObj_map (P := P) (.map fs cl) e2
          have heq : w.heap.setIfInBounds B (.map fs cl) = w.heap := by
            apply Array.ext_getElem?
            intro i
            by_cases hi : i = B
            · subst hi; rw [(heap_set' e2).1, e2]
            · rw [(heap_set' e2).2 i hi]
          rw [heq] at hset
          refine ⟨undef, s, w, .inl ?_, concU s, hr, Step.refl ..⟩
          have hg := getObj_map (P := P) e2
          rw [exec_builtin hop hc]
          simp [builtin, Builtin.delete_, arr0 hts, arr0 has, arr1 has, underlying_run hu, e1, hg, checkKey_run hd hk ky, findKey_run hd (k1 rfl), hset, undef]
        · cases h
      · cases h
    · cases h
  · cases h
theorem All2.length {α β : Type} {R : α → β → Prop} : ∀ {l : List α} {m : List β}, All2 R l m → l.length = m.length
  | [], [], _ => rfl
  | _ :: _, _ :: _, h => by simp only [List.length_cons, h.2.length]
theorem evLen_ok {o : Oper} {c : Call} (hop : o.op = .call c) (hc : c.callee = .builtin .len) {env : Env} {n n' : Nat} {H H' : Heap} {v : AV} (h : evLen P o c.argTypes.toList c.args.toList env n H = .val v n' H') :
    n' = n ∧ H' = H ∧ ReadOk P o env H v ∧ ((∀ t r, c.argTypes.toList = t :: r → ∀ k e, P.underlying t ≠ some (.map k e)) → PureOk P o env v) := by
  unfold evLen at h
  split at h
  · rename_i t ts x r hts has
    have pure' : ∀ {m : Nat}, (∀ (s : Sg) (N : Nat) (a : Act), EnvR s env N a.tmps → s.glob → ∀ w, (Builtin.len_ c.argTypes o.type (c.args.map a.eval)).run P w = .ok (goInt m) w) → PureOk P o env (.i .i64 (.ofNat m)) := fun hl s N a he hg =>
      ⟨goInt _, rfl, fun w => by rw [exec_builtin hop hc]; simp [builtin, hl s N a he hg w]⟩
    have fin : ∀ {m : Nat}, OR.val (.i .i64 (.ofNat m)) n H = .val v n' H' → PureOk P o env (.i .i64 (.ofNat m)) → n' = n ∧ H' = H ∧ ReadOk P o env H v ∧ ((∀ t r, c.argTypes.toList = t :: r → ∀ k e, P.underlying t ≠ some (.map k e)) → PureOk P o env v) := fun e hp => by
      injection e with h1 h2 h3
      subst h1 h2 h3
      exact ⟨rfl, rfl, hp.read, fun _ => hp⟩
    have finO : ∀ {lv : Value} {lx : Int} {lts : List (Nat × Int × Bool)}, OR.val (.oi .i64 lx lts) n H = .val v n' H' → opd env x = some (.ol lv lx lts) →
        (∀ (s : Sg) (N : Nat) (a : Act), EnvR s env N a.tmps → s.glob → lenV lv = some lx → ∀ w, a.eval x = lv → (Builtin.len_ c.argTypes o.type (c.args.map a.eval)).run P w = .ok (.int .i64 lx) w) →
        n' = n ∧ H' = H ∧ ReadOk P o env H v ∧ ((∀ t r, c.argTypes.toList = t :: r → ∀ k e, P.underlying t ≠ some (.map k e)) → PureOk P o env v) := fun e hx hl => by
      injection e with h1 h2 h3
      subst h1 h2 h3
      have hp : PureOk P o env (.oi .i64 _ _) := fun s N a he hg => by
        have ex := opd_conc he hg hx
        simp only [AV.conc] at ex
        split at ex
        · rename_i hts
          rw [Bool.and_eq_true, Bool.and_eq_true, decide_eq_true_eq] at hts
          injection ex with ex
          exact ⟨_, by simp only [AV.conc]; rw [if_pos hts.2], fun w => by rw [exec_builtin hop hc]; simp [builtin, hl s N a he hg hts.1.2 w ex.symm]⟩
        · cases ex
      exact ⟨rfl, rfl, hp.read, fun _ => hp⟩
    split at h
    · rename_i e y q m cp hu hx
      refine fin h (pure' fun s N a he hg w => ?_)
      obtain ⟨B, _, _, ex⟩ := sl_conc.1 (opd_conc he hg hx)
      simp [Builtin.len_, arr0 hts, arr0 has, underlying_run hu, ex]
    · rename_i e hu hx
      refine fin h (pure' fun s N a he hg w => ?_)
      have ex := opd_conc he hg hx
      simp only [AV.conc, Option.some.injEq] at ex
      simp [Builtin.len_, arr0 hts, arr0 has, underlying_run hu, ← ex]
    · rename_i e y q m cp hu hx
      refine fin h (pure' fun s N a he hg w => ?_)
      obtain ⟨B, _, _, ex⟩ := se_conc.1 (opd_conc he hg hx)
      simp [Builtin.len_, arr0 hts, arr0 has, underlying_run hu, ex]
    · rename_i m e u hu hx
      refine fin h (pure' fun s N a he hg w => ?_)
      simp [Builtin.len_, arr0 hts, arr0 has, underlying_run hu]
    · rename_i p u hu hx
      split at h
      · rename_i m e hu2
        refine fin h (pure' fun s N a he hg w => ?_)
        simp [Builtin.len_, arr0 hts, arr0 has, underlying_run hu, underlying_run hu2]
      · cases h
    · rename_i kt e y hu hx
      split at h
      · rename_i es cl hH
        rw [frc_eq] at h
        injection h with h1 h2 h3
        subst h1 h2 h3
        refine ⟨rfl, rfl, fun s N a w m he hr => ?_, fun hn => absurd hu (hn t ts hts kt e)⟩
        obtain ⟨B, fs, hB, e1, e2, e3⟩ := map_at he hr hx hH
        have hl : fs.size = len es := by
          rw [len_eq, ← Array.length_toList]
          exact e3.length.symm
        refine ⟨goInt (len es), w, ?_, rfl, hr, Step.refl ..⟩
        have hg := getObj_map (P := P) e2
        rw [exec_builtin hop hc]
        simp [builtin, Builtin.len_, arr0 hts, arr0 has, underlying_run hu, e1, hg, hl]
      · cases h
    · rename_i l hu hx
      rw [frc_eq] at h
      refine fin h (pure' fun s N a he hg w => ?_)
      have ex := opd_conc he hg hx
      simp only [AV.conc, Option.some.injEq] at ex
      simp [Builtin.len_, arr0 hts, arr0 has, underlying_run hu, ← ex, len_eq]
      rfl
    · rename_i e _ _ _ lx lts hu hx
      exact finO h hx fun s N a he hg hl w hV => by
        simp [lenV] at hl
        simp [Builtin.len_, arr0 hts, arr0 has, underlying_run hu, hV, hl, goInt]
    · rename_i _ lx lts hu hx
      exact finO h hx fun s N a he hg hl w hV => by
        simp [lenV] at hl
        simp [Builtin.len_, arr0 hts, arr0 has, underlying_run hu, hV, hl, goInt]
    · obtain ⟨h1, h2, h3⟩ := evGround_ok (fun cs b => by rw [hop]; simp) h
      exact ⟨h1, h2, h3.read, fun _ => h3⟩
    · cases h
  · cases h
/-- What append and copy read. -/
theorem srcCells_ok {s : Sg} {H : Heap} {w : World} (hr : Rel P s H w) {sz k : Nat} {x : AV} {V : Value} (hx : x.conc s = some V) {l : List AV} (h : srcCells H sz k x = some l) (hk : lenA x = some k ∨ ∃ m, lenA x = some m ∧ k ≤ m) :
    ∃ vs, concL s l = some vs ∧ vs.all Value.oneCell' = true ∧ (vs.length = k * sz ∨ ∃ b, x = .s b) ∧ (∀ b, x = .s b → vs.length = k) ∧ (Builtin.firstCells sz k V).run P w = .ok ⟨vs⟩ w ∧ ∀ w', w'.heap = w.heap → (Builtin.firstCells sz k V).run P w' = .ok ⟨vs⟩ w' := by
  unfold srcCells at h
  split at h
  · injection h with h; subst h
    simp only [AV.conc, Option.some.injEq] at hx
    subst hx
    have hk0 : k = 0 := by rcases hk with hk | ⟨m, hm, hk⟩; · injection hk with hk; exact hk.symm
                           · injection hm with hm; omega
    subst hk0
    exact ⟨[], rfl, rfl, .inl (by simp), fun b e => (by cases e), by simp [Builtin.firstCells], fun w' _ => by simp [Builtin.firstCells]⟩
  · split at h
    · injection h with h; subst h
      obtain ⟨B, _, _, rfl⟩ := se_conc.1 hx
      exact ⟨[], rfl, rfl, .inl (by simp), fun b e => (by cases e), by simp [Builtin.firstCells, loadCells, loadCellsFrom], fun w' _ => by simp [Builtin.firstCells, loadCells, loadCellsFrom]⟩
    · cases h
  · rename_i y q m c
    split at h
    · rename_i t z mm cs ex mk hH
      obtain ⟨B, hB, _, rfl⟩ := sl_conc.1 hx
      obtain ⟨b', ob, h1, h2, h3⟩ := hr.blk y _ (hr.lim y B hB) hH
      rw [hB] at h1; injection h1 with h1; subst h1
      obtain ⟨vs, v1, v2, v3, v4⟩ := h3.cells h2 h
      have hh : ∀ w', w'.heap = w.heap → (Builtin.firstCells sz k (.slice (some ⟨B, q, none⟩) m (c.val s y))).run P w' = .ok ⟨vs⟩ w' := fun w' hw' =>
        run_firstCells_some w' sz k ⟨B, q, none⟩ m _ vs v2 (fun j v hv => by
          have := v4 j v hv
          unfold World.cell? at this ⊢
          rw [hw']; exact this)
      exact ⟨vs, v1, v3, .inl v2, fun b e => (by cases e), hh w rfl, hh⟩
    · cases h
  · rename_i bs
    injection h with h; subst h
    simp only [AV.conc, Option.some.injEq] at hx
    subst hx
    have hlen : k ≤ bs.length := by
      rcases hk with hk | ⟨m, hm, hk⟩
      · have hk : some (len bs) = some k := hk
        rw [len_eq] at hk; injection hk with hk; omega
      · have hm : some (len bs) = some m := hm
        rw [len_eq] at hm; injection hm with hm; omega
    have key : ∀ (l : List UInt8), concL s (l.map fun b => AV.i .u8 (.ofNat b.toNat)) = some (l.map fun b => Value.int .u8 b.toNat) := fun l => by
      induction l with
      | nil => rfl
      | cons a r ih => exact concL_cons.2 ⟨_, _, rfl, ih, rfl⟩
    have run : ∀ w', (Builtin.firstCells sz k (.string ⟨⟨bs⟩⟩)).run P w' = .ok ⟨(bs.take k).map fun b => Value.int .u8 b.toNat⟩ w' := fun w' => by
      simp only [Builtin.firstCells, Sem.run_pure]
      congr 1
      have : ((⟨⟨bs⟩⟩ : ByteArray).extract 0 k).data = ⟨bs.take k⟩ := by
        rw [ByteArray.data_extract]
        apply Array.ext'
        simp [List.extract]
      rw [this]
      apply Array.ext'
      simp
    exact ⟨_, key _, List.all_eq_true.2 (fun x hx => by obtain ⟨_, _, rfl⟩ := List.mem_map.1 hx; rfl), .inr ⟨bs, rfl⟩, fun _ _ => by simp [hlen], run w, fun w' _ => run w'⟩
  · cases h
theorem lenA_run {s : Sg} {x : AV} {V : Value} (hx : x.conc s = some V) {k : Nat} (h : lenA x = some k) (w : World) : (Builtin.lenOf V).run P w = .ok k w := by
  unfold lenA at h
  split at h
  · injection h with h; subst h
    simp only [AV.conc, Option.some.injEq] at hx; subst hx; simp [Builtin.lenOf]
  · injection h with h; subst h
    obtain ⟨B, _, _, rfl⟩ := se_conc.1 hx; simp [Builtin.lenOf]
  · injection h with h; subst h
    obtain ⟨B, _, _, rfl⟩ := sl_conc.1 hx; simp [Builtin.lenOf]
  · injection h with h; subst h
    simp only [AV.conc, Option.some.injEq] at hx; subst hx; simp [Builtin.lenOf, len_eq]; rfl
  · cases h
theorem evCopy_ok {o : Oper} {c : Call} (hop : o.op = .call c) (hc : c.callee = .builtin .copy) {env : Env} {n n' : Nat} {H H' : Heap} {v : AV} (h : evCopy P c.argTypes.toList c.args.toList env n H = .val v n' H') : OpOk P o env n H v n' H' := by
  unfold evCopy at h
  split at h
  · rename_i t ts x y hts has
    split at h
    · rename_i e d u hu hx hy
      split at h
      · rename_i sz dl xl hsz hdl hxl
        rw [frc_eq] at h
        split at h
        · rename_i l hl
          have base : ∀ {s : Sg} {N : Nat} {a : Act} {w : World}, EnvR s env N a.tmps → Rel P s H w → ∃ vs, concL s l = some vs ∧ vs.all Value.oneCell' = true ∧
              (Builtin.copy_ c.argTypes o.type (c.args.map a.eval)).run P w = ((match a.eval x with | .slice (some b) _ _ => storeCells b vs | _ => pure ()) >>= fun _ => (pure (goInt (Nat.min xl dl)) : Sem Value)).run P w := fun {s N a w} he hr => by
            obtain ⟨vs, v1, v2, _, _, v5, _⟩ := srcCells_ok hr (opd_conc he hr.glob hy) hl (.inr ⟨xl, hxl, Nat.min_le_left _ _⟩)
            refine ⟨vs, v1, v2, ?_⟩
            have e1 := lenA_run (P := P) (opd_conc he hr.glob hy) hxl w
            have hd : ∃ bs cap, a.eval x = .slice bs dl cap := by
              have ed := opd_conc he hr.glob hx
              cases d with
              | sl0 => simp only [AV.conc, Option.some.injEq] at ed; injection hdl with hdl; subst hdl; exact ⟨none, 0, ed.symm⟩
              | se => injection hdl with hdl; subst hdl; obtain ⟨B, _, _, ed⟩ := se_conc.1 ed; exact ⟨_, _, ed⟩
              | sl => injection hdl with hdl; subst hdl; obtain ⟨B, _, _, ed⟩ := sl_conc.1 ed; exact ⟨_, _, ed⟩
              | _ => first | (cases h; done) | cases hdl
            obtain ⟨bs, cap, hd⟩ := hd
            have e2 : (Builtin.firstCells sz (Nat.min xl dl) (a.eval y)).run P w = .ok ⟨vs⟩ w := v5
            cases bs with
            | none => simp [Builtin.copy_, arr0 hts, arr0 has, arr1 has, underlying_run hu, hd, e1, sizeB_run hsz, e2]
            | some b => simp [Builtin.copy_, arr0 hts, arr0 has, arr1 has, underlying_run hu, hd, e1, sizeB_run hsz, e2]
          have done0 : (∀ {s : Sg} {N : Nat} {a : Act}, EnvR s env N a.tmps → s.glob → (∃ c, a.eval x = .slice none 0 c) ∨ (l = [] ∧ ∃ b c, a.eval x = .slice (some b) 0 c)) → OR.val (.i .i64 (.ofNat (Nat.min xl dl))) n H = .val v n' H' → OpOk P o env n H v n' H' := fun hd e => by
            injection e with h1 h2 h3
            subst h1 h2 h3
            refine ⟨Nat.le_refl _, fun s N a w he hr _ _ => ?_⟩
            obtain ⟨vs, v1, v2, v3⟩ := base he hr
            refine ⟨goInt (Nat.min xl dl), s, w, .inl ?_, rfl, hr, Step.refl ..⟩
            rw [exec_builtin hop hc]
            rcases hd he hr.glob with ⟨cp, hd⟩ | ⟨rfl, b, cp, hd⟩
            · simp [builtin, v3, hd]
            · have : vs = [] := by simpa [concL] using v1.symm
              subst this
              simp [builtin, v3, hd, storeCells]
          split at h
          · refine done0 (fun {s N a} he hg => .inl ⟨0, ?_⟩) h
            have ed := opd_conc he hg hx
            simp only [AV.conc, Option.some.injEq] at ed
            exact ed.symm
          · injection hdl with hdl
            subst hdl
            refine done0 (fun {s N a} he hg => .inr ⟨?_, ?_⟩) h
            · have hl' : srcCells H sz 0 u = some l := by rw [show Nat.min xl 0 = 0 from Nat.min_zero xl] at hl; exact hl
              unfold srcCells at hl'
              split at hl'
              · injection hl' with hl'; exact hl'.symm
              · injection hl' with hl'; exact hl'.symm
              · split at hl'
                · rw [show Nat.mul 0 sz = 0 from Nat.zero_mul sz] at hl'; injection hl' with hl'; exact hl'.symm
                · cases hl'
              · injection hl' with hl'; exact hl'.symm
              · cases hl'
            · obtain ⟨B, _, _, ed⟩ := se_conc.1 (opd_conc he hg hx)
              exact ⟨_, _, ed⟩
          · rename_i g q m cp
            split at h
            · rename_i e' z r cs ex mk hH
              split at h
              · rename_i hb
                rw [putCells_k, Q8.set_k] at h
                injection h with h1 h2 h3
                subst h1 h2 h3
                refine ⟨Nat.le_refl _, fun s N a w he hr _ _ => ?_⟩
                obtain ⟨vs, v1, v2, v3⟩ := base he hr
                obtain ⟨B, hB, _, ed⟩ := sl_conc.1 (opd_conc he hr.glob hx)
                have hb := Nat.ble_eq.mp hb
                rw [len_eq] at hb
                obtain ⟨w', r1, r2, r3⟩ := write_ok hr hH hB v1 v2 (q := q) hb n
                refine ⟨goInt (Nat.min xl dl), s, w', .inl ?_, rfl, r2, r3⟩
                rw [exec_builtin hop hc]
                simp [builtin, v3, ed, r1]
              · cases h
            · cases h
          · cases h
        · cases h
      · cases h
    · cases h
  · cases h
theorem evClear_ok {o : Oper} {c : Call} (hop : o.op = .call c) (hc : c.callee = .builtin .clear) {env : Env} {n n' : Nat} {H H' : Heap} {v : AV} (h : evClear P c.argTypes.toList c.args.toList env n H = .val v n' H') : OpOk P o env n H v n' H' := by
  unfold evClear at h
  split at h
  · rename_i t ts x r hts has
    split at h
    · rename_i e g q m cp hu hx
      split at h
      · rename_i sz z e' zz r' cs ex mk hsz hz hH
        split at h
        · rename_i hz1 hb
          rw [putCells_k, Q8.set_k] at h
          injection h with h1 h2 h3
          subst h1 h2 h3
          refine ⟨Nat.le_refl _, fun s N a w he hr _ _ => ?_⟩
          obtain ⟨i, zv, vs, hi, hzv, hzc, hvl, hs⟩ := zeroC_run hz
          obtain ⟨c1, c2⟩ := hs s
          have hzl : vs.length = sz := by rw [hvl]; rw [natbeq] at hz1; have := of_decide_eq_true hz1; rwa [len_eq] at this
          obtain ⟨us, u1, u2, u3⟩ := times_conc c1 c2 m
          obtain ⟨B, hB, _, ed⟩ := sl_conc.1 (opd_conc he hr.glob hx)
          have hb : q + m * sz ≤ r' := Nat.ble_eq.mp hb
          have hul : us.length = m * sz := by rw [u3]; simp [hzl]
          obtain ⟨w', r1, r2, r3⟩ := write_ok hr hH hB u1 u2 (q := q) (by rw [← concL_length u1]; omega) n
          refine ⟨undef, s, w', .inl ?_, concU s, r2, r3⟩
          have hzz : (Builtin.zeroCells zv.cells m).toList = us := by
            rw [hzc, u3]
            by_cases h0 : vs.length = 0
            · have : vs = [] := List.length_eq_zero_iff.1 h0
              subst this
              simp [Builtin.zeroCells, Array.range_zero']
            · have := range_mod vs m (by omega)
              unfold Builtin.zeroCells
              simp only [List.size_toArray]
              rw [this]
          rw [exec_builtin hop hc]
          cases m with
          | zero =>
            have hus : us = [] := List.length_eq_zero_iff.1 (by rw [hul, Nat.zero_mul])
            subst hus
            have hw' : w' = w := by simp [storeCells] at r1; exact r1.symm
            subst hw'
            simp [builtin, Builtin.clear_, arr0 hts, arr0 has, underlying_run hu, ed, undef]
          | succ m =>
            simp [builtin, Builtin.clear_, arr0 hts, arr0 has, underlying_run hu, ed, zeroValue, typeInfo, hi, hzv, hzz, r1, undef]
        · cases h
      · cases h
    · rename_i e hu hx
      injection h with h1 h2 h3
      subst h1 h2 h3
      refine ⟨Nat.le_refl _, fun s N a w he hr _ _ => ?_⟩
      have ed := opd_conc he hr.glob hx
      simp only [AV.conc, Option.some.injEq] at ed
      refine ⟨undef, s, w, .inl ?_, concU s, hr, Step.refl ..⟩
      rw [exec_builtin hop hc]
      simp [builtin, Builtin.clear_, arr0 hts, arr0 has, underlying_run hu, ← ed, undef]
    · rename_i e g q m cp hu hx
      injection h with h1 h2 h3
      subst h1 h2 h3
      refine ⟨Nat.le_refl _, fun s N a w he hr _ _ => ?_⟩
      obtain ⟨B, hB, _, ed⟩ := se_conc.1 (opd_conc he hr.glob hx)
      refine ⟨undef, s, w, .inl ?_, concU s, hr, Step.refl ..⟩
      rw [exec_builtin hop hc]
      simp [builtin, Builtin.clear_, arr0 hts, arr0 has, underlying_run hu, ed, undef]
    · cases h
  · cases h
end
end Go.Sy
