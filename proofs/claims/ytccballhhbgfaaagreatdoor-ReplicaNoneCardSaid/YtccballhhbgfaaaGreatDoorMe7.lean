/- SymM -/
import Derived.Test.YtccballhhbgfaaaGreatDoorMe6
import Derived.Deep.AppendSrc
namespace Go.Sy
open Go
section
variable {P : Program}
theorem exec_builtin {o : Oper} {c : Call} {b : Builtin} (hop : o.op = .call c) (hc : c.callee = .builtin b) (ρ : Operand → Value) :
    execOp ρ o = builtin b c.argTypes o.type (c.args.map fun | .const _ => true | _ => false) (c.args.map ρ) := by
  obtain ⟨dst, op', ty, pos, af, gu⟩ := o
  simp only at hop
  subst hop
  simp only [execOp, resolve, hc]
  rfl
theorem arr0 {α : Type} {as : Array α} {x : α} {r : List α} (h : as.toList = x :: r) : as[0]? = some x := by
  rw [← Array.getElem?_toList, h]; rfl
theorem arr1 {α : Type} {as : Array α} {x y : α} {r : List α} (h : as.toList = x :: y :: r) : as[1]? = some y := by
  rw [← Array.getElem?_toList, h]; rfl
theorem evDelete_ok {o : Oper} {c : Call} (hop : o.op = .call c) (hc : c.callee = .builtin .delete) {env : Env} {n n' : Nat} {H H' : Heap} {v : AV} (h : evDelete P c.argTypes.toList c.args.toList env n H = .val v n' H') : OpOk P o env n H v n' H' := by
  unfold evDelete at h
  split at h
  · rename_i t ts x y r hts has
    split at h
    · rename_i kt e g kv hu hx hy
      split at h
      · rename_i es cl d hH hd
        split at h
        · rename_i j ob hk hf
          obtain ⟨ov, b⟩ := ob
          rw [frcL_eq, Q8.set_k] at h
          injection h with h1 h2 h3
          subst h1 h2 h3
          refine ⟨Nat.le_refl _, fun s N a w he hr _ _ => ?_⟩
          obtain ⟨B, fs, hB, e1, e2, e3⟩ := map_at he hr hx hH
          have ky := opd_conc he hr.glob hy
          obtain ⟨_, k3⟩ := findK_ok hk ky e3 hf
          obtain ⟨p, V, f', p1, p2, p3, p4, p5, p6, p7⟩ := k3 j ov b rfl
          rw [Nat.zero_add] at p1; subst p1
          obtain ⟨w', r1, r2, r3⟩ := map_write (es := eraseAt es j) (gs := fs.eraseIdxIfInBounds j) hr hB hH e2 (by
            rw [eraseAt_eq]
            have : (fs.eraseIdxIfInBounds j).toList = fs.toList.eraseIdx j := by
              unfold Array.eraseIdxIfInBounds
              split
              · simp
              · rw [List.eraseIdx_of_length_le (by simpa using Nat.not_lt.1 ‹_›)]
            rw [this]
            exact e3.erase j) rfl n
          refine ⟨undef, s, w', .inl ?_, concU s, r2, r3⟩
          have hg := getObj_map (P := P) e2
          rw [exec_builtin hop hc]
          simp [builtin, Builtin.delete_, arr0 hts, arr0 has, arr1 has, underlying_run hu, e1, hg, checkKey_run hd hk ky, findKey_run hd p7, r1, undef]
        · rename_i hk hf
          injection h with h1 h2 h3
          subst h1 h2 h3
          refine ⟨Nat.le_refl _, fun s N a w he hr _ _ => ?_⟩
          obtain ⟨B, fs, hB, e1, e2, e3⟩ := map_at he hr hx hH
          have ky := opd_conc he hr.glob hy
          obtain ⟨k1, _⟩ := findK_ok hk ky e3 hf
          have hset := setObj_map (P := P) (.map fs cl) e2
          have heq : w.heap.setIfInBounds B (.map fs cl) = w.heap := by
            apply Array.ext_getElem?
            intro i
            by_cases hi : i = B
            · subst hi; rw [(heap_set' e2).1, e2]
            · rw [(heap_set' e2).2 i hi]
          rw [heq] at hset
          refine ⟨undef, s, w, .inl ?_, concU s, hr, Step.refl ..⟩
          have hg := getObj_map (P := P) e2
          rw [exec_builtin hop hc]
          simp [builtin, Builtin.delete_, arr0 hts, arr0 has, arr1 has, underlying_run hu, e1, hg, checkKey_run hd hk ky, findKey_run hd (k1 rfl), hset, undef]
        · cases h
      · cases h
    · cases h
  · cases h
theorem All2.length {α β : Type} {R : α → β → Prop} : ∀ {l : List α} {m : List β}, All2 R l m → l.length = m.length
  | [], [], _ => rfl
  | _ :: _, _ :: _, h => by simp only [List.length_cons, h.2.length]
theorem evLen_ok {o : Oper} {c : Call} (hop : o.op = .call c) (hc : c.callee = .builtin .len) {env : Env} {n n' : Nat} {H H' : Heap} {v : AV} (h : evLen P o c.argTypes.toList c.args.toList env n H = .val v n' H') :
    n' = n ∧ H' = H ∧ ReadOk P o env H v ∧ ((∀ t r, c.argTypes.toList = t :: r → ∀ k e, P.underlying t ≠ some (.map k e)) → PureOk P o env v) := by
  unfold evLen at h
  split at h
  · rename_i t ts x r hts has
    have pure' : ∀ {m : Nat}, (∀ (s : Sg) (N : Nat) (a : Act), EnvR s env N a.tmps → s.glob → ∀ w, (Builtin.len_ c.argTypes o.type (c.args.map a.eval)).run P w = .ok (goInt m) w) → PureOk P o env (.i .i64 (.ofNat m)) := fun hl s N a he hg =>
      ⟨goInt _, rfl, fun w => by rw [exec_builtin hop hc]; simp [builtin, hl s N a he hg w]⟩
    have fin : ∀ {m : Nat}, OR.val (.i .i64 (.ofNat m)) n H = .val v n' H' → PureOk P o env (.i .i64 (.ofNat m)) → n' = n ∧ H' = H ∧ ReadOk P o env H v ∧ ((∀ t r, c.argTypes.toList = t :: r → ∀ k e, P.underlying t ≠ some (.map k e)) → PureOk P o env v) := fun e hp => by
      injection e with h1 h2 h3
      subst h1 h2 h3
      exact ⟨rfl, rfl, hp.read, fun _ => hp⟩
    have finO : ∀ {lv : Value} {lx : Int} {lts : List (Nat × Int × Bool)}, OR.val (.oi .i64 lx lts) n H = .val v n' H' → opd env x = some (.ol lv lx lts) →
        (∀ (s : Sg) (N : Nat) (a : Act), EnvR s env N a.tmps → s.glob → lenV lv = some lx → ∀ w, a.eval x = lv → (Builtin.len_ c.argTypes o.type (c.args.map a.eval)).run P w = .ok (.int .i64 lx) w) →
        n' = n ∧ H' = H ∧ ReadOk P o env H v ∧ ((∀ t r, c.argTypes.toList = t :: r → ∀ k e, P.underlying t ≠ some (.map k e)) → PureOk P o env v) := fun e hx hl => by
      injection e with h1 h2 h3
      subst h1 h2 h3
      have hp : PureOk P o env (.oi .i64 _ _) := fun s N a he hg => by
        have ex := opd_conc he hg hx
        simp only [AV.conc] at ex
        split at ex
        · rename_i hts
          rw [Bool.and_eq_true, Bool.and_eq_true, decide_eq_true_eq] at hts
          injection ex with ex
          exact ⟨_, by simp only [AV.conc]; rw [if_pos hts.2], fun w => by rw [exec_builtin hop hc]; simp [builtin, hl s N a he hg hts.1.2 w ex.symm]⟩
        · cases ex
      exact ⟨rfl, rfl, hp.read, fun _ => hp⟩
    split at h
    · rename_i e y q m cp hu hx
      refine fin h (pure' fun s N a he hg w => ?_)
      obtain ⟨B, _, _, ex⟩ := sl_conc.1 (opd_conc he hg hx)
      simp [Builtin.len_, arr0 hts, arr0 has, underlying_run hu, ex]
    · rename_i e hu hx
      refine fin h (pure' fun s N a he hg w => ?_)
      have ex := opd_conc he hg hx
      simp only [AV.conc, Option.some.injEq] at ex
      simp [Builtin.len_, arr0 hts, arr0 has, underlying_run hu, ← ex]
    · rename_i e y q m cp hu hx
      refine fin h (pure' fun s N a he hg w => ?_)
      obtain ⟨B, _, _, ex⟩ := se_conc.1 (opd_conc he hg hx)
      simp [Builtin.len_, arr0 hts, arr0 has, underlying_run hu, ex]
    · rename_i m e u hu hx
      refine fin h (pure' fun s N a he hg w => ?_)
      simp [Builtin.len_, arr0 hts, arr0 has, underlying_run hu]
    · rename_i p u hu hx
      split at h
      · rename_i m e hu2
        refine fin h (pure' fun s N a he hg w => ?_)
        simp [Builtin.len_, arr0 hts, arr0 has, underlying_run hu, underlying_run hu2]
      · cases h
    · rename_i kt e y hu hx
      split at h
      · rename_i es cl hH
        rw [frc_eq] at h
        injection h with h1 h2 h3
        subst h1 h2 h3
        refine ⟨rfl, rfl, fun s N a w m he hr => ?_, fun hn => absurd hu (hn t ts hts kt e)⟩
        obtain ⟨B, fs, hB, e1, e2, e3⟩ := map_at he hr hx hH
        have hl : fs.size = len es := by
          rw [len_eq, ← Array.length_toList]
          exact e3.length.symm
        refine ⟨goInt (len es), w, ?_, rfl, hr, Step.refl ..⟩
        have hg := getObj_map (P := P) e2
        rw [exec_builtin hop hc]
        simp [builtin, Builtin.len_, arr0 hts, arr0 has, underlying_run hu, e1, hg, hl]
      · cases h
    · rename_i l hu hx
      rw [frc_eq] at h
      refine fin h (pure' fun s N a he hg w => ?_)
      have ex := opd_conc he hg hx
      simp only [AV.conc, Option.some.injEq] at ex
      simp [Builtin.len_, arr0 hts, arr0 has, underlying_run hu, ← ex, len_eq]
      rfl
    · rename_i e _ _ _ lx lts hu hx
      exact finO h hx fun s N a he hg hl w hV => by
        simp [lenV] at hl
        simp [Builtin.len_, arr0 hts, arr0 has, underlying_run hu, hV, hl, goInt]
    · rename_i _ lx lts hu hx
      exact finO h hx fun s N a he hg hl w hV => by
        simp [lenV] at hl
        simp [Builtin.len_, arr0 hts, arr0 has, underlying_run hu, hV, hl, goInt]
    · obtain ⟨h1, h2, h3⟩ := evGround_ok (fun cs b => by rw [hop]; simp) h
      exact ⟨h1, h2, h3.read, fun _ => h3⟩
    · cases h
  · cases h
/-- What append and copy read. -/
theorem srcCells_ok {s : Sg} {H : Heap} {w : World} (hr : Rel P s H w) {sz k : Nat} {x : AV} {V : Value} (hx : x.conc s = some V) {l : List AV} (h : srcCells H sz k x = some l) (hk : lenA x = some k ∨ ∃ m, lenA x = some m ∧ k ≤ m) :
    ∃ vs, concL s l = some vs ∧ vs.all Value.oneCell' = true ∧ (vs.length = k * sz ∨ ∃ b, x = .s b) ∧ (∀ b, x = .s b → vs.length = k) ∧ (Builtin.firstCells sz k V).run P w = .ok ⟨vs⟩ w ∧ ∀ w', w'.heap = w.heap → (Builtin.firstCells sz k V).run P w' = .ok ⟨vs⟩ w' := by
  unfold srcCells at h
  split at h
  · injection h with h; subst h
    simp only [AV.conc, Option.some.injEq] at hx
    subst hx
    have hk0 : k = 0 := by rcases hk with hk | ⟨m, hm, hk⟩; · injection hk with hk; exact hk.symm
                           · injection hm with hm; omega
    subst hk0
    exact ⟨[], rfl, rfl, .inl (by simp), fun b e => (by cases e), by simp [Builtin.firstCells], fun w' _ => by simp [Builtin.firstCells]⟩
  · split at h
    · injection h with h; subst h
      obtain ⟨B, _, _, rfl⟩ := se_conc.1 hx
      exact ⟨[], rfl, rfl, .inl (by simp), fun b e => (by cases e), by simp [Builtin.firstCells, loadCells, loadCellsFrom], fun w' _ => by simp [Builtin.firstCells, loadCells, loadCellsFrom]⟩
    · cases h
  · rename_i y q m c
    split at h
    · rename_i t z mm cs ex mk hH
      obtain ⟨B, hB, _, rfl⟩ := sl_conc.1 hx
      obtain ⟨b', ob, h1, h2, h3⟩ := hr.blk y _ (hr.lim y B hB) hH
      rw [hB] at h1; injection h1 with h1; subst h1
      obtain ⟨vs, v1, v2, v3, v4⟩ := h3.cells h2 h
      have hh : ∀ w', w'.heap = w.heap → (Builtin.firstCells sz k (.slice (some ⟨B, q, none⟩) m (c.val s y))).run P w' = .ok ⟨vs⟩ w' := fun w' hw' =>
        run_firstCells_some w' sz k ⟨B, q, none⟩ m _ vs v2 (fun j v hv => by
          have := v4 j v hv
          unfold World.cell? at this ⊢
          rw [hw']; exact this)
      exact ⟨vs, v1, v3, .inl v2, fun b e => (by cases e), hh w rfl, hh⟩
    · cases h
  · rename_i bs
    injection h with h; subst h
    simp only [AV.conc, Option.some.injEq] at hx
    subst hx
    have hlen : k ≤ bs.length := by
      rcases hk with hk | ⟨m, hm, hk⟩
      · have hk : some (len bs) = some k := hk
        rw [len_eq] at hk; injection hk with hk; omega
      · have hm : some (len bs) = some m := hm
        rw [len_eq] at hm; injection hm with hm; omega
    have key : ∀ (l : List UInt8), concL s (l.map fun b => AV.i .u8 (.ofNat b.toNat)) = some (l.map fun b => Value.int .u8 b.toNat) := fun l => by
      induction l with
      | nil => rfl
      | cons a r ih => exact concL_cons.2 ⟨_, _, rfl, ih, rfl⟩
    have run : ∀ w', (Builtin.firstCells sz k (.string ⟨⟨bs⟩⟩)).run P w' = .ok ⟨(bs.take k).map fun b => Value.int .u8 b.toNat⟩ w' := fun w' => by
      simp only [Builtin.firstCells, Sem.run_pure]
      congr 1
      have : ((⟨⟨bs⟩⟩ : ByteArray).extract 0 k).data = ⟨bs.take k⟩ := by
        rw [ByteArray.data_extract]
        apply Array.ext'
        simp [List.extract]
      rw [this]
      apply Array.ext'
      simp
    exact ⟨_, key _, List.all_eq_true.2 (fun x hx => by obtain ⟨_, _, rfl⟩ := List.mem_map.1 hx; rfl), .inr ⟨bs, rfl⟩, fun _ _ => by simp [hlen], run w, fun w' _ => run w'⟩
  · cases h
theorem lenA_run {s : Sg} {x : AV} {V : Value} (hx : x.conc s = some V) {k : Nat} (h : lenA x = some k) (w : World) : (Builtin.lenOf V).run P w = .ok k w := by
  unfold lenA at h
  split at h
  · injection h with h; subst h
    simp only [AV.conc, Option.some.injEq] at hx; subst hx; simp [Builtin.lenOf]
  · injection h with h; subst h
    obtain ⟨B, _, _, rfl⟩ := se_conc.1 hx; simp [Builtin.lenOf]
  · injection h with h; subst h
    obtain ⟨B, _, _, rfl⟩ := sl_conc.1 hx; simp [Builtin.lenOf]
  · injection h with h; subst h
    simp only [AV.conc, Option.some.injEq] at hx; subst hx; simp [Builtin.lenOf, len_eq]; rfl
  · cases h
theorem evCopy_ok {o : Oper} {c : Call} (hop : o.op = .call c) (hc : c.callee = .builtin .copy) {env : Env} {n n' : Nat} {H H' : Heap} {v : AV} (h : evCopy P c.argTypes.toList c.args.toList env n H = .val v n' H') : OpOk P o env n H v n' H' := by
  unfold evCopy at h
  split at h
  · rename_i t ts x y hts has
    split at h
    · rename_i e d u hu hx hy
      split at h
      · rename_i sz dl xl hsz hdl hxl
        rw [frc_eq] at h
        split at h
        · rename_i l hl
          have base : ∀ {s : Sg} {N : Nat} {a : Act} {w : World}, EnvR s env N a.tmps → Rel P s H w → ∃ vs, concL s l = some vs ∧ vs.all Value.oneCell' = true ∧
              (Builtin.copy_ c.argTypes o.type (c.args.map a.eval)).run P w = ((match a.eval x with | .slice (some b) _ _ => storeCells b vs | _ => pure ()) >>= fun _ => (pure (goInt (Nat.min xl dl)) : Sem Value)).run P w := fun {s N a w} he hr => by
            obtain ⟨vs, v1, v2, _, _, v5, _⟩ := srcCells_ok hr (opd_conc he hr.glob hy) hl (.inr ⟨xl, hxl, Nat.min_le_left _ _⟩)
            refine ⟨vs, v1, v2, ?_⟩
            have e1 := lenA_run (P := P) (opd_conc he hr.glob hy) hxl w
            have hd : ∃ bs cap, a.eval x = .slice bs dl cap := by
              have ed := opd_conc he hr.glob hx
              cases d with
              | sl0 => simp only [AV.conc, Option.some.injEq] at ed; injection hdl with hdl; subst hdl; exact ⟨none, 0, ed.symm⟩
              | se => injection hdl with hdl; subst hdl; obtain ⟨B, _, _, ed⟩ := se_conc.1 ed; exact ⟨_, _, ed⟩
              | sl => injection hdl with hdl; subst hdl; obtain ⟨B, _, _, ed⟩ := sl_conc.1 ed; exact ⟨_, _, ed⟩
              | _ => first | (cases h; done) | cases hdl
            obtain ⟨bs, cap, hd⟩ := hd
            have e2 : (Builtin.firstCells sz (Nat.min xl dl) (a.eval y)).run P w = .ok ⟨vs⟩ w := v5
            cases bs with
            | none => simp [Builtin.copy_, arr0 hts, arr0 has, arr1 has, underlying_run hu, hd, e1, sizeB_run hsz, e2]
            | some b => simp [Builtin.copy_, arr0 hts, arr0 has, arr1 has, underlying_run hu, hd, e1, sizeB_run hsz, e2]
          have done0 : (∀ {s : Sg} {N : Nat} {a : Act}, EnvR s env N a.tmps → s.glob → (∃ c, a.eval x = .slice none 0 c) ∨ (l = [] ∧ ∃ b c, a.eval x = .slice (some b) 0 c)) → OR.val (.i .i64 (.ofNat (Nat.min xl dl))) n H = .val v n' H' → OpOk P o env n H v n' H' := fun hd e => by
            injection e with h1 h2 h3
            subst h1 h2 h3
            refine ⟨Nat.le_refl _, fun s N a w he hr _ _ => ?_⟩
            obtain ⟨vs, v1, v2, v3⟩ := base he hr
            refine ⟨goInt (Nat.min xl dl), s, w, .inl ?_, rfl, hr, Step.refl ..⟩
            rw [exec_builtin hop hc]
            rcases hd he hr.glob with ⟨cp, hd⟩ | ⟨rfl, b, cp, hd⟩
            · simp [builtin, v3, hd]
            · have : vs = [] := by simpa [concL] using v1.symm
              subst this
              simp [builtin, v3, hd, storeCells]
          split at h
          · refine done0 (fun {s N a} he hg => .inl ⟨0, ?_⟩) h
            have ed := opd_conc he hg hx
            simp only [AV.conc, Option.some.injEq] at ed
            exact ed.symm
          · injection hdl with hdl
            subst hdl
            refine done0 (fun {s N a} he hg => .inr ⟨?_, ?_⟩) h
            · have hl' : srcCells H sz 0 u = some l := by rw [show Nat.min xl 0 = 0 from Nat.min_zero xl] at hl; exact hl
              unfold srcCells at hl'
              split at hl'
              · injection hl' with hl'; exact hl'.symm
              · injection hl' with hl'; exact hl'.symm
              · split at hl'
                · rw [show Nat.mul 0 sz = 0 from Nat.zero_mul sz] at hl'; injection hl' with hl'; exact hl'.symm
                · cases hl'
              · injection hl' with hl'; exact hl'.symm
              · cases hl'
            · obtain ⟨B, _, _, ed⟩ := se_conc.1 (opd_conc he hg hx)
              exact ⟨_, _, ed⟩
          · rename_i g q m cp
            split at h
            · rename_i e' z r cs ex mk hH
              split at h
              · rename_i hb
                rw [putCells_k, Q8.set_k] at h
                injection h with h1 h2 h3
                subst h1 h2 h3
                refine ⟨Nat.le_refl _, fun s N a w he hr _ _ => ?_⟩
                obtain ⟨vs, v1, v2, v3⟩ := base he hr
                obtain ⟨B, hB, _, ed⟩ := sl_conc.1 (opd_conc he hr.glob hx)
                have hb := Nat.ble_eq.mp hb
                rw [len_eq] at hb
                obtain ⟨w', r1, r2, r3⟩ := write_ok hr hH hB v1 v2 (q := q) hb n
                refine ⟨goInt (Nat.min xl dl), s, w', .inl ?_, rfl, r2, r3⟩
                rw [exec_builtin hop hc]
                simp [builtin, v3, ed, r1]
              · cases h
            · cases h
          · cases h
        · cases h
      · cases h
    · cases h
  · cases h
theorem evClear_ok {o : Oper} {c : Call} (hop : o.op = .call c) (hc : c.callee = .builtin .clear) {env : Env} {n n' : Nat} {H H' : Heap} {v : AV} (h : evClear P c.argTypes.toList c.args.toList env n H = .val v n' H') : OpOk P o env n H v n' H' := by
  unfold evClear at h
  split at h
  · rename_i t ts x r hts has
    split at h
    · rename_i e g q m cp hu hx
      split at h
      · rename_i sz z e' zz r' cs ex mk hsz hz hH
        split at h
        · rename_i hz1 hb
          rw [putCells_k, Q8.set_k] at h
          injection h with h1 h2 h3
          subst h1 h2 h3
          refine ⟨Nat.le_refl _, fun s N a w he hr _ _ => ?_⟩
          obtain ⟨i, zv, vs, hi, hzv, hzc, hvl, hs⟩ := zeroC_run hz
          obtain ⟨c1, c2⟩ := hs s
          have hzl : vs.length = sz := by rw [hvl]; rw [natbeq] at hz1; have := of_decide_eq_true hz1; rwa [len_eq] at this
          obtain ⟨us, u1, u2, u3⟩ := times_conc c1 c2 m
          obtain ⟨B, hB, _, ed⟩ := sl_conc.1 (opd_conc he hr.glob hx)
          have hb : q + m * sz ≤ r' := Nat.ble_eq.mp hb
          have hul : us.length = m * sz := by rw [u3]; simp [hzl]
          obtain ⟨w', r1, r2, r3⟩ := write_ok hr hH hB u1 u2 (q := q) (by rw [← concL_length u1]; omega) n
          refine ⟨undef, s, w', .inl ?_, concU s, r2, r3⟩
          have hzz : (Builtin.zeroCells zv.cells m).toList = us := by
            rw [hzc, u3]
            by_cases h0 : vs.length = 0
            · have : vs = [] := List.length_eq_zero_iff.1 h0
              subst this
              simp [Builtin.zeroCells, Array.range_zero']
            · have := range_mod vs m (by omega)
              unfold Builtin.zeroCells
              simp only [List.size_toArray]
              rw [this]
          rw [exec_builtin hop hc]
          cases m with
          | zero =>
            have hus : us = [] := List.length_eq_zero_iff.1 (by rw [hul, Nat.zero_mul])
            subst hus
            have hw' : w' = w := by simp [storeCells] at r1; exact r1.symm
            subst hw'
            simp [builtin, Builtin.clear_, arr0 hts, arr0 has, underlying_run hu, ed, undef]
          | succ m =>
            simp [builtin, Builtin.clear_, arr0 hts, arr0 has, underlying_run hu, ed, zeroValue, typeInfo, hi, hzv, hzz, r1, undef]
        · cases h
      · cases h
    · rename_i e hu hx
      injection h with h1 h2 h3
      subst h1 h2 h3
      refine ⟨Nat.le_refl _, fun s N a w he hr _ _ => ?_⟩
      have ed := opd_conc he hr.glob hx
      simp only [AV.conc, Option.some.injEq] at ed
      refine ⟨undef, s, w, .inl ?_, concU s, hr, Step.refl ..⟩
      rw [exec_builtin hop hc]
      simp [builtin, Builtin.clear_, arr0 hts, arr0 has, underlying_run hu, ← ed, undef]
    · rename_i e g q m cp hu hx
      injection h with h1 h2 h3
      subst h1 h2 h3
      refine ⟨Nat.le_refl _, fun s N a w he hr _ _ => ?_⟩
      obtain ⟨B, hB, _, ed⟩ := se_conc.1 (opd_conc he hr.glob hx)
      refine ⟨undef, s, w, .inl ?_, concU s, hr, Step.refl ..⟩
      rw [exec_builtin hop hc]
      simp [builtin, Builtin.clear_, arr0 hts, arr0 has, underlying_run hu, ed, undef]
    · cases h
  · cases h
end
end Go.Sy
