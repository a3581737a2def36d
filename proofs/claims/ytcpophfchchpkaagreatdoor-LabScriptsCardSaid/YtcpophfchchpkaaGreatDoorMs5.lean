/- SymM, SymN, SymO -/
import Derived.Test.YtcpophfchchpkaaGreatDoorMs4
import Derived.Deep.AppendSrc
import Derived.Laws.IdiomStrings
namespace Go.Sy
open Go
section
variable {P : Program}
theorem exec_builtin {o : Oper} {c : Call} {b : Builtin} (hop : o.op = .call c) (hc : c.callee = .builtin b) (ρ : Operand → Value) :
    execOp ρ o = builtin b c.argTypes o.type (c.args.map fun | .const _ => true | _ => false) (c.args.map ρ) := by
  obtain ⟨dst, op', ty, pos, af, gu⟩ := o
  simp only at hop
  subst hop
  simp only [execOp, resolve, hc]
  rfl
theorem arr0 {α : Type} {as : Array α} {x : α} {r : List α} (h : as.toList = x :: r) : as[0]? = some x := by
  rw [← Array.getElem?_toList, h]; rfl
theorem arr1 {α : Type} {as : Array α} {x y : α} {r : List α} (h : as.toList = x :: y :: r) : as[1]? = some y := by
  rw [← Array.getElem?_toList, h]; rfl
theorem evDelete_ok {o : Oper} {c : Call} (hop : o.op = .call c) (hc : c.callee = .builtin .delete) {env : Env} {n n' : Nat} {H H' : Heap} {v : AV} (h : evDelete P c.argTypes.toList c.args.toList env n H = .val v n' H') : OpOk P o env n H v n' H' := by
  unfold evDelete at h
  split at h
  · rename_i t ts x y r hts has
    split at h
    · rename_i kt e g kv hu hx hy
      split at h
      · rename_i es cl d hH hd
        split at h
        · rename_i j ob hk hf
          obtain ⟨ov, b⟩ := ob
          rw [frcL_eq, Q8.set_k] at h
          injection h with h1 h2 h3
          subst h1 h2 h3
          refine ⟨Nat.le_refl _, fun s N a w he hr _ _ => ?_⟩
          obtain ⟨B, fs, hB, e1, e2, e3⟩ := map_at he hr hx hH
          have ky := opd_conc he hr.glob hy
          obtain ⟨_, k3⟩ := findK_ok hk ky e3 hf
          obtain ⟨p, V, f', p1, p2, p3, p4, p5, p6, p7⟩ := k3 j ov b rfl
          rw [Nat.zero_add] at p1; subst p1
          obtain ⟨w', r1, r2, r3⟩ := map_write (es := eraseAt es j) (gs := fs.eraseIdxIfInBounds j) hr hB hH e2 (by
            rw [eraseAt_eq]
            have : (fs.eraseIdxIfInBounds j).toList = fs.toList.eraseIdx j := by
              unfold Array.eraseIdxIfInBounds
              split
              · simp
              · rw [List.eraseIdx_of_length_le (by simpa using Nat.not_lt.1 ‹_›)]
            rw [this]
            exact e3.erase j) rfl n
          refine ⟨undef, s, w', .inl ?_, concU s, r2, r3⟩
          have hg := getObj_map (P := P) e2
          rw [exec_builtin hop hc]
          simp [builtin, Builtin.delete_, arr0 hts, arr0 has, arr1 has, underlying_run hu, e1, hg, checkKey_run hd hk ky, findKey_run hd p7, r1, undef]
        · rename_i hk hf
          injection h with h1 h2 h3
          subst h1 h2 h3
          refine ⟨Nat.le_refl _, fun s N a w he hr _ _ => ?_⟩
          obtain ⟨B, fs, hB, e1, e2, e3⟩ := map_at he hr hx hH
          have ky := opd_conc he hr.glob hy
          obtain ⟨k1, _⟩ := findK_ok hk ky e3 hf
          have hset := setObj_map (P := P) (.map fs cl) e2
          have heq : w.heap.setIfInBounds B (.map fs cl) = w.heap := by
            apply Array.ext_getElem?
            intro i
            by_cases hi : i = B
            · subst hi; rw [(heap_set' e2).1, e2]
            · rw [(heap_set' e2).2 i hi]
          rw [heq] at hset
          refine ⟨undef, s, w, .inl ?_, concU s, hr, Step.refl ..⟩
          have hg := getObj_map (P := P) e2
          rw [exec_builtin hop hc]
          simp [builtin, Builtin.delete_, arr0 hts, arr0 has, arr1 has, underlying_run hu, e1, hg, checkKey_run hd hk ky, findKey_run hd (k1 rfl), hset, undef]
        · cases h
      · cases h
    · cases h
  · cases h
theorem All2.length {α β : Type} {R : α → β → Prop} : ∀ {l : List α} {m : List β}, All2 R l m → l.length = m.length
  | [], [], _ => rfl
  | _ :: _, _ :: _, h => by simp only [List.length_cons, h.2.length]
theorem evLen_ok {o : Oper} {c : Call} (hop : o.op = .call c) (hc : c.callee = .builtin .len) {env : Env} {n n' : Nat} {H H' : Heap} {v : AV} (h : evLen P o c.argTypes.toList c.args.toList env n H = .val v n' H') :
    n' = n ∧ H' = H ∧ ReadOk P o env H v ∧ ((∀ t r, c.argTypes.toList = t :: r → ∀ k e, P.underlying t ≠ some (.map k e)) → PureOk P o env v) := by
  unfold evLen at h
  split at h
  · rename_i t ts x r hts has
    have pure' : ∀ {m : Nat}, (∀ (s : Sg) (N : Nat) (a : Act), EnvR s env N a.tmps → s.glob → ∀ w, (Builtin.len_ c.argTypes o.type (c.args.map a.eval)).run P w = .ok (goInt m) w) → PureOk P o env (.i .i64 (.ofNat m)) := fun hl s N a he hg =>
      ⟨goInt _, rfl, fun w => by rw [exec_builtin hop hc]; simp [builtin, hl s N a he hg w]⟩
    have fin : ∀ {m : Nat}, OR.val (.i .i64 (.ofNat m)) n H = .val v n' H' → PureOk P o env (.i .i64 (.ofNat m)) → n' = n ∧ H' = H ∧ ReadOk P o env H v ∧ ((∀ t r, c.argTypes.toList = t :: r → ∀ k e, P.underlying t ≠ some (.map k e)) → PureOk P o env v) := fun e hp => by
      injection e with h1 h2 h3
      subst h1 h2 h3
      exact ⟨rfl, rfl, hp.read, fun _ => hp⟩
    have finO : ∀ {lv : Value} {lx : Int} {lts : List (Nat × Int × Bool)}, OR.val (.oi .i64 lx lts) n H = .val v n' H' → opd env x = some (.ol lv lx lts) →
        (∀ (s : Sg) (N : Nat) (a : Act), EnvR s env N a.tmps → s.glob → lenV lv = some lx → ∀ w, a.eval x = lv → (Builtin.len_ c.argTypes o.type (c.args.map a.eval)).run P w = .ok (.int .i64 lx) w) →
        n' = n ∧ H' = H ∧ ReadOk P o env H v ∧ ((∀ t r, c.argTypes.toList = t :: r → ∀ k e, P.underlying t ≠ some (.map k e)) → PureOk P o env v) := fun e hx hl => by
      injection e with h1 h2 h3
      subst h1 h2 h3
      have hp : PureOk P o env (.oi .i64 _ _) := fun s N a he hg => by
        have ex := opd_conc he hg hx
        simp only [AV.conc] at ex
        split at ex
        · rename_i hts
          rw [Bool.and_eq_true, Bool.and_eq_true, decide_eq_true_eq] at hts
          injection ex with ex
          exact ⟨_, by simp only [AV.conc]; rw [if_pos hts.2], fun w => by rw [exec_builtin hop hc]; simp [builtin, hl s N a he hg hts.1.2 w ex.symm]⟩
        · cases ex
      exact ⟨rfl, rfl, hp.read, fun _ => hp⟩
    split at h
    · rename_i e y q m cp hu hx
      refine fin h (pure' fun s N a he hg w => ?_)
      obtain ⟨B, _, _, ex⟩ := sl_conc.1 (opd_conc he hg hx)
      simp [Builtin.len_, arr0 hts, arr0 has, underlying_run hu, ex]
    · rename_i e hu hx
      refine fin h (pure' fun s N a he hg w => ?_)
      have ex := opd_conc he hg hx
      simp only [AV.conc, Option.some.injEq] at ex
      simp [Builtin.len_, arr0 hts, arr0 has, underlying_run hu, ← ex]
    · rename_i e y q m cp hu hx
      refine fin h (pure' fun s N a he hg w => ?_)
      obtain ⟨B, _, _, ex⟩ := se_conc.1 (opd_conc he hg hx)
      simp [Builtin.len_, arr0 hts, arr0 has, underlying_run hu, ex]
    · rename_i m e u hu hx
      refine fin h (pure' fun s N a he hg w => ?_)
      simp [Builtin.len_, arr0 hts, arr0 has, underlying_run hu]
    · rename_i p u hu hx
      split at h
      · rename_i m e hu2
        refine fin h (pure' fun s N a he hg w => ?_)
        simp [Builtin.len_, arr0 hts, arr0 has, underlying_run hu, underlying_run hu2]
      · cases h
    · rename_i kt e y hu hx
      split at h
      · rename_i es cl hH
        rw [frc_eq] at h
        injection h with h1 h2 h3
        subst h1 h2 h3
        refine ⟨rfl, rfl, fun s N a w m he hr => ?_, fun hn => absurd hu (hn t ts hts kt e)⟩
        obtain ⟨B, fs, hB, e1, e2, e3⟩ := map_at he hr hx hH
        have hl : fs.size = len es := by
          rw [len_eq, ← Array.length_toList]
          exact e3.length.symm
        refine ⟨goInt (len es), w, ?_, rfl, hr, Step.refl ..⟩
        have hg := getObj_map (P := P) e2
        rw [exec_builtin hop hc]
        simp [builtin, Builtin.len_, arr0 hts, arr0 has, underlying_run hu, e1, hg, hl]
      · cases h
    · rename_i l hu hx
      rw [frc_eq] at h
      refine fin h (pure' fun s N a he hg w => ?_)
      have ex := opd_conc he hg hx
      simp only [AV.conc, Option.some.injEq] at ex
      simp [Builtin.len_, arr0 hts, arr0 has, underlying_run hu, ← ex, len_eq]
      rfl
    · rename_i e _ _ _ lx lts hu hx
      exact finO h hx fun s N a he hg hl w hV => by
        simp [lenV] at hl
        simp [Builtin.len_, arr0 hts, arr0 has, underlying_run hu, hV, hl, goInt]
    · rename_i _ lx lts hu hx
      exact finO h hx fun s N a he hg hl w hV => by
        simp [lenV] at hl
        simp [Builtin.len_, arr0 hts, arr0 has, underlying_run hu, hV, hl, goInt]
    · obtain ⟨h1, h2, h3⟩ := evGround_ok (fun cs b => by rw [hop]; simp) h
      exact ⟨h1, h2, h3.read, fun _ => h3⟩
    · cases h
  · cases h
/-- What append and copy read. -/
theorem srcCells_ok {s : Sg} {H : Heap} {w : World} (hr : Rel P s H w) {sz k : Nat} {x : AV} {V : Value} (hx : x.conc s = some V) {l : List AV} (h : srcCells H sz k x = some l) (hk : lenA x = some k ∨ ∃ m, lenA x = some m ∧ k ≤ m) :
    ∃ vs, concL s l = some vs ∧ vs.all Value.oneCell' = true ∧ (vs.length = k * sz ∨ ∃ b, x = .s b) ∧ (∀ b, x = .s b → vs.length = k) ∧ (Builtin.firstCells sz k V).run P w = .ok ⟨vs⟩ w ∧ ∀ w', w'.heap = w.heap → (Builtin.firstCells sz k V).run P w' = .ok ⟨vs⟩ w' := by
  unfold srcCells at h
  split at h
  · injection h with h; subst h
    simp only [AV.conc, Option.some.injEq] at hx
    subst hx
    have hk0 : k = 0 := by rcases hk with hk | ⟨m, hm, hk⟩; · injection hk with hk; exact hk.symm
                           · injection hm with hm; omega
    subst hk0
    exact ⟨[], rfl, rfl, .inl (by simp), fun b e => (by cases e), by simp [Builtin.firstCells], fun w' _ => by simp [Builtin.firstCells]⟩
  · split at h
    · injection h with h; subst h
      obtain ⟨B, _, _, rfl⟩ := se_conc.1 hx
      exact ⟨[], rfl, rfl, .inl (by simp), fun b e => (by cases e), by simp [Builtin.firstCells, loadCells, loadCellsFrom], fun w' _ => by simp [Builtin.firstCells, loadCells, loadCellsFrom]⟩
    · cases h
  · rename_i y q m c
    split at h
    · rename_i t z mm cs ex mk hH
      obtain ⟨B, hB, _, rfl⟩ := sl_conc.1 hx
      obtain ⟨b', ob, h1, h2, h3⟩ := hr.blk y _ (hr.lim y B hB) hH
      rw [hB] at h1; injection h1 with h1; subst h1
      obtain ⟨vs, v1, v2, v3, v4⟩ := h3.cells h2 h
      have hh : ∀ w', w'.heap = w.heap → (Builtin.firstCells sz k (.slice (some ⟨B, q, none⟩) m (c.val s y))).run P w' = .ok ⟨vs⟩ w' := fun w' hw' =>
        run_firstCells_some w' sz k ⟨B, q, none⟩ m _ vs v2 (fun j v hv => by
          have := v4 j v hv
          unfold World.cell? at this ⊢
          rw [hw']; exact this)
      exact ⟨vs, v1, v3, .inl v2, fun b e => (by cases e), hh w rfl, hh⟩
    · cases h
  · rename_i bs
    injection h with h; subst h
    simp only [AV.conc, Option.some.injEq] at hx
    subst hx
    have hlen : k ≤ bs.length := by
      rcases hk with hk | ⟨m, hm, hk⟩
      · have hk : some (len bs) = some k := hk
        rw [len_eq] at hk; injection hk with hk; omega
      · have hm : some (len bs) = some m := hm
        rw [len_eq] at hm; injection hm with hm; omega
    have key : ∀ (l : List UInt8), concL s (l.map fun b => AV.i .u8 (.ofNat b.toNat)) = some (l.map fun b => Value.int .u8 b.toNat) := fun l => by
      induction l with
      | nil => rfl
      | cons a r ih => exact concL_cons.2 ⟨_, _, rfl, ih, rfl⟩
    have run : ∀ w', (Builtin.firstCells sz k (.string ⟨⟨bs⟩⟩)).run P w' = .ok ⟨(bs.take k).map fun b => Value.int .u8 b.toNat⟩ w' := fun w' => by
      simp only [Builtin.firstCells, Sem.run_pure]
      congr 1
      have : ((⟨⟨bs⟩⟩ : ByteArray).extract 0 k).data = ⟨bs.take k⟩ := by
        rw [ByteArray.data_extract]
        apply Array.ext'
        simp [List.extract]
      rw [this]
      apply Array.ext'
      simp
    exact ⟨_, key _, List.all_eq_true.2 (fun x hx => by obtain ⟨_, _, rfl⟩ := List.mem_map.1 hx; rfl), .inr ⟨bs, rfl⟩, fun _ _ => by simp [hlen], run w, fun w' _ => run w'⟩
  · cases h
theorem lenA_run {s : Sg} {x : AV} {V : Value} (hx : x.conc s = some V) {k : Nat} (h : lenA x = some k) (w : World) : (Builtin.lenOf V).run P w = .ok k w := by
  unfold lenA at h
  split at h
  · injection h with h; subst h
    simp only [AV.conc, Option.some.injEq] at hx; subst hx; simp [Builtin.lenOf]
  · injection h with h; subst h
    obtain ⟨B, _, _, rfl⟩ := se_conc.1 hx; simp [Builtin.lenOf]
  · injection h with h; subst h
    obtain ⟨B, _, _, rfl⟩ := sl_conc.1 hx; simp [Builtin.lenOf]
  · injection h with h; subst h
    simp only [AV.conc, Option.some.injEq] at hx; subst hx; simp [Builtin.lenOf, len_eq]; rfl
  · cases h
theorem evCopy_ok {o : Oper} {c : Call} (hop : o.op = .call c) (hc : c.callee = .builtin .copy) {env : Env} {n n' : Nat} {H H' : Heap} {v : AV} (h : evCopy P c.argTypes.toList c.args.toList env n H = .val v n' H') : OpOk P o env n H v n' H' := by
  unfold evCopy at h
  split at h
  · rename_i t ts x y hts has
    split at h
    · rename_i e d u hu hx hy
      split at h
      · rename_i sz dl xl hsz hdl hxl
        rw [frc_eq] at h
        split at h
        · rename_i l hl
          have base : ∀ {s : Sg} {N : Nat} {a : Act} {w : World}, EnvR s env N a.tmps → Rel P s H w → ∃ vs, concL s l = some vs ∧ vs.all Value.oneCell' = true ∧
              (Builtin.copy_ c.argTypes o.type (c.args.map a.eval)).run P w = ((match a.eval x with | .slice (some b) _ _ => storeCells b vs | _ => pure ()) >>= fun _ => (pure (goInt (Nat.min xl dl)) : Sem Value)).run P w := fun {s N a w} he hr => by
            obtain ⟨vs, v1, v2, _, _, v5, _⟩ := srcCells_ok hr (opd_conc he hr.glob hy) hl (.inr ⟨xl, hxl, Nat.min_le_left _ _⟩)
            refine ⟨vs, v1, v2, ?_⟩
            have e1 := lenA_run (P := P) (opd_conc he hr.glob hy) hxl w
            have hd : ∃ bs cap, a.eval x = .slice bs dl cap := by
              have ed := opd_conc he hr.glob hx
              cases d with
              | sl0 => simp only [AV.conc, Option.some.injEq] at ed; injection hdl with hdl; subst hdl; exact ⟨none, 0, ed.symm⟩
              | se => injection hdl with hdl; subst hdl; obtain ⟨B, _, _, ed⟩ := se_conc.1 ed; exact ⟨_, _, ed⟩
              | sl => injection hdl with hdl; subst hdl; obtain ⟨B, _, _, ed⟩ := sl_conc.1 ed; exact ⟨_, _, ed⟩
              | _ => first | (cases h; done) | cases hdl
            obtain ⟨bs, cap, hd⟩ := hd
            have e2 : (Builtin.firstCells sz (Nat.min xl dl) (a.eval y)).run P w = .ok ⟨vs⟩ w := v5
            cases bs with
            | none => simp [Builtin.copy_, arr0 hts, arr0 has, arr1 has, underlying_run hu, hd, e1, sizeB_run hsz, e2]
            | some b => simp [Builtin.copy_, arr0 hts, arr0 has, arr1 has, underlying_run hu, hd, e1, sizeB_run hsz, e2]
          have done0 : (∀ {s : Sg} {N : Nat} {a : Act}, EnvR s env N a.tmps → s.glob → (∃ c, a.eval x = .slice none 0 c) ∨ (l = [] ∧ ∃ b c, a.eval x = .slice (some b) 0 c)) → OR.val (.i .i64 (.ofNat (Nat.min xl dl))) n H = .val v n' H' → OpOk P o env n H v n' H' := fun hd e => by
            injection e with h1 h2 h3
            subst h1 h2 h3
            refine ⟨Nat.le_refl _, fun s N a w he hr _ _ => ?_⟩
            obtain ⟨vs, v1, v2, v3⟩ := base he hr
            refine ⟨goInt (Nat.min xl dl), s, w, .inl ?_, rfl, hr, Step.refl ..⟩
            rw [exec_builtin hop hc]
            rcases hd he hr.glob with ⟨cp, hd⟩ | ⟨rfl, b, cp, hd⟩
            · simp [builtin, v3, hd]
            · have : vs = [] := by simpa [concL] using v1.symm
              subst this
              simp [builtin, v3, hd, storeCells]
          split at h
          · refine done0 (fun {s N a} he hg => .inl ⟨0, ?_⟩) h
            have ed := opd_conc he hg hx
            simp only [AV.conc, Option.some.injEq] at ed
            exact ed.symm
          · injection hdl with hdl
            subst hdl
            refine done0 (fun {s N a} he hg => .inr ⟨?_, ?_⟩) h
            · have hl' : srcCells H sz 0 u = some l := by rw [show Nat.min xl 0 = 0 from Nat.min_zero xl] at hl; exact hl
              unfold srcCells at hl'
              split at hl'
              · injection hl' with hl'; exact hl'.symm
              · injection hl' with hl'; exact hl'.symm
              · split at hl'
                · rw [show Nat.mul 0 sz = 0 from Nat.zero_mul sz] at hl'; injection hl' with hl'; exact hl'.symm
                · cases hl'
              · injection hl' with hl'; exact hl'.symm
              · cases hl'
            · obtain ⟨B, _, _, ed⟩ := se_conc.1 (opd_conc he hg hx)
              exact ⟨_, _, ed⟩
          · rename_i g q m cp
            split at h
            · rename_i e' z r cs ex mk hH
              split at h
              · rename_i hb
                rw [putCells_k, Q8.set_k] at h
                injection h with h1 h2 h3
                subst h1 h2 h3
                refine ⟨Nat.le_refl _, fun s N a w he hr _ _ => ?_⟩
                obtain ⟨vs, v1, v2, v3⟩ := base he hr
                obtain ⟨B, hB, _, ed⟩ := sl_conc.1 (opd_conc he hr.glob hx)
                have hb := Nat.ble_eq.mp hb
                rw [len_eq] at hb
                obtain ⟨w', r1, r2, r3⟩ := write_ok hr hH hB v1 v2 (q := q) hb n
                refine ⟨goInt (Nat.min xl dl), s, w', .inl ?_, rfl, r2, r3⟩
                rw [exec_builtin hop hc]
                simp [builtin, v3, ed, r1]
              · cases h
            · cases h
          · cases h
        · cases h
      · cases h
    · cases h
  · cases h
theorem evClear_ok {o : Oper} {c : Call} (hop : o.op = .call c) (hc : c.callee = .builtin .clear) {env : Env} {n n' : Nat} {H H' : Heap} {v : AV} (h : evClear P c.argTypes.toList c.args.toList env n H = .val v n' H') : OpOk P o env n H v n' H' := by
  unfold evClear at h
  split at h
  · rename_i t ts x r hts has
    split at h
    · rename_i e g q m cp hu hx
      split at h
      · rename_i sz z e' zz r' cs ex mk hsz hz hH
        split at h
        · rename_i hz1 hb
          rw [putCells_k, Q8.set_k] at h
          injection h with h1 h2 h3
          subst h1 h2 h3
          refine ⟨Nat.le_refl _, fun s N a w he hr _ _ => ?_⟩
          obtain ⟨i, zv, vs, hi, hzv, hzc, hvl, hs⟩ := zeroC_run hz
          obtain ⟨c1, c2⟩ := hs s
          have hzl : vs.length = sz := by rw [hvl]; rw [natbeq] at hz1; have := of_decide_eq_true hz1; rwa [len_eq] at this
          obtain ⟨us, u1, u2, u3⟩ := times_conc c1 c2 m
          obtain ⟨B, hB, _, ed⟩ := sl_conc.1 (opd_conc he hr.glob hx)
          have hb : q + m * sz ≤ r' := Nat.ble_eq.mp hb
          have hul : us.length = m * sz := by rw [u3]; simp [hzl]
          obtain ⟨w', r1, r2, r3⟩ := write_ok hr hH hB u1 u2 (q := q) (by rw [← concL_length u1]; omega) n
          refine ⟨undef, s, w', .inl ?_, concU s, r2, r3⟩
          have hzz : (Builtin.zeroCells zv.cells m).toList = us := by
            rw [hzc, u3]
            by_cases h0 : vs.length = 0
            · have : vs = [] := List.length_eq_zero_iff.1 h0
              subst this
              simp [Builtin.zeroCells, Array.range_zero']
            · have := range_mod vs m (by omega)
              unfold Builtin.zeroCells
              simp only [List.size_toArray]
              rw [this]
          rw [exec_builtin hop hc]
          cases m with
          | zero =>
            have hus : us = [] := List.length_eq_zero_iff.1 (by rw [hul, Nat.zero_mul])
            subst hus
            have hw' : w' = w := by simp [storeCells] at r1; exact r1.symm
            subst hw'
            simp [builtin, Builtin.clear_, arr0 hts, arr0 has, underlying_run hu, ed, undef]
          | succ m =>
            simp [builtin, Builtin.clear_, arr0 hts, arr0 has, underlying_run hu, ed, zeroValue, typeInfo, hi, hzv, hzz, r1, undef]
        · cases h
      · cases h
    · rename_i e hu hx
      injection h with h1 h2 h3
      subst h1 h2 h3
      refine ⟨Nat.le_refl _, fun s N a w he hr _ _ => ?_⟩
      have ed := opd_conc he hr.glob hx
      simp only [AV.conc, Option.some.injEq] at ed
      refine ⟨undef, s, w, .inl ?_, concU s, hr, Step.refl ..⟩
      rw [exec_builtin hop hc]
      simp [builtin, Builtin.clear_, arr0 hts, arr0 has, underlying_run hu, ← ed, undef]
    · rename_i e g q m cp hu hx
      injection h with h1 h2 h3
      subst h1 h2 h3
      refine ⟨Nat.le_refl _, fun s N a w he hr _ _ => ?_⟩
      obtain ⟨B, hB, _, ed⟩ := se_conc.1 (opd_conc he hr.glob hx)
      refine ⟨undef, s, w, .inl ?_, concU s, hr, Step.refl ..⟩
      rw [exec_builtin hop hc]
      simp [builtin, Builtin.clear_, arr0 hts, arr0 has, underlying_run hu, ed, undef]
    · cases h
  · cases h
end
end Go.Sy
namespace Go.Sy
open Go
section
variable {P : Program}
theorem nextcap_le {need old : Nat} (h : old < need) : Builtin.nextslicecap need old ≤ 1024 + 4 * need := by
  unfold Builtin.nextslicecap
  split
  · omega
  · split
    · omega
    · rw [growBy_four]
      repeat' split
      all_goals omega
/-- A symbol takes the place of another that is forgotten. -/
theorem Rel.alias {s : Sg} {H : Heap} {w w' : World} (h : Rel P s H w) {n : Nat} (hn : n < LIM) (hf : s.blk n = none) {y b : Nat} (hy : y < LIM) {A A' : Blk} (hA : Q8.get H y = some A) (hb : s.blk y = some b) {o : Obj}
    (hs : w'.heap.size = w.heap.size) (ho : w'.heap[b]? = some o) (hr : BlkR P (s.set n b (s.cap y)) n A' o) (hother : ∀ c, c ≠ b → w'.heap[c]? = w.heap[c]?) (e1 : w'.os = w.os) (e2 : w'.tape = w.tape) (e3 : w'.output = w.output) :
    Rel P (s.set n b (s.cap y)) (Q8.upd (Q8.upd H y none) n (some A')) w' ∧ Step s n H w (s.set n b (s.cap y)) (n + 1) (Q8.upd (Q8.upd H y none) n (some A')) w' := by
  have hle := Sg.set_le (b := b) (c := s.cap y) hf
  have old : ∀ x, x < LIM → x ≠ n → ∀ B, Q8.get (Q8.upd (Q8.upd H y none) n (some A')) x = some B → Q8.get H x = some B ∧ x ≠ y := fun x hx hxn B hB => by
    rw [Q8.get_upd _ _ _ _ hn hx, if_neg (Ne.symm hxn), Q8.get_upd _ _ _ _ hy hx] at hB
    split at hB
    · cases hB
    · rename_i hxy; exact ⟨hB, Ne.symm hxy⟩
  have nb : ∀ x, x < LIM → x ≠ y → ∀ B, Q8.get H x = some B → ∀ c, s.blk x = some c → c ≠ b := fun x hx hxy B hB c hc e => by
    subst e
    exact hxy (h.inj x y c hx hy (by rw [hB]; simp) (by rw [hA]; simp) hc hb)
  refine ⟨⟨fun x c hc => ?_, fun g hg' => (hle g g (h.glob g hg')).1, fun x B hx hB => ?_, fun x z c hx hz h1 h2 h3 h4 => ?_⟩, fun x hx => ?_, by omega, fun c hc hx => hother c (fun e => hx y hy (by rw [hA]; simp) (by rw [e]; exact hb)), fun x c hx h1 h2 h3 => ?_, e1, e2, e3⟩
  · by_cases hx : x = n
    · subst hx; exact hn
    · simp only [Sg.set, hx, if_false] at hc; exact h.lim x c hc
  · by_cases hxn : x = n
    · subst hxn
      rw [Q8.get_upd _ _ _ _ hn hx, if_pos rfl] at hB
      injection hB with hB; subst hB
      exact ⟨b, o, Sg.set_blk .., ho, hr⟩
    · obtain ⟨hB, hxy⟩ := old x hx hxn B hB
      obtain ⟨c, o', k1, k2, k3⟩ := h.blk x B hx hB
      exact ⟨c, o', (hle x c k1).1, by rw [hother c (nb x hx hxy B hB c k1)]; exact k2, k3.le hle k1⟩
  · obtain ⟨B1, hB1⟩ := Option.ne_none_iff_exists'.1 h1
    obtain ⟨B2, hB2⟩ := Option.ne_none_iff_exists'.1 h2
    by_cases ex : x = n
    · by_cases ez : z = n
      · rw [ex, ez]
      · obtain ⟨k1, k2⟩ := old z hz ez B2 hB2
        subst ex
        rw [Sg.set_blk] at h3; injection h3 with h3; subst h3
        simp only [Sg.set, ez, if_false] at h4
        exact absurd rfl (nb z hz k2 B2 k1 _ h4)
    · obtain ⟨k1, k2⟩ := old x hx ex B1 hB1
      simp only [Sg.set, ex, if_false] at h3
      by_cases ez : z = n
      · subst ez
        rw [Sg.set_blk] at h4; injection h4 with h4; subst h4
        exact absurd rfl (nb x hx k2 B1 k1 _ h3)
      · obtain ⟨l1, l2⟩ := old z hz ez B2 hB2
        simp only [Sg.set, ez, if_false] at h4
        exact h.inj x z c hx hz (by rw [k1]; simp) (by rw [l1]; simp) h3 h4
  · have : x ≠ n := by omega
    simp [Sg.set, this]
  · by_cases ex : x = n
    · subst ex
      rw [Sg.set_blk] at h2; injection h2 with h2; subst h2
      exact ⟨y, hy, by rw [hA]; simp, hb⟩
    · obtain ⟨B1, hB1⟩ := Option.ne_none_iff_exists'.1 h1
      obtain ⟨k1, k2⟩ := old x hx ex B1 hB1
      simp only [Sg.set, ex, if_false] at h2
      exact ⟨x, hx, by rw [k1]; simp, h2⟩
theorem app3 (a b : List Value) (z : Array Value) : (⟨a⟩ : Array Value) ++ ((⟨b⟩ : Array Value) ++ z) = ⟨a ++ b⟩ ++ z := by
  rw [← Array.append_assoc]; congr 1; simp
theorem app3' (a : List Value) (b z : Array Value) : (⟨a⟩ : Array Value) ++ (b ++ z) = ⟨a ++ b.toList⟩ ++ z := by
  rw [← Array.append_assoc]; congr 1; apply Array.ext'; simp
/-- What an append brings, in the model's words. -/
structure AppS (P : Program) (t' : TypeId) (sz : Nat) (zv : Value) (V : Value) (k : Nat) (vs : List Value) (w : World) : Prop where
  kind : (∃ e, P.underlying t' = some (.slice e)) ∨ P.underlying t' = some .string ∨ (P.underlying t' = some (.int .i64) ∧ V = .int .i64 (Int.ofNat k) ∧ vs = (if k * sz = 0 then [] else (Builtin.zeroCells zv.cells k).toList))
  len : (∀ j, P.underlying t' ≠ some (.int j)) → ∀ w', (Builtin.lenOf V).run P w' = .ok k w'
  cells : (∀ j, P.underlying t' ≠ some (.int j)) → ∀ w', w'.heap = w.heap → (Builtin.firstCells sz k V).run P w' = .ok ⟨vs⟩ w'
theorem append_run {ats : Array TypeId} {args : Array Value} {t t' ty e : TypeId} (h0 : ats[0]? = some t) (h1 : ats[1]? = some t') {base : Option Addr} {m cap : Nat} {V : Value} (a0 : args[0]? = some (.slice base m cap)) (a1 : args[1]? = some V)
    (hu : P.underlying t = some (.slice e)) {i : TypeInfo} (hi : P.info? e = some i) {zv : Value} (hz : i.zero = some zv) {k : Nat} {vs : List Value} {w : World} (hs : AppS P t' i.size zv V k vs w)
    (hb : (1024 + 4 * (m + k)) * (i.bytes + 1) ≤ 2 ^ 40) :
    (m + k ≤ cap → (Builtin.append_ ats ty args).run P w = ((match base with | some a => storeCells (a.add (m * i.size)) vs | none => pure ()) >>= fun _ => (pure (.slice base (m + k) cap) : Sem Value)).run P w) ∧
    (cap < m + k → ∀ old, (∀ w', w'.heap = w.heap → (Builtin.firstCells i.size m (.slice base m cap)).run P w' = .ok ⟨old⟩ w') → ∃ c, m + k ≤ c ∧ (Builtin.append_ ats ty args).run P w =
      .ok (.slice (some ⟨w.heap.size, 0, none⟩) (m + k) c) (w.drew.alloc (.cells (⟨old ++ vs⟩ ++ Builtin.zeroCells zv.cells (c - (m + k))) e))) := by
  have hk1 : m + k ≤ 2 ^ 40 := by
    have : 1024 + 4 * (m + k) ≤ (1024 + 4 * (m + k)) * (i.bytes + 1) := Nat.le_mul_of_pos_right _ (Nat.succ_pos _)
    omega
  have hmul : ∀ x, x ≤ 1024 + 4 * (m + k) → x * i.bytes ≤ 2 ^ 40 := fun x hx =>
    Nat.le_trans (Nat.mul_le_mul hx (Nat.le_succ i.bytes)) hb
  have hwrap : IntKind.i64.wrap (Int.ofNat k) = Int.ofNat k := wrap_nat (by simp only [lid]; omega)
  have hkb : ¬ ((Int.ofNat k : Int) * (i.bytes : Int) > 2 ^ 48) := by
    have h3 := hmul k (by omega)
    have : ((k * i.bytes : Nat) : Int) ≤ ((2 ^ 40 : Nat) : Int) := Int.ofNat_le.2 h3
    have e : (Int.ofNat k : Int) * (i.bytes : Int) = ((k * i.bytes : Nat) : Int) := by simp
    rw [e]; omega
  have hk0 : ¬ ((Int.ofNat k : Int) < 0) := by simp
  refine ⟨fun hroom => ?_, fun hgrow old hold => ?_⟩
  · rcases hs.kind with ⟨e', hk⟩ | hk | ⟨hk, hV, hvs⟩
    · have hni : ∀ j, P.underlying t' ≠ some (.int j) := fun j hj => by rw [hk] at hj; cases hj
      simp [Builtin.append_, h0, h1, a0, a1, underlying_run hu, underlying_run hk, sizeOf, typeInfo, hi, hs.len hni, hroom, hs.cells hni w rfl]
      cases base <;> simp
    · have hni : ∀ j, P.underlying t' ≠ some (.int j) := fun j hj => by rw [hk] at hj; cases hj
      simp [Builtin.append_, h0, h1, a0, a1, underlying_run hu, underlying_run hk, sizeOf, typeInfo, hi, hs.len hni, hroom, hs.cells hni w rfl]
      cases base <;> simp
    · subst hV
      have e1 : (Int.ofNat k).toNat = k := rfl
      simp only [Builtin.append_, h0, h1, a0, a1, Sem.run_bind, underlying_run hu, underlying_run hk, sizeOf, typeInfo, run_program, hi, Result.andThen_ok, Sem.run_pure, asInt, asIntOf, hwrap, e1, if_true]
      rw [if_neg hk0]
      simp only [Sem.run_bind, run_program, hi, Result.andThen_ok, Sem.run_pure]
      rw [if_neg hkb]
      simp only [Sem.run_bind, Result.andThen_ok, Sem.run_pure, if_pos hroom]
      by_cases h00 : k * i.size = 0
      · rw [if_pos h00] at hvs; subst hvs
        simp [h00]
        cases base <;> simp
      · rw [if_neg h00] at hvs; subst hvs
        simp [h00, zeroValue, typeInfo, hi, hz]
        cases base <;> simp
  · have hn : ¬ (m + k ≤ cap) := by omega
    have h63 : ¬ (((m + k : Nat) : Int) > IntKind.i64.max) := by simp [IntKind.max, IntKind.signed, IntKind.bits]; omega
    have hcap := hmul _ (nextcap_le hgrow)
    have h48 : ¬ (Builtin.nextslicecap (m + k) cap * i.bytes > 2 ^ 48) := by omega
    refine ⟨(Question.appendCap (m + k) cap e).cut (w.tape w.drawn (.appendCap (m + k) cap e)), by simp [Question.cut], ?_⟩
    have hcut : (Question.appendCap (m + k) cap e).forced = false := rfl
    have hold' := hold w.drew rfl
    rcases hs.kind with ⟨e', hk⟩ | hk | ⟨hk, hV, hvs⟩
    · have hni : ∀ j, P.underlying t' ≠ some (.int j) := fun j hj => by rw [hk] at hj; cases hj
      have hcd := hs.cells hni w.drew rfl
      simp only [Builtin.append_, h0, h1, a0, a1, Sem.run_bind, underlying_run hu, underlying_run hk, sizeOf, typeInfo, run_program, hi, Result.andThen_ok, Sem.run_pure, hs.len hni, if_neg hn, if_false, Bool.false_eq_true]
      rw [if_neg (fun h => h63 h.1)]
      simp only [Sem.run_bind, run_program, hi, Result.andThen_ok, Sem.run_pure]
      rw [if_neg h48]
      simp [hcut, hold', hcd, zeroValue, typeInfo, hi, hz, newRow]
      rw [app3]
    · have hni : ∀ j, P.underlying t' ≠ some (.int j) := fun j hj => by rw [hk] at hj; cases hj
      have hcd := hs.cells hni w.drew rfl
      simp only [Builtin.append_, h0, h1, a0, a1, Sem.run_bind, underlying_run hu, underlying_run hk, sizeOf, typeInfo, run_program, hi, Result.andThen_ok, Sem.run_pure, hs.len hni, if_neg hn, if_false, Bool.false_eq_true]
      rw [if_neg (fun h => h63 h.1)]
      simp only [Sem.run_bind, run_program, hi, Result.andThen_ok, Sem.run_pure]
      rw [if_neg h48]
      simp [hcut, hold', hcd, zeroValue, typeInfo, hi, hz, newRow]
      rw [app3]
    · subst hV
      have e1 : (Int.ofNat k).toNat = k := rfl
      simp only [Builtin.append_, h0, h1, a0, a1, Sem.run_bind, underlying_run hu, underlying_run hk, sizeOf, typeInfo, run_program, hi, Result.andThen_ok, Sem.run_pure, asInt, asIntOf, hwrap, e1, if_true]
      rw [if_neg hk0]
      simp only [Sem.run_bind, run_program, hi, Result.andThen_ok, Sem.run_pure]
      rw [if_neg hkb]
      simp only [Sem.run_bind, Result.andThen_ok, Sem.run_pure, if_neg hn, Bool.not_true, Bool.false_eq_true, if_false, run_program, hi]
      rw [if_neg (show ¬ (((m + k : Nat) : Int) > IntKind.i64.max ∧ (True ∨ i.bytes = 0)) from fun h => h63 h.1)]
      simp only [Sem.run_bind, run_program, hi, Result.andThen_ok, Sem.run_pure]
      rw [if_neg h48]
      by_cases h00 : k * i.size = 0
      · rw [if_pos h00] at hvs; subst hvs
        simp [hcut, hold', h00, zeroValue, typeInfo, hi, hz, newRow]
      · rw [if_neg h00] at hvs; subst hvs
        simp [hcut, hold', h00, zeroValue, typeInfo, hi, hz, newRow]
        rw [app3']
theorem appS_ok {s : Sg} {H : Heap} {w : World} (hr : Rel P s H w) {t' : TypeId} {sz k : Nat} {xv : AV} {V : Value} (hx : xv.conc s = some V) (hN : appN P t' xv = some k) {z new : List AV} (hC : appC P t' H sz k z xv = some new)
    {zv : Value} {zs : List Value} (hzc : zv.cells = ⟨zs⟩) (hzl : zs.length = sz) (c1 : concL s z = some zs) (c2 : zs.all Value.oneCell' = true) :
    ∃ vs, concL s new = some vs ∧ vs.all Value.oneCell' = true ∧ AppS P t' sz zv V k vs w := by
  unfold appN at hN
  split at hN
  · rename_i k' hk
    injection hN with hN; subst hN
    simp only [AV.conc, Option.some.injEq] at hx
    subst hx
    unfold appC at hC
    rw [hk] at hC
    injection hC with hC; subst hC
    obtain ⟨us, u1, u2, u3⟩ := times_conc c1 c2 k'
    refine ⟨us, u1, u2, .inr (.inr ⟨hk, rfl, ?_⟩), fun hn => absurd hk (hn _), fun hn => absurd hk (hn _)⟩
    by_cases h0 : k' * sz = 0
    · rw [if_pos h0, u3]
      have : (List.replicate k' zs).flatten.length = 0 := by simp [hzl, h0]
      exact List.length_eq_zero_iff.1 this
    · rw [if_neg h0, u3, hzc]
      have hp : 0 < zs.length := by rw [hzl]; exact Nat.pos_of_ne_zero (fun e => h0 (by rw [e, Nat.mul_zero]))
      unfold Builtin.zeroCells
      simp only [List.size_toArray]
      rw [range_mod zs k' hp]
  · rename_i e hk
    unfold appC at hC
    rw [hk] at hC
    obtain ⟨vs, v1, v2, v3, v4, v5, v6⟩ := srcCells_ok hr hx hC (.inl hN)
    exact ⟨vs, v1, v2, .inl ⟨e, hk⟩, fun _ w' => lenA_run hx hN w', fun _ w' hw => v6 w' hw⟩
  · rename_i hk
    unfold appC at hC
    rw [hk] at hC
    obtain ⟨vs, v1, v2, v3, v4, v5, v6⟩ := srcCells_ok hr hx hC (.inl hN)
    exact ⟨vs, v1, v2, .inr (.inl hk), fun _ w' => lenA_run hx hN w', fun _ w' hw => v6 w' hw⟩
  · cases hN
/-- The new row of a grown slice. -/
theorem grown_row {s : Sg} {x : Nat} {e : TypeId} {mk : Bool} {l : List AV} {vs : List Value} (h : concL s l = some vs) (h1 : vs.all Value.oneCell' = true) {rest : Array Value} {sz c need : Nat} (hsz : sizeB P e = some sz) (hl : vs.length = need * sz) (hrest : rest.size = (c - need) * sz) (hc : need ≤ c) (hcap : s.cap x = c) :
    BlkR P s x (.row e (fun _ => none) l.length (T.e.puts l 0) false mk) (.cells (⟨vs⟩ ++ rest) e (0, 0)) := by
  have hlen := concL_length h
  refine ⟨rfl, by simp; omega, fun i A hA => ?_, ?_, .inl rfl⟩
  · obtain ⟨V, v1, v2⟩ := concL_get h (cellAt_puts hA)
    refine ⟨V, v1, ?_, (List.all_eq_true.1 h1) V (List.mem_of_getElem? v2)⟩
    have hi : i < vs.length := (List.getElem?_eq_some_iff.1 v2).1
    rw [Array.getElem?_append_left (by simpa using hi)]
    simpa using v2
  · simp only [Bool.false_eq_true, if_false, Array.size_append, List.size_toArray]
    rw [hcap, sizeB_cells hsz, hl, hrest, ← Nat.add_mul]
    congr 1; omega
theorem evAppend_ok {o : Oper} {c : Call} (hop : o.op = .call c) (hc : c.callee = .builtin .append) {env : Env} {n n' : Nat} {H H' : Heap} {v : AV} (h : evAppend P c.argTypes.toList c.args.toList env n H = .val v n' H') : OpOk P o env n H v n' H' := by
  unfold evAppend at h
  split at h
  · rename_i t t' ts x y hts has
    split at h
    · rename_i e sv xv hu hx hy
      split at h
      · rename_i sz z by_ m k hsz hz hby hm hk
        split at h
        · rename_i hb1 hb2 hb3
          split at h
          · rename_i new hnew
            split at h
            · rename_i hnl
              rw [natbeq] at hnl
              have hnl := of_decide_eq_true hnl
              rw [len_eq] at hnl
              have hnl : new.length = k * sz := hnl
              have hb1 : (1024 + 4 * (m + k)) * (by_ + 1) ≤ 2 ^ 40 := Nat.ble_eq.mp hb1
              have hb3 : 0 < sz := Nat.ble_eq.mp hb3
              rw [natbeq] at hb2
              have hb2 := of_decide_eq_true hb2
              rw [len_eq] at hb2
              obtain ⟨i, zv, zs, hi, hzv, hzc, hzl, hzs⟩ := zeroC_run hz
              have hsi := sizeB_info hsz hi
              obtain ⟨i', hi', hbi⟩ := bytesB_run hby
              rw [hi] at hi'; injection hi' with hi'; subst hi'
              -- what the model does, once the slice's form is known
              have facts : ∀ {s : Sg} {N : Nat} {a : Act} {w : World}, EnvR s env N a.tmps → Rel P s H w → ∀ {base : Option Addr} {cap : Nat}, a.eval x = .slice base m cap → ∃ vs, concL s new = some vs ∧ vs.all Value.oneCell' = true ∧ vs.length = k * sz ∧
                  (m + k ≤ cap → (execOp a.eval o).run P w = (((match base with | some a => storeCells (a.add (m * sz)) vs | none => pure ()) >>= fun _ => (pure (.slice base (m + k) cap) : Sem Value)).run P w).andThen fun v w' => .ok (.value v) w') ∧
                  (cap < m + k → ∀ old, (∀ w', w'.heap = w.heap → (Builtin.firstCells sz m (.slice base m cap)).run P w' = .ok ⟨old⟩ w') → ∃ cc, m + k ≤ cc ∧ (execOp a.eval o).run P w =
                    .ok (.value (.slice (some ⟨w.heap.size, 0, none⟩) (m + k) cc)) (w.drew.alloc (.cells (⟨old ++ vs⟩ ++ Builtin.zeroCells zv.cells (cc - (m + k))) e))) := by
                intro s N a w he hr base cap hb
                obtain ⟨c1, c2⟩ := hzs s
                obtain ⟨vs, v1, v2, v3⟩ := appS_ok hr (opd_conc he hr.glob hy) hk hnew hzc (by rw [hzl, hb2]) c1 c2
                have v3' : AppS P t' i.size zv (a.eval y) k vs w := by rw [hsi]; exact v3
                obtain ⟨r1, r2⟩ := append_run (P := P) (ty := o.type) (arr0 hts) (arr1 hts) (args := c.args.map a.eval) (base := base) (m := m) (cap := cap) (by rw [Array.getElem?_map, arr0 has]; simp [hb]) (by rw [Array.getElem?_map, arr1 has]; rfl) hu hi hzv v3' (by rw [hbi]; exact hb1)
                rw [hsi] at r1 r2
                refine ⟨vs, v1, v2, by rw [concL_length v1]; exact hnl, fun h => ?_, fun h old hold => ?_⟩
                · rw [exec_builtin hop hc]
                  simp only [builtin, Sem.run_bind, r1 h, Sem.run_pure]
                · obtain ⟨cc, q1, q2⟩ := r2 h old hold
                  refine ⟨cc, q1, ?_⟩
                  rw [exec_builtin hop hc]
                  simp only [builtin, Sem.run_bind, q2, Result.andThen_ok, Sem.run_pure]
              have zcells : ∀ j, (Builtin.zeroCells zv.cells j).size = j * sz := fun j => by
                rw [size_zeroCells, hzc]; simp [hzl, hb2]
              -- a new row
              have grow : ∀ {s : Sg} {N : Nat} {a : Act} {w : World}, EnvR s env N a.tmps → ∀ {G : Heap}, Rel P s H w → Rel P s G w → Step s n H w s n G w → s.blk n = none → n < LIM → ∀ {base : Option Addr} {cap : Nat}, a.eval x = .slice base m cap → cap < m + k →
                  ∀ {old : List AV} {os : List Value}, concL s old = some os → os.all Value.oneCell' = true → os.length = m * sz → (∀ w', w'.heap = w.heap → (Builtin.firstCells sz m (.slice base m cap)).run P w' = .ok ⟨os⟩ w') → ∀ mk,
                  ∃ V s' w', Gives P o a w V w' ∧ (AV.sl n 0 (m + k) (.u 0)).conc s' = some V ∧ Rel P s' (Q8.upd G n (some (.row e (fun _ => none) (old ++ new).length (T.e.puts (old ++ new) 0) false mk))) w' ∧ Step s n H w s' (n + 1) (Q8.upd G n (some (.row e (fun _ => none) (old ++ new).length (T.e.puts (old ++ new) 0) false mk))) w' := by
                intro s N a w he G hr hG hst hn hl base cap hb hgr old os ho h1 hol hold mk
                obtain ⟨vs, v1, v2, v3, _, v5⟩ := facts he hr hb
                obtain ⟨cc, q1, q2⟩ := v5 hgr os hold
                have hle := Sg.set_le (s := s) (n := n) (b := w.heap.size) (c := cc) hn
                have hcon : concL (s.set n w.heap.size cc) (old ++ new) = some (os ++ vs) := concL_append (concL_le hle _ ho) (concL_le hle _ v1)
                have hrow := grown_row (P := P) (x := n) (e := e) (mk := mk) hcon (by simp only [List.all_append, h1, v2, Bool.and_self]) (rest := Builtin.zeroCells zv.cells (cc - (m + k))) hsz (c := cc) (need := m + k) (by simp [hol, v3, Nat.add_mul]) (zcells _) q1 (Sg.set_cap ..)
                have hGd : Rel P s G w.drew := hG.drew
                obtain ⟨r1, r2⟩ := hGd.alloc (n := n) hl hn cc hrow
                refine ⟨_, _, _, .inl q2, sl_conc.2 ⟨_, Sg.set_blk .., by simp [Cap.fits, Sg.set_cap, q1], by simp [Cap.val, Sg.set_cap]⟩, r1, ?_⟩
                have hd : Step s n G w s n G w.drew := Step.of_heap s n G rfl rfl rfl rfl
                exact (hst.trans hd (Nat.le_refl _) (Nat.le_refl _)).trans r2 (Nat.le_refl _) (Nat.le_succ _)
              unfold evApp at h
              rw [frc_eq] at h
              split at h
              · -- nil
                injection hm with hm; subst hm
                split at h
                · injection h with h1 h2 h3
                  subst h1 h2 h3
                  refine ⟨Nat.le_refl _, fun s N a w he hr _ _ => ?_⟩
                  have ed := opd_conc he hr.glob hx
                  simp only [AV.conc, Option.some.injEq] at ed
                  obtain ⟨vs, v1, v2, v3, v4, _⟩ := facts he hr ed.symm
                  refine ⟨_, s, w, .inl ?_, rfl, hr, Step.refl ..⟩
                  rw [v4 (Nat.le_refl _)]
                  simp
                · rename_i hk0
                  rw [newRowA_k] at h
                  injection h with h1 h2 h3
                  subst h1 h2 h3
                  refine ⟨Nat.le_succ _, fun s N a w he hr hf hl => ?_⟩
                  have ed := opd_conc he hr.glob hx
                  simp only [AV.conc, Option.some.injEq] at ed
                  have := grow he hr hr (Step.refl ..) (hf n (Nat.le_refl _) (Nat.lt_succ_self _)) hl ed.symm (by rw [Nat.zero_add]; exact Nat.pos_of_ne_zero hk0) (old := []) (os := []) rfl rfl (by simp) (fun w' _ => by simp [Builtin.firstCells]) (mkB P e)
                  exact this
              · rename_i g q m' cp
                injection hm with hm; subst hm
                split at h
                · rename_i e' z' r cs ex mk hH
                  split at h
                  · rename_i hle
                    have hle : m' + k ≤ cp := Nat.ble_eq.mp hle
                    split at h
                    · rename_i hroom
                      have hroom : q + (m' + k) * sz ≤ r := Nat.ble_eq.mp hroom
                      rw [putCells_k, Q8.set_k] at h
                      injection h with h1 h2 h3
                      subst h1 h2 h3
                      refine ⟨Nat.le_refl _, fun s N a w he hr _ _ => ?_⟩
                      obtain ⟨B, hB, hf, ed⟩ := sl_conc.1 (opd_conc he hr.glob hx)
                      obtain ⟨vs, v1, v2, v3, v4, _⟩ := facts he hr ed
                      obtain ⟨w', r1, r2, r3⟩ := write_ok hr hH hB v1 v2 (q := q + m' * sz) (by rw [hnl, Nat.add_assoc, ← Nat.add_mul]; exact hroom) n
                      refine ⟨_, s, w', .inl ?_, sl_conc.2 ⟨B, hB, by simp [Cap.fits, hle], rfl⟩, r2, r3⟩
                      rw [v4 hle]
                      simp [add_addr, r1, Cap.val]
                    · cases h
                  · rename_i hgr
                    have hgr : cp < m' + k := by
                      have : ¬ (m' + k ≤ cp) := fun e => by rw [show (m'.add k).ble cp = true from Nat.ble_eq.mpr e] at hgr; cases hgr
                      omega
                    split at h
                    · rename_i old hold
                      rw [frcL_eq, newRowA_k] at h
                      injection h with h1 h2 h3
                      subst h1 h2 h3
                      refine ⟨Nat.le_succ _, fun s N a w he hr hf hl => ?_⟩
                      obtain ⟨B, hB, hfi, ed⟩ := sl_conc.1 (opd_conc he hr.glob hx)
                      obtain ⟨b', ob, k1, k2, k3⟩ := hr.blk g _ (hr.lim g B hB) hH
                      rw [hB] at k1; injection k1 with k1; subst k1
                      obtain ⟨os, o1, o2, o3, o4⟩ := k3.cells k2 hold
                      exact grow he hr hr (Step.refl ..) (hf n (Nat.le_refl _) (Nat.lt_succ_self _)) hl ed (by simpa [Cap.val] using hgr) o1 o3 o2 (fun w' hw' => run_firstCells_some w' sz m' ⟨B, q, none⟩ m' _ os o2 (fun j v hv => by
                        have := o4 j v hv
                        unfold World.cell? at this ⊢
                        rw [hw']; exact this)) (mkB P e)
                    · cases h
                · cases h
              · rename_i g q m' u
                injection hm with hm; subst hm
                split at h
                · rename_i e' z' r cs ex mk hH
                  split at h
                  · cases h
                  · rename_i hcond
                    simp only [Bool.and_eq_true, natbeq, decide_eq_true_eq, Bool.not_eq_true'] at hcond
                    obtain ⟨⟨hq, he'⟩, hex⟩ := hcond
                    subst he' hex
                    have hq : q = u * sz := hq
                    have capEq : ∀ {s : Sg} {w : World} {B : Nat} {ob : Obj}, w.heap[B]? = some ob → BlkR P s g (.row e z' r cs false mk) ob → ∃ a fz, ob = .cells a e fz ∧ a.size = s.cap g * sz ∧ r ≤ a.size := by
                      intro s w B ob _ k3
                      cases ob with
                      | cells a t2 fz =>
                        obtain ⟨rfl, c2, c3, c4, c5⟩ := k3
                        simp only [Bool.false_eq_true, if_false] at c4
                        rw [sizeB_cells hsz] at c4
                        exact ⟨a, fz, rfl, c4, c2⟩
                      | _ => exact k3.elim
                    split at h
                    · rename_i hroom
                      have hroom : q + (m' + k) * sz ≤ r := Nat.ble_eq.mp hroom
                      rw [putCells_k, Q8.set_k] at h
                      injection h with h1 h2 h3
                      subst h1 h2 h3
                      refine ⟨Nat.le_refl _, fun s N a w he hr _ _ => ?_⟩
                      obtain ⟨B, hB, hf, ed⟩ := sl_conc.1 (opd_conc he hr.glob hx)
                      obtain ⟨b', ob, k1, k2, k3⟩ := hr.blk g _ (hr.lim g B hB) hH
                      rw [hB] at k1; injection k1 with k1; subst k1
                      obtain ⟨ar, fz, _, g1, g2⟩ := capEq k2 k3
                      have hcap : u + (m' + k) ≤ s.cap g := by
                        have h3 : (u + (m' + k)) * sz ≤ s.cap g * sz := by rw [Nat.add_mul, ← hq, ← g1]; omega
                        exact Nat.le_of_mul_le_mul_right h3 hb3
                      obtain ⟨vs, v1, v2, v3, v4, _⟩ := facts he hr ed
                      obtain ⟨w', r1, r2, r3⟩ := write_ok hr hH hB v1 v2 (q := q + m' * sz) (by rw [hnl, Nat.add_assoc, ← Nat.add_mul]; exact hroom) n
                      refine ⟨_, s, w', .inl ?_, sl_conc.2 ⟨B, hB, by simp [Cap.fits, hcap], rfl⟩, r2, r3⟩
                      rw [v4 (by simp only [Cap.val]; omega)]
                      simp [add_addr, r1, Cap.val]
                    · split at h
                      · split at h
                        · rename_i old hold
                          rw [frcL_eq, Q8.set_k, newRowA_k] at h
                          injection h with h1 h2 h3
                          subst h1 h2 h3
                          refine ⟨Nat.le_succ _, fun s N a w he hr hf hl => ?_⟩
                          have hn0 := hf n (Nat.le_refl _) (Nat.lt_succ_self _)
                          have hu0 : u = 0 := by
                            rcases Nat.eq_zero_or_pos u with e0 | e0
                            · exact e0
                            · have := Nat.mul_pos e0 hb3; omega
                          subst hu0
                          obtain ⟨B, hB, hfi, ed⟩ := sl_conc.1 (opd_conc he hr.glob hx)
                          have hglim := hr.lim g B hB
                          obtain ⟨b', ob, k1, k2, k3⟩ := hr.blk g _ hglim hH
                          rw [hB] at k1; injection k1 with k1; subst k1
                          obtain ⟨os, o1, o2, o3, o4⟩ := k3.cells k2 hold
                          have o2 : os.length = m' * sz := o2
                          by_cases hgr : s.cap g < m' + k
                          · exact grow he hr (hr.drop hglim) (Step.drop s n H w hglim) hn0 hl ed (by simpa [Cap.val] using hgr) o1 o3 o2 (fun w' hw' => run_firstCells_some w' sz m' ⟨B, 0, none⟩ m' _ os o2 (fun j v hv => by
                              have := o4 j v hv
                              unfold World.cell? at this ⊢
                              rw [hw']; exact this)) (mkB P e || mk)
                          · obtain ⟨ar, fz, hob, g1, g2⟩ := capEq k2 k3
                            subst hob
                            obtain ⟨vs, v1, v2, v3, v4, _⟩ := facts he hr ed
                            have hsize : (m' + k) * sz ≤ ar.size := by rw [g1]; exact Nat.mul_le_mul_right _ (by omega)
                            have hsz2 : m' * sz + vs.length ≤ ar.size := by rw [v3, ← Nat.add_mul]; exact hsize
                            obtain ⟨a', q1, q2, q3, q4, q5, q6, q7, q8⟩ := setCells_row B e fz vs (m' * sz) w ar k2 hsz2
                            have hrun : (storeCells ⟨B, m' * sz, none⟩ vs).run P w = .ok () (w.setCells B (m' * sz) vs) := by
                              have := run_storeCells_cells (P := P) B (m' * sz) vs 0 w (fun j hj => ?_) (fun j hj => ?_) (fun v hv => (List.all_eq_true.1 v2) v hv)
                              · simpa using this
                              · simp only [Nat.add_zero, World.cell?, k2]
                                have : m' * sz + j < ar.size := by omega
                                simp [this]
                              · exact k3.frozen k2 (show m' * sz + 0 + j < ar.size by omega)
                            have hle := Sg.set_le (s := s) (n := n) (b := B) (c := s.cap g) hn0
                            have hrow : BlkR P (s.set n B (s.cap g)) n (.row e (fun _ => none) (old ++ new).length (T.e.puts (old ++ new) 0) false (mkB P e || mk)) (.cells a' e fz) := by
                              have hcon : concL (s.set n B (s.cap g)) (old ++ new) = some (os ++ vs) := concL_append (concL_le hle _ o1) (concL_le hle _ v1)
                              have hll := concL_length hcon
                              refine ⟨rfl, by rw [q2, ← hll, List.length_append, o2]; exact hsz2, fun i A hA => ?_, ?_, ?_⟩
                              · obtain ⟨V, w1, w2⟩ := concL_get hcon (cellAt_puts hA)
                                refine ⟨V, w1, ?_, (List.all_eq_true.1 (show (os ++ vs).all Value.oneCell' = true by simp only [List.all_append, o3, v2, Bool.and_self])) V (List.mem_of_getElem? w2)⟩
                                rw [q3 i]
                                by_cases hi : i < m' * sz
                                · rw [if_neg (by omega)]
                                  rw [List.getElem?_append_left (by omega)] at w2
                                  have := o4 i V w2
                                  rw [add_addr, Nat.zero_add] at this
                                  simpa [World.cell?, k2] using this
                                · have hlt : i < m' * sz + vs.length := by
                                    have := (List.getElem?_eq_some_iff.1 w2).1
                                    rw [List.length_append, o2] at this; exact this
                                  rw [if_pos ⟨by omega, hlt⟩]
                                  rw [List.getElem?_append_right (by omega), o2] at w2
                                  exact w2
                              · simp only [Bool.false_eq_true, if_false, Sg.set_cap, q2, g1, sizeB_cells hsz]
                              · obtain ⟨_, _, _, _, c5⟩ := k3
                                rcases c5 with c5 | ⟨c5, c6⟩
                                · exact .inl c5
                                · exact .inr ⟨by simp [c5], by rw [q2]; exact c6⟩
                            obtain ⟨r1, r2⟩ := hr.alias (n := n) hl hn0 hglim hH hB q5 q1 hrow q4 q6 q7 q8
                            refine ⟨_, _, _, .inl ?_, sl_conc.2 ⟨B, Sg.set_blk .., by simp [Cap.fits, Sg.set_cap]; omega, rfl⟩, r1, r2⟩
                            rw [v4 (by simp only [Cap.val]; omega)]
                            simp [add_addr, hrun, Cap.val, Sg.set_cap]
                        · cases h
                      · cases h
                · cases h
              · cases h
            · cases h
          · cases h
        · cases h
      · cases h
    · cases h
  · cases h
end
end Go.Sy
namespace Go.Sy
open Go
section
variable {P : Program}
/-- What an operation of that kind keeps. -/
def KOk (P : Program) (k : K) (o : Oper) (env : Env) (n : Nat) (H : Heap) (v : AV) (n' : Nat) (H' : Heap) : Prop :=
  match k with
  | .pure => n' = n ∧ H' = H ∧ PureOk P o env v
  | .read => n' = n ∧ H' = H ∧ ReadOk P o env H v
  | .new => (n' = n ∧ H' = H ∧ PureOk P o env v) ∨ ∃ A, n' = n + 1 ∧ H' = Q8.upd H n (some A) ∧ NewOk P o env n v A
  | .chain => OpOk P o env n H v n' H'
theorem KOk.op {k : K} {o : Oper} {env : Env} {n n' : Nat} {H H' : Heap} {v : AV} (h : KOk P k o env n H v n' H') : OpOk P o env n H v n' H' := by
  cases k with
  | pure => obtain ⟨rfl, rfl, h⟩ := h; exact h.op
  | read => obtain ⟨rfl, rfl, h⟩ := h; exact h.op
  | new =>
    rcases h with ⟨rfl, rfl, h⟩ | ⟨A, rfl, rfl, h⟩
    · exact h.op
    · exact h.op
  | chain => exact h
theorem KOk.ofPure {k : K} {o : Oper} {env : Env} {n n' : Nat} {H H' : Heap} {v : AV} (h : n' = n ∧ H' = H ∧ PureOk P o env v) : KOk P k o env n H v n' H' := by
  cases k with
  | pure => exact h
  | read => exact ⟨h.1, h.2.1, h.2.2.read⟩
  | new => exact .inl h
  | chain => obtain ⟨rfl, rfl, h⟩ := h; exact h.op
theorem foldl_push : ∀ (ns : List Int) (r : ByteArray), ns.foldl (fun r n => r.push (UInt8.ofNat n.toNat)) r = ⟨r.data ++ (ns.map fun n => UInt8.ofNat n.toNat).toArray⟩
  | [], r => by simp
  | n :: ns, r => by
    rw [List.foldl_cons, foldl_push ns]
    simp [ByteArray.push]
/-- The bytes of some cells. -/
noncomputable def bytesC (l : List AV) : Option (List UInt8) := List.rec (some []) (fun v _ ih => match v with | .i .u8 (.ofNat b) => (match ih with | some r => some (UInt8.ofNat b :: r) | none => none) | _ => none) l
theorem bytesC_cons (v : AV) (l : List AV) : bytesC (v :: l) = (match v with | .i .u8 (.ofNat b) => (match bytesC l with | some r => some (UInt8.ofNat b :: r) | none => none) | _ => none) := rfl
theorem bytesC_ok {s : Sg} : ∀ {l : List AV} {vs : List Value} {r : List UInt8}, bytesC l = some r → concL s l = some vs → ∃ ns : List Int, vs = ns.map (Value.int .u8) ∧ r = ns.map (fun n => UInt8.ofNat n.toNat)
  | [], vs, r, h, hc => by
    injection h with h; injection hc with hc
    subst h hc
    exact ⟨[], rfl, rfl⟩
  | v :: l, vs, r, h, hc => by
    rw [bytesC_cons] at h
    obtain ⟨V, us, h1, h2, rfl⟩ := concL_cons.1 hc
    split at h
    · rename_i b
      split at h
      · rename_i r' hr'
        injection h with h; subst h
        obtain ⟨ns, k1, k2⟩ := bytesC_ok hr' h2
        simp only [AV.conc, Option.some.injEq] at h1
        refine ⟨Int.ofNat b :: ns, ?_, ?_⟩
        · rw [List.map_cons, ← k1, ← h1]
        · rw [List.map_cons, ← k2]; rfl
      · cases h
    · cases h
theorem Rel.congr {s : Sg} {H H' : Heap} {w : World} (h : Rel P s H w) (e : ∀ x, x < LIM → Q8.get H' x = Q8.get H x) : Rel P s H' w :=
  ⟨h.lim, h.glob, fun x A hx hA => h.blk x A hx (by rw [← e x hx]; exact hA), fun x y b hx hy h1 h2 => h.inj x y b hx hy (by rw [← e x hx]; exact h1) (by rw [← e y hy]; exact h2)⟩
theorem Step.congr {s s' : Sg} {n n' : Nat} {H H1 H2 : Heap} {w w' : World} (h : Step s n H w s' n' H1 w') (e : ∀ x, x < LIM → Q8.get H2 x = Q8.get H1 x) : Step s n H w s' n' H2 w' :=
  ⟨h.off, h.size, h.frame, fun y b hy h1 h2 h3 => h.dom y b hy (by rw [← e y hy]; exact h1) h2 h3, h.os, h.tape, h.output⟩
theorem exec_convert {o : Oper} {s d : TypeId} {x : Operand} (hop : o.op = .convert s d x) (ρ : Operand → Value) : execOp ρ o = (do pure (.value (← convert s d (ρ x)))) := by
  obtain ⟨dst, op', ty, pos, af, gu⟩ := o
  simp only at hop
  subst hop
  rfl
theorem exec_convert_run {o : Oper} {s d : TypeId} {x : Operand} (hop : o.op = .convert s d x) {ρ : Operand → Value} {w w' : World} {V : Value} (h : (convert s d (ρ x)).run P w = .ok V w') : (execOp ρ o).run P w = .ok (.value V) w' := by
  rw [exec_convert hop]
  simp only [Sem.run_bind, h, Result.andThen_ok, Sem.run_pure]
theorem evConvert_ok {o : Oper} {sT dT : TypeId} {x : Operand} (hop : o.op = .convert sT dT x) {env : Env} {n n' : Nat} {H H' : Heap} {v : AV} (h : evConvert P o sT dT x env n H = .val v n' H') :
    KOk P (kindOf P o.op) o env n H v n' H' := by
  have ground : ∀ {v n' H'}, evGround P o env n H = .val v n' H' → ∀ k, KOk P k o env n H v n' H' := fun hg k => .ofPure (evGround_ok (P := P) (o := o) (fun cs b => by rw [hop]; simp) hg)
  rw [hop]
  unfold evConvert at h
  split at h
  · rename_i j k j2 a hs hd hx
    rcases natV_ok h with e | ⟨h1, h2, h3, h4⟩
    · exact ground e _
    · subst h1 h2 h3
      refine .ofPure ⟨rfl, rfl, fun s N ac he hg => ⟨_, rfl, fun w => exec_convert_run hop ?_⟩⟩
      have ex := opd_conc he hg hx
      simp only [AV.conc, Option.some.injEq] at ex
      rw [← ex]
      have := wrap_nat h4
      simp [convert, run_underlying hs, run_underlying hd, Conv.intToInt]
      exact this
  · rename_i e l hs hd hx
    split at h
    · rename_i z hu hz
      split at h
      · rename_i hb
        have hb : z = 1 := by simpa using hb
        subst hb
        rw [frcL_eq, frc_eq, newRowA_k] at h
        injection h with h1 h2 h3
        subst h1 h2 h3
        simp only [kindOf, hs, hd]
        refine .inr ⟨_, rfl, rfl, fun s N ac w he hg hn => ?_⟩
        have ex := opd_conc he hg hx
        simp only [AV.conc, Option.some.injEq] at ex
        have hlen : len l = l.length := len_eq l
        have hrun := run_bytes_of_string (P := P) w sT dT e ⟨⟨l⟩⟩ hs hd hu
        have hge := grownCap_ge w (ByteArray.size ⟨⟨l⟩⟩) 0 e
        have hsz : ByteArray.size ⟨⟨l⟩⟩ = l.length := rfl
        rw [hsz] at hge
        rw [ex] at hrun
        refine ⟨_, _, grownCap w l.length 0 e, _, exec_convert_run hop hrun, rfl, rfl, rfl, rfl, ?_, ?_⟩
        · rw [hlen]
          exact sl_conc.2 ⟨_, Sg.set_blk .., by simp [Cap.fits, Sg.set_cap]; exact hge, by simp [Cap.val, Sg.set_cap, hsz]⟩
        · have hsize : (bytesRow ⟨⟨l⟩⟩ (grownCap w l.length 0 e)).size = grownCap w l.length 0 e := by
            simp [bytesRow, hsz]; omega
          refine ⟨rfl, ?_, fun i A hA => ?_, ?_, .inr ⟨rfl, rfl⟩⟩
          · rw [hsz, hsize]; simpa using hge
          · have hc : ∀ (s' : Sg) (l : List UInt8), concL s' (l.map fun b => AV.i .u8 (.ofNat b.toNat)) = some (l.map fun b => Value.int .u8 (.ofNat b.toNat)) := fun s' l => by
              induction l with
              | nil => rfl
              | cons b l ih => rw [List.map_cons, List.map_cons]; exact concL_cons.2 ⟨_, _, rfl, ih, rfl⟩
            have hc := hc (s.set n w.heap.size (grownCap w l.length 0 e)) l
            obtain ⟨V, v1, v2⟩ := concL_get hc (cellAt_puts hA)
            rw [List.getElem?_map] at v2
            refine ⟨V, v1, ?_, ?_⟩
            · have hi : i < l.length := by
                cases hli : l[i]? with
                | none => rw [hli] at v2; cases v2
                | some b => exact (List.getElem?_eq_some_iff.1 hli).1
              rw [hsz, bytesRow, Array.getElem?_append_left (by simpa using hi)]
              simpa using v2
            · cases hli : l[i]? with
              | none => rw [hli] at v2; cases v2
              | some b => rw [hli] at v2; injection v2 with v2; subst v2; rfl
          · simp only [Bool.false_eq_true, if_false]
            rw [hsz, hsize, Sg.set_cap, sizeB_cells hz, Nat.mul_one]
      · cases h
    · cases h
  · rename_i e2 e y q m c hs hd hx
    split at h
    · rename_i et ez m2 cs2 ex2 hu hsd hH
      injection h with h1 h2 h3
      subst h1 h2 h3
      have hsd : sT = dT := by simpa using hsd
      subst hsd
      simp only [kindOf, hs]
      refine ⟨rfl, rfl, fun s N ac w n he hr => ?_⟩
      obtain ⟨B, hB, hf, ed⟩ := sl_conc.1 (opd_conc he hr.glob hx)
      have hy := hr.lim y B hB
      obtain ⟨b', ob, k1, k2, k3⟩ := hr.blk y _ hy hH
      rw [hB] at k1; injection k1 with k1; subst k1
      cases ob with
      | cells a t2 fz =>
        obtain ⟨rfl, c2, c3, c4, c5⟩ := k3
        have hfr : (World.freeze w ⟨B, a.size, none⟩ 1).heap[B]? = some (.cells a t2 (a.size, a.size + 1)) := by
          unfold World.freeze
          rw [if_neg (by decide)]
          simp only [Array.getElem?_modify, k2, if_true, Option.map_some, Option.some.injEq, Obj.cells.injEq, true_and]
          rcases c5 with e | ⟨_, e⟩
          · rw [e]; simp
          · rw [e]
            have : (a.size == a.size + 1) = false := by simp
            simp [this]
        have hoth : ∀ b, b ≠ B → (World.freeze w ⟨B, a.size, none⟩ 1).heap[b]? = w.heap[b]? := fun b hb => by
          unfold World.freeze
          rw [if_neg (by decide)]
          simp [Array.getElem?_modify, Ne.symm hb]
        have hrow : BlkR P s y (.row t2 ez m2 cs2 ex2 true) (.cells a t2 (a.size, a.size + 1)) := ⟨rfl, c2, c3, c4, .inr ⟨rfl, rfl⟩⟩
        obtain ⟨r1, r2⟩ := hr.write n hy hH hB (w' := World.freeze w ⟨B, a.size, none⟩ 1) (A' := .row t2 ez m2 cs2 ex2 true) (by unfold World.freeze; rw [if_neg (by decide)]; simp) hfr hrow hoth (by unfold World.freeze; rw [if_neg (by decide)]) (by unfold World.freeze; rw [if_neg (by decide)]) (by unfold World.freeze; rw [if_neg (by decide)])
        have hsame : ∀ x, x < LIM → Q8.get H x = Q8.get (Q8.upd H y (some (.row t2 ez m2 cs2 ex2 true))) x := fun x hx => by
          rw [Q8.get_upd _ _ _ _ hy hx]
          split
          · rename_i e; subst e; exact hH
          · rfl
        have hsh : w.shape? B = some (t2, a.size) := by unfold World.shape?; rw [k2]
        refine ⟨_, _, exec_convert_run hop ?_, sl_conc.2 ⟨B, hB, hf, rfl⟩, r1.congr hsame, r2.congr hsame⟩
        rw [ed]
        simp [convert, run_underlying hd, run_underlying hu, markStringish, hsh]
      | _ => exact k3.elim
    · cases h
  · rename_i e a hs hd hx
    simp only [kindOf, hs, hd]
    have empty : ∀ {u : AV}, (∀ (s : Sg) V, u.conc s = some V → V = .slice none 0 0 ∨ ∃ b c, V = .slice (some b) 0 c) → opd env x = some u → P.underlying e = some (.int .u8) → ReadOk P o env H (.s []) := fun {u} hu hx he8 s N ac w n he hr => by
      have ed := opd_conc he hr.glob hx
      refine ⟨.string ⟨⟨[]⟩⟩, w, exec_convert_run hop ?_, rfl, hr, Step.refl ..⟩
      rcases hu s _ ed with e1 | ⟨b, c, e1⟩
      · rw [e1, run_convert_bytes_string w sT dT e none 0 0 hs he8 hd]
        rfl
      · rw [e1]
        exact run_convert_bytes_back w sT dT e b c [] hs he8 hd (fun j hj => absurd hj (Nat.not_lt_zero _))
    split at h
    · rename_i he8
      injection h with h1 h2 h3
      subst h1 h2 h3
      exact ⟨rfl, rfl, empty (fun s V hV => .inl (by simpa [AV.conc] using hV.symm)) hx he8⟩
    · rename_i x1 x2 x3 x4 he8
      injection h with h1 h2 h3
      subst h1 h2 h3
      exact ⟨rfl, rfl, empty (fun s V hV => let ⟨b, _, _, h3⟩ := se_conc.1 hV; .inr ⟨_, _, h3⟩) hx he8⟩
    · rename_i y q m c he8
      split at h
      · rename_i t z r cs ex mk hH
        split at h
        · rename_i l hl
          split at h
          · rename_i bs hbs
            injection h with h1 h2 h3
            subst h1 h2 h3
            refine ⟨rfl, rfl, fun s N ac w n he hr => ?_⟩
            obtain ⟨B, hB, hf, ed⟩ := sl_conc.1 (opd_conc he hr.glob hx)
            have hy := hr.lim y B hB
            obtain ⟨b', ob, k1, k2, k3⟩ := hr.blk y _ hy hH
            rw [hB] at k1; injection k1 with k1; subst k1
            obtain ⟨os, o1, o2, o3, o4⟩ := k3.cells k2 hl
            obtain ⟨ns, p1, p2⟩ := bytesC_ok hbs o1
            refine ⟨_, w, exec_convert_run hop ?_, rfl, hr, Step.refl ..⟩
            rw [ed, run_convert_bytes_string w sT dT e _ _ _ hs he8 hd]
            have hl := run_loadCells_list (P := P) w ⟨B, q, none⟩ os (fun j v hv => o4 j v hv)
            rw [o2, p1] at hl
            rw [run_bytesToString w ⟨B, q, none⟩ m _ ns hl]
            have he0 : ByteArray.empty.data = #[] := rfl
            rw [p2, foldl_push ns ByteArray.empty, he0]
            simp
          · cases h
        · cases h
      · cases h
    · cases h
  · exact ground h _
end
end Go.Sy
