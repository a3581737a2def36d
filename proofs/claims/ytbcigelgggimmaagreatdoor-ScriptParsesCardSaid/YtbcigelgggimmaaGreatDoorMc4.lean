/- SymN, SymO, SymOI, SymP, SymQ, SymR -/
import Derived.Test.YtbcigelgggimmaaGreatDoorMc3
import Derived.Laws.IdiomStrings
import Derived.RangeFuncLeaves
import Derived.RangeFuncCalls
import Derived.RangeFuncRecord
namespace Go.Sy
open Go
section
variable {P : Program}
theorem nextcap_le {need old : Nat} (h : old < need) : Builtin.nextslicecap need old ≤ 1024 + 4 * need := by
  unfold Builtin.nextslicecap
  split
  · omega
  · split
    · omega
    · rw [growBy_four]
      repeat' split
      all_goals omega
/-- A symbol takes the place of another that is forgotten. -/
theorem Rel.alias {s : Sg} {H : Heap} {w w' : World} (h : Rel P s H w) {n : Nat} (hn : n < LIM) (hf : s.blk n = none) {y b : Nat} (hy : y < LIM) {A A' : Blk} (hA : Q8.get H y = some A) (hb : s.blk y = some b) {o : Obj}
    (hs : w'.heap.size = w.heap.size) (ho : w'.heap[b]? = some o) (hr : BlkR P (s.set n b (s.cap y)) n A' o) (hother : ∀ c, c ≠ b → w'.heap[c]? = w.heap[c]?) (e1 : w'.os = w.os) (e2 : w'.tape = w.tape) (e3 : w'.output = w.output) :
    Rel P (s.set n b (s.cap y)) (Q8.upd (Q8.upd H y none) n (some A')) w' ∧ Step s n H w (s.set n b (s.cap y)) (n + 1) (Q8.upd (Q8.upd H y none) n (some A')) w' := by
  have hle := Sg.set_le (b := b) (c := s.cap y) hf
  have old : ∀ x, x < LIM → x ≠ n → ∀ B, Q8.get (Q8.upd (Q8.upd H y none) n (some A')) x = some B → Q8.get H x = some B ∧ x ≠ y := fun x hx hxn B hB => by
    rw [Q8.get_upd _ _ _ _ hn hx, if_neg (Ne.symm hxn), Q8.get_upd _ _ _ _ hy hx] at hB
    split at hB
    · cases hB
    · rename_i hxy; exact ⟨hB, Ne.symm hxy⟩
  have nb : ∀ x, x < LIM → x ≠ y → ∀ B, Q8.get H x = some B → ∀ c, s.blk x = some c → c ≠ b := fun x hx hxy B hB c hc e => by
    subst e
    exact hxy (h.inj x y c hx hy (by rw [hB]; simp) (by rw [hA]; simp) hc hb)
  refine ⟨⟨fun x c hc => ?_, fun g hg' => (hle g g (h.glob g hg')).1, fun x B hx hB => ?_, fun x z c hx hz h1 h2 h3 h4 => ?_⟩, fun x hx => ?_, by omega, fun c hc hx => hother c (fun e => hx y hy (by rw [hA]; simp) (by rw [e]; exact hb)), fun x c hx h1 h2 h3 => ?_, e1, e2, e3⟩
  · by_cases hx : x = n
    · subst hx; exact hn
    · simp only [Sg.set, hx, if_false] at hc; exact h.lim x c hc
  · by_cases hxn : x = n
    · subst hxn
      rw [Q8.get_upd _ _ _ _ hn hx, if_pos rfl] at hB
      injection hB with hB; subst hB
      exact ⟨b, o, Sg.set_blk .., ho, hr⟩
    · obtain ⟨hB, hxy⟩ := old x hx hxn B hB
      obtain ⟨c, o', k1, k2, k3⟩ := h.blk x B hx hB
      exact ⟨c, o', (hle x c k1).1, by rw [hother c (nb x hx hxy B hB c k1)]; exact k2, k3.le hle k1⟩
  · obtain ⟨B1, hB1⟩ := Option.ne_none_iff_exists'.1 h1
    obtain ⟨B2, hB2⟩ := Option.ne_none_iff_exists'.1 h2
    by_cases ex : x = n
    · by_cases ez : z = n
      · rw [ex, ez]
      · obtain ⟨k1, k2⟩ := old z hz ez B2 hB2
        subst ex
        rw [Sg.set_blk] at h3; injection h3 with h3; subst h3
        simp only [Sg.set, ez, if_false] at h4
        exact absurd rfl (nb z hz k2 B2 k1 _ h4)
    · obtain ⟨k1, k2⟩ := old x hx ex B1 hB1
      simp only [Sg.set, ex, if_false] at h3
      by_cases ez : z = n
      · subst ez
        rw [Sg.set_blk] at h4; injection h4 with h4; subst h4
        exact absurd rfl (nb x hx k2 B1 k1 _ h3)
      · obtain ⟨l1, l2⟩ := old z hz ez B2 hB2
        simp only [Sg.set, ez, if_false] at h4
        exact h.inj x z c hx hz (by rw [k1]; simp) (by rw [l1]; simp) h3 h4
  · have : x ≠ n := by omega
    simp [Sg.set, this]
  · by_cases ex : x = n
    · subst ex
      rw [Sg.set_blk] at h2; injection h2 with h2; subst h2
      exact ⟨y, hy, by rw [hA]; simp, hb⟩
    · obtain ⟨B1, hB1⟩ := Option.ne_none_iff_exists'.1 h1
      obtain ⟨k1, k2⟩ := old x hx ex B1 hB1
      simp only [Sg.set, ex, if_false] at h2
      exact ⟨x, hx, by rw [k1]; simp, h2⟩
theorem app3 (a b : List Value) (z : Array Value) : (⟨a⟩ : Array Value) ++ ((⟨b⟩ : Array Value) ++ z) = ⟨a ++ b⟩ ++ z := by
  rw [← Array.append_assoc]; congr 1; simp
theorem app3' (a : List Value) (b z : Array Value) : (⟨a⟩ : Array Value) ++ (b ++ z) = ⟨a ++ b.toList⟩ ++ z := by
  rw [← Array.append_assoc]; congr 1; apply Array.ext'; simp
/-- What an append brings, in the model's words. -/
structure AppS (P : Program) (t' : TypeId) (sz : Nat) (zv : Value) (V : Value) (k : Nat) (vs : List Value) (w : World) : Prop where
  kind : (∃ e, P.underlying t' = some (.slice e)) ∨ P.underlying t' = some .string ∨ (P.underlying t' = some (.int .i64) ∧ V = .int .i64 (Int.ofNat k) ∧ vs = (if k * sz = 0 then [] else (Builtin.zeroCells zv.cells k).toList))
  len : (∀ j, P.underlying t' ≠ some (.int j)) → ∀ w', (Builtin.lenOf V).run P w' = .ok k w'
  cells : (∀ j, P.underlying t' ≠ some (.int j)) → ∀ w', w'.heap = w.heap → (Builtin.firstCells sz k V).run P w' = .ok ⟨vs⟩ w'
theorem append_run {ats : Array TypeId} {args : Array Value} {t t' ty e : TypeId} (h0 : ats[0]? = some t) (h1 : ats[1]? = some t') {base : Option Addr} {m cap : Nat} {V : Value} (a0 : args[0]? = some (.slice base m cap)) (a1 : args[1]? = some V)
    (hu : P.underlying t = some (.slice e)) {i : TypeInfo} (hi : P.info? e = some i) {zv : Value} (hz : i.zero = some zv) {k : Nat} {vs : List Value} {w : World} (hs : AppS P t' i.size zv V k vs w)
    (hb : (1024 + 4 * (m + k)) * (i.bytes + 1) ≤ 2 ^ 40) :
    (m + k ≤ cap → (Builtin.append_ ats ty args).run P w = ((match base with | some a => storeCells (a.add (m * i.size)) vs | none => pure ()) >>= fun _ => (pure (.slice base (m + k) cap) : Sem Value)).run P w) ∧
    (cap < m + k → ∀ old, (∀ w', w'.heap = w.heap → (Builtin.firstCells i.size m (.slice base m cap)).run P w' = .ok ⟨old⟩ w') → ∃ c, m + k ≤ c ∧ (Builtin.append_ ats ty args).run P w =
      .ok (.slice (some ⟨w.heap.size, 0, none⟩) (m + k) c) (w.drew.alloc (.cells (⟨old ++ vs⟩ ++ Builtin.zeroCells zv.cells (c - (m + k))) e))) := by
  have hk1 : m + k ≤ 2 ^ 40 := by
    have : 1024 + 4 * (m + k) ≤ (1024 + 4 * (m + k)) * (i.bytes + 1) := Nat.le_mul_of_pos_right _ (Nat.succ_pos _)
    omega
  have hmul : ∀ x, x ≤ 1024 + 4 * (m + k) → x * i.bytes ≤ 2 ^ 40 := fun x hx =>
    Nat.le_trans (Nat.mul_le_mul hx (Nat.le_succ i.bytes)) hb
  have hwrap : IntKind.i64.wrap (Int.ofNat k) = Int.ofNat k := wrap_nat (by simp only [lid]; omega)
  have hkb : ¬ ((Int.ofNat k : Int) * (i.bytes : Int) > 2 ^ 48) := by
    have h3 := hmul k (by omega)
    have : ((k * i.bytes : Nat) : Int) ≤ ((2 ^ 40 : Nat) : Int) := Int.ofNat_le.2 h3
    have e : (Int.ofNat k : Int) * (i.bytes : Int) = ((k * i.bytes : Nat) : Int) := by simp
    rw [e]; omega
  have hk0 : ¬ ((Int.ofNat k : Int) < 0) := by simp
  refine ⟨fun hroom => ?_, fun hgrow old hold => ?_⟩
  · rcases hs.kind with ⟨e', hk⟩ | hk | ⟨hk, hV, hvs⟩
    · have hni : ∀ j, P.underlying t' ≠ some (.int j) := fun j hj => by rw [hk] at hj; cases hj
      simp [Builtin.append_, h0, h1, a0, a1, underlying_run hu, underlying_run hk, sizeOf, typeInfo, hi, hs.len hni, hroom, hs.cells hni w rfl]
      cases base <;> simp
    · have hni : ∀ j, P.underlying t' ≠ some (.int j) := fun j hj => by rw [hk] at hj; cases hj
      simp [Builtin.append_, h0, h1, a0, a1, underlying_run hu, underlying_run hk, sizeOf, typeInfo, hi, hs.len hni, hroom, hs.cells hni w rfl]
      cases base <;> simp
    · subst hV
      have e1 : (Int.ofNat k).toNat = k := rfl
      simp only [Builtin.append_, h0, h1, a0, a1, Sem.run_bind, underlying_run hu, underlying_run hk, sizeOf, typeInfo, run_program, hi, Result.andThen_ok, Sem.run_pure, asInt, asIntOf, hwrap, e1, if_true]
      rw [if_neg hk0]
      simp only [Sem.run_bind, run_program, hi, Result.andThen_ok, Sem.run_pure]
      rw [if_neg hkb]
      simp only [Sem.run_bind, Result.andThen_ok, Sem.run_pure, if_pos hroom]
      by_cases h00 : k * i.size = 0
      · rw [if_pos h00] at hvs; subst hvs
        simp [h00]
        cases base <;> simp
      · rw [if_neg h00] at hvs; subst hvs
        simp [h00, zeroValue, typeInfo, hi, hz]
        cases base <;> simp
  · have hn : ¬ (m + k ≤ cap) := by omega
    have h63 : ¬ (((m + k : Nat) : Int) > IntKind.i64.max) := by simp [IntKind.max, IntKind.signed, IntKind.bits]; omega
    have hcap := hmul _ (nextcap_le hgrow)
    have h48 : ¬ (Builtin.nextslicecap (m + k) cap * i.bytes > 2 ^ 48) := by omega
    refine ⟨(Question.appendCap (m + k) cap e).cut (w.tape w.drawn (.appendCap (m + k) cap e)), by simp [Question.cut], ?_⟩
    have hcut : (Question.appendCap (m + k) cap e).forced = false := rfl
    have hold' := hold w.drew rfl
    rcases hs.kind with ⟨e', hk⟩ | hk | ⟨hk, hV, hvs⟩
    · have hni : ∀ j, P.underlying t' ≠ some (.int j) := fun j hj => by rw [hk] at hj; cases hj
      have hcd := hs.cells hni w.drew rfl
      simp only [Builtin.append_, h0, h1, a0, a1, Sem.run_bind, underlying_run hu, underlying_run hk, sizeOf, typeInfo, run_program, hi, Result.andThen_ok, Sem.run_pure, hs.len hni, if_neg hn, if_false, Bool.false_eq_true]
      rw [if_neg (fun h => h63 h.1)]
      simp only [Sem.run_bind, run_program, hi, Result.andThen_ok, Sem.run_pure]
      rw [if_neg h48]
      simp [hcut, hold', hcd, zeroValue, typeInfo, hi, hz, newRow]
      rw [app3]
    · have hni : ∀ j, P.underlying t' ≠ some (.int j) := fun j hj => by rw [hk] at hj; cases hj
      have hcd := hs.cells hni w.drew rfl
      simp only [Builtin.append_, h0, h1, a0, a1, Sem.run_bind, underlying_run hu, underlying_run hk, sizeOf, typeInfo, run_program, hi, Result.andThen_ok, Sem.run_pure, hs.len hni, if_neg hn, if_false, Bool.false_eq_true]
      rw [if_neg (fun h => h63 h.1)]
      simp only [Sem.run_bind, run_program, hi, Result.andThen_ok, Sem.run_pure]
      rw [if_neg h48]
      simp [hcut, hold', hcd, zeroValue, typeInfo, hi, hz, newRow]
      rw [app3]
    · subst hV
      have e1 : (Int.ofNat k).toNat = k := rfl
      simp only [Builtin.append_, h0, h1, a0, a1, Sem.run_bind, underlying_run hu, underlying_run hk, sizeOf, typeInfo, run_program, hi, Result.andThen_ok, Sem.run_pure, asInt, asIntOf, hwrap, e1, if_true]
      rw [if_neg hk0]
      simp only [Sem.run_bind, run_program, hi, Result.andThen_ok, Sem.run_pure]
      rw [if_neg hkb]
      simp only [Sem.run_bind, Result.andThen_ok, Sem.run_pure, if_neg hn, Bool.not_true, Bool.false_eq_true, if_false, run_program, hi]
      rw [if_neg (show ¬ (((m + k : Nat) : Int) > IntKind.i64.max ∧ (True ∨ i.bytes = 0)) from fun h => h63 h.1)]
      simp only [Sem.run_bind, run_program, hi, Result.andThen_ok, Sem.run_pure]
      rw [if_neg h48]
      by_cases h00 : k * i.size = 0
      · rw [if_pos h00] at hvs; subst hvs
        simp [hcut, hold', h00, zeroValue, typeInfo, hi, hz, newRow]
      · rw [if_neg h00] at hvs; subst hvs
        simp [hcut, hold', h00, zeroValue, typeInfo, hi, hz, newRow]
        rw [app3']
theorem appS_ok {s : Sg} {H : Heap} {w : World} (hr : Rel P s H w) {t' : TypeId} {sz k : Nat} {xv : AV} {V : Value} (hx : xv.conc s = some V) (hN : appN P t' xv = some k) {z new : List AV} (hC : appC P t' H sz k z xv = some new)
    {zv : Value} {zs : List Value} (hzc : zv.cells = ⟨zs⟩) (hzl : zs.length = sz) (c1 : concL s z = some zs) (c2 : zs.all Value.oneCell' = true) :
    ∃ vs, concL s new = some vs ∧ vs.all Value.oneCell' = true ∧ AppS P t' sz zv V k vs w := by
  unfold appN at hN
  split at hN
  · rename_i k' hk
    injection hN with hN; subst hN
    simp only [AV.conc, Option.some.injEq] at hx
    subst hx
    unfold appC at hC
    rw [hk] at hC
    injection hC with hC; subst hC
    obtain ⟨us, u1, u2, u3⟩ := times_conc c1 c2 k'
    refine ⟨us, u1, u2, .inr (.inr ⟨hk, rfl, ?_⟩), fun hn => absurd hk (hn _), fun hn => absurd hk (hn _)⟩
    by_cases h0 : k' * sz = 0
    · rw [if_pos h0, u3]
      have : (List.replicate k' zs).flatten.length = 0 := by simp [hzl, h0]
      exact List.length_eq_zero_iff.1 this
    · rw [if_neg h0, u3, hzc]
      have hp : 0 < zs.length := by rw [hzl]; exact Nat.pos_of_ne_zero (fun e => h0 (by rw [e, Nat.mul_zero]))
      unfold Builtin.zeroCells
      simp only [List.size_toArray]
      rw [range_mod zs k' hp]
  · rename_i e hk
    unfold appC at hC
    rw [hk] at hC
    obtain ⟨vs, v1, v2, v3, v4, v5, v6⟩ := srcCells_ok hr hx hC (.inl hN)
    exact ⟨vs, v1, v2, .inl ⟨e, hk⟩, fun _ w' => lenA_run hx hN w', fun _ w' hw => v6 w' hw⟩
  · rename_i hk
    unfold appC at hC
    rw [hk] at hC
    obtain ⟨vs, v1, v2, v3, v4, v5, v6⟩ := srcCells_ok hr hx hC (.inl hN)
    exact ⟨vs, v1, v2, .inr (.inl hk), fun _ w' => lenA_run hx hN w', fun _ w' hw => v6 w' hw⟩
  · cases hN
/-- The new row of a grown slice. -/
theorem grown_row {s : Sg} {x : Nat} {e : TypeId} {mk : Bool} {l : List AV} {vs : List Value} (h : concL s l = some vs) (h1 : vs.all Value.oneCell' = true) {rest : Array Value} {sz c need : Nat} (hsz : sizeB P e = some sz) (hl : vs.length = need * sz) (hrest : rest.size = (c - need) * sz) (hc : need ≤ c) (hcap : s.cap x = c) :
    BlkR P s x (.row e (fun _ => none) l.length (T.e.puts l 0) false mk) (.cells (⟨vs⟩ ++ rest) e (0, 0)) := by
  have hlen := concL_length h
  refine ⟨rfl, by simp; omega, fun i A hA => ?_, ?_, .inl rfl⟩
  · obtain ⟨V, v1, v2⟩ := concL_get h (cellAt_puts hA)
    refine ⟨V, v1, ?_, (List.all_eq_true.1 h1) V (List.mem_of_getElem? v2)⟩
    have hi : i < vs.length := (List.getElem?_eq_some_iff.1 v2).1
    rw [Array.getElem?_append_left (by simpa using hi)]
    simpa using v2
  · simp only [Bool.false_eq_true, if_false, Array.size_append, List.size_toArray]
    rw [hcap, sizeB_cells hsz, hl, hrest, ← Nat.add_mul]
    congr 1; omega
theorem evAppend_ok {o : Oper} {c : Call} (hop : o.op = .call c) (hc : c.callee = .builtin .append) {env : Env} {n n' : Nat} {H H' : Heap} {v : AV} (h : evAppend P c.argTypes.toList c.args.toList env n H = .val v n' H') : OpOk P o env n H v n' H' := by
  unfold evAppend at h
  split at h
  · rename_i t t' ts x y hts has
    split at h
    · rename_i e sv xv hu hx hy
      split at h
      · rename_i sz z by_ m k hsz hz hby hm hk
        split at h
        · rename_i hb1 hb2 hb3
          split at h
          · rename_i new hnew
            split at h
            · rename_i hnl
              rw [natbeq] at hnl
              have hnl := of_decide_eq_true hnl
              rw [len_eq] at hnl
              have hnl : new.length = k * sz := hnl
              have hb1 : (1024 + 4 * (m + k)) * (by_ + 1) ≤ 2 ^ 40 := Nat.ble_eq.mp hb1
              have hb3 : 0 < sz := Nat.ble_eq.mp hb3
              rw [natbeq] at hb2
              have hb2 := of_decide_eq_true hb2
              rw [len_eq] at hb2
              obtain ⟨i, zv, zs, hi, hzv, hzc, hzl, hzs⟩ := zeroC_run hz
              have hsi := sizeB_info hsz hi
              obtain ⟨i', hi', hbi⟩ := bytesB_run hby
              rw [hi] at hi'; injection hi' with hi'; subst hi'
              -- what the model does, once the slice's form is known
              have facts : ∀ {s : Sg} {N : Nat} {a : Act} {w : World}, EnvR s env N a.tmps → Rel P s H w → ∀ {base : Option Addr} {cap : Nat}, a.eval x = .slice base m cap → ∃ vs, concL s new = some vs ∧ vs.all Value.oneCell' = true ∧ vs.length = k * sz ∧
                  (m + k ≤ cap → (execOp a.eval o).run P w = (((match base with | some a => storeCells (a.add (m * sz)) vs | none => pure ()) >>= fun _ => (pure (.slice base (m + k) cap) : Sem Value)).run P w).andThen fun v w' => .ok (.value v) w') ∧
                  (cap < m + k → ∀ old, (∀ w', w'.heap = w.heap → (Builtin.firstCells sz m (.slice base m cap)).run P w' = .ok ⟨old⟩ w') → ∃ cc, m + k ≤ cc ∧ (execOp a.eval o).run P w =
                    .ok (.value (.slice (some ⟨w.heap.size, 0, none⟩) (m + k) cc)) (w.drew.alloc (.cells (⟨old ++ vs⟩ ++ Builtin.zeroCells zv.cells (cc - (m + k))) e))) := by
                intro s N a w he hr base cap hb
                obtain ⟨c1, c2⟩ := hzs s
                obtain ⟨vs, v1, v2, v3⟩ := appS_ok hr (opd_conc he hr.glob hy) hk hnew hzc (by rw [hzl, hb2]) c1 c2
                have v3' : AppS P t' i.size zv (a.eval y) k vs w := by rw [hsi]; exact v3
                obtain ⟨r1, r2⟩ := append_run (P := P) (ty := o.type) (arr0 hts) (arr1 hts) (args := c.args.map a.eval) (base := base) (m := m) (cap := cap) (by rw [Array.getElem?_map, arr0 has]; simp [hb]) (by rw [Array.getElem?_map, arr1 has]; rfl) hu hi hzv v3' (by rw [hbi]; exact hb1)
                rw [hsi] at r1 r2
                refine ⟨vs, v1, v2, by rw [concL_length v1]; exact hnl, fun h => ?_, fun h old hold => ?_⟩
                · rw [exec_builtin hop hc]
                  simp only [builtin, Sem.run_bind, r1 h, Sem.run_pure]
                · obtain ⟨cc, q1, q2⟩ := r2 h old hold
                  refine ⟨cc, q1, ?_⟩
                  rw [exec_builtin hop hc]
                  simp only [builtin, Sem.run_bind, q2, Result.andThen_ok, Sem.run_pure]
              have zcells : ∀ j, (Builtin.zeroCells zv.cells j).size = j * sz := fun j => by
                rw [size_zeroCells, hzc]; simp [hzl, hb2]
              -- a new row
              have grow : ∀ {s : Sg} {N : Nat} {a : Act} {w : World}, EnvR s env N a.tmps → ∀ {G : Heap}, Rel P s H w → Rel P s G w → Step s n H w s n G w → s.blk n = none → n < LIM → ∀ {base : Option Addr} {cap : Nat}, a.eval x = .slice base m cap → cap < m + k →
                  ∀ {old : List AV} {os : List Value}, concL s old = some os → os.all Value.oneCell' = true → os.length = m * sz → (∀ w', w'.heap = w.heap → (Builtin.firstCells sz m (.slice base m cap)).run P w' = .ok ⟨os⟩ w') → ∀ mk,
                  ∃ V s' w', Gives P o a w V w' ∧ (AV.sl n 0 (m + k) (.u 0)).conc s' = some V ∧ Rel P s' (Q8.upd G n (some (.row e (fun _ => none) (old ++ new).length (T.e.puts (old ++ new) 0) false mk))) w' ∧ Step s n H w s' (n + 1) (Q8.upd G n (some (.row e (fun _ => none) (old ++ new).length (T.e.puts (old ++ new) 0) false mk))) w' := by
                intro s N a w he G hr hG hst hn hl base cap hb hgr old os ho h1 hol hold mk
                obtain ⟨vs, v1, v2, v3, _, v5⟩ := facts he hr hb
                obtain ⟨cc, q1, q2⟩ := v5 hgr os hold
                have hle := Sg.set_le (s := s) (n := n) (b := w.heap.size) (c := cc) hn
                have hcon : concL (s.set n w.heap.size cc) (old ++ new) = some (os ++ vs) := concL_append (concL_le hle _ ho) (concL_le hle _ v1)
                have hrow := grown_row (P := P) (x := n) (e := e) (mk := mk) hcon (by simp only [List.all_append, h1, v2, Bool.and_self]) (rest := Builtin.zeroCells zv.cells (cc - (m + k))) hsz (c := cc) (need := m + k) (by simp [hol, v3, Nat.add_mul]) (zcells _) q1 (Sg.set_cap ..)
                have hGd : Rel P s G w.drew := hG.drew
                obtain ⟨r1, r2⟩ := hGd.alloc (n := n) hl hn cc hrow
                refine ⟨_, _, _, .inl q2, sl_conc.2 ⟨_, Sg.set_blk .., by simp [Cap.fits, Sg.set_cap, q1], by simp [Cap.val, Sg.set_cap]⟩, r1, ?_⟩
                have hd : Step s n G w s n G w.drew := Step.of_heap s n G rfl rfl rfl rfl
                exact (hst.trans hd (Nat.le_refl _) (Nat.le_refl _)).trans r2 (Nat.le_refl _) (Nat.le_succ _)
              unfold evApp at h
              rw [frc_eq] at h
              split at h
              · -- nil
                injection hm with hm; subst hm
                split at h
                · injection h with h1 h2 h3
                  subst h1 h2 h3
                  refine ⟨Nat.le_refl _, fun s N a w he hr _ _ => ?_⟩
                  have ed := opd_conc he hr.glob hx
                  simp only [AV.conc, Option.some.injEq] at ed
                  obtain ⟨vs, v1, v2, v3, v4, _⟩ := facts he hr ed.symm
                  refine ⟨_, s, w, .inl ?_, rfl, hr, Step.refl ..⟩
                  rw [v4 (Nat.le_refl _)]
                  simp
                · rename_i hk0
                  rw [newRowA_k] at h
                  injection h with h1 h2 h3
                  subst h1 h2 h3
                  refine ⟨Nat.le_succ _, fun s N a w he hr hf hl => ?_⟩
                  have ed := opd_conc he hr.glob hx
                  simp only [AV.conc, Option.some.injEq] at ed
                  have := grow he hr hr (Step.refl ..) (hf n (Nat.le_refl _) (Nat.lt_succ_self _)) hl ed.symm (by rw [Nat.zero_add]; exact Nat.pos_of_ne_zero hk0) (old := []) (os := []) rfl rfl (by simp) (fun w' _ => by simp [Builtin.firstCells]) (mkB P e)
                  exact this
              · rename_i g q m' cp
                injection hm with hm; subst hm
                split at h
                · rename_i e' z' r cs ex mk hH
                  split at h
                  · rename_i hle
                    have hle : m' + k ≤ cp := Nat.ble_eq.mp hle
                    split at h
                    · rename_i hroom
                      have hroom : q + (m' + k) * sz ≤ r := Nat.ble_eq.mp hroom
                      rw [putCells_k, Q8.set_k] at h
                      injection h with h1 h2 h3
                      subst h1 h2 h3
                      refine ⟨Nat.le_refl _, fun s N a w he hr _ _ => ?_⟩
                      obtain ⟨B, hB, hf, ed⟩ := sl_conc.1 (opd_conc he hr.glob hx)
                      obtain ⟨vs, v1, v2, v3, v4, _⟩ := facts he hr ed
                      obtain ⟨w', r1, r2, r3⟩ := write_ok hr hH hB v1 v2 (q := q + m' * sz) (by rw [hnl, Nat.add_assoc, ← Nat.add_mul]; exact hroom) n
                      refine ⟨_, s, w', .inl ?_, sl_conc.2 ⟨B, hB, by simp [Cap.fits, hle], rfl⟩, r2, r3⟩
                      rw [v4 hle]
                      simp [add_addr, r1, Cap.val]
                    · cases h
                  · rename_i hgr
                    have hgr : cp < m' + k := by
                      have : ¬ (m' + k ≤ cp) := fun e => by rw [show (m'.add k).ble cp = true from Nat.ble_eq.mpr e] at hgr; cases hgr
                      omega
                    split at h
                    · rename_i old hold
                      rw [frcL_eq, newRowA_k] at h
                      injection h with h1 h2 h3
                      subst h1 h2 h3
                      refine ⟨Nat.le_succ _, fun s N a w he hr hf hl => ?_⟩
                      obtain ⟨B, hB, hfi, ed⟩ := sl_conc.1 (opd_conc he hr.glob hx)
                      obtain ⟨b', ob, k1, k2, k3⟩ := hr.blk g _ (hr.lim g B hB) hH
                      rw [hB] at k1; injection k1 with k1; subst k1
                      obtain ⟨os, o1, o2, o3, o4⟩ := k3.cells k2 hold
                      exact grow he hr hr (Step.refl ..) (hf n (Nat.le_refl _) (Nat.lt_succ_self _)) hl ed (by simpa [Cap.val] using hgr) o1 o3 o2 (fun w' hw' => run_firstCells_some w' sz m' ⟨B, q, none⟩ m' _ os o2 (fun j v hv => by
                        have := o4 j v hv
                        unfold World.cell? at this ⊢
                        rw [hw']; exact this)) (mkB P e)
                    · cases h
                · cases h
              · rename_i g q m' u
                injection hm with hm; subst hm
                split at h
                · rename_i e' z' r cs ex mk hH
                  split at h
                  · cases h
                  · rename_i hcond
                    simp only [Bool.and_eq_true, natbeq, decide_eq_true_eq, Bool.not_eq_true'] at hcond
                    obtain ⟨⟨hq, he'⟩, hex⟩ := hcond
                    subst he' hex
                    have hq : q = u * sz := hq
                    have capEq : ∀ {s : Sg} {w : World} {B : Nat} {ob : Obj}, w.heap[B]? = some ob → BlkR P s g (.row e z' r cs false mk) ob → ∃ a fz, ob = .cells a e fz ∧ a.size = s.cap g * sz ∧ r ≤ a.size := by
                      intro s w B ob _ k3
                      cases ob with
                      | cells a t2 fz =>
                        obtain ⟨rfl, c2, c3, c4, c5⟩ := k3
                        simp only [Bool.false_eq_true, if_false] at c4
                        rw [sizeB_cells hsz] at c4
                        exact ⟨a, fz, rfl, c4, c2⟩
                      | _ => exact k3.elim
                    split at h
                    · rename_i hroom
                      have hroom : q + (m' + k) * sz ≤ r := Nat.ble_eq.mp hroom
                      rw [putCells_k, Q8.set_k] at h
                      injection h with h1 h2 h3
                      subst h1 h2 h3
                      refine ⟨Nat.le_refl _, fun s N a w he hr _ _ => ?_⟩
                      obtain ⟨B, hB, hf, ed⟩ := sl_conc.1 (opd_conc he hr.glob hx)
                      obtain ⟨b', ob, k1, k2, k3⟩ := hr.blk g _ (hr.lim g B hB) hH
                      rw [hB] at k1; injection k1 with k1; subst k1
                      obtain ⟨ar, fz, _, g1, g2⟩ := capEq k2 k3
                      have hcap : u + (m' + k) ≤ s.cap g := by
                        have h3 : (u + (m' + k)) * sz ≤ s.cap g * sz := by rw [Nat.add_mul, ← hq, ← g1]; omega
                        exact Nat.le_of_mul_le_mul_right h3 hb3
                      obtain ⟨vs, v1, v2, v3, v4, _⟩ := facts he hr ed
                      obtain ⟨w', r1, r2, r3⟩ := write_ok hr hH hB v1 v2 (q := q + m' * sz) (by rw [hnl, Nat.add_assoc, ← Nat.add_mul]; exact hroom) n
                      refine ⟨_, s, w', .inl ?_, sl_conc.2 ⟨B, hB, by simp [Cap.fits, hcap], rfl⟩, r2, r3⟩
                      rw [v4 (by simp only [Cap.val]; omega)]
                      simp [add_addr, r1, Cap.val]
                    · split at h
                      · split at h
                        · rename_i old hold
                          rw [frcL_eq, Q8.set_k, newRowA_k] at h
                          injection h with h1 h2 h3
                          subst h1 h2 h3
                          refine ⟨Nat.le_succ _, fun s N a w he hr hf hl => ?_⟩
                          have hn0 := hf n (Nat.le_refl _) (Nat.lt_succ_self _)
                          have hu0 : u = 0 := by
                            rcases Nat.eq_zero_or_pos u with e0 | e0
                            · exact e0
                            · have := Nat.mul_pos e0 hb3; omega
                          subst hu0
                          obtain ⟨B, hB, hfi, ed⟩ := sl_conc.1 (opd_conc he hr.glob hx)
                          have hglim := hr.lim g B hB
                          obtain ⟨b', ob, k1, k2, k3⟩ := hr.blk g _ hglim hH
                          rw [hB] at k1; injection k1 with k1; subst k1
                          obtain ⟨os, o1, o2, o3, o4⟩ := k3.cells k2 hold
                          have o2 : os.length = m' * sz := o2
                          by_cases hgr : s.cap g < m' + k
                          · exact grow he hr (hr.drop hglim) (Step.drop s n H w hglim) hn0 hl ed (by simpa [Cap.val] using hgr) o1 o3 o2 (fun w' hw' => run_firstCells_some w' sz m' ⟨B, 0, none⟩ m' _ os o2 (fun j v hv => by
                              have := o4 j v hv
                              unfold World.cell? at this ⊢
                              rw [hw']; exact this)) (mkB P e || mk)
                          · obtain ⟨ar, fz, hob, g1, g2⟩ := capEq k2 k3
                            subst hob
                            obtain ⟨vs, v1, v2, v3, v4, _⟩ := facts he hr ed
                            have hsize : (m' + k) * sz ≤ ar.size := by rw [g1]; exact Nat.mul_le_mul_right _ (by omega)
                            have hsz2 : m' * sz + vs.length ≤ ar.size := by rw [v3, ← Nat.add_mul]; exact hsize
                            obtain ⟨a', q1, q2, q3, q4, q5, q6, q7, q8⟩ := setCells_row B e fz vs (m' * sz) w ar k2 hsz2
                            have hrun : (storeCells ⟨B, m' * sz, none⟩ vs).run P w = .ok () (w.setCells B (m' * sz) vs) := by
                              have := run_storeCells_cells (P := P) B (m' * sz) vs 0 w (fun j hj => ?_) (fun j hj => ?_) (fun v hv => (List.all_eq_true.1 v2) v hv)
                              · simpa using this
                              · simp only [Nat.add_zero, World.cell?, k2]
                                have : m' * sz + j < ar.size := by omega
                                simp [this]
                              · exact k3.frozen k2 (show m' * sz + 0 + j < ar.size by omega)
                            have hle := Sg.set_le (s := s) (n := n) (b := B) (c := s.cap g) hn0
                            have hrow : BlkR P (s.set n B (s.cap g)) n (.row e (fun _ => none) (old ++ new).length (T.e.puts (old ++ new) 0) false (mkB P e || mk)) (.cells a' e fz) := by
                              have hcon : concL (s.set n B (s.cap g)) (old ++ new) = some (os ++ vs) := concL_append (concL_le hle _ o1) (concL_le hle _ v1)
                              have hll := concL_length hcon
                              refine ⟨rfl, by rw [q2, ← hll, List.length_append, o2]; exact hsz2, fun i A hA => ?_, ?_, ?_⟩
                              · obtain ⟨V, w1, w2⟩ := concL_get hcon (cellAt_puts hA)
                                refine ⟨V, w1, ?_, (List.all_eq_true.1 (show (os ++ vs).all Value.oneCell' = true by simp only [List.all_append, o3, v2, Bool.and_self])) V (List.mem_of_getElem? w2)⟩
                                rw [q3 i]
                                by_cases hi : i < m' * sz
                                · rw [if_neg (by omega)]
                                  rw [List.getElem?_append_left (by omega)] at w2
                                  have := o4 i V w2
                                  rw [add_addr, Nat.zero_add] at this
                                  simpa [World.cell?, k2] using this
                                · have hlt : i < m' * sz + vs.length := by
                                    have := (List.getElem?_eq_some_iff.1 w2).1
                                    rw [List.length_append, o2] at this; exact this
                                  rw [if_pos ⟨by omega, hlt⟩]
                                  rw [List.getElem?_append_right (by omega), o2] at w2
                                  exact w2
                              · simp only [Bool.false_eq_true, if_false, Sg.set_cap, q2, g1, sizeB_cells hsz]
                              · obtain ⟨_, _, _, _, c5⟩ := k3
                                rcases c5 with c5 | ⟨c5, c6⟩
                                · exact .inl c5
                                · exact .inr ⟨by simp [c5], by rw [q2]; exact c6⟩
                            obtain ⟨r1, r2⟩ := hr.alias (n := n) hl hn0 hglim hH hB q5 q1 hrow q4 q6 q7 q8
                            refine ⟨_, _, _, .inl ?_, sl_conc.2 ⟨B, Sg.set_blk .., by simp [Cap.fits, Sg.set_cap]; omega, rfl⟩, r1, r2⟩
                            rw [v4 (by simp only [Cap.val]; omega)]
                            simp [add_addr, hrun, Cap.val, Sg.set_cap]
                        · cases h
                      · cases h
                · cases h
              · cases h
            · cases h
          · cases h
        · cases h
      · cases h
    · cases h
  · cases h
end
end Go.Sy
namespace Go.Sy
open Go
section
variable {P : Program}
/-- What an operation of that kind keeps. -/
def KOk (P : Program) (k : K) (o : Oper) (env : Env) (n : Nat) (H : Heap) (v : AV) (n' : Nat) (H' : Heap) : Prop :=
  match k with
  | .pure => n' = n ∧ H' = H ∧ PureOk P o env v
  | .read => n' = n ∧ H' = H ∧ ReadOk P o env H v
  | .new => (n' = n ∧ H' = H ∧ PureOk P o env v) ∨ ∃ A, n' = n + 1 ∧ H' = Q8.upd H n (some A) ∧ NewOk P o env n v A
  | .chain => OpOk P o env n H v n' H'
theorem KOk.op {k : K} {o : Oper} {env : Env} {n n' : Nat} {H H' : Heap} {v : AV} (h : KOk P k o env n H v n' H') : OpOk P o env n H v n' H' := by
  cases k with
  | pure => obtain ⟨rfl, rfl, h⟩ := h; exact h.op
  | read => obtain ⟨rfl, rfl, h⟩ := h; exact h.op
  | new =>
    rcases h with ⟨rfl, rfl, h⟩ | ⟨A, rfl, rfl, h⟩
    · exact h.op
    · exact h.op
  | chain => exact h
theorem KOk.ofPure {k : K} {o : Oper} {env : Env} {n n' : Nat} {H H' : Heap} {v : AV} (h : n' = n ∧ H' = H ∧ PureOk P o env v) : KOk P k o env n H v n' H' := by
  cases k with
  | pure => exact h
  | read => exact ⟨h.1, h.2.1, h.2.2.read⟩
  | new => exact .inl h
  | chain => obtain ⟨rfl, rfl, h⟩ := h; exact h.op
theorem foldl_push : ∀ (ns : List Int) (r : ByteArray), ns.foldl (fun r n => r.push (UInt8.ofNat n.toNat)) r = ⟨r.data ++ (ns.map fun n => UInt8.ofNat n.toNat).toArray⟩
  | [], r => by simp
  | n :: ns, r => by
    rw [List.foldl_cons, foldl_push ns]
    simp [ByteArray.push]
/-- The bytes of some cells. -/
noncomputable def bytesC (l : List AV) : Option (List UInt8) := List.rec (some []) (fun v _ ih => match v with | .i .u8 (.ofNat b) => (match ih with | some r => some (UInt8.ofNat b :: r) | none => none) | _ => none) l
theorem bytesC_cons (v : AV) (l : List AV) : bytesC (v :: l) = (match v with | .i .u8 (.ofNat b) => (match bytesC l with | some r => some (UInt8.ofNat b :: r) | none => none) | _ => none) := rfl
theorem bytesC_ok {s : Sg} : ∀ {l : List AV} {vs : List Value} {r : List UInt8}, bytesC l = some r → concL s l = some vs → ∃ ns : List Int, vs = ns.map (Value.int .u8) ∧ r = ns.map (fun n => UInt8.ofNat n.toNat)
  | [], vs, r, h, hc => by
    injection h with h; injection hc with hc
    subst h hc
    exact ⟨[], rfl, rfl⟩
  | v :: l, vs, r, h, hc => by
    rw [bytesC_cons] at h
    obtain ⟨V, us, h1, h2, rfl⟩ := concL_cons.1 hc
    split at h
    · rename_i b
      split at h
      · rename_i r' hr'
        injection h with h; subst h
        obtain ⟨ns, k1, k2⟩ := bytesC_ok hr' h2
        simp only [AV.conc, Option.some.injEq] at h1
        refine ⟨Int.ofNat b :: ns, ?_, ?_⟩
        · rw [List.map_cons, ← k1, ← h1]
        · rw [List.map_cons, ← k2]; rfl
      · cases h
    · cases h
theorem Rel.congr {s : Sg} {H H' : Heap} {w : World} (h : Rel P s H w) (e : ∀ x, x < LIM → Q8.get H' x = Q8.get H x) : Rel P s H' w :=
  ⟨h.lim, h.glob, fun x A hx hA => h.blk x A hx (by rw [← e x hx]; exact hA), fun x y b hx hy h1 h2 => h.inj x y b hx hy (by rw [← e x hx]; exact h1) (by rw [← e y hy]; exact h2)⟩
theorem Step.congr {s s' : Sg} {n n' : Nat} {H H1 H2 : Heap} {w w' : World} (h : Step s n H w s' n' H1 w') (e : ∀ x, x < LIM → Q8.get H2 x = Q8.get H1 x) : Step s n H w s' n' H2 w' :=
  ⟨h.off, h.size, h.frame, fun y b hy h1 h2 h3 => h.dom y b hy (by rw [← e y hy]; exact h1) h2 h3, h.os, h.tape, h.output⟩
theorem exec_convert {o : Oper} {s d : TypeId} {x : Operand} (hop : o.op = .convert s d x) (ρ : Operand → Value) : execOp ρ o = (do pure (.value (← convert s d (ρ x)))) := by
  obtain ⟨dst, op', ty, pos, af, gu⟩ := o
  simp only at hop
  subst hop
  rfl
theorem exec_convert_run {o : Oper} {s d : TypeId} {x : Operand} (hop : o.op = .convert s d x) {ρ : Operand → Value} {w w' : World} {V : Value} (h : (convert s d (ρ x)).run P w = .ok V w') : (execOp ρ o).run P w = .ok (.value V) w' := by
  rw [exec_convert hop]
  simp only [Sem.run_bind, h, Result.andThen_ok, Sem.run_pure]
theorem evConvert_ok {o : Oper} {sT dT : TypeId} {x : Operand} (hop : o.op = .convert sT dT x) {env : Env} {n n' : Nat} {H H' : Heap} {v : AV} (h : evConvert P o sT dT x env n H = .val v n' H') :
    KOk P (kindOf P o.op) o env n H v n' H' := by
  have ground : ∀ {v n' H'}, evGround P o env n H = .val v n' H' → ∀ k, KOk P k o env n H v n' H' := fun hg k => .ofPure (evGround_ok (P := P) (o := o) (fun cs b => by rw [hop]; simp) hg)
  rw [hop]
  unfold evConvert at h
  split at h
  · rename_i j k j2 a hs hd hx
    rcases natV_ok h with e | ⟨h1, h2, h3, h4⟩
    · exact ground e _
    · subst h1 h2 h3
      refine .ofPure ⟨rfl, rfl, fun s N ac he hg => ⟨_, rfl, fun w => exec_convert_run hop ?_⟩⟩
      have ex := opd_conc he hg hx
      simp only [AV.conc, Option.some.injEq] at ex
      rw [← ex]
      have := wrap_nat h4
      simp [convert, run_underlying hs, run_underlying hd, Conv.intToInt]
      exact this
  · rename_i e l hs hd hx
    split at h
    · rename_i z hu hz
      split at h
      · rename_i hb
        have hb : z = 1 := by simpa using hb
        subst hb
        rw [frcL_eq, frc_eq, newRowA_k] at h
        injection h with h1 h2 h3
        subst h1 h2 h3
        simp only [kindOf, hs, hd]
        refine .inr ⟨_, rfl, rfl, fun s N ac w he hg hn => ?_⟩
        have ex := opd_conc he hg hx
        simp only [AV.conc, Option.some.injEq] at ex
        have hlen : len l = l.length := len_eq l
        have hrun := run_bytes_of_string (P := P) w sT dT e ⟨⟨l⟩⟩ hs hd hu
        have hge := grownCap_ge w (ByteArray.size ⟨⟨l⟩⟩) 0 e
        have hsz : ByteArray.size ⟨⟨l⟩⟩ = l.length := rfl
        rw [hsz] at hge
        rw [ex] at hrun
        refine ⟨_, _, grownCap w l.length 0 e, _, exec_convert_run hop hrun, rfl, rfl, rfl, rfl, ?_, ?_⟩
        · rw [hlen]
          exact sl_conc.2 ⟨_, Sg.set_blk .., by simp [Cap.fits, Sg.set_cap]; exact hge, by simp [Cap.val, Sg.set_cap, hsz]⟩
        · have hsize : (bytesRow ⟨⟨l⟩⟩ (grownCap w l.length 0 e)).size = grownCap w l.length 0 e := by
            simp [bytesRow, hsz]; omega
          refine ⟨rfl, ?_, fun i A hA => ?_, ?_, .inr ⟨rfl, rfl⟩⟩
          · rw [hsz, hsize]; simpa using hge
          · have hc : ∀ (s' : Sg) (l : List UInt8), concL s' (l.map fun b => AV.i .u8 (.ofNat b.toNat)) = some (l.map fun b => Value.int .u8 (.ofNat b.toNat)) := fun s' l => by
              induction l with
              | nil => rfl
              | cons b l ih => rw [List.map_cons, List.map_cons]; exact concL_cons.2 ⟨_, _, rfl, ih, rfl⟩
            have hc := hc (s.set n w.heap.size (grownCap w l.length 0 e)) l
            obtain ⟨V, v1, v2⟩ := concL_get hc (cellAt_puts hA)
            rw [List.getElem?_map] at v2
            refine ⟨V, v1, ?_, ?_⟩
            · have hi : i < l.length := by
                cases hli : l[i]? with
                | none => rw [hli] at v2; cases v2
                | some b => exact (List.getElem?_eq_some_iff.1 hli).1
              rw [hsz, bytesRow, Array.getElem?_append_left (by simpa using hi)]
              simpa using v2
            · cases hli : l[i]? with
              | none => rw [hli] at v2; cases v2
              | some b => rw [hli] at v2; injection v2 with v2; subst v2; rfl
          · simp only [Bool.false_eq_true, if_false]
            rw [hsz, hsize, Sg.set_cap, sizeB_cells hz, Nat.mul_one]
      · cases h
    · cases h
  · rename_i e2 e y q m c hs hd hx
    split at h
    · rename_i et ez m2 cs2 ex2 hu hsd hH
      injection h with h1 h2 h3
      subst h1 h2 h3
      have hsd : sT = dT := by simpa using hsd
      subst hsd
      simp only [kindOf, hs]
      refine ⟨rfl, rfl, fun s N ac w n he hr => ?_⟩
      obtain ⟨B, hB, hf, ed⟩ := sl_conc.1 (opd_conc he hr.glob hx)
      have hy := hr.lim y B hB
      obtain ⟨b', ob, k1, k2, k3⟩ := hr.blk y _ hy hH
      rw [hB] at k1; injection k1 with k1; subst k1
      cases ob with
      | cells a t2 fz =>
        obtain ⟨rfl, c2, c3, c4, c5⟩ := k3
        have hfr : (World.freeze w ⟨B, a.size, none⟩ 1).heap[B]? = some (.cells a t2 (a.size, a.size + 1)) := by
          unfold World.freeze
          rw [if_neg (by decide)]
          simp only [Array.getElem?_modify, k2, if_true, Option.map_some, Option.some.injEq, Obj.cells.injEq, true_and]
          rcases c5 with e | ⟨_, e⟩
          · rw [e]; simp
          · rw [e]
            have : (a.size == a.size + 1) = false := by simp
            simp [this]
        have hoth : ∀ b, b ≠ B → (World.freeze w ⟨B, a.size, none⟩ 1).heap[b]? = w.heap[b]? := fun b hb => by
          unfold World.freeze
          rw [if_neg (by decide)]
          simp [Array.getElem?_modify, Ne.symm hb]
        have hrow : BlkR P s y (.row t2 ez m2 cs2 ex2 true) (.cells a t2 (a.size, a.size + 1)) := ⟨rfl, c2, c3, c4, .inr ⟨rfl, rfl⟩⟩
        obtain ⟨r1, r2⟩ := hr.write n hy hH hB (w' := World.freeze w ⟨B, a.size, none⟩ 1) (A' := .row t2 ez m2 cs2 ex2 true) (by unfold World.freeze; rw [if_neg (by decide)]; simp) hfr hrow hoth (by unfold World.freeze; rw [if_neg (by decide)]) (by unfold World.freeze; rw [if_neg (by decide)]) (by unfold World.freeze; rw [if_neg (by decide)])
        have hsame : ∀ x, x < LIM → Q8.get H x = Q8.get (Q8.upd H y (some (.row t2 ez m2 cs2 ex2 true))) x := fun x hx => by
          rw [Q8.get_upd _ _ _ _ hy hx]
          split
          · rename_i e; subst e; exact hH
          · rfl
        have hsh : w.shape? B = some (t2, a.size) := by unfold World.shape?; rw [k2]
        refine ⟨_, _, exec_convert_run hop ?_, sl_conc.2 ⟨B, hB, hf, rfl⟩, r1.congr hsame, r2.congr hsame⟩
        rw [ed]
        simp [convert, run_underlying hd, run_underlying hu, markStringish, hsh]
      | _ => exact k3.elim
    · cases h
  · rename_i e a hs hd hx
    simp only [kindOf, hs, hd]
    have empty : ∀ {u : AV}, (∀ (s : Sg) V, u.conc s = some V → V = .slice none 0 0 ∨ ∃ b c, V = .slice (some b) 0 c) → opd env x = some u → P.underlying e = some (.int .u8) → ReadOk P o env H (.s []) := fun {u} hu hx he8 s N ac w n he hr => by
      have ed := opd_conc he hr.glob hx
      refine ⟨.string ⟨⟨[]⟩⟩, w, exec_convert_run hop ?_, rfl, hr, Step.refl ..⟩
      rcases hu s _ ed with e1 | ⟨b, c, e1⟩
      · rw [e1, run_convert_bytes_string w sT dT e none 0 0 hs he8 hd]
        rfl
      · rw [e1]
        exact run_convert_bytes_back w sT dT e b c [] hs he8 hd (fun j hj => absurd hj (Nat.not_lt_zero _))
    split at h
    · rename_i he8
      injection h with h1 h2 h3
      subst h1 h2 h3
      exact ⟨rfl, rfl, empty (fun s V hV => .inl (by simpa [AV.conc] using hV.symm)) hx he8⟩
    · rename_i x1 x2 x3 x4 he8
      injection h with h1 h2 h3
      subst h1 h2 h3
      exact ⟨rfl, rfl, empty (fun s V hV => let ⟨b, _, _, h3⟩ := se_conc.1 hV; .inr ⟨_, _, h3⟩) hx he8⟩
    · rename_i y q m c he8
      split at h
      · rename_i t z r cs ex mk hH
        split at h
        · rename_i l hl
          split at h
          · rename_i bs hbs
            injection h with h1 h2 h3
            subst h1 h2 h3
            refine ⟨rfl, rfl, fun s N ac w n he hr => ?_⟩
            obtain ⟨B, hB, hf, ed⟩ := sl_conc.1 (opd_conc he hr.glob hx)
            have hy := hr.lim y B hB
            obtain ⟨b', ob, k1, k2, k3⟩ := hr.blk y _ hy hH
            rw [hB] at k1; injection k1 with k1; subst k1
            obtain ⟨os, o1, o2, o3, o4⟩ := k3.cells k2 hl
            obtain ⟨ns, p1, p2⟩ := bytesC_ok hbs o1
            refine ⟨_, w, exec_convert_run hop ?_, rfl, hr, Step.refl ..⟩
            rw [ed, run_convert_bytes_string w sT dT e _ _ _ hs he8 hd]
            have hl := run_loadCells_list (P := P) w ⟨B, q, none⟩ os (fun j v hv => o4 j v hv)
            rw [o2, p1] at hl
            rw [run_bytesToString w ⟨B, q, none⟩ m _ ns hl]
            have he0 : ByteArray.empty.data = #[] := rfl
            rw [p2, foldl_push ns ByteArray.empty, he0]
            simp
          · cases h
        · cases h
      · cases h
    · cases h
  · exact ground h _
end
end Go.Sy
namespace Go.Sy
open Go
section
variable {P : Program}
theorem range_new {o : Oper} {t : TypeId} {x : Operand} (hop : o.op = .range t x) {a : Act} {w : World} {ob : Obj} (h : (Instr.range t (a.eval x)).run P w = .ok (.pointer (some ⟨w.heap.size, 0, none⟩)) (w.alloc ob)) :
    (execOp a.eval o).run P w = .ok (.value (.pointer (some ⟨w.heap.size, 0, none⟩))) (w.alloc ob) := by
  simp [execOp, hop, h]
theorem evMapRange_ok {o : Oper} {t : TypeId} {x : Operand} (hop : o.op = .range t x) {env : Env} {n n' : Nat} {H H' : Heap} {v : AV} (h : evMapRange P t x env n H = .val v n' H') : OpOk P o env n H v n' H' := by
  unfold evMapRange at h
  split at h
  · rename_i kt e hx hu
    rw [Q8.set_k, frc_eq] at h
    injection h with h1 h2 h3
    subst h1 h2 h3
    refine ⟨Nat.le_succ _, fun s N a w he hr hf hl => ?_⟩
    have h0 := hf n (Nat.le_refl _) (Nat.lt_succ_self _)
    have ex := opd_conc he hr.glob hx
    simp only [AV.conc, Option.some.injEq] at ex
    obtain ⟨r1, r2⟩ := hr.alloc (n := n) (Nat.lt_of_lt_of_le (Nat.lt_succ_self _) hl) h0 (A := .iter none 0 [] 0) (o := .mapIter none 0 #[] 0) 0 ⟨rfl, rfl, rfl⟩
    refine ⟨_, _, _, .inl (range_new hop (ob := .mapIter none 0 #[] 0) ?_), by simp [AV.conc, Sg.set], r1, r2⟩
    simp [Instr.range, underlying_run hu, ← ex]
  · rename_i y kt e hx hu
    split at h
    · rename_i es cl hH
      rw [Q8.set_k, frc_eq] at h
      injection h with h1 h2 h3
      subst h1 h2 h3
      refine ⟨Nat.le_succ _, fun s N a w he hr hf hl => ?_⟩
      have h0 := hf n (Nat.le_refl _) (Nat.lt_succ_self _)
      obtain ⟨B, fs, hB, e1, e2, e3⟩ := map_at he hr hx hH
      have hne : y ≠ n := fun e => by rw [e, h0] at hB; cases hB
      obtain ⟨r1, r2⟩ := hr.alloc (n := n) (Nat.lt_of_lt_of_le (Nat.lt_succ_self _) hl) h0 (A := .iter (some y) cl [] cl) (o := .mapIter (some B) cl #[] cl) 0 ⟨by simp [Sg.set, hne, hB], rfl, rfl, rfl⟩
      refine ⟨_, _, _, .inl (range_new hop (ob := .mapIter (some B) cl #[] cl) ?_), by simp [AV.conc, Sg.set], r1, r2⟩
      simp [Instr.range, underlying_run hu, e1, getObj_map (P := P) e2]
    · cases h
  · cases h
theorem iter_at {s : Sg} {N : Nat} {a : Act} {env : Env} {H : Heap} {w : World} (he : EnvR s env N a.tmps) (hr : Rel P s H w) {x : Operand} {y : Nat} (hx : opd env x = some (.p y 0)) {A : Blk} (hH : Q8.get H y = some A) :
    ∃ b ob, s.blk y = some b ∧ a.eval x = .pointer (some ⟨b, 0, none⟩) ∧ w.heap[b]? = some ob ∧ BlkR P s y A ob := by
  have ex := opd_conc he hr.glob hx
  simp only [AV.conc, Option.map_eq_some_iff] at ex
  obtain ⟨b, hb, ex⟩ := ex
  obtain ⟨b', ob, h1, h2, h3⟩ := hr.blk y _ (hr.lim y b hb) hH
  rw [hb] at h1; injection h1 with h1; subst h1
  exact ⟨b, ob, hb, ex.symm, h2, h3⟩
theorem memN_eq (b : Nat) (l : List Nat) : memN b l = l.contains b := by
  induction l with
  | nil => rfl
  | cons a l ih =>
    show (match Nat.beq a b with | true => true | false => memN b l) = _
    rw [ih, List.contains_cons, natbeq]
    by_cases h : a = b
    · subst h; simp
    · have : ¬ b = a := fun e => h e.symm
      simp [h, this]
theorem leftL_rel {s : Sg} {seen : List Nat} : ∀ {es : List (AV × AV × Nat)} {fs : List MapEntry}, All2 (MapR s) es fs → All2 (MapR s) (leftL seen es) (fs.filter fun e => !seen.contains e.born)
  | [], [], _ => trivial
  | e :: es, f :: fs, ⟨h1, h2⟩ => by
    have ih := leftL_rel (seen := seen) h2
    have hb := h1.2.2
    show All2 (MapR s) (match memN e.2.2 seen with | true => leftL seen es | false => e :: leftL seen es) _
    rw [List.filter_cons, hb, memN_eq]
    cases hc : seen.contains e.2.2 with
    | true => simpa using ih
    | false => simp only [Bool.not_false, if_true]; exact ⟨h1, ih⟩
theorem allGe_eq {s : Sg} {last : Nat} : ∀ {es : List (AV × AV × Nat)} {fs : List MapEntry}, All2 (MapR s) es fs → allGe last es = fs.all (fun e => decide (e.born ≥ last))
  | [], [], _ => rfl
  | e :: es, f :: fs, ⟨h1, h2⟩ => by
    have ih := allGe_eq (last := last) h2
    show (match Nat.ble last e.2.2 with | true => allGe last es | false => false) = _
    rw [List.all_cons, h1.2.2, ih]
    cases hc : Nat.ble last e.2.2 with
    | true => simp [Nat.le_of_ble_eq_true hc]
    | false =>
      have : ¬ last ≤ e.2.2 := fun h => by rw [Nat.ble_eq_true_of_le h] at hc; cases hc
      simp [this]
theorem staleB_eq {s : Sg} {seen : List Nat} {last : Nat} {es : List (AV × AV × Nat)} {fs : List MapEntry} (h : All2 (MapR s) es fs) : staleB seen es last = (!seen.isEmpty && !fs.isEmpty && fs.all (fun e => decide (e.born ≥ last))) := by
  unfold staleB
  split
  · rfl
  · cases fs with
    | nil => simp
    | cons => exact h.elim
  · rw [allGe_eq h]
    cases fs with
    | nil => exact h.elim
    | cons => simp
theorem getB_ok {s : Sg} {b : Nat} {e : AV × AV × Nat} : ∀ {es : List (AV × AV × Nat)} {fs : List MapEntry}, All2 (MapR s) es fs → getB b es = some e → ∃ f, fs.find? (fun x => x.born == b) = some f ∧ MapR s e f
  | [], [], _, h => by cases h
  | x :: es, f :: fs, ⟨h1, h2⟩, h => by
    have h : (match Nat.beq x.2.2 b with | true => some x | false => getB b es) = some e := h
    rw [List.find?_cons, h1.2.2]
    cases hc : Nat.beq x.2.2 b with
    | true =>
      rw [hc] at h
      injection h with h; subst h
      have := Nat.eq_of_beq_eq_true hc
      exact ⟨f, by simp [this], h1⟩
    | false =>
      rw [hc] at h
      have : ¬ x.2.2 = b := fun e => by rw [natbeq] at hc; simp [e] at hc
      obtain ⟨f', h3, h4⟩ := getB_ok h2 h
      have hbq : (x.2.2 == b) = false := by simpa using this
      exact ⟨f', by rw [hbq]; exact h3, h4⟩
theorem next_exec {o : Oper} {it : Operand} {st : Bool} (hop : o.op = .next it st) {a : Act} {w w' : World} {V : Value} (h : (Instr.next (a.eval it) st o.type).run P w = .ok V w') : (execOp a.eval o).run P w = .ok (.value V) w' := by
  simp [execOp, hop, h]
theorem getObj_iter {w : World} {b : Nat} {m : Option Nat} {q : Array Nat} {x l : Nat} (h : w.heap[b]? = some (.mapIter m x q l)) : (getObj b).run P w = .ok (.mapIter m x q l) w := by simp [getObj, Sem.run, h]
theorem setObj_iter {w : World} {b : Nat} {m : Option Nat} {q : Array Nat} {x l : Nat} (ob : Obj) (h : w.heap[b]? = some (.mapIter m x q l)) : (setObj b ob).run P w = .ok () { w with heap := w.heap.setIfInBounds b ob } := by simp [setObj, Sem.run, h]
theorem all2_nil {α β : Type} {R : α → β → Prop} {l : List β} (h : All2 R [] l) : l = [] := by cases l with | nil => rfl | cons => exact h.elim
theorem all2_one {α β : Type} {R : α → β → Prop} {a : α} {l : List β} (h : All2 R [a] l) : ∃ b, l = [b] ∧ R a b := by
  match l, h with
  | [b], h => exact ⟨b, rfl, h.1⟩
theorem choose1 (w : World) : (choose (.mapNext 1)).run P w = .ok 0 w := by simp [choose, Sem.run, Question.forced]
theorem evMapNext_ok {o : Oper} {it : Operand} {st : Bool} (hop : o.op = .next it st) {env : Env} {n n' : Nat} {H H' : Heap} {v : AV} (h : evMapNext it st env n H = .val v n' H') : OpOk P o env n H v n' H' := by
  unfold evMapNext at h
  split at h
  · rename_i y hx
    split at h
    · rename_i s1 s2 s3 hH
      injection h with h1 h2 h3
      subst h1 h2 h3
      refine ⟨Nat.le_refl _, fun s N a w he hr _ _ => ?_⟩
      obtain ⟨b, ob, hb, e1, e2, e3⟩ := iter_at he hr hx hH
      cases ob with
      | mapIter m x q l =>
        cases m with
        | none =>
          refine ⟨.tuple #[.bool false], s, w, .inl (next_exec hop ?_), by simp [AV.conc, concL], hr, Step.refl ..⟩
          simp [Instr.next, e1, getObj_iter (P := P) e2]
        | some b' => exact e3.elim
      | _ => exact e3.elim
    · rename_i z since seen last hH
      split at h
      · rename_i es cl hZ
        split at h
        · rename_i hst hleft
          injection h with h1 h2 h3
          subst h1 h2 h3
          refine ⟨Nat.le_refl _, fun s N a w he hr _ _ => ?_⟩
          obtain ⟨b, ob, hb, e1, e2, e3⟩ := iter_at he hr hx hH
          cases ob with
          | mapIter m x q l =>
            cases m with
            | none => exact e3.elim
            | some b' =>
              obtain ⟨k1, rfl, k3, rfl⟩ := e3
              obtain ⟨b2, ob2, g1, g2, g3⟩ := hr.blk z _ (hr.lim z b' k1) hZ
              rw [k1] at g1; injection g1 with g1; subst g1
              cases ob2 with
              | map fs cl' =>
                obtain ⟨rfl, g3⟩ := g3
                refine ⟨_, s, w, .inl (next_exec hop (V := .tuple #[.bool false]) ?_), by simp [AV.conc, concL], hr, Step.refl ..⟩
                have hl := leftL_rel (seen := seen) g3
                rw [hleft] at hl
                have hl := all2_nil hl
                have hs := staleB_eq (seen := seen) (last := l) g3
                rw [hst] at hs
                have hf : (fs.filter fun e => !q.contains e.born) = #[] := by
                  apply Array.toList_inj.1
                  rw [Array.toList_filter, ← hl, ← k3]
                  simp
                have hs' : (!q.isEmpty && !fs.isEmpty && fs.all (fun x => decide (x.born ≥ l))) = false := by
                  rw [hs, ← k3]; simp
                rw [e1]
                simp only [Instr.next, Sem.run_bind, getObj_iter (P := P) e2, getObj_map (P := P) g2, Result.andThen_ok, hs', hf, Bool.false_eq_true, if_false]
                simp [choose, Sem.run, Question.forced]
              | _ => exact g3.elim
          | _ => exact e3.elim
        · rename_i e hst hleft
          split at h
          · rename_i hlt
            have hlt : e.2.2 < since := Nat.le_of_ble_eq_true hlt
            rw [frcL_eq, Q8.set_k] at h
            injection h with h1 h2 h3
            subst h1 h2 h3
            refine ⟨Nat.le_refl _, fun s N a w he hr _ _ => ?_⟩
            obtain ⟨b, ob, hb, e1, e2, e3⟩ := iter_at he hr hx hH
            cases ob with
            | mapIter m x q l =>
              cases m with
              | none => exact e3.elim
              | some b' =>
                obtain ⟨k1, rfl, k3, rfl⟩ := e3
                obtain ⟨b2, ob2, g1, g2, g3⟩ := hr.blk z _ (hr.lim z b' k1) hZ
                rw [k1] at g1; injection g1 with g1; subst g1
                cases ob2 with
                | map fs cl' =>
                  obtain ⟨rfl, g3⟩ := g3
                  have hl := leftL_rel (seen := seen) g3
                  rw [hleft] at hl
                  obtain ⟨f, hl, hm⟩ := all2_one hl
                  have hs := staleB_eq (seen := seen) (last := l) g3
                  rw [hst] at hs
                  have hf : (fs.filter fun e => !q.contains e.born) = #[f] := by
                    apply Array.toList_inj.1
                    rw [Array.toList_filter]
                    show _ = [f]
                    rw [← hl, ← k3]
                    simp
                  have hs' : (!q.isEmpty && !fs.isEmpty && fs.all (fun x => decide (x.born ≥ l))) = false := by
                    rw [hs, ← k3]; simp
                  have hfb : f.born < x := by rw [hm.2.2]; exact hlt
                  obtain ⟨r1, r2⟩ := hr.write n (hr.lim y b hb) hH hb (w' := { w with heap := w.heap.setIfInBounds b (.mapIter (some b') x (q.push f.born) cl') }) (o := .mapIter (some b') x (q.push f.born) cl')
                    (A' := .iter (some z) x (seen ++ [e.2.2]) cl') (by simp) (by
                      have := (Array.getElem?_eq_some_iff.1 e2).1
                      simp [this]) ⟨k1, rfl, by simp [k3, hm.2.2], rfl⟩ (fun c hc => by simp [Ne.symm hc]) rfl rfl rfl
                  refine ⟨.tuple #[.bool true, f.key, f.val], s, _, .inl (next_exec hop ?_), by simp [AV.conc, concL, hm.1, hm.2.1], r1, r2⟩
                  rw [e1]
                  have o1 : (#[f].filter fun e => decide (e.born < x)) = #[f] := by simp [hfb]
                  have o2 : (#[f].filter fun e => decide (e.born ≥ x)) = #[] := by simp; omega
                  simp only [Instr.next, Sem.run_bind, getObj_iter (P := P) e2, getObj_map (P := P) g2, Result.andThen_ok, hs', hf, Bool.false_eq_true, if_false, o1, o2]
                  simp [choose, Sem.run, Question.forced, setObj, e2]
                | _ => exact g3.elim
            | _ => exact e3.elim
          · cases h
        · cases h
      · cases h
    · cases h
  · cases h
theorem evItEntry_ok {o : Oper} {it : Operand} (hop : o.op = .entry it) {env : Env} {n n' : Nat} {H H' : Heap} {v : AV} (h : evItEntry it env n H = .val v n' H') : OpOk P o env n H v n' H' := by
  unfold evItEntry at h
  split at h
  · rename_i y hx
    split at h
    · rename_i z since seen last hH
      split at h
      · rename_i bo es cl hlast hZ
        split at h
        · rename_i e hcl hg
          injection h with h1 h2 h3
          subst h1 h2 h3
          have hcl := Nat.eq_of_beq_eq_true hcl
          refine ⟨Nat.le_refl _, fun s N a w he hr _ _ => ?_⟩
          obtain ⟨b, ob, hb, e1, e2, e3⟩ := iter_at he hr hx hH
          cases ob with
          | mapIter m x q l =>
            cases m with
            | none => exact e3.elim
            | some b' =>
              obtain ⟨k1, rfl, k3, rfl⟩ := e3
              obtain ⟨b2, ob2, g1, g2, g3⟩ := hr.blk z _ (hr.lim z b' k1) hZ
              rw [k1] at g1; injection g1 with g1; subst g1
              cases ob2 with
              | map fs cl' =>
                obtain ⟨rfl, g3⟩ := g3
                obtain ⟨f, hf, hm⟩ := getB_ok g3 hg
                have hbk : q.back? = some bo := by
                  rw [← k3] at hlast
                  simpa using hlast
                have hfd : fs.find? (fun x => x.born == bo) = some f := by
                  rw [← Array.find?_toList]; exact hf
                refine ⟨.tuple #[f.key, f.val], s, w, .inl ?_, by simp [AV.conc, concL, hm.1, hm.2.1], hr, Step.refl ..⟩
                simp [execOp, hop, Instr.entry, e1, getObj_iter (P := P) e2, getObj_map (P := P) g2, hbk, hcl, hfd]
              | _ => exact g3.elim
          | _ => exact e3.elim
        · cases h
      · cases h
    · cases h
  · cases h
end
end Go.Sy
namespace Go.Sy
open Go
section
variable {P : Program}
theorem vo_val {r : OR} {v : AV} {n : Nat} {H : Heap} (h : vo r = .val v n H) : r = .val v n H := by
  cases r <;> first | exact h | cases h
theorem vo_call {r : OR} {f : FuncId} {l : List AV} : vo r ≠ .call f l := by cases r <;> intro h <;> cases h
theorem vo_yld {r : OR} {f : Nat} {l : List AV} : vo r ≠ .yld f l := by cases r <;> intro h <;> cases h
theorem vo_dfr {r : OR} {f : FuncId} {l : List AV} : vo r ≠ .dfr f l := by cases r <;> intro h <;> cases h
theorem evCap_ok {o : Oper} {c : Call} (hop : o.op = .call c) (hc : c.callee = .builtin .cap) {env : Env} {n n' : Nat} {H H' : Heap} {v : AV} (h : evCap P c.argTypes.toList c.args.toList env n H = .val v n' H') : n' = n ∧ H' = H ∧ PureOk P o env v := by
  unfold evCap at h
  split at h
  · rename_i t ts x r hts has
    have key : ∀ {s : Sg} {N : Nat} {a : Act} (k : Nat) (b : Option Addr) (m : Nat), a.eval x = .slice b m k → ∀ e, P.underlying t = some (.slice e) → ∀ w, (execOp a.eval o).run P w = .ok (.value (.int .i64 (.ofNat k))) w := fun {s N a} k b m ha e he w => by
      rw [exec_builtin hop hc]
      have h0 := arr0 hts
      have h1 : (c.args.map a.eval)[0]? = some (a.eval x) := by rw [Array.getElem?_map, arr0 has]; rfl
      simp [builtin, Builtin.cap_, h0, h1, underlying_run he, ha, goInt]
    split at h
    · rename_i e y q m k hu hx
      injection h with h1 h2 h3
      subst h1 h2 h3
      refine ⟨rfl, rfl, fun s N a he hg => ⟨_, rfl, ?_⟩⟩
      obtain ⟨B, hB, hf, ed⟩ := sl_conc.1 (opd_conc he hg hx)
      exact key (s := s) (N := N) k _ m ed e hu
    · rename_i e hu hx
      injection h with h1 h2 h3
      subst h1 h2 h3
      refine ⟨rfl, rfl, fun s N a he hg => ⟨_, rfl, ?_⟩⟩
      have ed := opd_conc he hg hx
      simp only [AV.conc, Option.some.injEq] at ed
      exact key (s := s) (N := N) 0 _ 0 ed.symm e hu
    · cases h
  · cases h
def kindCall (P : Program) (b : Builtin) (ats : List TypeId) : K := match b with
  | .max | .min | .cap => .pure
  | .len => (match ats with | t :: _ => (match P.underlying t with | some (.map _ _) => .read | some _ => .pure | none => .chain) | [] => .chain)
  | _ => .chain
theorem kindOf_call {c : Call} {b : Builtin} (hc : c.callee = .builtin b) : kindOf P (.call c) = kindCall P b c.argTypes.toList := by
  obtain ⟨callee, args, ats⟩ := c
  simp only at hc
  subst hc
  cases b <;> rfl
theorem evOp_ok {o : Oper} {env : Env} {n n' : Nat} {H H' : Heap} {v : AV} (h : evOp o.op P o env n H = .val v n' H') : KOk P (kindOf P o.op) o env n H v n' H' := by
  rw [evOp_eq] at h
  cases hop : o.op <;> rw [hop] at h
  case move x => exact .ofPure (evMove_ok (.inl hop) (vo_val h))
  case assign x => exact .ofPure (evMove_ok (.inr hop) (vo_val h))
  case pick c x y => exact .ofPure (evPick_ok hop (vo_val h))
  case alloc t => exact .inr (evAlloc_ok hop (vo_val h))
  case box t x => exact .inr (evBox_ok hop (vo_val h))
  case build t ps => exact .ofPure (evBuild_ok hop (vo_val h))
  case buildSlice t m ps => exact .inr (evBuildSlice_ok hop (vo_val h))
  case load t a => exact evLoad_ok hop (vo_val h)
  case store t a x => exact evStore_ok hop (vo_val h)
  case nilCheck x => exact .ofPure (evNilCheck_ok hop (vo_val h))
  case binOp op t x y yt =>
    obtain ⟨h1, h2, h3, h4⟩ := evBin_ok hop (vo_val h)
    subst h1 h2
    simp only [kindOf]
    split
    · split
      · exact ⟨rfl, rfl, h3⟩
      · rename_i d hnp hd
        exact ⟨rfl, rfl, h4 (.inr fun e he => by rw [hd] at he; injection he with he; exact hnp e he)⟩
      · exact h3.op
    · split
      · exact ⟨rfl, rfl, h3⟩
      · rename_i d hnp hd
        exact ⟨rfl, rfl, h4 (.inr fun e he => by rw [hd] at he; injection he with he; exact hnp e he)⟩
      · exact h3.op
    · rename_i e1 e2
      exact ⟨rfl, rfl, h4 (.inl ⟨e1, e2⟩)⟩
  case unOp op t x => exact .ofPure (evGround_ok (fun cs b => by rw [hop]; simp) (vo_val h))
  case convert s d x => rw [← hop]; exact evConvert_ok hop (vo_val h)
  case makeInterface t x => exact .ofPure (evMakeInterface_ok hop (vo_val h))
  case makeFunc f fi ca => exact .ofPure (evMakeFunc_ok hop (vo_val h))
  case makeMap t r => exact .inr (evMakeMap_ok hop (vo_val h))
  case makeSlice t l c => exact .inr (evMakeSlice_ok hop (vo_val h))
  case slice t x lo hi mx => exact .ofPure (evSlice_ok hop (vo_val h))
  case fieldAddr s x f => exact .ofPure (evFieldAddr_ok hop (vo_val h))
  case field t x f => exact .ofPure (evField_ok hop (vo_val h))
  case indexAddr t x ix => exact .ofPure (evIndexAddr_ok hop (vo_val h))
  case index t x ix => exact .ofPure (evIndex_ok hop (vo_val h))
  case lookup t x y ok => exact evLookup_ok hop (vo_val h)
  case mapUpdate t x y u => exact evMapUpdate_ok hop (vo_val h)
  case mapEntry t x y => exact evMapEntry_ok hop (vo_val h)
  case entryStore t x y u => exact evEntryStore_ok hop (vo_val h)
  case range t x => exact evMapRange_ok hop (vo_val h)
  case next it str => exact evMapNext_ok hop (vo_val h)
  case entry it => exact evItEntry_ok hop (vo_val h)
  case extract x ix => exact .ofPure (evExtract_ok hop (vo_val h))
  case call c =>
    change evCall P o c env n H = .val v n' H' at h
    unfold evCall at h
    split at h
    · rename_i b hc
      have h := vo_val h
      rw [kindOf_call hc]
      unfold kindCall
      split at h
      · obtain ⟨h1, h2, h3, h4⟩ := evLen_ok hop hc h
        subst h1 h2
        simp only
        split
        · rename_i t r hts
          split
          · exact ⟨rfl, rfl, h3⟩
          · rename_i d hnp hd
            exact ⟨rfl, rfl, h4 fun t' r' e k e' he => by
              rw [hts] at e; injection e with e1 e2; subst e1
              rw [hd] at he; injection he with he
              exact hnp k e' he⟩
          · exact h3.op
        · exact h3.op
      · exact evAppend_ok hop hc h
      · exact evCopy_ok hop hc h
      · exact evDelete_ok hop hc h
      · exact evClear_ok hop hc h
      · exact .ofPure (evGround_ok (fun cs b => by rw [hop]; simp) h)
      · exact .ofPure (evGround_ok (fun cs b => by rw [hop]; simp) h)
      · exact .ofPure (evCap_ok hop hc h)
      · cases h
    · split at h
      · split at h <;> cases h
      · cases h
    · split at h
      · split at h
        · rw [frcL_eq] at h; cases h
        · cases h
      · cases h
      · cases h
  case «defer» c =>
    change evDefer c env = .val v n' H' at h
    unfold evDefer at h
    split at h
    · split at h <;> cases h
    · cases h
  all_goals cases h
end
end Go.Sy
namespace Go.Sy
open Go
section
variable {P : Program}
theorem program_run (w : World) : (program).run P w = .ok P w := rfl
theorem callable_run {f : FuncId} {fn : Func} (h : callable P f = some fn) : P.funcs[f]? = some fn ∧ (∃ c, fn.body = some c) ∧ ∀ args w, (callFunc f args).run P w = .ok (.enter f args) w := by
  unfold callable at h
  split at h
  · rename_i fn' hfn
    split at h
    · rename_i c hn hb
      injection h with h; subst h
      refine ⟨hfn, ⟨c, hb⟩, fun args w => ?_⟩
      have hn' : ¬ fn'.name = "runtime.NumGoroutine" := fun e => by rw [e] at hn; exact absurd hn (by decide)
      simp [callFunc, hfn, hn', hb]
    · cases h
  · cases h
theorem isSome_ex {α : Type} {x : Option α} (h : x ≠ none) : ∃ y, x = some y := by cases x with | none => exact absurd rfl h | some y => exact ⟨y, rfl⟩
/-- The operation calls a function. -/
def CallOk (P : Program) (o : Oper) (env : Env) (g : FuncId) (args : List AV) : Prop :=
  ∀ (s : Sg) (N : Nat) (a : Act), EnvR s env N a.tmps → s.glob → ∃ Args, concL s args = some Args ∧ ∀ w, (execOp a.eval o).run P w = .ok (.enter g ⟨Args⟩) w
def YldOk (P : Program) (o : Oper) (env : Env) (y : Nat) (args : List AV) : Prop :=
  ∀ (s : Sg) (N : Nat) (a : Act), EnvR s env N a.tmps → s.glob → ∃ b Args, s.blk y = some b ∧ concL s args = some Args ∧ ∀ w, (execOp a.eval o).run P w = (Instr.yield b ⟨Args⟩).run P w
def DfrOk (P : Program) (o : Oper) (env : Env) (g : FuncId) (args : List AV) : Prop :=
  (∃ c, o.op = .defer c) ∧ ∀ (s : Sg) (N : Nat) (a : Act), EnvR s env N a.tmps → s.glob → ∃ D C, concL s args = some (D ++ C) ∧ ∀ w, (execOp a.eval o).run P w = .ok (.defer ⟨.fn (.func g) ⟨C⟩, ⟨D⟩⟩) w
theorem args_conc {s : Sg} {N : Nat} {env : Env} {a : Act} (he : EnvR s env N a.tmps) (hg : s.glob) {as : Array Operand} {l : List AV} (h : opds env as.toList = some l) : concL s l = some (as.map a.eval).toList := by
  rw [Array.toList_map]; exact opds_conc he hg h
theorem method_run {t : TypeId} {name : String} {f : FuncId} (h : methB P t name = some f) (v : Value) (w : World) (m : Nat) : (method (m + 1) t v name).run P w = .ok (f, v) w ∧ ∃ fn, callable P f = some fn := by
  unfold methB at h
  split at h
  · rename_i i e hi hu
    split at h
    · rename_i md hm
      split at h
      · rename_i f' hp hf
        split at h
        · rename_i fn hc
          injection h with h; subst h
          refine ⟨?_, fn, hc⟩
          unfold method
          simp [typeInfo_run hi, hm, hp, hf, follow, receiverAt, underlying_run hu, Place.get]
        · cases h
      · cases h
    · cases h
  · cases h
theorem exec_call {o : Oper} {c : Call} (hop : o.op = .call c) (ρ : Operand → Value) : execOp ρ o = (do let d ← resolve ρ c o.type; invoke d.target d.args) := by
  obtain ⟨dst, op', ty, pos, af, gu⟩ := o
  simp only at hop
  subst hop
  rfl
theorem exec_defer {o : Oper} {c : Call} (hop : o.op = .defer c) (ρ : Operand → Value) : execOp ρ o = (do pure (.defer (← resolve ρ c o.type))) := by
  obtain ⟨dst, op', ty, pos, af, gu⟩ := o
  simp only at hop
  subst hop
  rfl
theorem evOp_call {o : Oper} {env : Env} {n : Nat} {H : Heap} {g : FuncId} {args : List AV} (h : evOp o.op P o env n H = .call g args) : CallOk P o env g args := by
  rw [evOp_eq] at h
  cases hop : o.op <;> rw [hop] at h
  case call c =>
    change evCall P o c env n H = _ at h
    unfold evCall at h
    split at h
    · exact absurd h vo_call
    · rename_i r name hc
      split at h
      · rename_i t v l hr hl
        split at h
        · rename_i f hm
          injection h with h1 h2
          subst h1 h2
          intro s N a he hg
          have er := opd_conc he hg hr
          simp only [AV.conc, Option.map_eq_some_iff] at er
          obtain ⟨V, hV, er⟩ := er
          refine ⟨V :: (c.args.map a.eval).toList, concL_cons.2 ⟨_, _, hV, args_conc he hg hl, rfl⟩, fun w => ?_⟩
          obtain ⟨m1, fn, m2⟩ := method_run hm V w (P.types.size + Made.depth - 1)
          have hd : P.types.size + Made.depth - 1 + 1 = P.types.size + Made.depth := by
            have : 0 < Made.depth := by decide
            omega
          rw [hd] at m1
          rw [exec_call hop]
          have h0 : (#[a.eval r] ++ c.args.map a.eval)[0]? = some (Value.iface t V) := by rw [er]; simp [Array.getElem?_append]
          have hx : (#[a.eval r] ++ c.args.map a.eval).extract 1 (#[a.eval r] ++ c.args.map a.eval).size = c.args.map a.eval := by
            apply Array.ext'
            simp only [Array.toList_extract, Array.toList_map, Array.size_append, Array.size_map]
            simp [List.take_of_length_le]
          simp only [resolve, hc, invoke, Sem.run_bind, Sem.run_pure, Result.andThen_ok, h0, hx, callMethod, program_run, m1, (callable_run m2).2.2]
          congr 2
          apply Array.ext'
          simp
        · cases h
      · cases h
    · rename_i f hc
      split at h
      · rename_i f' a' cap l hf hl
        split at h
        · rename_i fn hcal
          rw [frcL_eq] at h
          injection h with h1 h2
          subst h1 h2
          intro s N a he hg
          have ef := opd_conc he hg hf
          simp only [AV.conc] at ef
          split at ef
          · rename_i A C hA hC
            injection ef with ef
            have hl' := args_conc he hg hl
            refine ⟨A ++ (c.args.map a.eval).toList ++ C, concL_append (concL_append hA hl') hC, fun w => ?_⟩
            rw [exec_call hop]
            simp [resolve, hc, ← ef, Deferred.ofValue, invoke, (callable_run hcal).2.2]
          · cases ef
        · cases h
      · cases h
      · cases h
  case «defer» c =>
    change evDefer c env = _ at h
    unfold evDefer at h
    split at h
    · split at h <;> cases h
    · cases h
  all_goals first | exact absurd h vo_call | cases h
theorem evOp_yld {o : Oper} {env : Env} {n : Nat} {H : Heap} {y : Nat} {args : List AV} (h : evOp o.op P o env n H = .yld y args) : YldOk P o env y args := by
  rw [evOp_eq] at h
  cases hop : o.op <;> rw [hop] at h
  case call c =>
    change evCall P o c env n H = _ at h
    unfold evCall at h
    split at h
    · exact absurd h vo_yld
    · split at h
      · split at h <;> cases h
      · cases h
    · rename_i f hc
      split at h
      · split at h
        · rw [frcL_eq] at h; cases h
        · cases h
      · rename_i y' l hf hl
        injection h with h1 h2
        subst h1 h2
        intro s N a he hg
        have ef := opd_conc he hg hf
        simp only [AV.conc, Option.map_eq_some_iff] at ef
        obtain ⟨b, hb, ef⟩ := ef
        refine ⟨b, (c.args.map a.eval).toList, hb, args_conc he hg hl, fun w => ?_⟩
        rw [exec_call hop]
        simp only [resolve, hc, ← ef, Deferred.ofValue, invoke, Sem.run_bind, Sem.run_pure, Result.andThen_ok]
        congr 2
        apply Array.ext'
        simp
      · cases h
  case «defer» c =>
    change evDefer c env = _ at h
    unfold evDefer at h
    split at h
    · split at h <;> cases h
    · cases h
  all_goals first | exact absurd h vo_yld | cases h
theorem evOp_dfr {o : Oper} {env : Env} {n : Nat} {H : Heap} {g : FuncId} {args : List AV} (h : evOp o.op P o env n H = .dfr g args) : DfrOk P o env g args := by
  rw [evOp_eq] at h
  cases hop : o.op <;> rw [hop] at h
  case call c =>
    change evCall P o c env n H = _ at h
    unfold evCall at h
    split at h
    · exact absurd h vo_dfr
    · split at h
      · split at h <;> cases h
      · cases h
    · split at h
      · split at h
        · rw [frcL_eq] at h; cases h
        · cases h
      · cases h
      · cases h
  case «defer» c =>
    change evDefer c env = _ at h
    unfold evDefer at h
    split at h
    · rename_i f hc
      split at h
      · rename_i f' a' cap l hf hl
        injection h with h1 h2
        subst h1 h2
        refine ⟨⟨c, hop⟩, fun s N a he hg => ?_⟩
        have ef := opd_conc he hg hf
        simp only [AV.conc] at ef
        split at ef
        · rename_i A C hA hC
          injection ef with ef
          have hl' := args_conc he hg hl
          refine ⟨A ++ (c.args.map a.eval).toList, C, concL_append (concL_append hA hl') hC, fun w => ?_⟩
          rw [exec_defer hop]
          simp [resolve, hc, ← ef, Deferred.ofValue]
        · cases ef
      · cases h
    · cases h
  all_goals first | exact absurd h vo_dfr | cases h
theorem evOp_no_dfr {o : Oper} {env : Env} {n : Nat} {H : Heap} {r : OR} (h : evOp o.op P o env n H = r) (hr : ∀ f l, r ≠ .dfr f l) (hk : ∀ k, r ≠ .no k) : ∀ c, o.op ≠ .defer c := by
  intro c hop
  rw [evOp_eq, hop] at h
  change evDefer c env = _ at h
  unfold evDefer at h
  split at h
  · split at h
    · exact hr _ _ h.symm
    · exact hk _ h.symm
  · exact hk _ h.symm
end
end Go.Sy
namespace Go.Sy
open Go
def fen : Option Nat → Fence
  | none => Fence.wide
  | some l => Fence.wide.inRound l
theorem fen_round (ro : Option Nat) : (fen ro).round = ro := by cases ro <;> rfl
theorem fen_fn (ro : Option Nat) (f : FuncId) : (fen ro).fn f := by cases ro <;> trivial
theorem fen_in (ro : Option Nat) (l : Nat) : (fen ro).inRound l = fen (some l) := by cases ro <;> rfl
theorem fen_depth (ro : Option Nat) {p : Prop} (h : (fen ro).depth.isSome = true) : p := by cases ro <;> cases h
theorem fen_calls {ro : Option Nat} {n : Nat} {P : Program} {f : FuncId} {args : Array Value} {w : World} {R : Ending → World → Prop} (h : CallsIn Fence.wide n P f args w R) : CallsIn (fen ro) n P f args w R := by
  cases ro with
  | none => exact h
  | some l => exact h.inRound l
def DfR (s : Sg) : Df → Deferred → Prop
  | .mark x, d => ∃ b, s.blk x = some b ∧ d.target = .collected b
  | .call f args, d => ∃ D C, concL s args = some (D ++ C) ∧ d = ⟨.fn (.func f) ⟨C⟩, ⟨D⟩⟩
def DefsR (s : Sg) (ms : List Df) (ds : List Deferred) : Prop := All2 (DfR s) ms ds
theorem DefsR.le {s s' : Sg} {ms : List Df} {ds : List Deferred} (h : DefsR s ms ds) (k : s.le s') : DefsR s' ms ds :=
  All2.imp (fun a d hd => by
    cases a with
    | mark x => obtain ⟨b, h1, h2⟩ := hd; exact ⟨b, (k x b h1).1, h2⟩
    | call f args => obtain ⟨D, C, h1, h2⟩ := hd; exact ⟨D, C, concL_le k _ h1, h2⟩) h
theorem DefsR.nil {s : Sg} {ds : List Deferred} (h : DefsR s [] ds) : ds = [] := by cases ds with | nil => rfl | cons => exact h.elim
def RoR (s : Sg) : Option Nat → Option Nat → Prop
  | none, none => True
  | some y, some l => s.blk y = some l
  | _, _ => False
theorem RoR.le {s s' : Sg} {rd ro : Option Nat} (h : RoR s rd ro) (k : s.le s') : RoR s' rd ro := by
  cases rd <;> cases ro <;> first | exact h | exact (k _ _ h).1
def Ext.exit : Ext → Exit
  | .nrm => .normal
  | .ex id => .exit id
  | .rt => .ret
  | .go l => .goto l
section
variable (P : Program)
/-- A walk of a loop that stands at its round's start. -/
def LoopIn (F : Fence) (n : Nat) (c : Code) (Q : Exit → Act → World → Prop) (a : Act) (w : World) : Prop :=
  ∀ (b : Frame) (k : List Item) (cs : List Frame), b.roundOf = F.round → F.fn b.fn → F.room (cs.length + 1 + n) →
    ∃ e a' w', Q e a' w' ∧ ArrivesIn (Machine.fenced P F) P (lone (b.atR a (.code c :: .inLoop c :: k)) cs w) b k cs e a' w'
def wpX (F : Fence) (n : Nat) (c : Code) (Q : Exit → Act → World → Prop) (a : Act) (w : World) : Prop :=
  match c with
  | .loop c => LoopIn P F n c Q a w
  | c => c.wpIn F n P Q a w
/-- What a function's run comes to. -/
def FnGood (f : FuncId) (args : List AV) (n : Nat) (H : Heap) (v : AV) (n' : Nat) (H' : Heap) : Prop :=
  n ≤ n' ∧ ∀ (s : Sg) (w : World) (Args : List Value) (R : Ending → World → Prop), concL s args = some Args → Rel P s H w → Free s n n' → n' ≤ LIM →
    (∀ V s' w', v.conc s' = some V → Rel P s' H' w' → Step s n H w s' n' H' w' → R (.returned V) w') → CallsIn Fence.wide 0 P f ⟨Args⟩ w R
def CodeGood (c : Code) (rd : Option Nat) (N : Nat) (env : Env) (ms : List Df) (n : Nat) (H : Heap) (e : Ext) (env' : Env) (ms' : List Df) (n' : Nat) (H' : Heap) : Prop :=
  n ≤ n' ∧ ∀ (s : Sg) (a : Act) (w : World) (ro : Option Nat) (Q : Exit → Act → World → Prop), EnvR s env N a.tmps → DefsR s ms a.defers → RoR s rd ro → Rel P s H w → Free s n n' → n' ≤ LIM →
    (∀ s' a' w', EnvR s' env' N a'.tmps → DefsR s' ms' a'.defers → Rel P s' H' w' → Step s n H w s' n' H' w' → Q e.exit a' w') → wpX P (fen ro) 0 c Q a w
def EfOk (ef : EF) : Prop := ∀ f args n H v n' H', ef f args n H = .ok v n' H' → FnGood P f args n H v n' H'
def EcOk (ec : EC) : Prop := ∀ c rd N env ms n H e env' ms' n' H', ec c rd N env ms n H = .ok e env' ms' n' H' → CodeGood P c rd N env ms n H e env' ms' n' H'
end
section
variable {P : Program} {F : Fence} {n : Nat} {Q : Exit → Act → World → Prop} {a : Act} {w : World}
theorem wpX_in {c : Code} (h : wpX P F n c Q a w) : c.wpIn F n P Q a w := by
  cases c with
  | loop c =>
    intro b k cs hro hb hr
    obtain ⟨e, a', w', hq, harr⟩ := h b k cs hro hb hr
    exact ⟨e, a', w', hq, .of_steps (.one (fenced_calm hb hr rfl) stepR_loop) harr⟩
  | _ => exact h
theorem CodeGood.wp {c : Code} {rd : Option Nat} {N : Nat} {env : Env} {ms : List Df} {n : Nat} {H : Heap} {e : Ext} {env' : Env} {ms' : List Df} {n' : Nat} {H' : Heap} (h : CodeGood P c rd N env ms n H e env' ms' n' H')
    {s : Sg} {a : Act} {w : World} {ro : Option Nat} {Q : Exit → Act → World → Prop} (h1 : EnvR s env N a.tmps) (h2 : DefsR s ms a.defers) (h3 : RoR s rd ro) (h4 : Rel P s H w) (h5 : Free s n n') (h6 : n' ≤ LIM)
    (h7 : ∀ s' a' w', EnvR s' env' N a'.tmps → DefsR s' ms' a'.defers → Rel P s' H' w' → Step s n H w s' n' H' w' → Q e.exit a' w') : c.wpIn (fen ro) 0 P Q a w := wpX_in (h.2 s a w ro Q h1 h2 h3 h4 h5 h6 h7)
theorem Exit.then_other {K : Act → World → Prop} {Q : Exit → Act → World → Prop} {e : Ext} (he : e ≠ .nrm) {a : Act} {w : World} (h : Q e.exit a w) : Exit.then K Q e.exit a w := by
  cases e <;> first | exact absurd rfl he | exact h
/-- Two stretches, one behind the other. -/
theorem CodeGood.seq {c d : Code} {rd : Option Nat} {N : Nat} {env : Env} {ms : List Df} {n : Nat} {H : Heap} {env1 : Env} {ms1 : List Df} {n1 : Nat} {H1 : Heap} {e : Ext} {env' : Env} {ms' : List Df} {n' : Nat} {H' : Heap}
    (h : CodeGood P c rd N env ms n H .nrm env1 ms1 n1 H1) (k : CodeGood P d rd N env1 ms1 n1 H1 e env' ms' n' H') : CodeGood P (.seq c d) rd N env ms n H e env' ms' n' H' := by
  refine ⟨Nat.le_trans h.1 k.1, fun s a w ro Q h1 h2 h3 h4 h5 h6 h7 => wpIn_seq (h.wp h1 h2 h3 h4 (h5.left k.1) (Nat.le_trans k.1 h6) fun s1 a1 w1 k1 k2 k3 k4 => ?_)⟩
  have hle := k4.le (h5.left k.1)
  exact k.wp k1 k2 (h3.le hle) k3 (k4.free h5 h.1) h6 fun s' a' w' j1 j2 j3 j4 => h7 s' a' w' j1 j2 j3 (k4.trans j4 h.1 k.1)
theorem evSeq_ok {ec : EC} (hec : EcOk P ec) {c d : Code} {rd : Option Nat} {N : Nat} {env : Env} {ms : List Df} {n : Nat} {H : Heap} {e : Ext} {env' : Env} {ms' : List Df} {n' : Nat} {H' : Heap}
    (h : evSeq ec c d rd N env ms n H = .ok e env' ms' n' H') : CodeGood P (.seq c d) rd N env ms n H e env' ms' n' H' := by
  unfold evSeq at h
  cases hc : ec c rd N env ms n H with
  | er l => rw [hc] at h; cases h
  | ok e1 env1 ms1 n1 H1 =>
    rw [hc] at h
    have g := hec _ _ _ _ _ _ _ _ _ _ _ _ hc
    cases e1 with
    | nrm => exact g.seq (hec _ _ _ _ _ _ _ _ _ _ _ _ h)
    | _ =>
      injection h with q1 q2 q3 q4 q5
      subst q1 q2 q3 q4 q5
      exact ⟨g.1, fun s a w ro Q h1 h2 h3 h4 h5 h6 h7 => wpIn_seq (g.wp h1 h2 h3 h4 h5 h6 fun s1 a1 w1 k1 k2 k3 k4 => Exit.then_other (by simp) (h7 s1 a1 w1 k1 k2 k3 k4))⟩
theorem CodeGood.nrm0 {c : Code} {rd : Option Nat} {N : Nat} {env : Env} {ms : List Df} {n : Nat} {H : Heap} {e : Ext} (h : ∀ F Q a w, Q e.exit a w → wpX P F 0 c Q a w) : CodeGood P c rd N env ms n H e env ms n H :=
  ⟨Nat.le_refl _, fun s a w _ro Q h1 h2 _h3 h4 _h5 _h6 h7 => h _ Q a w (h7 s a w h1 h2 h4 (Step.refl ..))⟩
theorem evCond_ok {ec : EC} (hec : EcOk P ec) {x : Operand} {c d : Code} {rd : Option Nat} {N : Nat} {env : Env} {ms : List Df} {n : Nat} {H : Heap} {e : Ext} {env' : Env} {ms' : List Df} {n' : Nat} {H' : Heap}
    (h : evCond ec x c d rd N env ms n H = .ok e env' ms' n' H') : CodeGood P (.cond x c d) rd N env ms n H e env' ms' n' H' := by
  unfold evCond at h
  cases hbo : booO (opd env x) with
  | some b =>
    have hx := booO_some hbo
    rw [hbo] at h
    have key : CodeGood P (if b then c else d) rd N env ms n H e env' ms' n' H' := by
      cases b <;> exact hec _ _ _ _ _ _ _ _ _ _ _ _ h
    refine ⟨key.1, fun s a w ro Q h1 h2 h3 h4 h5 h6 h7 => ?_⟩
    have ex := opd_conc h1 h4.glob hx
    simp only [AV.conc, Option.some.injEq] at ex
    exact wpIn_cond ex.symm (key.wp h1 h2 h3 h4 h5 h6 h7)
  | none =>
    rw [hbo] at h
    cases h
theorem evBlock_ok {ec : EC} (hec : EcOk P ec) {id : Nat} {c : Code} {rd : Option Nat} {N : Nat} {env : Env} {ms : List Df} {n : Nat} {H : Heap} {e : Ext} {env' : Env} {ms' : List Df} {n' : Nat} {H' : Heap}
    (h : evBlock ec id c rd N env ms n H = .ok e env' ms' n' H') : CodeGood P (.block id c) rd N env ms n H e env' ms' n' H' := by
  unfold evBlock at h
  split at h
  · rename_i e1 env1 ms1 n1 H1 hc
    have g := hec _ _ _ _ _ _ _ _ _ _ _ _ hc
    have key : env1 = env' ∧ ms1 = ms' ∧ n1 = n' ∧ H1 = H' ∧ ∀ (Q : Exit → Act → World → Prop) a w, Q e.exit a w → Exit.inBlock id Q e1.exit a w := by
      cases e1 with
      | nrm => injection h with q1 q2 q3 q4 q5; subst q1; exact ⟨q2, q3, q4, q5, fun Q a w h => h⟩
      | rt => injection h with q1 q2 q3 q4 q5; subst q1; exact ⟨q2, q3, q4, q5, fun Q a w h => h⟩
      | go l => injection h with q1 q2 q3 q4 q5; subst q1; exact ⟨q2, q3, q4, q5, fun Q a w h => h⟩
      | ex j =>
        simp only at h
        rw [bsel] at h
        split at h
        · rename_i hj
          have hj : j = id := by simpa using hj
          injection h with q1 q2 q3 q4 q5; subst q1
          exact ⟨q2, q3, q4, q5, fun Q a w h => by simp only [Ext.exit, Exit.inBlock, hj, if_true]; exact h⟩
        · rename_i hj
          have hj : j ≠ id := fun e => hj (by simpa using e)
          injection h with q1 q2 q3 q4 q5; subst q1
          exact ⟨q2, q3, q4, q5, fun Q a w h => by simp only [Ext.exit, Exit.inBlock, hj, if_false]; exact h⟩
    obtain ⟨rfl, rfl, rfl, rfl, hq⟩ := key
    exact ⟨g.1, fun s a w ro Q h1 h2 h3 h4 h5 h6 h7 => wpIn_block (g.wp h1 h2 h3 h4 h5 h6 fun s1 a1 w1 k1 k2 k3 k4 => hq Q a1 w1 (h7 s1 a1 w1 k1 k2 k3 k4))⟩
  · cases h
theorem evLoop_ok {ec : EC} (hec : EcOk P ec) {c : Code} {rd : Option Nat} {N : Nat} {env : Env} {ms : List Df} {n : Nat} {H : Heap} {e : Ext} {env' : Env} {ms' : List Df} {n' : Nat} {H' : Heap}
    (h : evLoop ec c rd N env ms n H = .ok e env' ms' n' H') : CodeGood P (.loop c) rd N env ms n H e env' ms' n' H' := by
  unfold evLoop at h
  split at h
  · rename_i e1 env1 ms1 n1 H1 hc
    have g := hec _ _ _ _ _ _ _ _ _ _ _ _ hc
    have out : e1 ≠ .nrm → e1 = e → env1 = env' → ms1 = ms' → n1 = n' → H1 = H' → CodeGood P (.loop c) rd N env ms n H e env' ms' n' H' := by
      intro hn q1 q2 q3 q4 q5
      subst q1 q2 q3 q4 q5
      refine ⟨g.1, fun s a w ro Q h1 h2 h3 h4 h5 h6 h7 b k cs hro hb hr => ?_⟩
      obtain ⟨e', a', w', hq, harr⟩ := g.wp h1 h2 h3 h4 h5 h6 (Q := fun e' a' w' => e' = e1.exit ∧ Q e' a' w') (fun s' a' w' k1 k2 k3 k4 => ⟨rfl, h7 s' a' w' k1 k2 k3 k4⟩) b (.inLoop c :: k) cs hro hb hr
      obtain ⟨rfl, hq⟩ := hq
      exact ⟨_, a', w', hq, .pass (x := .inLoop c) rfl (fun _ _ => .inl (by cases e1 <;> first | exact absurd rfl hn | simp [Ext.exit])) harr⟩
    cases e1 with
    | nrm =>
      have g2 := hec _ _ _ _ _ _ _ _ _ _ _ _ h
      refine ⟨Nat.le_trans g.1 g2.1, fun s a w ro Q h1 h2 h3 h4 h5 h6 h7 b k cs hro hb hr => ?_⟩
      obtain ⟨e', a1, w1, hq, harr⟩ := g.wp h1 h2 h3 h4 (h5.left g2.1) (Nat.le_trans g2.1 h6) (Q := fun e' a' w' => e' = .normal ∧ LoopIn P (fen ro) 0 c Q a' w') (fun s1 a1 w1 k1 k2 k3 k4 => ⟨rfl,
        g2.2 s1 a1 w1 ro Q k1 k2 (h3.le (k4.le (h5.left g2.1))) k3 (k4.free h5 g.1) h6 fun s' a' w' j1 j2 j3 j4 => h7 s' a' w' j1 j2 j3 (k4.trans j4 g.1 g2.1)⟩) b (.inLoop c :: k) cs hro hb hr
      obtain ⟨rfl, hl⟩ := hq
      obtain ⟨e2, a2, w2, hq2, harr2⟩ := hl b k cs hro hb hr
      exact ⟨e2, a2, w2, hq2, .of_steps (StepsIn.trans harr (.one (fenced_calm hb hr rfl) stepR_inLoop)) harr2⟩
    | _ =>
      injection h with q1 q2 q3 q4 q5
      exact out (by simp) q1 q2 q3 q4 q5
  · cases h
theorem stepR_scope {b : Frame} {k : List Item} {cs : List Frame} {c : Code} : step P (lone (b.atR a (.code (.scope c) :: k)) cs w) = .next (lone (b.atR a (.code c :: .inScope c :: k)) cs w) :=
  step_lone_go (by simp [stepG, stepG.exec, Frame.atR])
theorem stepR_inScope {b : Frame} {k : List Item} {cs : List Frame} {c : Code} : step P (lone (b.atR a (.inScope c :: k)) cs w) = .next (lone (b.atR a k) cs w) :=
  step_lone_go (by simp [stepG, stepG.exec, Frame.atR])
theorem evScope_go {ec : EC} (hec : EcOk P ec) (S : Code) : ∀ (m : Nat) {c : Code} {rd : Option Nat} {N : Nat} {env : Env} {ms : List Df} {n : Nat} {H : Heap} {e : Ext} {env' : Env} {ms' : List Df} {n' : Nat} {H' : Heap},
    evScope ec S m c rd N env ms n H = .ok e env' ms' n' H' → n ≤ n' ∧ ∀ (s : Sg) (a : Act) (w : World) (ro : Option Nat) (Q : Exit → Act → World → Prop), EnvR s env N a.tmps → DefsR s ms a.defers → RoR s rd ro → Rel P s H w → Free s n n' → n' ≤ LIM →
    (∀ s' a' w', EnvR s' env' N a'.tmps → DefsR s' ms' a'.defers → Rel P s' H' w' → Step s n H w s' n' H' w' → Q e.exit a' w') →
    ∀ (b : Frame) (k : List Item) (cs : List Frame), b.roundOf = (fen ro).round → (fen ro).fn b.fn → (fen ro).room (cs.length + 1 + 0) →
    ∃ e a' w', Q e a' w' ∧ ArrivesIn (Machine.fenced P (fen ro)) P (lone (b.atR a (.code c :: .inScope S :: k)) cs w) b k cs e a' w' := by
  intro m
  induction m with
  | zero => intro c rd N env ms n H e env' ms' n' H' h; cases h
  | succ m ih =>
    intro c rd N env ms n H e env' ms' n' H' h
    have hu : evScope ec S (m + 1) c rd N env ms n H = (match ec c rd N env ms n H with
      | .ok e env ms n H => (match e with
          | .go l => (match findLabel S l with | some c => evScope ec S m c rd N env ms n H | none => .ok (.go l) env ms n H)
          | .nrm => .ok .nrm env ms n H
          | .ex id => .ok (.ex id) env ms n H
          | .rt => .ok .rt env ms n H)
      | .er l => .er l) := rfl
    rw [hu] at h
    split at h
    · rename_i e1 env1 ms1 n1 H1 hc
      have g := hec _ _ _ _ _ _ _ _ _ _ _ _ hc
      have out : e1 = e → env1 = env' → ms1 = ms' → n1 = n' → H1 = H' → (∀ l, e1 = .go l → findLabel S l = none) → n ≤ n' ∧ ∀ (s : Sg) (a : Act) (w : World) (ro : Option Nat) (Q : Exit → Act → World → Prop), EnvR s env N a.tmps → DefsR s ms a.defers → RoR s rd ro → Rel P s H w → Free s n n' → n' ≤ LIM →
          (∀ s' a' w', EnvR s' env' N a'.tmps → DefsR s' ms' a'.defers → Rel P s' H' w' → Step s n H w s' n' H' w' → Q e.exit a' w') →
          ∀ (b : Frame) (k : List Item) (cs : List Frame), b.roundOf = (fen ro).round → (fen ro).fn b.fn → (fen ro).room (cs.length + 1 + 0) →
          ∃ e a' w', Q e a' w' ∧ ArrivesIn (Machine.fenced P (fen ro)) P (lone (b.atR a (.code c :: .inScope S :: k)) cs w) b k cs e a' w' := by
        intro q1 q2 q3 q4 q5 hl
        subst q1 q2 q3 q4 q5
        refine ⟨g.1, fun s a w ro Q h1 h2 h3 h4 h5 h6 h7 b k cs hro hb hr => ?_⟩
        obtain ⟨e', a', w', hq, harr⟩ := g.wp h1 h2 h3 h4 h5 h6 (Q := fun e' a' w' => e' = e1.exit ∧ Q e' a' w') (fun s' a' w' k1 k2 k3 k4 => ⟨rfl, h7 s' a' w' k1 k2 k3 k4⟩) b (.inScope S :: k) cs hro hb hr
        obtain ⟨rfl, hq⟩ := hq
        cases e1 with
        | nrm => exact ⟨_, a', w', hq, StepsIn.trans harr (.one (fenced_calm hb hr rfl) stepR_inScope)⟩
        | ex id => exact ⟨_, a', w', hq, fun k' hk => harr.1 k' (by simp only [exitTo]; exact hk), fun hr' hk => harr.2 hr' (by simp only [exitTo]; exact hk)⟩
        | rt => exact ⟨_, a', w', hq, harr⟩
        | go l =>
          have hg : gotoIn l (.inScope S :: k) = gotoIn l k := by simp [gotoIn, hl l rfl]
          exact ⟨_, a', w', hq, fun k' hk => harr.1 k' (by rw [hg]; exact hk), fun hr' hk => harr.2 hr' (by rw [hg]; exact hk)⟩
      cases e1 with
      | go l =>
        simp only at h
        split at h
        · rename_i c2 hf
          obtain ⟨i1, i2⟩ := ih h
          refine ⟨Nat.le_trans g.1 i1, fun s a w ro Q h1 h2 h3 h4 h5 h6 h7 b k cs hro hb hr => ?_⟩
          obtain ⟨e', a1, w1, hq, harr⟩ := g.wp h1 h2 h3 h4 (h5.left i1) (Nat.le_trans i1 h6) (Q := fun e' a' w' => e' = .goto l ∧ ∃ e2 a2 w2, Q e2 a2 w2 ∧ ArrivesIn (Machine.fenced P (fen ro)) P (lone (b.atR a' (.code c2 :: .inScope S :: k)) cs w') b k cs e2 a2 w2) (fun s1 a1 w1 k1 k2 k3 k4 => ⟨rfl,
            i2 s1 a1 w1 ro Q k1 k2 (h3.le (k4.le (h5.left i1))) k3 (k4.free h5 g.1) h6 (fun s' a' w' j1 j2 j3 j4 => h7 s' a' w' j1 j2 j3 (k4.trans j4 g.1 i1)) b k cs hro hb hr⟩) b (.inScope S :: k) cs hro hb hr
          obtain ⟨rfl, e2, a2, w2, hq2, harr2⟩ := hq
          exact ⟨e2, a2, w2, hq2, .of_steps (harr.1 _ (by simp [gotoIn, hf])) harr2⟩
        · rename_i hf
          injection h with q1 q2 q3 q4 q5
          exact out q1 q2 q3 q4 q5 (fun l' e => by injection e with e; subst e; exact hf)
      | _ =>
        injection h with q1 q2 q3 q4 q5
        exact out q1 q2 q3 q4 q5 (fun l' e => by cases e)
    · cases h
theorem evScope_ok {ec : EC} (hec : EcOk P ec) {c : Code} {m : Nat} {rd : Option Nat} {N : Nat} {env : Env} {ms : List Df} {n : Nat} {H : Heap} {e : Ext} {env' : Env} {ms' : List Df} {n' : Nat} {H' : Heap}
    (h : evScope ec c m c rd N env ms n H = .ok e env' ms' n' H') : CodeGood P (.scope c) rd N env ms n H e env' ms' n' H' := by
  obtain ⟨g1, g2⟩ := evScope_go hec c m h
  refine ⟨g1, fun s a w ro Q h1 h2 h3 h4 h5 h6 h7 b k cs hro hb hr => ?_⟩
  obtain ⟨e', a', w', hq, harr⟩ := g2 s a w ro Q h1 h2 h3 h4 h5 h6 h7 b k cs hro hb hr
  exact ⟨e', a', w', hq, .of_steps (.one (fenced_calm hb hr rfl) stepR_scope) harr⟩
end
end Go.Sy
