/- SymT, SymU, SymV, SymW -/
import Derived.Test.YtcpophfchchpkaaGreatDoorMs6
import Derived.OrdersIn
namespace Go.Sy
open Go
section
variable {P : Program}
/-! ### Regions whose order is as written -/
theorem wpOpsIn_at {F : Fence} {Q : Exit → Act → World → Prop} {ops : Array Oper} {i : Nat} {rest : List Nat} {o : Oper} (ho : ops[i]? = some o) {a : Act} {w : World}
    (h1 : Region.wanted o (yielded ops a.tmps) = true → o.wpIn F 0 P a w (wpOpsIn F 0 P ops Q rest) Q)
    (h2 : Region.wanted o (yielded ops a.tmps) = false → (∀ f, o.about P w a.eval = some f → F.fn f) ∧ wpOpsIn F 0 P ops Q rest (a.put o.dst undef) w) : wpOpsIn F 0 P ops Q (i :: rest) a w := by
  simp only [wpOpsIn, ho]
  cases hw : Region.wanted o (yielded ops a.tmps) with
  | true => simp only [if_true]; exact h1 hw
  | false => simp only [Bool.false_eq_true, if_false]; exact h2 hw
theorem undefA_conc (s : Sg) : undefA.conc s = some undef := rfl
theorem evOps_ok {ec : EC} {ef : EF} (hec : EcOk P ec) (hef : EfOk P ef) {rd : Option Nat} {N : Nat} {all : List Oper} : ∀ {ops pre : List Oper}, all = pre ++ ops → ∀ {env : Env} {ms : List Df} {n : Nat} {H : Heap} {env' : Env} {ms' : List Df} {n' : Nat} {H' : Heap},
    evOps P ec ef rd N all ops env ms n H = .ok env' ms' n' H' → n ≤ n' ∧ ∀ (s : Sg) (a : Act) (w : World) (ro : Option Nat) (Q : Exit → Act → World → Prop), EnvR s env N a.tmps → DefsR s ms a.defers → RoR s rd ro → Rel P s H w → Free s n n' → n' ≤ LIM →
    (∀ s' a' w', EnvR s' env' N a'.tmps → DefsR s' ms' a'.defers → Rel P s' H' w' → Step s n H w s' n' H' w' → Q .normal a' w') → wpOpsIn (fen ro) 0 P ⟨all⟩ Q (List.range' pre.length ops.length) a w
  | [], pre, hall, env, ms, n, H, env', ms', n', H', h => by
    injection h with q1 q2 q3 q4
    subst q1 q2 q3 q4
    exact ⟨Nat.le_refl _, fun s a w ro Q h1 h2 h3 h4 h5 h6 h7 => h7 s a w h1 h2 h4 (Step.refl ..)⟩
  | o :: ops, pre, hall, env, ms, n, H, env', ms', n', H', h => by
    have hall' : all = (pre ++ [o]) ++ ops := by rw [hall]; simp
    have ho : (⟨all⟩ : Array Oper)[pre.length]? = some o := by rw [hall]; simp
    have hrange : List.range' pre.length (o :: ops).length = pre.length :: List.range' (pre ++ [o]).length ops.length := by simp [List.range'_succ]
    rw [hrange]
    have hu : evOps P ec ef rd N all (o :: ops) env ms n H = (Option.rec (evGo P ec ef rd N o (evOps P ec ef rd N all ops) env ms n H)
      (fun g => Option.rec (.er [209]) (fun w => Bool.rec (evSkip N o (evOps P ec ef rd N all ops) env ms n H) (evGo P ec ef rd N o (evOps P ec ef rd N all ops) env ms n H) w) (wantedG all g env)) o.guard : DR) := rfl
    rw [hu] at h
    -- carried out
    have go : evGo P ec ef rd N o (evOps P ec ef rd N all ops) env ms n H = .ok env' ms' n' H' → n ≤ n' ∧ ∀ (s : Sg) (a : Act) (w : World) (ro : Option Nat) (Q : Exit → Act → World → Prop), EnvR s env N a.tmps → DefsR s ms a.defers → RoR s rd ro → Rel P s H w → Free s n n' → n' ≤ LIM →
        (∀ s' a' w', EnvR s' env' N a'.tmps → DefsR s' ms' a'.defers → Rel P s' H' w' → Step s n H w s' n' H' w' → Q .normal a' w') →
        o.wpIn (fen ro) 0 P a w (wpOpsIn (fen ro) 0 P ⟨all⟩ Q (List.range' (pre ++ [o]).length ops.length)) Q := by
      intro h
      have val : ∀ {v n1 H1}, evV P ec ef o env n H = .ok v n1 H1 → putK o.dst N v env DR.er (fun env => evOps P ec ef rd N all ops env ms n1 H1) = .ok env' ms' n' H' → n ≤ n' ∧ ∀ (s : Sg) (a : Act) (w : World) (ro : Option Nat) (Q : Exit → Act → World → Prop), EnvR s env N a.tmps → DefsR s ms a.defers → RoR s rd ro → Rel P s H w → Free s n n' → n' ≤ LIM →
          (∀ s' a' w', EnvR s' env' N a'.tmps → DefsR s' ms' a'.defers → Rel P s' H' w' → Step s n H w s' n' H' w' → Q .normal a' w') →
          o.wpIn (fen ro) 0 P a w (wpOpsIn (fen ro) 0 P ⟨all⟩ Q (List.range' (pre ++ [o]).length ops.length)) Q := by
        intro v n1 H1 hv hp
        obtain ⟨g1, g2⟩ := evV_ok hec hef hv
        obtain ⟨env1, hk, he1⟩ := putK_val hp (fun _ e => by cases e)
        obtain ⟨i1, i2⟩ := evOps_ok hec hef hall' hk
        refine ⟨Nat.le_trans g1 i1, fun s a w ro Q h1 h2 h3 h4 h5 h6 h7 => g2 s N a w ro _ Q h1 h4 (h5.left i1) (Nat.le_trans i1 h6) fun V s1 w1 k1 k2 k3 => ?_⟩
        have hle := k3.le (h5.left i1)
        exact i2 s1 _ w1 ro Q (put_env he1 k1 (h1.le hle)) (by rw [put_defers]; exact h2.le hle) (h3.le hle) k2 (k3.free h5 g1) h6 fun s' a' w' j1 j2 j3 j4 => h7 s' a' w' j1 j2 j3 (k3.trans j4 g1 i1)
      unfold evGo at h
      cases hr : evOp o.op P o env n H with
      | val v n1 H1 =>
        rw [hr] at h
        exact val (by unfold evV; rw [hr]) h
      | call g args =>
        rw [hr] at h
        have h : (VR.rec (fun v n H => putK o.dst N v env .er fun env => evOps P ec ef rd N all ops env ms n H) (fun l => .er l) (ef g args n H) : DR) = .ok env' ms' n' H' := h
        cases hc : ef g args n H with
        | er l => rw [hc] at h; cases h
        | ok v n1 H1 => rw [hc] at h; exact val (by unfold evV; rw [hr]; exact hc) h
      | yld y args =>
        rw [hr] at h
        have h : (VR.rec (fun v n H => putK o.dst N v env .er fun env => evOps P ec ef rd N all ops env ms n H) (fun l => .er l) (evRound ec y args n H) : DR) = .ok env' ms' n' H' := h
        cases hc : evRound ec y args n H with
        | er l => rw [hc] at h; cases h
        | ok v n1 H1 => rw [hc] at h; exact val (by unfold evV; rw [hr]; exact hc) h
      | no k => rw [hr] at h; cases h
      | dfr f args =>
        rw [hr] at h
        cases rd with
        | some y => cases h
        | none =>
          have h : putK o.dst N undefA env DR.er (fun env => evOps P ec ef none N all ops env (.call f args :: ms) n H) = .ok env' ms' n' H' := h
          obtain ⟨env1, hk, he1⟩ := putK_val h (fun _ e => by cases e)
          obtain ⟨i1, i2⟩ := evOps_ok hec hef hall' hk
          obtain ⟨⟨c, hc⟩, hd⟩ := evOp_dfr hr
          refine ⟨i1, fun s a w ro Q h1 h2 h3 h4 h5 h6 h7 => ⟨fun _ _ => fen_fn _ _, ?_⟩⟩
          have hro : ro = none := by cases ro with | none => rfl | some l => exact h3.elim
          subst hro
          obtain ⟨D, C, d1, d2⟩ := hd s N a h1 h4.glob
          rw [fen_round, Oper.semAt_none, d2 w]
          simp only [Oper.uponIn]
          exact i2 s _ w none Q (put_env (a := { a with defers := _ }) he1 (undefA_conc s) h1) (by rw [put_defers]; exact ⟨⟨D, C, d1, rfl⟩, h2⟩) h3 h4 h5 h6 h7
    cases hg : o.guard with
    | none =>
      rw [hg] at h
      obtain ⟨g1, g2⟩ := go h
      refine ⟨g1, fun s a w ro Q h1 h2 h3 h4 h5 h6 h7 => wpOpsIn_at ho (fun _ => g2 s a w ro Q h1 h2 h3 h4 h5 h6 h7) (fun hw => ?_)⟩
      simp [Region.wanted, hg] at hw
    | some g =>
      rw [hg] at h
      have h : (Option.rec (.er [209]) (fun w => Bool.rec (evSkip N o (evOps P ec ef rd N all ops) env ms n H) (evGo P ec ef rd N o (evOps P ec ef rd N all ops) env ms n H) w) (wantedG all g env) : DR) = .ok env' ms' n' H' := h
      cases hw : wantedG all g env with
      | none => rw [hw] at h; cases h
      | some b =>
        rw [hw] at h
        cases b with
        | true =>
          obtain ⟨g1, g2⟩ := go h
          refine ⟨g1, fun s a w ro Q h1 h2 h3 h4 h5 h6 h7 => wpOpsIn_at ho (fun _ => g2 s a w ro Q h1 h2 h3 h4 h5 h6 h7) (fun hw' => ?_)⟩
          rw [wantedG_ok hw hg h1] at hw'; cases hw'
        | false =>
          have h : putK o.dst N undefA env DR.er (fun env => evOps P ec ef rd N all ops env ms n H) = .ok env' ms' n' H' := h
          obtain ⟨env1, hk, he1⟩ := putK_val h (fun _ e => by cases e)
          obtain ⟨i1, i2⟩ := evOps_ok hec hef hall' hk
          refine ⟨i1, fun s a w ro Q h1 h2 h3 h4 h5 h6 h7 => wpOpsIn_at ho (fun hw' => ?_) (fun _ => ⟨fun _ _ => fen_fn _ _, ?_⟩)⟩
          · rw [wantedG_ok hw hg h1] at hw'; cases hw'
          · exact i2 s _ w ro Q (put_env he1 (undefA_conc s) h1) (by rw [put_defers]; exact h2) h3 h4 h5 h6 h7
theorem evRegion_plain {ec : EC} {ef : EF} (hec : EcOk P ec) (hef : EfOk P ef) {rd : Option Nat} {N id : Nat} {ops : Array Oper} {env : Env} {ms : List Df} {n : Nat} {H : Heap} {e : Ext} {env' : Env} {ms' : List Df} {n' : Nat} {H' : Heap}
    (h : evRegion P ec ef rd N id ops.toList false env ms n H = .ok e env' ms' n' H') : CodeGood P (.region id ops false) rd N env ms n H e env' ms' n' H' := by
  have h : (match evOps P ec ef rd N ops.toList ops.toList env.fresh ms n H with | .ok env ms n H => CR.ok .nrm env ms n H | .er l => .er (id :: l)) = .ok e env' ms' n' H' := h
  split at h
  · rename_i env1 ms1 n1 H1 hr
    injection h with q1 q2 q3 q4 q5
    subst q1 q2 q3 q4 q5
    obtain ⟨g1, g2⟩ := evOps_ok hec hef (pre := []) rfl hr
    refine ⟨g1, fun s a w ro Q h1 h2 h3 h4 h5 h6 h7 => wpIn_region ?_⟩
    have := g2 s a w ro Q h1.fresh h2 h3 h4 h5 h6 h7
    rw [List.range_eq_range']
    exact this
  · cases h
/-! ### A range over a function -/
theorem evRange_ok {ec : EC} {ef : EF} (hec : EcOk P ec) (hef : EfOk P ef) {f : Operand} {ps : Array Tmp} {asg body : Code} {rd : Option Nat} {N : Nat} {env : Env} {ms : List Df} {n : Nat} {H : Heap} {e : Ext} {env' : Env} {ms' : List Df} {n' : Nat} {H' : Heap}
    (h : evRange P ec ef f ps.toList asg body rd N env ms n H = .ok e env' ms' n' H') : CodeGood P (.rangeFunc f ps asg body) rd N env ms n H e env' ms' n' H' := by
  -- the loop's record lies
  have go : ∀ {d : Nat} {ms0 : List Df} {n0 : Nat} {H0 : Heap}, (Q8.set (some (.loop .ready none ps.toList asg body env N d)) H0 n0 fun H => frc (Nat.succ n0) fun n' =>
    (match opd env f with
    | some (.fn (.func g) a c) => frcL (a ++ (AV.yl n0) :: c) fun args =>
      (match callable P g with
      | none => CR.er [237]
      | some _ => (match ef g args n' H with
        | .ok _ m H => (match Q8.get H n0 with
            | some (.loop .busy _ _ _ _ _ _ _) => .er [217]
            | some (.loop _ pe _ _ _ _ _ _) => Q8.set none H n0 fun H => (match pe with
                | none => .ok .nrm env ms0 m H
                | some c => ec c rd N env ms0 m H)
            | _ => .er [218])
        | .er l => .er (g :: l)))
    | _ => .er [219])) = .ok e env' ms' n' H' → n0 + 1 ≤ n' ∧ ∀ (s : Sg) (a : Act) (w : World) (ro : Option Nat) (Q : Exit → Act → World → Prop) (fn : FuncId) (defs : Nat), EnvR s env N a.tmps → DefsR s ms0 a.defers → RoR s rd ro → Rel P s H0 w → Free s n0 n' → n' ≤ LIM → s.blk d = some defs →
      (∀ s' a' w', EnvR s' env' N a'.tmps → DefsR s' ms' a'.defers → Rel P s' H' w' → Step s n0 H0 w s' n' H' w' → Q e.exit a' w') →
      ∃ (dd : Deferred) (g : FuncId) (args : Array Value),
        (resolve a.eval (rangeCall f w.heap.size) 0).run P (w.alloc (.loop { state := .ready, pending := none, fn, tmps := a.tmps, params := ps, assign := asg, body, defers := defs })) = .ok dd (w.alloc (.loop { state := .ready, pending := none, fn, tmps := a.tmps, params := ps, assign := asg, body, defers := defs })) ∧
        (invoke dd.target dd.args).run P (w.alloc (.loop { state := .ready, pending := none, fn, tmps := a.tmps, params := ps, assign := asg, body, defers := defs })) = .ok (.enter g args) (w.alloc (.loop { state := .ready, pending := none, fn, tmps := a.tmps, params := ps, assign := asg, body, defers := defs })) ∧
        CallsIn Fence.wide 0 P g args (w.alloc (.loop { state := .ready, pending := none, fn, tmps := a.tmps, params := ps, assign := asg, body, defers := defs })) (rangePost (fen ro) 0 P w.heap.size Q a) := by
    intro d ms0 n0 H0 h
    rw [Q8.set_k, frc_eq] at h
    split at h
    · rename_i fo g fa fc hf
      rw [frcL_eq] at h
      split at h
      · cases h
      · rename_i fnn hcal
        split at h
        · rename_i rv m Hm hcall
          obtain ⟨g1, g2⟩ := hef _ _ _ _ _ _ _ hcall
          have tail : ∀ {st pe ps' asg' body' env2 N2 d2}, Q8.get Hm n0 = some (.loop st pe ps' asg' body' env2 N2 d2) → st ≠ .busy → (match pe with | none => CR.ok .nrm env ms0 m (Q8.upd Hm n0 none) | some c => ec c rd N env ms0 m (Q8.upd Hm n0 none)) = .ok e env' ms' n' H' →
              n0 + 1 ≤ n' ∧ ∀ (s : Sg) (a : Act) (w : World) (ro : Option Nat) (Q : Exit → Act → World → Prop) (fn : FuncId) (defs : Nat), EnvR s env N a.tmps → DefsR s ms0 a.defers → RoR s rd ro → Rel P s H0 w → Free s n0 n' → n' ≤ LIM → s.blk d = some defs →
              (∀ s' a' w', EnvR s' env' N a'.tmps → DefsR s' ms' a'.defers → Rel P s' H' w' → Step s n0 H0 w s' n' H' w' → Q e.exit a' w') →
              ∃ (dd : Deferred) (g : FuncId) (args : Array Value),
                (resolve a.eval (rangeCall f w.heap.size) 0).run P (w.alloc (.loop { state := .ready, pending := none, fn, tmps := a.tmps, params := ps, assign := asg, body, defers := defs })) = .ok dd (w.alloc (.loop { state := .ready, pending := none, fn, tmps := a.tmps, params := ps, assign := asg, body, defers := defs })) ∧
                (invoke dd.target dd.args).run P (w.alloc (.loop { state := .ready, pending := none, fn, tmps := a.tmps, params := ps, assign := asg, body, defers := defs })) = .ok (.enter g args) (w.alloc (.loop { state := .ready, pending := none, fn, tmps := a.tmps, params := ps, assign := asg, body, defers := defs })) ∧
                CallsIn Fence.wide 0 P g args (w.alloc (.loop { state := .ready, pending := none, fn, tmps := a.tmps, params := ps, assign := asg, body, defers := defs })) (rangePost (fen ro) 0 P w.heap.size Q a) := by
            intro st pe ps' asg' body' env2 N2 d2 hHm hst hjump
            have hmn : m ≤ n' := by
              cases pe with
              | none => injection hjump with q1 q2 q3 q4 q5; subst q4; exact Nat.le_refl _
              | some c => exact (hec _ _ _ _ _ _ _ _ _ _ _ _ hjump).1
            refine ⟨Nat.le_trans g1 hmn, fun s a w ro Q fn defs h1 h2 h3 h4 h5 h6 hd h7 => ?_⟩
            have hn0 : n0 < n' := Nat.lt_of_lt_of_le (Nat.lt_succ_self _) (Nat.le_trans g1 hmn)
            have hn0l : n0 < LIM := Nat.lt_of_lt_of_le hn0 h6
            have hfree := h5 n0 (Nat.le_refl _) hn0
            have hle := Sg.set_le (s := s) (n := n0) (b := w.heap.size) (c := 0) hfree
            obtain ⟨r1, r2⟩ := h4.alloc (n := n0) hn0l hfree 0 (A := .loop .ready none ps.toList asg body env N d) (o := .loop { state := .ready, pending := none, fn, tmps := a.tmps, params := ps, assign := asg, body, defers := defs }) ⟨rfl, rfl, rfl, rfl, rfl, h1.le hle, (hle d defs hd).1⟩
            have ef' := opd_conc h1 h4.glob hf
            simp only [AV.conc] at ef'
            split at ef'
            · rename_i A C hA hC
              injection ef' with ef'
              refine ⟨{ target := .fn (.func g) ⟨C⟩, args := (⟨A⟩ : Array Value) ++ #[Value.func (Fn.yield w.heap.size) #[] #[]] }, g, ((⟨A⟩ : Array Value) ++ #[Value.func (Fn.yield w.heap.size) #[] #[]]) ++ (⟨C⟩ : Array Value), ?_, ?_, ?_⟩
              · have hc : a.eval (.const (Value.func (Fn.yield w.heap.size) #[] #[])) = Value.func (Fn.yield w.heap.size) #[] #[] := rfl
                simp [resolve, ← ef', Deferred.ofValue, hc]
              · exact (callable_run hcal).2.2 _ _
              · have hargs : concL (s.set n0 w.heap.size 0) (fa ++ (.yl n0) :: fc) = some (A ++ (Value.func (Fn.yield w.heap.size) #[] #[]) :: C) := concL_append (concL_le hle _ hA) (concL_cons.2 ⟨_, _, by simp [AV.conc, Sg.set_blk], concL_le hle _ hC, rfl⟩)
                have hArr : ((⟨A⟩ : Array Value) ++ #[Value.func (Fn.yield w.heap.size) #[] #[]]) ++ (⟨C⟩ : Array Value) = ⟨A ++ (Value.func (Fn.yield w.heap.size) #[] #[]) :: C⟩ := by apply Array.ext'; simp
                rw [hArr]
                refine g2 _ _ _ _ hargs r1 ((r2.free h5 (Nat.le_succ _)).left hmn) (Nat.le_trans hmn h6) fun V s1 w1 k1 k2 k3 => ?_
                have hst1 : Step s n0 H0 w s1 m Hm w1 := r2.trans k3 (Nat.le_succ _) g1
                have hle1 := hst1.le (h5.left hmn)
                have hb : s1.blk n0 = some w.heap.size := (k3.le ((r2.free h5 (Nat.le_succ _)).left hmn) n0 _ (Sg.set_blk ..)).1
                obtain ⟨q, q1, q2, q3, _⟩ := loop_row k2 hn0l hb hHm
                have hbl := (Array.getElem?_eq_some_iff.1 q1).1
                obtain ⟨p1, p2, p3, p4, p5, p6⟩ := putObj_facts w1 w.heap.size (.loop { q with state := .exhausted }) hbl
                obtain ⟨z1, z2⟩ := k2.kill m hn0l hHm hb p1 p3 p4 p5 p6
                refine ⟨_, _, run_endLoop q1 (by rw [q2]; exact hst), ?_⟩
                have hle0 := Nat.le_trans (Nat.le_succ _) g1
                have hst2 := hst1.trans z2 hle0 (Nat.le_refl _)
                rw [q3] at z1 hst2 ⊢
                cases pe with
                | none =>
                  injection hjump with q1 q2 q3 q4 q5
                  subst q1 q2 q3 q4 q5
                  exact h7 s1 a _ (h1.le hle1) (h2.le hle1) z1 hst2
                | some c =>
                  exact (hec _ _ _ _ _ _ _ _ _ _ _ _ hjump).wp (h1.le hle1) (h2.le hle1) (h3.le hle1) z1 (hst2.free h5 hle0) h6 fun s' a' w' j1 j2 j3 j4 => h7 s' a' w' j1 j2 j3 (hst2.trans j4 hle0 hmn)
            · cases ef'
          split at h
          · cases h
          · rename_i st pe ps' asg' body' env2 N2 d2 hnb hHm
            rw [Q8.set_k] at h
            exact tail hHm (fun e => by subst e; exact hnb rfl) h
          · cases h
        · cases h
    · cases h
  unfold evRange at h
  cases rd with
  | none =>
    have h := h
    simp only at h
    rw [Q8.set_k, frc_eq] at h
    obtain ⟨g1, g2⟩ := go h
    refine ⟨by omega, fun s a w ro Q h1 h2 h3 h4 h5 h6 h7 => wpIn_rangeFunc fun fn _ => ?_⟩
    have hro : ro = none := by cases ro with | none => rfl | some l => exact h3.elim
    subst hro
    have hn : n < n' := by omega
    have hfree := h5 n (Nat.le_refl _) hn
    have hle := Sg.set_le (s := s) (n := n) (b := w.heap.size) (c := 0) hfree
    obtain ⟨r1, r2⟩ := h4.alloc (n := n) (Nat.lt_of_lt_of_le hn h6) hfree 0 (A := .defd) (o := .deferred (some [])) trivial
    obtain ⟨dd, gg, args, c1, c2, c3⟩ := g2 (s.set n w.heap.size 0) { a with defers := { target := .collected w.heap.size, args := #[] } :: a.defers } (w.alloc (.deferred (some []))) none Q fn w.heap.size (h1.le hle) ⟨⟨_, Sg.set_blk .., rfl⟩, h2.le hle⟩ trivial r1 (r2.free h5 (Nat.le_succ _)) h6 (Sg.set_blk ..)
      fun s' a' w' j1 j2 j3 j4 => h7 s' a' w' j1 j2 j3 (r2.trans j4 (Nat.le_succ _) (by omega))
    rw [World.size_alloc] at c1 c3
    refine ⟨_, _, _, dd, _, gg, args, _, run_enterLoop_outer fn a.tmps ps asg body, c1, fun _ _ => fen_fn _ _, c2, fun h => fen_depth none h, fen_calls (ro := none) ?_⟩
    exact c3
  | some y =>
    simp only at h
    split at h
    · rename_i st pe ps' asg' body' env2 N2 d hy
      obtain ⟨g1, g2⟩ := go h
      refine ⟨by omega, fun s a w ro Q h1 h2 h3 h4 h5 h6 h7 => wpIn_rangeFunc fun fn _ => ?_⟩
      cases ro with
      | none => exact h3.elim
      | some l =>
        have hb : s.blk y = some l := h3
        obtain ⟨q, q1, q2, q3, q4, q5, q6, q7, q8⟩ := loop_row h4 (h4.lim y l hb) hb hy
        obtain ⟨dd, gg, args, c1, c2, c3⟩ := g2 s a w (some l) Q fn q.defers h1 h2 h3 h4 h5 h6 q8 h7
        refine ⟨_, [], _, dd, _, gg, args, _, ?_, c1, fun _ _ => fen_fn _ _, c2, fun h => fen_depth (some l) h, fen_calls (ro := some l) ?_⟩
        · rw [fen_round]
          unfold Instr.enterLoop
          simp only [Sem.run_bind, run_getLoop q1, run_newObj_alloc, Result.andThen, Sem.run_pure]
        · exact c3
    · cases h
end
end Go.Sy
namespace Go.Sy
open Go
section
variable {P : Program}
theorem load_run {t : TypeId} {x : Operand} {env : Env} {n n' : Nat} {H H' : Heap} {v : AV} (h : evLoad P t x env n H = .val v n' H') {s : Sg} {N : Nat} {a : Act} {w : World} (he : EnvR s env N a.tmps) (hr : Rel P s H w) :
    ∃ b V, a.eval x = .pointer (some b) ∧ (loadVar t b).run P w = .ok V w ∧ v.conc s = some V := by
  unfold evLoad at h
  split at h
  · rename_i y q hx
    split at h
    · rename_i t' z m c ex mk hH
      have ex' := opd_conc he hr.glob hx
      simp only [AV.conc, Option.map_eq_some_iff] at ex'
      obtain ⟨b, hb, ex'⟩ := ex'
      obtain ⟨b', ob, m1, e2, e3⟩ := hr.blk y _ (hr.lim y b hb) hH
      rw [hb] at m1; injection m1 with m1; subst m1
      split at h
      · rename_i hagg
        split at h
        · rename_i u hu
          injection h with h1 h2 h3
          subst h1 h2 h3
          obtain ⟨V, v1, v2, _⟩ := e3.cell e2 hu
          exact ⟨_, V, ex'.symm, by simp [loadVar, isAggB_run hagg, v2], v1⟩
        · cases h
      · rename_i hagg
        split at h
        · rename_i sz hsz
          split at h
          · rename_i l hl
            injection h with h1 h2 h3
            subst h1 h2 h3
            obtain ⟨vs, v1, v2, v3, v4⟩ := e3.cells e2 hl
            have hc := run_loadCells_list (P := P) w ⟨b, q, none⟩ vs v4
            rw [v2] at hc
            exact ⟨_, .agg ⟨vs⟩, ex'.symm, by simp [loadVar, isAggB_run hagg, sizeB_run hsz, hc], conc_agg v1 v3⟩
          · cases h
        · cases h
      · cases h
    · cases h
  · cases h
/-- One result. -/
noncomputable def res1 (P : Program) (env : Env) (n : Nat) (H : Heap) (r : ResultVar) : Option AV := match r with
      | .tmp t => env.get t
      | .cell t ty => (match env.get t with | some (.p _ _) => (match evLoad P ty (.tmp t) env n H with | .val v _ _ => some v | _ => none) | _ => none)
def resS (tmps : Array Value) : ResultVar → Sem Value
    | .tmp t => pure (tmps.getD t undef)
    | .cell a t => do loadVar t (← asAddr (tmps.getD a undef))
theorem resOf_cons (P : Program) (env : Env) (n : Nat) (H : Heap) (r : ResultVar) (rs : List ResultVar) : resOf P env n H (r :: rs) = (match res1 P env n H r with
    | some v => (match resOf P env n H rs with | some l => some (v :: l) | none => none)
    | none => none) := by cases r <;> rfl
theorem res1_ok {env : Env} {n : Nat} {H : Heap} {r : ResultVar} {v : AV} (h : res1 P env n H r = some v) {s : Sg} {N : Nat} {a : Act} {w : World} (he : EnvR s env N a.tmps) (hr : Rel P s H w) : ∃ V, v.conc s = some V ∧ (resS a.tmps r).run P w = .ok V w := by
  cases r with
  | tmp t =>
    obtain ⟨V, h1, h2⟩ := he.get t v h
    exact ⟨V, h1, by simp [resS, Array.getD_eq_getD_getElem?, h2]⟩
  | cell t ty =>
    have h : (match env.get t with | some (.p _ _) => (match evLoad P ty (.tmp t) env n H with | .val v _ _ => some v | _ => none) | _ => none) = some v := h
    split at h
    · split at h
      · rename_i y q hy u n1 H1 hl
        injection h with h; subst h
        obtain ⟨b, V, h1, h2, h3⟩ := load_run hl he hr
        refine ⟨V, h3, ?_⟩
        have h1 : a.tmps.getD t undef = .pointer (some b) := h1
        simp [resS, h1, asAddr, h2]
      · cases h
    · cases h
theorem resOf_ok {env : Env} {n : Nat} {H : Heap} {s : Sg} {N : Nat} {a : Act} {w : World} (he : EnvR s env N a.tmps) (hr : Rel P s H w) : ∀ {rs : List ResultVar} {l : List AV}, resOf P env n H rs = some l → ∃ vs, concL s l = some vs ∧ (rs.mapM (resS a.tmps)).run P w = .ok vs w
  | [], l, h => by injection h with h; subst h; exact ⟨[], rfl, rfl⟩
  | r :: rs, l, h => by
    rw [resOf_cons] at h
    split at h
    · rename_i v hv
      split at h
      · rename_i l' hl
        injection h with h; subst h
        obtain ⟨V, h1, h2⟩ := res1_ok hv he hr
        obtain ⟨vs, h3, h4⟩ := resOf_ok he hr hl
        refine ⟨V :: vs, concL_cons.2 ⟨_, _, h1, h3, rfl⟩, ?_⟩
        simp [List.mapM_cons, h2, h4]
      · cases h
    · cases h
theorem resV_ok {f : FuncId} {fn : Func} {env : Env} {n : Nat} {H : Heap} {v : AV} {n' : Nat} {H' : Heap} (h : resV P f fn env n H = .ok v n' H') : n' = n ∧ H' = H ∧ ∀ (s : Sg) (N : Nat) (a : Act) (w : World), EnvR s env N a.tmps → Rel P s H w →
    ∃ V, v.conc s = some V ∧ (results fn a.tmps).run P w = .ok V w := by
  have key : ∀ {l : List AV} {s : Sg} {N : Nat} {a : Act} {w : World}, resOf P env n H fn.results.toList = some l → EnvR s env N a.tmps → Rel P s H w → ∃ vs, concL s l = some vs ∧ (results fn a.tmps).run P w = .ok (if h : (⟨vs⟩ : Array Value).size = 1 then (⟨vs⟩ : Array Value)[0] else .tuple ⟨vs⟩) w := fun hl he hr => by
    obtain ⟨vs, h1, h2⟩ := resOf_ok he hr hl
    refine ⟨vs, h1, ?_⟩
    rename_i a w
    have hu : results fn a.tmps = (do let vs ← fn.results.mapM (resS a.tmps); pure (if h : vs.size = 1 then vs[0] else .tuple vs)) := by
      unfold results
      congr 1
    rw [hu, Array.mapM_eq_mapM_toList]
    simp [h2]
  unfold resV at h
  split at h
  · cases h
  · rename_i l hl
    split at h
    · rename_i u
      injection h with h1 h2 h3
      subst h1 h2 h3
      refine ⟨rfl, rfl, fun s N a w he hr => ?_⟩
      obtain ⟨vs, h1, h2⟩ := key hl he hr
      obtain ⟨V, us, c1, c2, rfl⟩ := concL_cons.1 h1
      rw [concL_nil] at c2; subst c2
      exact ⟨V, c1, by rw [h2]; simp⟩
    · rename_i hne
      injection h with h1 h2 h3
      subst h1 h2 h3
      refine ⟨rfl, rfl, fun s N a w he hr => ?_⟩
      obtain ⟨vs, h1, h2⟩ := key hl he hr
      have hlen := concL_length h1
      refine ⟨.tuple ⟨vs⟩, by simp [AV.conc, h1], ?_⟩
      rw [h2]
      have : ¬ (⟨vs⟩ : Array Value).size = 1 := fun e => by
        have e : vs.length = 1 := e
        rw [e] at hlen
        obtain ⟨x, hx⟩ := List.length_eq_one_iff.1 hlen.symm
        exact hne x hx
      rw [dif_neg this]
/-! ### Functions -/
theorem EnvR.same {s : Sg} {e : Env} {N : Nat} {ts : Array Value} (h : EnvR s e N ts) {t : Nat} {a : AV} {v : Value} (hv : a.conc s = some v) (ht : ts[t]? = some v) : EnvR s (e.upd t a) N ts := by
  refine ⟨h.size, fun u b hb => ?_⟩
  rw [Env.get_upd] at hb
  split at hb
  · rename_i he; subst he
    injection hb with hb; subst hb
    exact ⟨v, hv, ht⟩
  · exact h.get u b hb
theorem args0_ok {k : Env → VR} {v : AV} {n : Nat} {H : Heap} : ∀ {l : List AV} {i : Nat} {e : Env}, args0 l i e k = .ok v n H → ∃ env, k env = .ok v n H ∧
    ∀ (s : Sg) (N : Nat) (ts : Array Value) (Args : List Value), concL s l = some Args → (∀ j V, Args[j]? = some V → ts[i + j]? = some V) → EnvR s e N ts → EnvR s env N ts
  | [], i, e, h => ⟨e, h, fun s N ts Args _ _ he => he⟩
  | a :: l, i, e, h => by
    have hu : args0 (a :: l) i e k = e.put i a fun e => args0 l (Nat.succ i) e k := rfl
    rw [hu, Env.put_k] at h
    obtain ⟨env, h1, h2⟩ := args0_ok h
    refine ⟨env, h1, fun s N ts Args hc ht he => ?_⟩
    obtain ⟨V, us, c1, c2, rfl⟩ := concL_cons.1 hc
    refine h2 s N ts us c2 (fun j W hj => ?_) (he.same c1 (by simpa using ht 0 V rfl))
    have := ht (j + 1) W (by simpa using hj)
    rw [show i.succ + j = i + (j + 1) from by omega]
    exact this
theorem Q.at_of {β : Type} (x : β) (d : Dig) : (Q.of x).at d = x := by cases d <;> rfl
theorem Q4.get_e {α : Type} (i : Nat) : Q4.get (Q4.e : Q4 α) i = none := by
  unfold Q4.get Q4.e
  simp only [Q.at_of]
theorem Q8.get_e {α : Type} (i : Nat) : Q8.get (Q8.e : Q8 α) i = none := by
  unfold Q8.get Q8.e
  simp only [Q.at_of]
  exact Q4.get_e i
theorem Env.get_empty (V t : Nat) : (Env.mk V [] [] Q4.e).get t = none := by
  show (Bool.rec (motive := fun _ => Option AV) (lget t (lget t none []) []) (Q4.get Q4.e t) (isV V t) : Option AV) = none
  cases isV V t
  · rfl
  · exact Q4.get_e t
theorem bodyOf_ok {ec : EC} {f : FuncId} {args : List AV} {n : Nat} {H : Heap} {k : Func → Env → List Df → Nat → Heap → VR} {v : AV} {n' : Nat} {H' : Heap} (h : bodyOf P ec f args n H k = .ok v n' H') :
    ∃ fn c env0 e env1 ms n1 H1, callable P f = some fn ∧ fn.body = some c ∧ ec c none fn.ntmps env0 [] n H = .ok e env1 ms n1 H1 ∧ (e = .nrm ∨ e = .rt) ∧ k fn env1 ms n1 H1 = .ok v n' H' ∧
      ∀ (s : Sg) (Args : List Value), concL s args = some Args → EnvR s env0 fn.ntmps ((⟨Args⟩ : Array Value) ++ Array.replicate (fn.ntmps - (⟨Args⟩ : Array Value).size) undef) := by
  unfold bodyOf at h
  split at h
  · cases h
  · rename_i fn hcal
    split at h
    · cases h
    · rename_i c hb
      split at h
      · cases h
      · rename_i hlen
        have hlen : args.length ≤ fn.ntmps := by have := Nat.ble_eq.mp hlen; rwa [len_eq] at this
        obtain ⟨env0, h, he0⟩ := args0_ok h
        split at h
        · cases h
        · rename_i e env1 ms n1 H1 hc
          refine ⟨fn, c, env0, e, env1, ms, n1, H1, hcal, hb, hc, ?_, ?_, fun s Args hA => ?_⟩
          · cases e <;> first | cases h | exact .inl rfl | exact .inr rfl
          · cases e <;> first | cases h | exact h
          · refine he0 s _ _ Args hA (fun j V hj => ?_) ⟨?_, fun t a ha => ?_⟩
            · have hi := (List.getElem?_eq_some_iff.1 hj).1
              rw [Nat.zero_add, Array.getElem?_append_left (by simpa using hi)]
              simpa using hj
            · simp; omega
            · rw [Env.get_empty] at ha; cases ha
theorem leaveD_ok {ec : EC} (hec : EcOk P ec) {f : FuncId} {fn : Func} {env : Env} {N : Nat} : ∀ {ms : List Df} {n : Nat} {H : Heap} {v : AV} {n' : Nat} {H' : Heap}, leaveD P ec ms n H (fun n H => resV P f fn env n H) = .ok v n' H' →
    n ≤ n' ∧ ∀ (s : Sg) (a : Act) (w : World) (R : Ending → World → Prop) (ds : List Deferred), EnvR s env N a.tmps → DefsR s ms ds → Rel P s H w → Free s n n' → n' ≤ LIM →
      (∀ V s' w', v.conc s' = some V → Rel P s' H' w' → Step s n H w s' n' H' w' → R (.returned V) w') → LeavesInM Fence.wide 0 P fn a.tmps R ds .returning w
  | [], n, H, v, n', H', h => by
    have h : resV P f fn env n H = .ok v n' H' := h
    obtain ⟨rfl, rfl, g⟩ := resV_ok h
    refine ⟨Nat.le_refl _, fun s a w R ds h1 h2 h3 h4 h5 h6 => ?_⟩
    have hds := DefsR.nil h2
    subst hds
    obtain ⟨V, v1, v2⟩ := g s N a w h1 h3
    exact ⟨V, v2, h6 V s w v1 h3 (Step.refl ..)⟩
  | .mark x :: ms, n, H, v, n', H', h => by
    have h : (match Q8.get H x with | some .defd => Q8.set none H x fun H => leaveD P ec ms n H (fun n H => resV P f fn env n H) | _ => .er [225]) = .ok v n' H' := h
    split at h
    · rename_i hx
      rw [Q8.set_k] at h
      obtain ⟨i1, i2⟩ := leaveD_ok hec h
      refine ⟨i1, fun s a w R ds h1 h2 h3 h4 h5 h6 => ?_⟩
      cases ds with
      | nil => exact h2.elim
      | cons d ds =>
        obtain ⟨⟨b, d1, d2⟩, h2⟩ := h2
        have hxl := h3.lim x b d1
        obtain ⟨b', o, k1, k2, k3⟩ := h3.blk x _ hxl hx
        rw [d1] at k1; injection k1 with k1; subst k1
        have ho : o = .deferred (some []) := by
          cases o with
          | deferred l => cases l with
            | none => exact k3.elim
            | some l => cases l with
              | nil => rfl
              | cons => exact k3.elim
          | _ => exact k3.elim
        subst ho
        have hbl := (Array.getElem?_eq_some_iff.1 k2).1
        obtain ⟨p1, p2, p3, p4, p5, p6⟩ := putObj_facts w b (.deferred none) hbl
        obtain ⟨z1, z2⟩ := h3.kill n hxl hx d1 p1 p3 p4 p5 p6
        refine ⟨by simp, .inl ⟨b, _, d2, run_takeDeferred k2, ?_⟩⟩
        exact i2 s a _ R ds h1 h2 z1 h4 h5 fun V s' w' j1 j2 j3 => h6 V s' w' j1 j2 (z2.trans j3 (Nat.le_refl _) i1)
    · cases h
  | .call g args :: ms, n, H, v, n', H', h => by
    have h : (match bodyOf P ec g args n H (fun fn env ms n H => match ms with | [] => resV P g fn env n H | _ => .er [234]) with
          | .ok _ n H => leaveD P ec ms n H (fun n H => resV P f fn env n H)
          | .er l => .er l) = .ok v n' H' := h
    split at h
    · rename_i u n1 H1 hb
      obtain ⟨i1, i2⟩ := leaveD_ok hec h
      obtain ⟨fg, c, env0, e, env1, ms1, n2, H2, c1, c2, c3, c4, c5, c6⟩ := bodyOf_ok hb
      split at c5
      · obtain ⟨rfl, rfl, g5⟩ := resV_ok c5
        have gc := hec _ _ _ _ _ _ _ _ _ _ _ _ c3
        refine ⟨Nat.le_trans gc.1 i1, fun s a w R ds h1 h2 h3 h4 h5 h6 => ?_⟩
        cases ds with
        | nil => exact h2.elim
        | cons d ds =>
          obtain ⟨⟨D, C, d1, rfl⟩, h2⟩ := h2
          refine ⟨by simp, .inr ⟨(fun h => by cases h), _, _, g, ⟨D ++ C⟩, rfl, ?_, fun _ _ => trivial, ?_⟩⟩
          · have := (callable_run c1).2.2 ((⟨D⟩ : Array Value) ++ (⟨C⟩ : Array Value)) w
            have he : ((⟨D⟩ : Array Value) ++ (⟨C⟩ : Array Value)) = ⟨D ++ C⟩ := by apply Array.ext'; simp
            rw [he] at this
            simp only [invoke]
            rw [he]
            exact this
          · refine (callsDIn_of_wp (R := fun e w' => match e with | .returned _ => LeavesInM Fence.wide 0 P fn a.tmps R ds .returning w' | _ => False) (callable_run c1).1 c2 trivial ?_).mono ?_
            · refine gc.wp (ro := none) (c6 s _ d1) trivial trivial h3 (h4.left i1) (Nat.le_trans i1 h5) fun s1 a1 w1 k1 k2 k3 k4 => ?_
              have hle := k4.le (h4.left i1)
              obtain ⟨V, v1, v2⟩ := g5 s1 _ a1 w1 k1 k3
              have post : a1.defers = [] ∧ ∃ v, (results fg a1.tmps).run P w1 = .ok v w1 ∧ LeavesInM Fence.wide 0 P fn a.tmps R ds .returning w1 :=
                ⟨DefsR.nil k2, V, v2, i2 s1 a w1 R ds (h1.le hle) (DefsR.le h2 hle) k3 (k4.free h4 gc.1) h5 fun V s' w' j1 j2 j3 => h6 V s' w' j1 j2 (k4.trans j3 gc.1 i1)⟩
              rcases c4 with rfl | rfl
              · exact post
              · exact post
            · intro e u' w' ⟨hu, hR⟩
              subst hu
              cases e with
              | returned v => exact hR
              | panicked ch => exact hR.elim
              | outgrown => exact hR.elim
      · cases c5
    · cases h
/-- What is told of some functions holds. -/
def OrcOk (P : Program) (O : Orc) : Prop := ∀ f g, O f = some g → ∀ args n H v n' H', g args n H = .ok v n' H' → FnGood P f args n H v n' H'
theorem stepF_ok {O : Orc} {ec : EC} (hO : OrcOk P O) (hec : EcOk P ec) : EfOk P (stepF P O ec) := by
  intro f args n H v n' H' h
  unfold stepF at h
  split at h
  · rename_i g hg
    exact hO f g hg _ _ _ _ _ _ h
  · obtain ⟨fn, c, env0, e, env1, ms1, n1, H1, c1, c2, c3, c4, c5, c6⟩ := bodyOf_ok h
    have gc := hec _ _ _ _ _ _ _ _ _ _ _ _ c3
    obtain ⟨i1, i2⟩ := leaveD_ok (N := fn.ntmps) hec c5
    refine ⟨Nat.le_trans gc.1 i1, fun s w Args R hA hr hf hl hR => callsIn_of_wp_marks (callable_run c1).1 c2 trivial ?_⟩
    refine gc.wp (ro := none) (c6 s _ hA) trivial trivial hr (hf.left i1) (Nat.le_trans i1 hl) fun s1 a1 w1 k1 k2 k3 k4 => ?_
    have post : LeavesInM Fence.wide 0 P fn a1.tmps R a1.defers .returning w1 := i2 s1 a1 w1 R a1.defers k1 k2 k3 (k4.free hf gc.1) hl fun V s' w' j1 j2 j3 => hR V s' w' j1 j2 (k4.trans j3 gc.1 i1)
    rcases c4 with rfl | rfl
    · exact post
    · exact post
end
end Go.Sy
namespace Go.Sy
open Go
section
variable {P : Program}
/-! ### An operation looks at its operands alone -/
theorem allGround_congr {env env' : Env} : ∀ {l : List Operand}, (∀ x ∈ l, opd env x = opd env' x) → allGround env l = allGround env' l
  | [], _ => rfl
  | x :: r, h => by
    have hu : ∀ e : Env, allGround e (x :: r) = (match opd e x with | some a => (match valOf a with | some _ => allGround e r | none => false) | none => false) := fun _ => rfl
    rw [hu, hu, h x (List.mem_cons_self ..), allGround_congr fun y hy => h y (List.mem_cons_of_mem _ hy)]
theorem opds_congr {env env' : Env} : ∀ {l : List Operand}, (∀ x ∈ l, opd env x = opd env' x) → opds env l = opds env' l
  | [], _ => rfl
  | x :: r, h => by
    have hu : ∀ e : Env, opds e (x :: r) = (match opd e x with | some a => (match opds e r with | some r => some (a :: r) | none => none) | none => none) := fun _ => rfl
    rw [hu, hu, h x (List.mem_cons_self ..), opds_congr fun y hy => h y (List.mem_cons_of_mem _ hy)]
theorem fillA_congr {env env' : Env} {pl : Nat → Option (Nat × Nat)} : ∀ {ps : List (Nat × Operand)}, (∀ p ∈ ps, opd env p.2 = opd env' p.2) → fillA pl env ps = fillA pl env' ps
  | [], _ => rfl
  | p :: r, h => by
    have hu : ∀ e : Env, fillA pl e (p :: r) = fun l => (match pl p.1, opd e p.2 with
      | some (o, s), some v => (match Nat.beq (len v.cells) s, v with
          | true, .tup _ => none
          | true, v => (match repl o l v.cells with | some l => fillA pl e r l | none => none)
          | false, _ => none)
      | _, _ => none) := fun _ => rfl
    rw [hu, hu, h p (List.mem_cons_self ..), fillA_congr fun y hy => h y (List.mem_cons_of_mem _ hy)]
theorem bnd_congr {env env' : Env} {x : Option Operand} {d : Nat} (h : ∀ y, x = some y → opd env y = opd env' y) : bnd env x d = bnd env' x d := by
  cases x with
  | none => rfl
  | some y => simp only [bnd, h y rfl]
theorem evGround_congr {o : Oper} (hs : ∀ cs b, o.op ≠ .select cs b) {env env' : Env} (h : ∀ x ∈ o.op.operands, opd env x = opd env' x) (n : Nat) (H : Heap) : evGround P o env n H = evGround P o env' n H := by
  have h1 : allGround env o.op.operands.toList = allGround env' o.op.operands.toList := allGround_congr fun x hx => h x (by simpa using hx)
  have h2 : execOp (groundEnv env) o = execOp (groundEnv env') o := execOp_congr o hs fun x hx => by unfold groundEnv; rw [h x hx]
  unfold evGround
  rw [h1, h2]
theorem evOp_congr {o : Oper} {env env' : Env} (h : ∀ x ∈ o.op.operands, opd env x = opd env' x) (n : Nat) (H : Heap) : evOp o.op P o env n H = evOp o.op P o env' n H := by
  rw [evOp_eq, evOp_eq]
  have hg : (∀ cs b, o.op ≠ .select cs b) → ∀ n H, evGround P o env n H = evGround P o env' n H := fun hs n H => evGround_congr hs h n H
  cases hop : o.op <;> rw [hop] at h hg
  case move x => have h1 := h x (by simp [Op.operands]); show vo (evMove x env n H) = vo (evMove x env' n H); unfold evMove; rw [h1]
  case assign x => have h1 := h x (by simp [Op.operands]); show vo (evMove x env n H) = vo (evMove x env' n H); unfold evMove; rw [h1]
  case pick c x y =>
    have h1 := h c (by simp [Op.operands]); have h2 := h x (by simp [Op.operands]); have h3 := h y (by simp [Op.operands])
    show vo (evPick c x y env n H) = vo (evPick c x y env' n H); unfold evPick evMove; rw [h1, h2, h3]
  case box t x => have h1 := h x (by simp [Op.operands]); show vo (evBox P t x env n H) = vo (evBox P t x env' n H); unfold evBox; rw [h1]
  case build t ps =>
    have h1 : ∀ pl, fillA pl env ps.toList = fillA pl env' ps.toList := fun pl => fillA_congr fun p hp => h p.2 (by simp [Op.operands]; exact ⟨p.1, by simpa using hp⟩)
    show vo (evBuild P t ps.toList env n H) = vo (evBuild P t ps.toList env' n H); unfold evBuild; simp only [h1]
  case buildSlice t m ps =>
    have h1 : ∀ pl, fillA pl env ps.toList = fillA pl env' ps.toList := fun pl => fillA_congr fun p hp => h p.2 (by simp [Op.operands]; exact ⟨p.1, by simpa using hp⟩)
    show vo (evBuildSlice P t m ps.toList env n H) = vo (evBuildSlice P t m ps.toList env' n H); unfold evBuildSlice; simp only [h1]
  case load t x => have h1 := h x (by simp [Op.operands]); show vo (evLoad P t x env n H) = vo (evLoad P t x env' n H); unfold evLoad; rw [h1]
  case store t x y => have h1 := h x (by simp [Op.operands]); have h2 := h y (by simp [Op.operands]); show vo (evStore P t x y env n H) = vo (evStore P t x y env' n H); unfold evStore; rw [h1, h2]
  case nilCheck x => have h1 := h x (by simp [Op.operands]); show vo (evNilCheck x env n H) = vo (evNilCheck x env' n H); unfold evNilCheck; rw [h1]
  case binOp op t x y yt =>
    have h1 := h x (by simp [Op.operands]); have h2 := h y (by simp [Op.operands]); have hg := hg (by simp)
    show vo (evBin P o op t x y env n H) = vo (evBin P o op t x y env' n H); unfold evBin; simp only [h1, h2, hg]
  case unOp op t x => show vo (evGround P o env n H) = vo (evGround P o env' n H); rw [hg (by simp)]
  case convert s d x => have h1 := h x (by simp [Op.operands]); have hg := hg (by simp); show vo (evConvert P o s d x env n H) = vo (evConvert P o s d x env' n H); unfold evConvert; simp only [h1, hg]
  case makeInterface t x => have h1 := h x (by simp [Op.operands]); show vo (evMakeInterface P t x env n H) = vo (evMakeInterface P t x env' n H); unfold evMakeInterface; rw [h1]
  case makeFunc f fi ca =>
    have h1 : opds env fi.toList = opds env' fi.toList := opds_congr fun x hx => h x (by simp [Op.operands]; left; simpa using hx)
    have h2 : opds env ca.toList = opds env' ca.toList := opds_congr fun x hx => h x (by simp [Op.operands]; right; simpa using hx)
    show vo (evMakeFunc f fi.toList ca.toList env n H) = vo (evMakeFunc f fi.toList ca.toList env' n H); unfold evMakeFunc; rw [h1, h2]
  case makeMap t r =>
    show vo (evMakeMap P t r env n H) = vo (evMakeMap P t r env' n H)
    unfold evMakeMap
    cases r with
    | none => rfl
    | some x => have h1 := h x (by simp [Op.operands]); simp only [h1]
  case makeSlice t x y => have h1 := h x (by simp [Op.operands]); have h2 := h y (by simp [Op.operands]); show vo (evMakeSlice P t x y env n H) = vo (evMakeSlice P t x y env' n H); unfold evMakeSlice; rw [h1, h2]
  case slice t x lo hi mx =>
    have h1 := h x (by simp [Op.operands])
    have h2 : ∀ d, bnd env lo d = bnd env' lo d := fun d => bnd_congr fun y hy => h y (by simp [Op.operands, hy])
    have h3 : ∀ d, bnd env hi d = bnd env' hi d := fun d => bnd_congr fun y hy => h y (by simp [Op.operands, hy])
    have hg := hg (by simp)
    show vo (evSlice P o t x lo hi mx env n H) = vo (evSlice P o t x lo hi mx env' n H); unfold evSlice; simp only [h1, h2, h3, hg]
  case fieldAddr s x f => have h1 := h x (by simp [Op.operands]); show vo (evFieldAddr P s x f env n H) = vo (evFieldAddr P s x f env' n H); unfold evFieldAddr; rw [h1]
  case field t x f => have h1 := h x (by simp [Op.operands]); show vo (evField P t x f env n H) = vo (evField P t x f env' n H); unfold evField; rw [h1]
  case indexAddr t x y => have h1 := h x (by simp [Op.operands]); have h2 := h y (by simp [Op.operands]); show vo (evIndexAddr P t x y env n H) = vo (evIndexAddr P t x y env' n H); unfold evIndexAddr; rw [h1, h2]
  case index t x y =>
    have h1 := h x (by simp [Op.operands]); have h2 := h y (by simp [Op.operands]); have hg := hg (by simp)
    show vo (evIndex P o t x y env n H) = vo (evIndex P o t x y env' n H); unfold evIndex; simp only [h1, h2, hg]
  case lookup t x y ok => have h1 := h x (by simp [Op.operands]); have h2 := h y (by simp [Op.operands]); show vo (evLookup P t x y ok env n H) = vo (evLookup P t x y ok env' n H); unfold evLookup; rw [h1, h2]
  case mapUpdate t x y u =>
    have h1 := h x (by simp [Op.operands]); have h2 := h y (by simp [Op.operands]); have h3 := h u (by simp [Op.operands])
    show vo (evMapUpdate P t x y u env n H) = vo (evMapUpdate P t x y u env' n H); unfold evMapUpdate; rw [h1, h2, h3]
  case mapEntry t x y => have h1 := h x (by simp [Op.operands]); have h2 := h y (by simp [Op.operands]); show vo (evMapEntry P t x y env n H) = vo (evMapEntry P t x y env' n H); unfold evMapEntry; rw [h1, h2]
  case entryStore t x y u =>
    have h1 := h x (by simp [Op.operands]); have h2 := h y (by simp [Op.operands]); have h3 := h u (by simp [Op.operands])
    show vo (evEntryStore x y u env n H) = vo (evEntryStore x y u env' n H); unfold evEntryStore; rw [h1, h2, h3]
  case extract x ix => have h1 := h x (by simp [Op.operands]); show vo (evExtract x ix env n H) = vo (evExtract x ix env' n H); unfold evExtract; rw [h1]
  case call c =>
    have hg := hg (by simp)
    have hargs : ∀ x ∈ c.args.toList, opd env x = opd env' x := fun x hx => h x (by
      have hx : x ∈ c.args := by simpa using hx
      simp only [Op.operands, Call.operands]
      split <;> simp [hx])
    have h1 := opds_congr hargs
    show evCall P o c env n H = evCall P o c env' n H
    unfold evCall
    cases hc : c.callee with
    | builtin b =>
      rcases hl : c.args.toList with _ | ⟨x, _ | ⟨y, _ | ⟨z, r⟩⟩⟩ <;> rw [hl] at hargs <;> rcases ht : c.argTypes.toList with _ | ⟨t, _ | ⟨t', ts⟩⟩ <;> cases b <;>
        simp only [evLen, evAppend, evCopy, evDelete, evClear, evCap, hg, hargs, List.mem_cons, true_or, or_true]
    | invoke r name =>
      have h2 := h r (by simp only [Op.operands, Call.operands, hc]; simp)
      simp only [h1, h2]
    | value f =>
      have h2 := h f (by simp only [Op.operands, Call.operands, hc]; simp)
      simp only [h1, h2]
  case range t x =>
    have h1 := h x (by simp [Op.operands])
    show vo (evMapRange P t x env n H) = vo (evMapRange P t x env' n H)
    unfold evMapRange
    simp only [h1]
  case next it st =>
    have h1 := h it (by simp [Op.operands])
    show vo (evMapNext it st env n H) = vo (evMapNext it st env' n H)
    unfold evMapNext
    simp only [h1]
  case entry it =>
    have h1 := h it (by simp [Op.operands])
    show vo (evItEntry it env n H) = vo (evItEntry it env' n H)
    unfold evItEntry
    simp only [h1]
  case «defer» c =>
    have hargs : ∀ x ∈ c.args.toList, opd env x = opd env' x := fun x hx => h x (by
      have hx : x ∈ c.args := by simpa using hx
      simp only [Op.operands, Call.operands]
      split <;> simp [hx])
    have h1 := opds_congr hargs
    show evDefer c env = evDefer c env'
    unfold evDefer
    cases hc : c.callee with
    | value f =>
      have h2 := h f (by simp only [Op.operands, Call.operands, hc]; simp)
      simp only [h1, h2]
    | _ => rfl
  all_goals rfl
end
end Go.Sy
namespace Go.Sy
open Go
/-! ### What the checks of a region say -/
noncomputable def maskOf (o : Oper) (L : List Nat) : Nat := o.after.toList.foldl (fun s e => if Region.binds .any e then s ||| 2 ^ e.on ||| (nth L e.on).getD 0 else s) 0
theorem masks_cons (o : Oper) (r : List Oper) (acc : List Nat) : masks (o :: r) acc = masks r (acc ++ [maskOf o acc]) := rfl
theorem masks_spec : ∀ (ops : List Oper) (acc : List Nat), (masks ops acc).length = acc.length + ops.length ∧ (∀ i, i < acc.length → (masks ops acc)[i]? = acc[i]?) ∧
    ∀ k o, ops[k]? = some o → (masks ops acc)[acc.length + k]? = some (maskOf o ((masks ops acc).take (acc.length + k)))
  | [], acc => ⟨rfl, fun _ _ => rfl, fun k o h => by simp at h⟩
  | o :: r, acc => by
    rw [masks_cons]
    obtain ⟨h1, h2, h3⟩ := masks_spec r (acc ++ [maskOf o acc])
    simp only [List.length_append, List.length_singleton] at h1 h2 h3
    refine ⟨by simp; omega, fun i hi => ?_, fun k o' ho => ?_⟩
    · rw [h2 i (by omega), List.getElem?_append_left hi]
    · cases k with
      | zero =>
        simp only [List.getElem?_cons_zero, Option.some.injEq] at ho
        subst ho
        rw [Nat.add_zero, h2 acc.length (by omega)]
        have ht : (masks r (acc ++ [maskOf o acc])).take acc.length = acc := by
          apply List.ext_getElem?
          intro i
          by_cases hi : i < acc.length
          · rw [List.getElem?_take_of_lt hi, h2 i (by omega), List.getElem?_append_left hi]
          · rw [List.getElem?_eq_none (by rw [List.length_take]; omega), List.getElem?_eq_none (by omega)]
        rw [ht]
        simp
      | succ k =>
        have := h3 k o' (by simpa using ho)
        rw [show acc.length + (k + 1) = acc.length + 1 + k from by omega]
        exact this
theorem maskOf_bit {o : Oper} {L : List Nat} {j : Nat} : (maskOf o L).testBit j = true ↔ ∃ e ∈ o.after.toList, Region.binds .any e = true ∧ (e.on = j ∨ ((L[e.on]?).getD 0).testBit j = true) := by
  have key : ∀ (l : List Edge) (s : Nat), (l.foldl (fun s e => if Region.binds .any e then s ||| 2 ^ e.on ||| (nth L e.on).getD 0 else s) s).testBit j = true ↔ s.testBit j = true ∨ ∃ e ∈ l, Region.binds .any e = true ∧ (e.on = j ∨ ((L[e.on]?).getD 0).testBit j = true) := by
    intro l
    induction l with
    | nil => intro s; simp
    | cons e l ih =>
      intro s
      rw [List.foldl_cons, ih]
      by_cases hb : Region.binds .any e = true
      · rw [if_pos hb, nth_eq]
        simp only [Nat.testBit_or, Nat.testBit_two_pow, Bool.or_eq_true, decide_eq_true_eq, List.mem_cons, exists_eq_or_imp, hb, true_and]
        constructor
        · rintro ((h | h) | h)
          · rcases h with h | h
            · exact .inl h
            · exact .inr (.inl (.inl h))
          · exact .inr (.inl (.inr h))
          · exact .inr (.inr h)
        · rintro (h | (h | h) | h)
          · exact .inl (.inl (.inl h))
          · exact .inl (.inl (.inr h))
          · exact .inl (.inr h)
          · exact .inr h
      · rw [if_neg hb]
        simp only [List.mem_cons, exists_eq_or_imp, hb, false_and, false_or, Bool.false_eq_true]
  unfold maskOf
  rw [key]
  simp
theorem edgesOk_spec : ∀ (ops : List Oper) (i : Nat), edgesOk ops i = true → ∀ k o, ops[k]? = some o → ∀ e ∈ o.after.toList, Region.binds .any e = true → e.on < i + k
  | [], i, _, k, o, ho => by simp at ho
  | o :: r, i, h, k, o', ho => by
    have hu : edgesOk (o :: r) i = (o.after.toList.all (fun e => !Region.binds .any e || Nat.blt e.on i) && edgesOk r (Nat.succ i)) := rfl
    rw [hu, Bool.and_eq_true] at h
    cases k with
    | zero =>
      simp only [List.getElem?_cons_zero, Option.some.injEq] at ho
      subst ho
      intro e he hb
      have := (List.all_eq_true.1 h.1) e he
      rw [hb] at this
      have : e.on < i := by simpa using this
      exact this
    | succ k =>
      intro e he hb
      have := edgesOk_spec r _ h.2 k o' (by simpa using ho) e he hb
      omega
theorem tmpsOk_spec {all : List Oper} {ms : List Nat} {w : T (List Nat)} : ∀ (ops : List Oper) (j : Nat), tmpsOk all ms w ops j = true → ∀ k o, ops[k]? = some o → ∀ t ∈ names all o, ∀ i ∈ (w.get t).getD [], cmpB ms i (j + k) = true
  | [], j, _, k, o, ho => by simp at ho
  | o :: r, j, h, k, o', ho => by
    have hu : tmpsOk all ms w (o :: r) j = ((names all o).all (fun t => ((w.get t).getD []).all fun i => cmpB ms i j) && tmpsOk all ms w r (Nat.succ j)) := rfl
    rw [hu, Bool.and_eq_true] at h
    cases k with
    | zero =>
      simp only [List.getElem?_cons_zero, Option.some.injEq] at ho
      subst ho
      intro t ht i hi
      exact (List.all_eq_true.1 ((List.all_eq_true.1 h.1) t ht)) i hi
    | succ k =>
      intro t ht i hi
      have := tmpsOk_spec r _ h.2 k o' (by simpa using ho) t ht i hi
      rw [show j + (k + 1) = j.succ + k from by omega]
      exact this
theorem writers_spec : ∀ (ops : List Oper) (i : Nat) (t : T (List Nat)), (∀ u x, x ∈ (t.get u).getD [] → x ∈ ((writers ops i t).get u).getD []) ∧
    ∀ k o d, ops[k]? = some o → o.dst = some d → (i + k) ∈ ((writers ops i t).get d).getD []
  | [], i, t => ⟨fun u x h => h, fun k o d ho => by simp at ho⟩
  | o :: r, i, t => by
    have hu : writers (o :: r) i t = (match o.dst with | none => writers r (Nat.succ i) t | some d => T.set (some (i :: (t.get d).getD [])) t d fun t => writers r (Nat.succ i) t) := rfl
    rw [hu]
    cases hd : o.dst with
    | none =>
      obtain ⟨h1, h2⟩ := writers_spec r (Nat.succ i) t
      refine ⟨h1, fun k o' d ho hd' => ?_⟩
      cases k with
      | zero =>
        simp only [List.getElem?_cons_zero, Option.some.injEq] at ho
        subst ho
        rw [hd] at hd'; cases hd'
      | succ k =>
        have := h2 k o' d (by simpa using ho) hd'
        rw [show i + (k + 1) = i.succ + k from by omega]
        exact this
    | some d0 =>
      simp only [T.set_k]
      obtain ⟨h1, h2⟩ := writers_spec r (Nat.succ i) (t.upd d0 (some (i :: (t.get d0).getD [])))
      refine ⟨fun u x hx => h1 u x ?_, fun k o' d ho hd' => ?_⟩
      · rw [T.get_upd]
        split
        · rename_i e; subst e; simp [hx]
        · exact hx
      · cases k with
        | zero =>
          simp only [List.getElem?_cons_zero, Option.some.injEq] at ho
          subst ho
          rw [hd] at hd'; injection hd' with hd'; subst hd'
          refine h1 _ _ ?_
          rw [T.get_upd, if_pos rfl]
          simp
        | succ k =>
          have := h2 k o' d (by simpa using ho) hd'
          rw [show i + (k + 1) = i.succ + k from by omega]
          exact this
theorem bigIn_spec {m : Nat} : ∀ (ks : List K) (i to : Nat), bigIn ks m i to = true → ∀ k kd, ks[k]? = some kd → i + k < to → kd.big = true → m.testBit (i + k) = true
  | [], i, to, _, k, kd, hk => by simp at hk
  | kd0 :: r, i, to, h, k, kd, hk => by
    have hu : bigIn (kd0 :: r) m i to = (match Nat.blt i to with | true => (!kd0.big || m.testBit i) && bigIn r m (Nat.succ i) to | false => true) := rfl
    rw [hu] at h
    intro hlt hbig
    have hi : Nat.blt i to = true := Nat.ble_eq.mpr (by omega)
    rw [hi] at h
    simp only [Bool.and_eq_true] at h
    cases k with
    | zero =>
      simp only [List.getElem?_cons_zero, Option.some.injEq] at hk
      subst hk
      have := h.1
      rw [hbig] at this
      simpa using this
    | succ k =>
      have := bigIn_spec r _ _ h.2 k kd (by simpa using hk) (by omega) hbig
      rw [show i + (k + 1) = i.succ + k from by omega]
      exact this
theorem loOf_spec {m : Nat} : ∀ (ks : List K) (i lo : Nat), loOf ks m i lo = lo ∨ ∃ k kd, ks[k]? = some kd ∧ kd.big = true ∧ m.testBit (i + k) = true ∧ loOf ks m i lo = i + k + 1
  | [], i, lo => .inl rfl
  | kd :: r, i, lo => by
    have hu : loOf (kd :: r) m i lo = loOf r m (Nat.succ i) (match kd.big && m.testBit i with | true => Nat.succ i | false => lo) := rfl
    rw [hu]
    have up : ∀ lo', (∃ k kd', r[k]? = some kd' ∧ kd'.big = true ∧ m.testBit (i.succ + k) = true ∧ loOf r m i.succ lo' = i.succ + k + 1) → ∃ k kd', (kd :: r)[k]? = some kd' ∧ kd'.big = true ∧ m.testBit (i + k) = true ∧ loOf r m i.succ lo' = i + k + 1 := by
      rintro lo' ⟨k, kd', h1, h2, h3, h4⟩
      exact ⟨k + 1, kd', by simpa using h1, h2, by rw [show i + (k + 1) = i.succ + k from by omega]; exact h3, by omega⟩
    cases hb : (kd.big && m.testBit i) with
    | true =>
      rcases loOf_spec r (Nat.succ i) (Nat.succ i) with h | h
      · simp only [Bool.and_eq_true] at hb
        exact .inr ⟨0, kd, by simp, hb.1, by simpa using hb.2, by simpa using h⟩
      · exact .inr (up _ h)
    | false =>
      rcases loOf_spec r (Nat.succ i) lo with h | h
      · exact .inl h
      · exact .inr (up _ h)
theorem hiOf_spec {j : Nat} : ∀ (ks : List K) (ms : List Nat) (i : Nat), ms.length = ks.length → hiOf ks j ms i = i + ks.length ∨ ∃ k kd m, ks[k]? = some kd ∧ ms[k]? = some m ∧ kd.big = true ∧ m.testBit j = true ∧ hiOf ks j ms i = i + k
  | [], ms, i, _ => .inl rfl
  | kd :: r, [], i, h => by simp at h
  | kd :: r, m :: ms, i, h => by
    have hu : hiOf (kd :: r) j (m :: ms) i = (match kd.big && m.testBit j with | true => i | false => hiOf r j ms (Nat.succ i)) := rfl
    rw [hu]
    by_cases hb : (kd.big && m.testBit j) = true
    · rw [hb]
      simp only [Bool.and_eq_true] at hb
      exact .inr ⟨0, kd, m, by simp, by simp, hb.1, hb.2, rfl⟩
    · rw [Bool.not_eq_true] at hb
      rw [hb]
      show hiOf r j ms (Nat.succ i) = _ ∨ ∃ k kd' m', _ ∧ _ ∧ _ ∧ _ ∧ hiOf r j ms (Nat.succ i) = _
      rcases hiOf_spec r ms (Nat.succ i) (by simpa using h) with h' | ⟨k, kd', m', h1, h2, h3, h4, h5⟩
      · exact .inl (by rw [h', List.length_cons]; omega)
      · exact .inr ⟨k + 1, kd', m', by simpa using h1, by simpa using h2, h3, h4, by rw [h5]; omega⟩
def InfoOk (ks : List K) (ms : List Nat) (x : K × Nat) (j : Nat) (r : RI) : Prop :=
  match x.1 with
  | .chain => r = .chain ∧ bigIn ks x.2 0 j = true
  | .new => r = .new
  | .pure => r = .pure
  | .read => r = .read (loOf ks x.2 0 0) (hiOf ks j ms 0) ∧ bigIn ks x.2 0 (loOf ks x.2 0 0) = true
theorem infos_spec {ks : List K} {ms : List Nat} : ∀ (todo : List (K × Nat)) (j : Nat) (l : List RI), infos ks ms todo j = some l → l.length = todo.length ∧ ∀ k x, todo[k]? = some x → ∃ r, l[k]? = some r ∧ InfoOk ks ms x (j + k) r
  | [], j, l, h => by injection h with h; subst h; exact ⟨rfl, fun k x hx => by simp at hx⟩
  | x :: t, j, l, h => by
    have hu : infos ks ms (x :: t) j = (match x.1 with
      | .chain => (match bigIn ks x.2 0 j with | true => (match infos ks ms t (Nat.succ j) with | some l => some (.chain :: l) | none => none) | false => none)
      | .new => (match infos ks ms t (Nat.succ j) with | some l => some (.new :: l) | none => none)
      | .pure => (match infos ks ms t (Nat.succ j) with | some l => some (.pure :: l) | none => none)
      | .read => (match bigIn ks x.2 0 (loOf ks x.2 0 0) with
          | true => (match infos ks ms t (Nat.succ j) with | some l => some (.read (loOf ks x.2 0 0) (hiOf ks j ms 0) :: l) | none => none)
          | false => none)) := rfl
    rw [hu] at h
    have fin : ∀ {r : RI} {l' : List RI}, infos ks ms t (Nat.succ j) = some l' → r :: l' = l → InfoOk ks ms x j r → l.length = (x :: t).length ∧ ∀ k y, (x :: t)[k]? = some y → ∃ r, l[k]? = some r ∧ InfoOk ks ms y (j + k) r := by
      intro r l' h1 h2 h3
      subst h2
      obtain ⟨i1, i2⟩ := infos_spec t _ l' h1
      refine ⟨by simp [i1], fun k y hy => ?_⟩
      cases k with
      | zero =>
        simp only [List.getElem?_cons_zero, Option.some.injEq] at hy
        subst hy
        exact ⟨r, rfl, h3⟩
      | succ k =>
        obtain ⟨r', h4, h5⟩ := i2 k y (by simpa using hy)
        exact ⟨r', by simpa using h4, by rw [show j + (k + 1) = j.succ + k from by omega]; exact h5⟩
    split at h
    · rename_i hx
      split at h
      · rename_i hb
        split at h
        · rename_i l' hl; injection h with h; exact fin hl h (by unfold InfoOk; rw [hx]; exact ⟨rfl, hb⟩)
        · cases h
      · cases h
    · rename_i hx
      split at h
      · rename_i l' hl; injection h with h; exact fin hl h (by unfold InfoOk; rw [hx])
      · cases h
    · rename_i hx
      split at h
      · rename_i l' hl; injection h with h; exact fin hl h (by unfold InfoOk; rw [hx])
      · cases h
    · rename_i hx
      split at h
      · rename_i hb
        split at h
        · rename_i l' hl; injection h with h; exact fin hl h (by unfold InfoOk; rw [hx]; exact ⟨rfl, hb⟩)
        · cases h
      · cases h
/-- What comes before what, in a region. -/
def Bf (ops : List Oper) (i j : Nat) : Prop := (((masks ops [])[i]?).getD 0).testBit j = true
structure Reg (P : Program) (ops : List Oper) (is : List RI) : Prop where
  edge : ∀ i o, ops[i]? = some o → ∀ e ∈ o.after.toList, Region.binds .any e = true → e.on < i
  bf : ∀ i o, ops[i]? = some o → ∀ j, Bf ops i j ↔ ∃ e ∈ o.after.toList, Region.binds .any e = true ∧ (e.on = j ∨ Bf ops e.on j)
  none : ∀ i, ops[i]? = none → ∀ j, ¬ Bf ops i j
  tmps : ∀ j o, ops[j]? = some o → ∀ t ∈ names ops o, ∀ i o', ops[i]? = some o' → o'.dst = some t → i = j ∨ (i < j ∧ Bf ops j i) ∨ (j < i ∧ Bf ops i j)
  len : is.length = ops.length
  chain : ∀ (j : Nat) (o : Oper), ops[j]? = some o → kindOf P o.op = K.chain → is[j]? = some .chain ∧ ∀ i o', ops[i]? = some o' → i < j → (kindOf P o'.op).big = true → Bf ops j i
  new : ∀ (j : Nat) (o : Oper), ops[j]? = some o → kindOf P o.op = K.new → is[j]? = some .new
  pure : ∀ (j : Nat) (o : Oper), ops[j]? = some o → kindOf P o.op = K.pure → is[j]? = some .pure
  read : ∀ (j : Nat) (o : Oper), ops[j]? = some o → kindOf P o.op = K.read → ∃ lo hi, is[j]? = some (.read lo hi) ∧ (∀ i o', ops[i]? = some o' → i < lo → (kindOf P o'.op).big = true → Bf ops j i) ∧
    (lo = 0 ∨ ∃ i o', ops[i]? = some o' ∧ (kindOf P o'.op).big = true ∧ lo = i + 1) ∧ (hi = ops.length ∨ ∃ o', ops[hi]? = some o' ∧ (kindOf P o'.op).big = true ∧ Bf ops hi j)
theorem regInfo_spec {P : Program} {ops : List Oper} {is : List RI} (h : regInfo P ops = some is) : Reg P ops is := by
  unfold regInfo at h
  split at h
  · rename_i hc
    simp only [Bool.and_eq_true] at hc
    obtain ⟨⟨he, hs⟩, ht⟩ := hc
    obtain ⟨m1, m2, m3⟩ := masks_spec ops []
    simp only [List.length_nil, Nat.zero_add] at m1 m3
    have he := edgesOk_spec ops 0 he
    simp only [Nat.zero_add] at he
    have ht := tmpsOk_spec ops 0 ht
    simp only [Nat.zero_add] at ht
    have hw := (writers_spec ops 0 .e).2
    simp only [Nat.zero_add] at hw
    obtain ⟨i1, i2⟩ := infos_spec _ _ _ h
    simp only [Nat.zero_add] at i2
    have hm : ∀ (i : Nat) (o : Oper), ops[i]? = some o → ((masks ops [])[i]?).getD 0 = maskOf o ((masks ops []).take i) := fun i o ho => by rw [m3 i o ho]; rfl
    have hz : ∀ (j : Nat) (o : Oper), ops[j]? = some o → ((ops.map fun o => kindOf P o.op).zip (masks ops []))[j]? = some (kindOf P o.op, ((masks ops [])[j]?).getD 0) := fun j o ho => by
      rw [List.getElem?_zip_eq_some]
      refine ⟨by simp [ho], ?_⟩
      rw [m3 j o ho]; rfl
    have hk : ∀ {i : Nat} {o : Oper}, ops[i]? = some o → (ops.map fun o => kindOf P o.op)[i]? = some (kindOf P o.op) := fun ho => by simp [ho]
    have hk' : ∀ {i : Nat} {kd : K}, (ops.map fun o => kindOf P o.op)[i]? = some kd → ∃ o, ops[i]? = some o ∧ kindOf P o.op = kd := fun {i kd} hi => by
      rw [List.getElem?_map, Option.map_eq_some_iff] at hi
      exact hi
    refine ⟨he, fun i o ho j => ?_, fun i hi j hj => ?_, fun j o ho t htn i o' ho' hd => ?_, by rw [i1]; simp [m1], fun j o ho hkd => ?_, fun j o ho hkd => ?_, fun j o ho hkd => ?_, fun j o ho hkd => ?_⟩
    · unfold Bf
      rw [hm i o ho, maskOf_bit]
      constructor
      · rintro ⟨e, e1, e2, e3⟩
        refine ⟨e, e1, e2, ?_⟩
        rw [List.getElem?_take_of_lt (he i o ho e e1 e2)] at e3
        exact e3
      · rintro ⟨e, e1, e2, e3⟩
        refine ⟨e, e1, e2, ?_⟩
        rw [List.getElem?_take_of_lt (he i o ho e e1 e2)]
        exact e3
    · unfold Bf at hj
      have hi : ops.length ≤ i := List.getElem?_eq_none_iff.1 hi
      rw [List.getElem?_eq_none (by omega)] at hj
      simp at hj
    · have := ht j o ho t htn i (hw i o' t ho' hd)
      unfold cmpB at this
      simp only [Bool.or_eq_true, Bool.and_eq_true, natbeq, decide_eq_true_eq] at this
      rcases this with (h | ⟨h1, h2⟩) | ⟨h1, h2⟩
      · exact .inl h
      · exact .inr (.inl ⟨Nat.ble_eq.mp h1, h2⟩)
      · exact .inr (.inr ⟨Nat.ble_eq.mp h1, h2⟩)
    · obtain ⟨r, r1, r2⟩ := i2 j _ (hz j o ho)
      unfold InfoOk at r2
      rw [hkd] at r2
      simp only at r2
      refine ⟨by rw [r1, r2.1], fun i o' ho' hlt hbig => ?_⟩
      have := bigIn_spec _ 0 j r2.2 i _ (hk ho') (by omega) hbig
      rw [Nat.zero_add] at this
      exact this
    · obtain ⟨r, r1, r2⟩ := i2 j _ (hz j o ho)
      unfold InfoOk at r2
      rw [hkd] at r2
      rw [r1, r2]
    · obtain ⟨r, r1, r2⟩ := i2 j _ (hz j o ho)
      unfold InfoOk at r2
      rw [hkd] at r2
      rw [r1, r2]
    · obtain ⟨r, r1, r2⟩ := i2 j _ (hz j o ho)
      unfold InfoOk at r2
      rw [hkd] at r2
      simp only at r2
      refine ⟨_, _, by rw [r1, r2.1], fun i o' ho' hlt hbig => ?_, ?_, ?_⟩
      · have := bigIn_spec _ 0 _ r2.2 i _ (hk ho') (by omega) hbig
        rw [Nat.zero_add] at this
        exact this
      · rcases loOf_spec (m := ((masks ops [])[j]?).getD 0) (ops.map fun o => kindOf P o.op) 0 0 with h | ⟨k, kd, k1, k2, k3, k4⟩
        · exact .inl h
        · obtain ⟨o', o1, o2⟩ := hk' k1
          exact .inr ⟨k, o', o1, by rw [o2]; exact k2, by omega⟩
      · rcases hiOf_spec (j := j) (ops.map fun o => kindOf P o.op) (masks ops []) 0 (by simp [m1]) with h | ⟨k, kd, m, k1, k2, k3, k4, k5⟩
        · exact .inl (by rw [h]; simp)
        · obtain ⟨o', o1, o2⟩ := hk' k1
          rw [Nat.zero_add] at k5
          rw [k5]
          exact .inr ⟨o', o1, by rw [o2]; exact k3, by unfold Bf; rw [k2]; exact k4⟩
  · cases h
theorem Reg.lt {P : Program} {ops : List Oper} {is : List RI} (h : Reg P ops is) : ∀ i j, Bf ops i j → j < i := by
  intro i
  induction i using Nat.strongRecOn with
  | _ i ih =>
    intro j hj
    cases ho : ops[i]? with
    | none => exact absurd hj (h.none i ho j)
    | some o =>
      obtain ⟨e, e1, e2, e3⟩ := (h.bf i o ho j).1 hj
      have hlt := h.edge i o ho e e1 e2
      rcases e3 with rfl | e3
      · exact hlt
      · have := ih e.on hlt j e3
        omega
/-- What has been done is closed: with an operation, all that comes before it. -/
def Closed (ops : List Oper) (L : Nat → Prop) : Prop := ∀ i o, ops[i]? = some o → L i → ∀ e ∈ o.after.toList, Region.binds .any e = true → L e.on
theorem Reg.closed {P : Program} {ops : List Oper} {is : List RI} (h : Reg P ops is) {L : Nat → Prop} (hL : Closed ops L) : ∀ i j, L i → Bf ops i j → L j := by
  intro i
  induction i using Nat.strongRecOn with
  | _ i ih =>
    intro j hi hj
    cases ho : ops[i]? with
    | none => exact absurd hj (h.none i ho j)
    | some o =>
      obtain ⟨e, e1, e2, e3⟩ := (h.bf i o ho j).1 hj
      have hl := hL i o ho hi e e1 e2
      rcases e3 with rfl | e3
      · exact hl
      · exact ih e.on (h.edge i o ho e e1 e2) j hl e3
theorem Reg.ready {P : Program} {ops : List Oper} {is : List RI} (h : Reg P ops is) {L : Nat → Prop} (hL : Closed ops L) {i : Nat} {o : Oper} (ho : ops[i]? = some o) (hr : ∀ e ∈ o.after.toList, Region.binds .any e = true → L e.on) {j : Nat} (hj : Bf ops i j) : L j := by
  obtain ⟨e, e1, e2, e3⟩ := (h.bf i o ho j).1 hj
  rcases e3 with rfl | e3
  · exact hr e e1 e2
  · exact h.closed hL e.on j (hr e e1 e2) e3
end Go.Sy
