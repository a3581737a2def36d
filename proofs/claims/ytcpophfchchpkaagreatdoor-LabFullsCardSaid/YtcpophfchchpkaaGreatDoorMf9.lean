/- SymS, SymT, SymU -/
import Derived.Test.YtcpophfchchpkaaGreatDoorMf8
namespace Go.Sy
open Go
section
variable {P : Program}
/-- A block is changed, and forgotten. -/
theorem Rel.kill {s : Sg} {H : Heap} {w : World} (h : Rel P s H w) (n : Nat) {x : Nat} {A : Blk} (hx : x < LIM) (hA : Q8.get H x = some A) {b : Nat} (hb : s.blk x = some b) {w' : World}
    (hs : w'.heap.size = w.heap.size) (hother : ∀ c, c ≠ b → w'.heap[c]? = w.heap[c]?) (e1 : w'.os = w.os) (e2 : w'.tape = w.tape) (e3 : w'.output = w.output) :
    Rel P s (Q8.upd H x none) w' ∧ Step s n H w s n (Q8.upd H x none) w' := by
  have hold : ∀ y, y < LIM → ∀ B, Q8.get (Q8.upd H x none) y = some B → Q8.get H y = some B ∧ y ≠ x := fun y hy B hB => by
    rw [Q8.get_upd _ _ _ _ hx hy] at hB
    split at hB
    · cases hB
    · rename_i he; exact ⟨hB, Ne.symm he⟩
  have hne : ∀ y, y < LIM → Q8.get (Q8.upd H x none) y ≠ none → Q8.get H y ≠ none := fun y hy h1 => by
    obtain ⟨B, hB⟩ := isSome_ex h1
    rw [(hold y hy B hB).1]; simp
  refine ⟨⟨h.lim, h.glob, fun y B hy hB => ?_, fun y z c hy hz h1 h2 => h.inj y z c hy hz (hne y hy h1) (hne z hz h2)⟩, fun _ _ => ⟨rfl, rfl⟩, by omega, fun c _ hc => hother c (fun e => ?_), fun y c hy h1 h2 _ => ⟨y, hy, hne y hy h1, h2⟩, e1, e2, e3⟩
  · obtain ⟨hB, hyx⟩ := hold y hy B hB
    obtain ⟨c, o', h1, h2, h3⟩ := h.blk y B hy hB
    refine ⟨c, o', h1, ?_, h3⟩
    rw [hother c (fun e => ?_)]
    · exact h2
    · subst e
      exact hyx (h.inj y x c hy hx (by rw [hB]; simp) (by rw [hA]; simp) h1 hb)
  · subst e
    exact hc x hx (by rw [hA]; simp) hb
def PutRel (dst : Option Tmp) (N : Nat) (v : AV) (env env1 : Env) : Prop := match dst with | some d => d < N ∧ env1 = env.upd d v | none => env1 = env
theorem putK_val {β : Type} {dst : Option Tmp} {N : Nat} {v : AV} {env : Env} {er : List Nat → β} {k : Env → β} {r : β} (h : putK dst N v env er k = r) (hr : ∀ l, er l ≠ r) :
    ∃ env1, k env1 = r ∧ PutRel dst N v env env1 := by
  unfold putK at h
  cases dst with
  | none => exact ⟨env, h, rfl⟩
  | some d =>
    simp only at h
    rw [bsel] at h
    split at h
    · rename_i hd
      rw [Env.put_k] at h
      exact ⟨_, h, Nat.ble_eq.mp hd, rfl⟩
    · exact absurd h (hr _)
theorem put_env {dst : Option Tmp} {N : Nat} {v : AV} {env env1 : Env} (h : PutRel dst N v env env1) {s : Sg} {a : Act} {V : Value} (hv : v.conc s = some V) (he : EnvR s env N a.tmps) :
    EnvR s env1 N (a.put dst V).tmps := by
  cases dst with
  | none => have h : env1 = env := h; subst h; exact he
  | some d => obtain ⟨h1, rfl⟩ := h; exact he.upd h1 hv
theorem put_defers (a : Act) (dst : Option Tmp) (V : Value) : (a.put dst V).defers = a.defers := by cases dst <;> rfl
theorem wantedG_ok {all : List Oper} {g : Nat × Bool} {env : Env} {b : Bool} (h : wantedG all g env = some b) {o : Oper} (ho : o.guard = some g) {s : Sg} {N : Nat} {a : Act} (he : EnvR s env N a.tmps) :
    Region.wanted o (yielded ⟨all⟩ a.tmps) = b := by
  obtain ⟨j, want⟩ := g
  unfold wantedG at h
  unfold Region.wanted
  rw [ho]
  simp only [yielded, List.getElem?_toArray]
  rw [nth_eq] at h
  split at h
  · rename_i x hx
    rw [hx]
    split at h
    · rename_i t ht
      split at h
      · rename_i c hc
        obtain ⟨V, h1, h2⟩ := he.get t _ hc
        simp only [AV.conc, Option.some.injEq] at h1
        subst h1
        injection h with h
        simp [ht, h2, ← h]
      · rename_i l hl
        obtain ⟨V, h1, h2⟩ := he.get t _ hl
        simp only [AV.conc, Option.map_eq_some_iff] at h1
        obtain ⟨vs, _, h1⟩ := h1
        subst h1
        injection h with h
        simp [ht, h2, ← h]
      · cases h
    · rename_i ht
      injection h with h
      simp [ht, ← h]
  · rename_i hx
    injection h with h
    simp [hx, ← h]
theorem wantedA_ok {all : List Oper} {o : Oper} {env : Env} {b : Bool} (h : wantedA all o.guard env = some b) {s : Sg} {N : Nat} {a : Act} (he : EnvR s env N a.tmps) : Region.wanted o (yielded ⟨all⟩ a.tmps) = b := by
  unfold wantedA at h
  cases hg : o.guard with
  | none => rw [hg] at h; injection h with h; subst h; simp [Region.wanted, hg]
  | some g => rw [hg] at h; exact wantedG_ok h hg he
theorem bindP_cons (N : Nat) (t : Tmp) (ps : List Tmp) (as : List AV) (env : Env) (k : Env → VR) : bindP N (t :: ps) as env k = (match as with
      | [] => .er [201]
      | a :: r => (match Nat.blt t N with | true => env.put t a fun env => bindP N ps r env k | false => .er [202])) := rfl
theorem bindP_nil (N : Nat) (as : List AV) (env : Env) (k : Env → VR) : bindP N [] as env k = (match as with | [] => k env | _ => .er [200]) := rfl
theorem bindP_ok {N : Nat} {k : Env → VR} {v : AV} {n : Nat} {H : Heap} : ∀ {ps : List Tmp} {as : List AV} {env : Env}, bindP N ps as env k = .ok v n H → ps.length = as.length ∧ ∃ env1, k env1 = .ok v n H ∧
    ∀ (s : Sg) (Args : List Value) (ts : Array Value), concL s as = some Args → EnvR s env N ts → EnvR s env1 N ((ps.zip Args).foldl (fun tmps (x : Tmp × Value) => tmps.setIfInBounds x.1 x.2) ts)
  | [], as, env, h => by
    rw [bindP_nil] at h
    split at h
    · exact ⟨rfl, env, h, fun s Args ts hc he => he⟩
    · cases h
  | t :: ps, as, env, h => by
    rw [bindP_cons] at h
    split at h
    · cases h
    · rename_i a r
      split at h
      · rename_i ht
        rw [Env.put_k] at h
        obtain ⟨h1, env1, h2, h3⟩ := bindP_ok h
        refine ⟨by simp [h1], env1, h2, fun s Args ts hc he => ?_⟩
        obtain ⟨V, us, c1, c2, rfl⟩ := concL_cons.1 hc
        exact h3 s us _ c2 (he.upd (Nat.ble_eq.mp ht) c1)
      · cases h
theorem loop_row {s : Sg} {H : Heap} {w : World} (hr : Rel P s H w) {y : Nat} (hy : y < LIM) {st : LoopState} {pe : Option Code} {ps : List Tmp} {asg body : Code} {env : Env} {N d b : Nat} (hb : s.blk y = some b)
    (hH : Q8.get H y = some (.loop st pe ps asg body env N d)) : ∃ l : Loop, w.heap[b]? = some (.loop l) ∧ l.state = st ∧ l.pending = pe ∧ l.params.toList = ps ∧ l.assign = asg ∧ l.body = body ∧ EnvR s env N l.tmps ∧ s.blk d = some l.defers := by
  obtain ⟨b', o, h1, h2, h3⟩ := hr.blk y _ hy hH
  rw [hb] at h1; injection h1 with h1; subst h1
  cases o with
  | loop l => exact ⟨l, h2, h3⟩
  | _ => exact h3.elim
theorem putObj_facts (w : World) (b : Nat) (o : Obj) (hb : b < w.heap.size) : (w.putObj b o).heap.size = w.heap.size ∧ (w.putObj b o).heap[b]? = some o ∧ (∀ c, c ≠ b → (w.putObj b o).heap[c]? = w.heap[c]?) ∧ (w.putObj b o).os = w.os ∧ (w.putObj b o).tape = w.tape ∧ (w.putObj b o).output = w.output :=
  ⟨World.putObj_size, World.putObj_heap_same hb, fun _ hc => World.putObj_heap_other hc, rfl, rfl, rfl⟩
def stOf (x : Ext) : LoopState := match x with | .nrm => .ready | _ => .done
def isN (x : Ext) : Bool := match x with | .nrm => true | _ => false
theorem jumpOf_none {x : Ext} : (jumpOf x).isNone = true ↔ x = .nrm := by cases x <;> simp [jumpOf]
theorem evRound_ok {ec : EC} (hec : EcOk P ec) {y : Nat} {args : List AV} {n : Nat} {H : Heap} {v : AV} {n' : Nat} {H' : Heap} (h : evRound ec y args n H = .ok v n' H') :
    n ≤ n' ∧ ∀ (s : Sg) (w : World) (b : Nat) (Args : List Value) (ro : Option Nat) (R : Ending → World → Prop), s.blk y = some b → concL s args = some Args → Rel P s H w → Free s n n' → n' ≤ LIM →
      (∀ V s' w', v.conc s' = some V → Rel P s' H' w' → Step s n H w s' n' H' w' → R (.returned V) w') →
      ∃ f tmps asg body, (Instr.yield b ⟨Args⟩).run P w = .ok (.round b f tmps asg body) w ∧ RoundIn (fen ro) 0 P b f tmps asg body w R := by
  unfold evRound at h
  split at h
  · rename_i st pe ps asg body env N d hy
    obtain ⟨hlen, env1, h, henv⟩ := bindP_ok h
    split at h
    · rename_i env2 n2 H2 hc1
      have g1 := hec _ _ _ _ _ _ _ _ _ _ _ _ hc1
      split at h
      · rename_i pe2 ps2 asg2 body2 e2 N2 d2 hy2
        rw [Q8.set_k] at h
        split at h
        · rename_i x env3 n3 H3 hc2
          have g2 := hec _ _ _ _ _ _ _ _ _ _ _ _ hc2
          split at h
          · rename_i st4 pe4 ps4 asg4 body4 e4 N4 d4 hy4
            rw [Q8.set_k] at h
            have key : v = .b (isN x) ∧ n3 = n' ∧ H' = Q8.upd H3 y (some (.loop (stOf x) (jumpOf x) ps4 asg4 body4 e4 N4 d4)) := by
              cases x <;> (injection h with q1 q2 q3; exact ⟨q1.symm, q2, q3.symm⟩)
            obtain ⟨hv, rfl, hH'⟩ := key
            refine ⟨Nat.le_trans g1.1 g2.1, fun s w b Args ro R hb hA hr hf hl hR => ?_⟩
            have hylim := hr.lim y b hb
            obtain ⟨l, l1, l2, l3, l4, l5, l6, l7, l8⟩ := loop_row hr hylim hb hy
            have hsz : (⟨Args⟩ : Array Value).size = l.params.size := by
              have h1 := concL_length hA
              have h2 : l.params.size = ps.length := by rw [← l4, Array.length_toList]
              rw [h2, hlen, ← h1]; rfl
            refine ⟨_, _, _, _, run_yield l1 hsz, roundIn_of_wpIn (fen_fn ro _) ?_⟩
            rw [fen_in, l5, l6]
            have ht : EnvR s env1 N ((l.params.zip ⟨Args⟩).foldl (fun tmps (x : Tmp × Value) => tmps.setIfInBounds x.1 x.2) l.tmps) := by
              have := henv s Args l.tmps hA l7
              rw [← l4] at this
              rw [← Array.foldl_toList]
              simpa using this
            refine g1.wp ht trivial (show RoR s (some y) (some b) from hb) hr (hf.left g2.1) (Nat.le_trans g2.1 hl) fun s2 a2 w2 k1 k2 k3 k4 => ?_
            have hle2 := k4.le (hf.left g2.1)
            have hb2 := (hle2 y b hb).1
            obtain ⟨m, m1, m2, m3, m4, m5, m6, m7, m8⟩ := loop_row k3 hylim hb2 hy2
            have hbl := (Array.getElem?_eq_some_iff.1 m1).1
            obtain ⟨p1, p2, p3, p4, p5, p6⟩ := putObj_facts w2 b (.loop { m with state := .busy }) hbl
            refine ⟨_, run_beginRound m1 m2, ?_⟩
            obtain ⟨r1, r2⟩ := k3.write n2 hylim hy2 hb2 p1 p2 (A' := .loop .busy pe2 ps2 asg2 body2 e2 N2 d2) ⟨rfl, m3, m4, m5, m6, m7, m8⟩ p3 p4 p5 p6
            refine g2.wp k1 k2 (show RoR s2 (some y) (some b) from hb2) r1 (k4.free hf g1.1) hl fun s3 a3 w3 j1 j2 j3 j4 => ?_
            have hle3 := j4.le (k4.free hf g1.1)
            have hb3 := (hle3 y b hb2).1
            obtain ⟨q, q1, q2, q3, q4, q5, q6, q7, q8⟩ := loop_row j3 hylim hb3 hy4
            have hbl3 := (Array.getElem?_eq_some_iff.1 q1).1
            have hst : Step s n H w s3 n3 H3 w3 := ((k4.trans r2 g1.1 (Nat.le_refl _)).trans j4 g1.1 g2.1)
            have fin : ∀ (jump : Option Code), jump = jumpOf x → ∃ V w4, (Instr.endRound b jump).run P w3 = .ok V w4 ∧ R (.returned V) w4 := by
              intro jump hj
              subst hj
              obtain ⟨p1, p2, p3, p4, p5, p6⟩ := putObj_facts w3 b (.loop { q with state := if (jumpOf x).isNone then .ready else .done, pending := jumpOf x }) hbl3
              obtain ⟨r1, r2⟩ := j3.write n3 hylim hy4 hb3 p1 p2 (A' := .loop (stOf x) (jumpOf x) ps4 asg4 body4 e4 N4 d4) ⟨by cases x <;> rfl, rfl, q4, q5, q6, q7, q8⟩ p3 p4 p5 p6
              refine ⟨_, _, run_endRound _ q1, hR _ s3 _ ?_ (hH' ▸ r1) (hH' ▸ hst.trans r2 (Nat.le_trans g1.1 g2.1) (Nat.le_refl _))⟩
              subst hv
              cases x <;> rfl
            cases x with
            | nrm => exact fin _ rfl
            | ex id => exact fin _ rfl
            | rt => exact fin _ rfl
            | go t => exact fin _ rfl
          · cases h
        · cases h
        · cases h
      · cases h
    · cases h
    · cases h
  · cases h
/-- One operation that is wanted, whatever it does, but for a deferred call. -/
noncomputable def evV (P : Program) (ec : EC) (ef : EF) (o : Oper) (env : Env) (n : Nat) (H : Heap) : VR :=
  match evOp o.op P o env n H with
  | .val v n H => .ok v n H
  | .call g args => ef g args n H
  | .yld y args => evRound ec y args n H
  | .dfr _ _ => .er [235]
  | .no k => .er [k]
theorem evV_ok {ec : EC} {ef : EF} (hec : EcOk P ec) (hef : EfOk P ef) {o : Oper} {env : Env} {n : Nat} {H : Heap} {v : AV} {n' : Nat} {H' : Heap} (h : evV P ec ef o env n H = .ok v n' H') :
    n ≤ n' ∧ ∀ (s : Sg) (N : Nat) (a : Act) (w : World) (ro : Option Nat) (K : Act → World → Prop) (Q : Exit → Act → World → Prop), EnvR s env N a.tmps → Rel P s H w → Free s n n' → n' ≤ LIM →
      (∀ V s' w', v.conc s' = some V → Rel P s' H' w' → Step s n H w s' n' H' w' → K (a.put o.dst V) w') → o.wpIn (fen ro) 0 P a w K Q := by
  unfold evV at h
  split at h
  · rename_i v1 n1 H1 hv
    injection h with q1 q2 q3
    subst q1 q2 q3
    obtain ⟨g1, g2⟩ := (evOp_ok hv).op
    have hnd := evOp_no_dfr hv (fun _ _ e => by cases e) (fun _ e => by cases e)
    refine ⟨g1, fun s N a w ro K Q he hr hf hl hK => ⟨fun _ _ => fen_fn _ _, ?_⟩⟩
    rw [Oper.semAt_eq _ _ _ hnd]
    obtain ⟨V, s', w', r1, r2, r3, r4⟩ := g2 s N a w he hr hf hl
    rcases r1 with r1 | ⟨r1, rfl⟩
    · rw [r1]; exact hK V s' w' r2 r3 r4
    · rw [r1]; exact hK _ s' w' r2 r3 r4
  · rename_i g args hv
    have hnd := evOp_no_dfr hv (fun _ _ e => by cases e) (fun _ e => by cases e)
    obtain ⟨g1, g2⟩ := hef _ _ _ _ _ _ _ h
    refine ⟨g1, fun s N a w ro K Q he hr hf hl hK => ⟨fun _ _ => fen_fn _ _, ?_⟩⟩
    rw [Oper.semAt_eq _ _ _ hnd]
    obtain ⟨Args, c1, c2⟩ := evOp_call hv s N a he hr.glob
    rw [c2 w]
    exact ⟨fun h => fen_depth ro h, fen_calls (g2 s w Args (fun | .returned v, w'' => K (a.put o.dst v) w'' | .panicked chain, w'' => Q (.panic chain) a w'' | .outgrown, _ => LetsOut Q) c1 hr hf hl fun V s' w' r2 r3 r4 => hK V s' w' r2 r3 r4)⟩
  · rename_i y args hv
    have hnd := evOp_no_dfr hv (fun _ _ e => by cases e) (fun _ e => by cases e)
    obtain ⟨g1, g2⟩ := evRound_ok hec h
    refine ⟨g1, fun s N a w ro K Q he hr hf hl hK => ⟨fun _ _ => fen_fn _ _, ?_⟩⟩
    rw [Oper.semAt_eq _ _ _ hnd]
    obtain ⟨b, Args, c0, c1, c2⟩ := evOp_yld hv s N a he hr.glob
    obtain ⟨f, tmps, asg, body, d1, d2⟩ := g2 s w b Args ro (fun | .returned v, w'' => K (a.put o.dst v) w'' | .panicked chain, w'' => Q (.panic chain) a w'' | .outgrown, _ => LetsOut Q) c0 c1 hr hf hl fun V s' w' r2 r3 r4 => hK V s' w' r2 r3 r4
    rw [c2 w, d1]
    exact ⟨fun h => fen_depth ro h, d2⟩
  · cases h
  · cases h
end
end Go.Sy
namespace Go.Sy
open Go
section
variable {P : Program}
/-! ### Regions whose order is as written -/
theorem wpOpsIn_at {F : Fence} {Q : Exit → Act → World → Prop} {ops : Array Oper} {i : Nat} {rest : List Nat} {o : Oper} (ho : ops[i]? = some o) {a : Act} {w : World}
    (h1 : Region.wanted o (yielded ops a.tmps) = true → o.wpIn F 0 P a w (wpOpsIn F 0 P ops Q rest) Q)
    (h2 : Region.wanted o (yielded ops a.tmps) = false → (∀ f, o.about P w a.eval = some f → F.fn f) ∧ wpOpsIn F 0 P ops Q rest (a.put o.dst undef) w) : wpOpsIn F 0 P ops Q (i :: rest) a w := by
  simp only [wpOpsIn, ho]
  cases hw : Region.wanted o (yielded ops a.tmps) with
  | true => simp only [if_true]; exact h1 hw
  | false => simp only [Bool.false_eq_true, if_false]; exact h2 hw
theorem undefA_conc (s : Sg) : undefA.conc s = some undef := rfl
theorem evOps_ok {ec : EC} {ef : EF} (hec : EcOk P ec) (hef : EfOk P ef) {rd : Option Nat} {N : Nat} {all : List Oper} : ∀ {ops pre : List Oper}, all = pre ++ ops → ∀ {env : Env} {ms : List Df} {n : Nat} {H : Heap} {env' : Env} {ms' : List Df} {n' : Nat} {H' : Heap},
    evOps P ec ef rd N all ops env ms n H = .ok env' ms' n' H' → n ≤ n' ∧ ∀ (s : Sg) (a : Act) (w : World) (ro : Option Nat) (Q : Exit → Act → World → Prop), EnvR s env N a.tmps → DefsR s ms a.defers → RoR s rd ro → Rel P s H w → Free s n n' → n' ≤ LIM →
    (∀ s' a' w', EnvR s' env' N a'.tmps → DefsR s' ms' a'.defers → Rel P s' H' w' → Step s n H w s' n' H' w' → Q .normal a' w') → wpOpsIn (fen ro) 0 P ⟨all⟩ Q (List.range' pre.length ops.length) a w
  | [], pre, hall, env, ms, n, H, env', ms', n', H', h => by
    injection h with q1 q2 q3 q4
    subst q1 q2 q3 q4
    exact ⟨Nat.le_refl _, fun s a w ro Q h1 h2 h3 h4 h5 h6 h7 => h7 s a w h1 h2 h4 (Step.refl ..)⟩
  | o :: ops, pre, hall, env, ms, n, H, env', ms', n', H', h => by
    have hall' : all = (pre ++ [o]) ++ ops := by rw [hall]; simp
    have ho : (⟨all⟩ : Array Oper)[pre.length]? = some o := by rw [hall]; simp
    have hrange : List.range' pre.length (o :: ops).length = pre.length :: List.range' (pre ++ [o]).length ops.length := by simp [List.range'_succ]
    rw [hrange]
    have hu : evOps P ec ef rd N all (o :: ops) env ms n H = (Option.rec (evGo P ec ef rd N o (evOps P ec ef rd N all ops) env ms n H)
      (fun g => Option.rec (.er [209]) (fun w => Bool.rec (evSkip N o (evOps P ec ef rd N all ops) env ms n H) (evGo P ec ef rd N o (evOps P ec ef rd N all ops) env ms n H) w) (wantedG all g env)) o.guard : DR) := rfl
    rw [hu] at h
    -- carried out
    have go : evGo P ec ef rd N o (evOps P ec ef rd N all ops) env ms n H = .ok env' ms' n' H' → n ≤ n' ∧ ∀ (s : Sg) (a : Act) (w : World) (ro : Option Nat) (Q : Exit → Act → World → Prop), EnvR s env N a.tmps → DefsR s ms a.defers → RoR s rd ro → Rel P s H w → Free s n n' → n' ≤ LIM →
        (∀ s' a' w', EnvR s' env' N a'.tmps → DefsR s' ms' a'.defers → Rel P s' H' w' → Step s n H w s' n' H' w' → Q .normal a' w') →
        o.wpIn (fen ro) 0 P a w (wpOpsIn (fen ro) 0 P ⟨all⟩ Q (List.range' (pre ++ [o]).length ops.length)) Q := by
      intro h
      have val : ∀ {v n1 H1}, evV P ec ef o env n H = .ok v n1 H1 → putK o.dst N v env DR.er (fun env => evOps P ec ef rd N all ops env ms n1 H1) = .ok env' ms' n' H' → n ≤ n' ∧ ∀ (s : Sg) (a : Act) (w : World) (ro : Option Nat) (Q : Exit → Act → World → Prop), EnvR s env N a.tmps → DefsR s ms a.defers → RoR s rd ro → Rel P s H w → Free s n n' → n' ≤ LIM →
          (∀ s' a' w', EnvR s' env' N a'.tmps → DefsR s' ms' a'.defers → Rel P s' H' w' → Step s n H w s' n' H' w' → Q .normal a' w') →
          o.wpIn (fen ro) 0 P a w (wpOpsIn (fen ro) 0 P ⟨all⟩ Q (List.range' (pre ++ [o]).length ops.length)) Q := by
        intro v n1 H1 hv hp
        obtain ⟨g1, g2⟩ := evV_ok hec hef hv
        obtain ⟨env1, hk, he1⟩ := putK_val hp (fun _ e => by cases e)
        obtain ⟨i1, i2⟩ := evOps_ok hec hef hall' hk
        refine ⟨Nat.le_trans g1 i1, fun s a w ro Q h1 h2 h3 h4 h5 h6 h7 => g2 s N a w ro _ Q h1 h4 (h5.left i1) (Nat.le_trans i1 h6) fun V s1 w1 k1 k2 k3 => ?_⟩
        have hle := k3.le (h5.left i1)
        exact i2 s1 _ w1 ro Q (put_env he1 k1 (h1.le hle)) (by rw [put_defers]; exact h2.le hle) (h3.le hle) k2 (k3.free h5 g1) h6 fun s' a' w' j1 j2 j3 j4 => h7 s' a' w' j1 j2 j3 (k3.trans j4 g1 i1)
      unfold evGo at h
      cases hr : evOp o.op P o env n H with
      | val v n1 H1 =>
        rw [hr] at h
        exact val (by unfold evV; rw [hr]) h
      | call g args =>
        rw [hr] at h
        have h : (VR.rec (fun v n H => putK o.dst N v env .er fun env => evOps P ec ef rd N all ops env ms n H) (fun l => .er l) (ef g args n H) : DR) = .ok env' ms' n' H' := h
        cases hc : ef g args n H with
        | er l => rw [hc] at h; cases h
        | ok v n1 H1 => rw [hc] at h; exact val (by unfold evV; rw [hr]; exact hc) h
      | yld y args =>
        rw [hr] at h
        have h : (VR.rec (fun v n H => putK o.dst N v env .er fun env => evOps P ec ef rd N all ops env ms n H) (fun l => .er l) (evRound ec y args n H) : DR) = .ok env' ms' n' H' := h
        cases hc : evRound ec y args n H with
        | er l => rw [hc] at h; cases h
        | ok v n1 H1 => rw [hc] at h; exact val (by unfold evV; rw [hr]; exact hc) h
      | no k => rw [hr] at h; cases h
      | dfr f args =>
        rw [hr] at h
        cases rd with
        | some y => cases h
        | none =>
          have h : putK o.dst N undefA env DR.er (fun env => evOps P ec ef none N all ops env (.call f args :: ms) n H) = .ok env' ms' n' H' := h
          obtain ⟨env1, hk, he1⟩ := putK_val h (fun _ e => by cases e)
          obtain ⟨i1, i2⟩ := evOps_ok hec hef hall' hk
          obtain ⟨⟨c, hc⟩, hd⟩ := evOp_dfr hr
          refine ⟨i1, fun s a w ro Q h1 h2 h3 h4 h5 h6 h7 => ⟨fun _ _ => fen_fn _ _, ?_⟩⟩
          have hro : ro = none := by cases ro with | none => rfl | some l => exact h3.elim
          subst hro
          obtain ⟨D, C, d1, d2⟩ := hd s N a h1 h4.glob
          rw [fen_round, Oper.semAt_none, d2 w]
          simp only [Oper.uponIn]
          exact i2 s _ w none Q (put_env (a := { a with defers := _ }) he1 (undefA_conc s) h1) (by rw [put_defers]; exact ⟨⟨D, C, d1, rfl⟩, h2⟩) h3 h4 h5 h6 h7
    cases hg : o.guard with
    | none =>
      rw [hg] at h
      obtain ⟨g1, g2⟩ := go h
      refine ⟨g1, fun s a w ro Q h1 h2 h3 h4 h5 h6 h7 => wpOpsIn_at ho (fun _ => g2 s a w ro Q h1 h2 h3 h4 h5 h6 h7) (fun hw => ?_)⟩
      simp [Region.wanted, hg] at hw
    | some g =>
      rw [hg] at h
      have h : (Option.rec (.er [209]) (fun w => Bool.rec (evSkip N o (evOps P ec ef rd N all ops) env ms n H) (evGo P ec ef rd N o (evOps P ec ef rd N all ops) env ms n H) w) (wantedG all g env) : DR) = .ok env' ms' n' H' := h
      cases hw : wantedG all g env with
      | none => rw [hw] at h; cases h
      | some b =>
        rw [hw] at h
        cases b with
        | true =>
          obtain ⟨g1, g2⟩ := go h
          refine ⟨g1, fun s a w ro Q h1 h2 h3 h4 h5 h6 h7 => wpOpsIn_at ho (fun _ => g2 s a w ro Q h1 h2 h3 h4 h5 h6 h7) (fun hw' => ?_)⟩
          rw [wantedG_ok hw hg h1] at hw'; cases hw'
        | false =>
          have h : putK o.dst N undefA env DR.er (fun env => evOps P ec ef rd N all ops env ms n H) = .ok env' ms' n' H' := h
          obtain ⟨env1, hk, he1⟩ := putK_val h (fun _ e => by cases e)
          obtain ⟨i1, i2⟩ := evOps_ok hec hef hall' hk
          refine ⟨i1, fun s a w ro Q h1 h2 h3 h4 h5 h6 h7 => wpOpsIn_at ho (fun hw' => ?_) (fun _ => ⟨fun _ _ => fen_fn _ _, ?_⟩)⟩
          · rw [wantedG_ok hw hg h1] at hw'; cases hw'
          · exact i2 s _ w ro Q (put_env he1 (undefA_conc s) h1) (by rw [put_defers]; exact h2) h3 h4 h5 h6 h7
theorem evRegion_plain {ec : EC} {ef : EF} (hec : EcOk P ec) (hef : EfOk P ef) {rd : Option Nat} {N id : Nat} {ops : Array Oper} {env : Env} {ms : List Df} {n : Nat} {H : Heap} {e : Ext} {env' : Env} {ms' : List Df} {n' : Nat} {H' : Heap}
    (h : evRegion P ec ef rd N id ops.toList false env ms n H = .ok e env' ms' n' H') : CodeGood P (.region id ops false) rd N env ms n H e env' ms' n' H' := by
  have h : (match evOps P ec ef rd N ops.toList ops.toList env.fresh ms n H with | .ok env ms n H => CR.ok .nrm env ms n H | .er l => .er (id :: l)) = .ok e env' ms' n' H' := h
  split at h
  · rename_i env1 ms1 n1 H1 hr
    injection h with q1 q2 q3 q4 q5
    subst q1 q2 q3 q4 q5
    obtain ⟨g1, g2⟩ := evOps_ok hec hef (pre := []) rfl hr
    refine ⟨g1, fun s a w ro Q h1 h2 h3 h4 h5 h6 h7 => wpIn_region ?_⟩
    have := g2 s a w ro Q h1.fresh h2 h3 h4 h5 h6 h7
    rw [List.range_eq_range']
    exact this
  · cases h
/-! ### A range over a function -/
theorem evRange_ok {ec : EC} {ef : EF} (hec : EcOk P ec) (hef : EfOk P ef) {f : Operand} {ps : Array Tmp} {asg body : Code} {rd : Option Nat} {N : Nat} {env : Env} {ms : List Df} {n : Nat} {H : Heap} {e : Ext} {env' : Env} {ms' : List Df} {n' : Nat} {H' : Heap}
    (h : evRange P ec ef f ps.toList asg body rd N env ms n H = .ok e env' ms' n' H') : CodeGood P (.rangeFunc f ps asg body) rd N env ms n H e env' ms' n' H' := by
  -- the loop's record lies
  have go : ∀ {d : Nat} {ms0 : List Df} {n0 : Nat} {H0 : Heap}, (Q8.set (some (.loop .ready none ps.toList asg body env N d)) H0 n0 fun H => frc (Nat.succ n0) fun n' =>
    (match opd env f with
    | some (.fn (.func g) a c) => frcL (a ++ (AV.yl n0) :: c) fun args =>
      (match callable P g with
      | none => CR.er [237]
      | some _ => (match ef g args n' H with
        | .ok _ m H => (match Q8.get H n0 with
            | some (.loop .busy _ _ _ _ _ _ _) => .er [217]
            | some (.loop _ pe _ _ _ _ _ _) => Q8.set none H n0 fun H => (match pe with
                | none => .ok .nrm env ms0 m H
                | some c => ec c rd N env ms0 m H)
            | _ => .er [218])
        | .er l => .er (g :: l)))
    | _ => .er [219])) = .ok e env' ms' n' H' → n0 + 1 ≤ n' ∧ ∀ (s : Sg) (a : Act) (w : World) (ro : Option Nat) (Q : Exit → Act → World → Prop) (fn : FuncId) (defs : Nat), EnvR s env N a.tmps → DefsR s ms0 a.defers → RoR s rd ro → Rel P s H0 w → Free s n0 n' → n' ≤ LIM → s.blk d = some defs →
      (∀ s' a' w', EnvR s' env' N a'.tmps → DefsR s' ms' a'.defers → Rel P s' H' w' → Step s n0 H0 w s' n' H' w' → Q e.exit a' w') →
      ∃ (dd : Deferred) (g : FuncId) (args : Array Value),
        (resolve a.eval (rangeCall f w.heap.size) 0).run P (w.alloc (.loop { state := .ready, pending := none, fn, tmps := a.tmps, params := ps, assign := asg, body, defers := defs })) = .ok dd (w.alloc (.loop { state := .ready, pending := none, fn, tmps := a.tmps, params := ps, assign := asg, body, defers := defs })) ∧
        (invoke dd.target dd.args).run P (w.alloc (.loop { state := .ready, pending := none, fn, tmps := a.tmps, params := ps, assign := asg, body, defers := defs })) = .ok (.enter g args) (w.alloc (.loop { state := .ready, pending := none, fn, tmps := a.tmps, params := ps, assign := asg, body, defers := defs })) ∧
        CallsIn Fence.wide 0 P g args (w.alloc (.loop { state := .ready, pending := none, fn, tmps := a.tmps, params := ps, assign := asg, body, defers := defs })) (rangePost (fen ro) 0 P w.heap.size Q a) := by
    intro d ms0 n0 H0 h
    rw [Q8.set_k, frc_eq] at h
    split at h
    · rename_i fo g fa fc hf
      rw [frcL_eq] at h
      split at h
      · cases h
      · rename_i fnn hcal
        split at h
        · rename_i rv m Hm hcall
          obtain ⟨g1, g2⟩ := hef _ _ _ _ _ _ _ hcall
          have tail : ∀ {st pe ps' asg' body' env2 N2 d2}, Q8.get Hm n0 = some (.loop st pe ps' asg' body' env2 N2 d2) → st ≠ .busy → (match pe with | none => CR.ok .nrm env ms0 m (Q8.upd Hm n0 none) | some c => ec c rd N env ms0 m (Q8.upd Hm n0 none)) = .ok e env' ms' n' H' →
              n0 + 1 ≤ n' ∧ ∀ (s : Sg) (a : Act) (w : World) (ro : Option Nat) (Q : Exit → Act → World → Prop) (fn : FuncId) (defs : Nat), EnvR s env N a.tmps → DefsR s ms0 a.defers → RoR s rd ro → Rel P s H0 w → Free s n0 n' → n' ≤ LIM → s.blk d = some defs →
              (∀ s' a' w', EnvR s' env' N a'.tmps → DefsR s' ms' a'.defers → Rel P s' H' w' → Step s n0 H0 w s' n' H' w' → Q e.exit a' w') →
              ∃ (dd : Deferred) (g : FuncId) (args : Array Value),
                (resolve a.eval (rangeCall f w.heap.size) 0).run P (w.alloc (.loop { state := .ready, pending := none, fn, tmps := a.tmps, params := ps, assign := asg, body, defers := defs })) = .ok dd (w.alloc (.loop { state := .ready, pending := none, fn, tmps := a.tmps, params := ps, assign := asg, body, defers := defs })) ∧
                (invoke dd.target dd.args).run P (w.alloc (.loop { state := .ready, pending := none, fn, tmps := a.tmps, params := ps, assign := asg, body, defers := defs })) = .ok (.enter g args) (w.alloc (.loop { state := .ready, pending := none, fn, tmps := a.tmps, params := ps, assign := asg, body, defers := defs })) ∧
                CallsIn Fence.wide 0 P g args (w.alloc (.loop { state := .ready, pending := none, fn, tmps := a.tmps, params := ps, assign := asg, body, defers := defs })) (rangePost (fen ro) 0 P w.heap.size Q a) := by
            intro st pe ps' asg' body' env2 N2 d2 hHm hst hjump
            have hmn : m ≤ n' := by
              cases pe with
              | none => injection hjump with q1 q2 q3 q4 q5; subst q4; exact Nat.le_refl _
              | some c => exact (hec _ _ _ _ _ _ _ _ _ _ _ _ hjump).1
            refine ⟨Nat.le_trans g1 hmn, fun s a w ro Q fn defs h1 h2 h3 h4 h5 h6 hd h7 => ?_⟩
            have hn0 : n0 < n' := Nat.lt_of_lt_of_le (Nat.lt_succ_self _) (Nat.le_trans g1 hmn)
            have hn0l : n0 < LIM := Nat.lt_of_lt_of_le hn0 h6
            have hfree := h5 n0 (Nat.le_refl _) hn0
            have hle := Sg.set_le (s := s) (n := n0) (b := w.heap.size) (c := 0) hfree
            obtain ⟨r1, r2⟩ := h4.alloc (n := n0) hn0l hfree 0 (A := .loop .ready none ps.toList asg body env N d) (o := .loop { state := .ready, pending := none, fn, tmps := a.tmps, params := ps, assign := asg, body, defers := defs }) ⟨rfl, rfl, rfl, rfl, rfl, h1.le hle, (hle d defs hd).1⟩
            have ef' := opd_conc h1 h4.glob hf
            simp only [AV.conc] at ef'
            split at ef'
            · rename_i A C hA hC
              injection ef' with ef'
              refine ⟨{ target := .fn (.func g) ⟨C⟩, args := (⟨A⟩ : Array Value) ++ #[Value.func (Fn.yield w.heap.size) #[] #[]] }, g, ((⟨A⟩ : Array Value) ++ #[Value.func (Fn.yield w.heap.size) #[] #[]]) ++ (⟨C⟩ : Array Value), ?_, ?_, ?_⟩
              · have hc : a.eval (.const (Value.func (Fn.yield w.heap.size) #[] #[])) = Value.func (Fn.yield w.heap.size) #[] #[] := rfl
                simp [resolve, ← ef', Deferred.ofValue, hc]
              · exact (callable_run hcal).2.2 _ _
              · have hargs : concL (s.set n0 w.heap.size 0) (fa ++ (.yl n0) :: fc) = some (A ++ (Value.func (Fn.yield w.heap.size) #[] #[]) :: C) := concL_append (concL_le hle _ hA) (concL_cons.2 ⟨_, _, by simp [AV.conc, Sg.set_blk], concL_le hle _ hC, rfl⟩)
                have hArr : ((⟨A⟩ : Array Value) ++ #[Value.func (Fn.yield w.heap.size) #[] #[]]) ++ (⟨C⟩ : Array Value) = ⟨A ++ (Value.func (Fn.yield w.heap.size) #[] #[]) :: C⟩ := by apply Array.ext'; simp
                rw [hArr]
                refine g2 _ _ _ _ hargs r1 ((r2.free h5 (Nat.le_succ _)).left hmn) (Nat.le_trans hmn h6) fun V s1 w1 k1 k2 k3 => ?_
                have hst1 : Step s n0 H0 w s1 m Hm w1 := r2.trans k3 (Nat.le_succ _) g1
                have hle1 := hst1.le (h5.left hmn)
                have hb : s1.blk n0 = some w.heap.size := (k3.le ((r2.free h5 (Nat.le_succ _)).left hmn) n0 _ (Sg.set_blk ..)).1
                obtain ⟨q, q1, q2, q3, _⟩ := loop_row k2 hn0l hb hHm
                have hbl := (Array.getElem?_eq_some_iff.1 q1).1
                obtain ⟨p1, p2, p3, p4, p5, p6⟩ := putObj_facts w1 w.heap.size (.loop { q with state := .exhausted }) hbl
                obtain ⟨z1, z2⟩ := k2.kill m hn0l hHm hb p1 p3 p4 p5 p6
                refine ⟨_, _, run_endLoop q1 (by rw [q2]; exact hst), ?_⟩
                have hle0 := Nat.le_trans (Nat.le_succ _) g1
                have hst2 := hst1.trans z2 hle0 (Nat.le_refl _)
                rw [q3] at z1 hst2 ⊢
                cases pe with
                | none =>
                  injection hjump with q1 q2 q3 q4 q5
                  subst q1 q2 q3 q4 q5
                  exact h7 s1 a _ (h1.le hle1) (h2.le hle1) z1 hst2
                | some c =>
                  exact (hec _ _ _ _ _ _ _ _ _ _ _ _ hjump).wp (h1.le hle1) (h2.le hle1) (h3.le hle1) z1 (hst2.free h5 hle0) h6 fun s' a' w' j1 j2 j3 j4 => h7 s' a' w' j1 j2 j3 (hst2.trans j4 hle0 hmn)
            · cases ef'
          split at h
          · cases h
          · rename_i st pe ps' asg' body' env2 N2 d2 hnb hHm
            rw [Q8.set_k] at h
            exact tail hHm (fun e => by subst e; exact hnb rfl) h
          · cases h
        · cases h
    · cases h
  unfold evRange at h
  cases rd with
  | none =>
    have h := h
    simp only at h
    rw [Q8.set_k, frc_eq] at h
    obtain ⟨g1, g2⟩ := go h
    refine ⟨by omega, fun s a w ro Q h1 h2 h3 h4 h5 h6 h7 => wpIn_rangeFunc fun fn _ => ?_⟩
    have hro : ro = none := by cases ro with | none => rfl | some l => exact h3.elim
    subst hro
    have hn : n < n' := by omega
    have hfree := h5 n (Nat.le_refl _) hn
    have hle := Sg.set_le (s := s) (n := n) (b := w.heap.size) (c := 0) hfree
    obtain ⟨r1, r2⟩ := h4.alloc (n := n) (Nat.lt_of_lt_of_le hn h6) hfree 0 (A := .defd) (o := .deferred (some [])) trivial
    obtain ⟨dd, gg, args, c1, c2, c3⟩ := g2 (s.set n w.heap.size 0) { a with defers := { target := .collected w.heap.size, args := #[] } :: a.defers } (w.alloc (.deferred (some []))) none Q fn w.heap.size (h1.le hle) ⟨⟨_, Sg.set_blk .., rfl⟩, h2.le hle⟩ trivial r1 (r2.free h5 (Nat.le_succ _)) h6 (Sg.set_blk ..)
      fun s' a' w' j1 j2 j3 j4 => h7 s' a' w' j1 j2 j3 (r2.trans j4 (Nat.le_succ _) (by omega))
    rw [World.size_alloc] at c1 c3
    refine ⟨_, _, _, dd, _, gg, args, _, run_enterLoop_outer fn a.tmps ps asg body, c1, fun _ _ => fen_fn _ _, c2, fun h => fen_depth none h, fen_calls (ro := none) ?_⟩
    exact c3
  | some y =>
    simp only at h
    split at h
    · rename_i st pe ps' asg' body' env2 N2 d hy
      obtain ⟨g1, g2⟩ := go h
      refine ⟨by omega, fun s a w ro Q h1 h2 h3 h4 h5 h6 h7 => wpIn_rangeFunc fun fn _ => ?_⟩
      cases ro with
      | none => exact h3.elim
      | some l =>
        have hb : s.blk y = some l := h3
        obtain ⟨q, q1, q2, q3, q4, q5, q6, q7, q8⟩ := loop_row h4 (h4.lim y l hb) hb hy
        obtain ⟨dd, gg, args, c1, c2, c3⟩ := g2 s a w (some l) Q fn q.defers h1 h2 h3 h4 h5 h6 q8 h7
        refine ⟨_, [], _, dd, _, gg, args, _, ?_, c1, fun _ _ => fen_fn _ _, c2, fun h => fen_depth (some l) h, fen_calls (ro := some l) ?_⟩
        · rw [fen_round]
          unfold Instr.enterLoop
          simp only [Sem.run_bind, run_getLoop q1, run_newObj_alloc, Result.andThen, Sem.run_pure]
        · exact c3
    · cases h
end
end Go.Sy
namespace Go.Sy
open Go
section
variable {P : Program}
theorem load_run {t : TypeId} {x : Operand} {env : Env} {n n' : Nat} {H H' : Heap} {v : AV} (h : evLoad P t x env n H = .val v n' H') {s : Sg} {N : Nat} {a : Act} {w : World} (he : EnvR s env N a.tmps) (hr : Rel P s H w) :
    ∃ b V, a.eval x = .pointer (some b) ∧ (loadVar t b).run P w = .ok V w ∧ v.conc s = some V := by
  unfold evLoad at h
  split at h
  · rename_i y q hx
    split at h
    · rename_i t' z m c ex mk hH
      have ex' := opd_conc he hr.glob hx
      simp only [AV.conc, Option.map_eq_some_iff] at ex'
      obtain ⟨b, hb, ex'⟩ := ex'
      obtain ⟨b', ob, m1, e2, e3⟩ := hr.blk y _ (hr.lim y b hb) hH
      rw [hb] at m1; injection m1 with m1; subst m1
      split at h
      · rename_i hagg
        split at h
        · rename_i u hu
          injection h with h1 h2 h3
          subst h1 h2 h3
          obtain ⟨V, v1, v2, _⟩ := e3.cell e2 hu
          exact ⟨_, V, ex'.symm, by simp [loadVar, isAggB_run hagg, v2], v1⟩
        · cases h
      · rename_i hagg
        split at h
        · rename_i sz hsz
          split at h
          · rename_i l hl
            injection h with h1 h2 h3
            subst h1 h2 h3
            obtain ⟨vs, v1, v2, v3, v4⟩ := e3.cells e2 hl
            have hc := run_loadCells_list (P := P) w ⟨b, q, none⟩ vs v4
            rw [v2] at hc
            exact ⟨_, .agg ⟨vs⟩, ex'.symm, by simp [loadVar, isAggB_run hagg, sizeB_run hsz, hc], conc_agg v1 v3⟩
          · cases h
        · cases h
      · cases h
    · cases h
  · cases h
/-- One result. -/
noncomputable def res1 (P : Program) (env : Env) (n : Nat) (H : Heap) (r : ResultVar) : Option AV := match r with
      | .tmp t => env.get t
      | .cell t ty => (match env.get t with | some (.p _ _) => (match evLoad P ty (.tmp t) env n H with | .val v _ _ => some v | _ => none) | _ => none)
def resS (tmps : Array Value) : ResultVar → Sem Value
    | .tmp t => pure (tmps.getD t undef)
    | .cell a t => do loadVar t (← asAddr (tmps.getD a undef))
theorem resOf_cons (P : Program) (env : Env) (n : Nat) (H : Heap) (r : ResultVar) (rs : List ResultVar) : resOf P env n H (r :: rs) = (match res1 P env n H r with
    | some v => (match resOf P env n H rs with | some l => some (v :: l) | none => none)
    | none => none) := by cases r <;> rfl
theorem res1_ok {env : Env} {n : Nat} {H : Heap} {r : ResultVar} {v : AV} (h : res1 P env n H r = some v) {s : Sg} {N : Nat} {a : Act} {w : World} (he : EnvR s env N a.tmps) (hr : Rel P s H w) : ∃ V, v.conc s = some V ∧ (resS a.tmps r).run P w = .ok V w := by
  cases r with
  | tmp t =>
    obtain ⟨V, h1, h2⟩ := he.get t v h
    exact ⟨V, h1, by simp [resS, Array.getD_eq_getD_getElem?, h2]⟩
  | cell t ty =>
    have h : (match env.get t with | some (.p _ _) => (match evLoad P ty (.tmp t) env n H with | .val v _ _ => some v | _ => none) | _ => none) = some v := h
    split at h
    · split at h
      · rename_i y q hy u n1 H1 hl
        injection h with h; subst h
        obtain ⟨b, V, h1, h2, h3⟩ := load_run hl he hr
        refine ⟨V, h3, ?_⟩
        have h1 : a.tmps.getD t undef = .pointer (some b) := h1
        simp [resS, h1, asAddr, h2]
      · cases h
    · cases h
theorem resOf_ok {env : Env} {n : Nat} {H : Heap} {s : Sg} {N : Nat} {a : Act} {w : World} (he : EnvR s env N a.tmps) (hr : Rel P s H w) : ∀ {rs : List ResultVar} {l : List AV}, resOf P env n H rs = some l → ∃ vs, concL s l = some vs ∧ (rs.mapM (resS a.tmps)).run P w = .ok vs w
  | [], l, h => by injection h with h; subst h; exact ⟨[], rfl, rfl⟩
  | r :: rs, l, h => by
    rw [resOf_cons] at h
    split at h
    · rename_i v hv
      split at h
      · rename_i l' hl
        injection h with h; subst h
        obtain ⟨V, h1, h2⟩ := res1_ok hv he hr
        obtain ⟨vs, h3, h4⟩ := resOf_ok he hr hl
        refine ⟨V :: vs, concL_cons.2 ⟨_, _, h1, h3, rfl⟩, ?_⟩
        simp [List.mapM_cons, h2, h4]
      · cases h
    · cases h
theorem resV_ok {f : FuncId} {fn : Func} {env : Env} {n : Nat} {H : Heap} {v : AV} {n' : Nat} {H' : Heap} (h : resV P f fn env n H = .ok v n' H') : n' = n ∧ H' = H ∧ ∀ (s : Sg) (N : Nat) (a : Act) (w : World), EnvR s env N a.tmps → Rel P s H w →
    ∃ V, v.conc s = some V ∧ (results fn a.tmps).run P w = .ok V w := by
  have key : ∀ {l : List AV} {s : Sg} {N : Nat} {a : Act} {w : World}, resOf P env n H fn.results.toList = some l → EnvR s env N a.tmps → Rel P s H w → ∃ vs, concL s l = some vs ∧ (results fn a.tmps).run P w = .ok (if h : (⟨vs⟩ : Array Value).size = 1 then (⟨vs⟩ : Array Value)[0] else .tuple ⟨vs⟩) w := fun hl he hr => by
    obtain ⟨vs, h1, h2⟩ := resOf_ok he hr hl
    refine ⟨vs, h1, ?_⟩
    rename_i a w
    have hu : results fn a.tmps = (do let vs ← fn.results.mapM (resS a.tmps); pure (if h : vs.size = 1 then vs[0] else .tuple vs)) := by
      unfold results
      congr 1
    rw [hu, Array.mapM_eq_mapM_toList]
    simp [h2]
  unfold resV at h
  split at h
  · cases h
  · rename_i l hl
    split at h
    · rename_i u
      injection h with h1 h2 h3
      subst h1 h2 h3
      refine ⟨rfl, rfl, fun s N a w he hr => ?_⟩
      obtain ⟨vs, h1, h2⟩ := key hl he hr
      obtain ⟨V, us, c1, c2, rfl⟩ := concL_cons.1 h1
      rw [concL_nil] at c2; subst c2
      exact ⟨V, c1, by rw [h2]; simp⟩
    · rename_i hne
      injection h with h1 h2 h3
      subst h1 h2 h3
      refine ⟨rfl, rfl, fun s N a w he hr => ?_⟩
      obtain ⟨vs, h1, h2⟩ := key hl he hr
      have hlen := concL_length h1
      refine ⟨.tuple ⟨vs⟩, by simp [AV.conc, h1], ?_⟩
      rw [h2]
      have : ¬ (⟨vs⟩ : Array Value).size = 1 := fun e => by
        have e : vs.length = 1 := e
        rw [e] at hlen
        obtain ⟨x, hx⟩ := List.length_eq_one_iff.1 hlen.symm
        exact hne x hx
      rw [dif_neg this]
/-! ### Functions -/
theorem EnvR.same {s : Sg} {e : Env} {N : Nat} {ts : Array Value} (h : EnvR s e N ts) {t : Nat} {a : AV} {v : Value} (hv : a.conc s = some v) (ht : ts[t]? = some v) : EnvR s (e.upd t a) N ts := by
  refine ⟨h.size, fun u b hb => ?_⟩
  rw [Env.get_upd] at hb
  split at hb
  · rename_i he; subst he
    injection hb with hb; subst hb
    exact ⟨v, hv, ht⟩
  · exact h.get u b hb
theorem args0_ok {k : Env → VR} {v : AV} {n : Nat} {H : Heap} : ∀ {l : List AV} {i : Nat} {e : Env}, args0 l i e k = .ok v n H → ∃ env, k env = .ok v n H ∧
    ∀ (s : Sg) (N : Nat) (ts : Array Value) (Args : List Value), concL s l = some Args → (∀ j V, Args[j]? = some V → ts[i + j]? = some V) → EnvR s e N ts → EnvR s env N ts
  | [], i, e, h => ⟨e, h, fun s N ts Args _ _ he => he⟩
  | a :: l, i, e, h => by
    have hu : args0 (a :: l) i e k = e.put i a fun e => args0 l (Nat.succ i) e k := rfl
    rw [hu, Env.put_k] at h
    obtain ⟨env, h1, h2⟩ := args0_ok h
    refine ⟨env, h1, fun s N ts Args hc ht he => ?_⟩
    obtain ⟨V, us, c1, c2, rfl⟩ := concL_cons.1 hc
    refine h2 s N ts us c2 (fun j W hj => ?_) (he.same c1 (by simpa using ht 0 V rfl))
    have := ht (j + 1) W (by simpa using hj)
    rw [show i.succ + j = i + (j + 1) from by omega]
    exact this
theorem Q.at_of {β : Type} (x : β) (d : Dig) : (Q.of x).at d = x := by cases d <;> rfl
theorem Q4.get_e {α : Type} (i : Nat) : Q4.get (Q4.e : Q4 α) i = none := by
  unfold Q4.get Q4.e
  simp only [Q.at_of]
theorem Q8.get_e {α : Type} (i : Nat) : Q8.get (Q8.e : Q8 α) i = none := by
  unfold Q8.get Q8.e
  simp only [Q.at_of]
  exact Q4.get_e i
theorem Env.get_empty (V t : Nat) : (Env.mk V [] [] Q4.e).get t = none := by
  show (Bool.rec (motive := fun _ => Option AV) (lget t (lget t none []) []) (Q4.get Q4.e t) (isV V t) : Option AV) = none
  cases isV V t
  · rfl
  · exact Q4.get_e t
theorem bodyOf_ok {ec : EC} {f : FuncId} {args : List AV} {n : Nat} {H : Heap} {k : Func → Env → List Df → Nat → Heap → VR} {v : AV} {n' : Nat} {H' : Heap} (h : bodyOf P ec f args n H k = .ok v n' H') :
    ∃ fn c env0 e env1 ms n1 H1, callable P f = some fn ∧ fn.body = some c ∧ ec c none fn.ntmps env0 [] n H = .ok e env1 ms n1 H1 ∧ (e = .nrm ∨ e = .rt) ∧ k fn env1 ms n1 H1 = .ok v n' H' ∧
      ∀ (s : Sg) (Args : List Value), concL s args = some Args → EnvR s env0 fn.ntmps ((⟨Args⟩ : Array Value) ++ Array.replicate (fn.ntmps - (⟨Args⟩ : Array Value).size) undef) := by
  unfold bodyOf at h
  split at h
  · cases h
  · rename_i fn hcal
    split at h
    · cases h
    · rename_i c hb
      split at h
      · cases h
      · rename_i hlen
        have hlen : args.length ≤ fn.ntmps := by have := Nat.ble_eq.mp hlen; rwa [len_eq] at this
        obtain ⟨env0, h, he0⟩ := args0_ok h
        split at h
        · cases h
        · rename_i e env1 ms n1 H1 hc
          refine ⟨fn, c, env0, e, env1, ms, n1, H1, hcal, hb, hc, ?_, ?_, fun s Args hA => ?_⟩
          · cases e <;> first | cases h | exact .inl rfl | exact .inr rfl
          · cases e <;> first | cases h | exact h
          · refine he0 s _ _ Args hA (fun j V hj => ?_) ⟨?_, fun t a ha => ?_⟩
            · have hi := (List.getElem?_eq_some_iff.1 hj).1
              rw [Nat.zero_add, Array.getElem?_append_left (by simpa using hi)]
              simpa using hj
            · simp; omega
            · rw [Env.get_empty] at ha; cases ha
theorem leaveD_ok {ec : EC} (hec : EcOk P ec) {f : FuncId} {fn : Func} {env : Env} {N : Nat} : ∀ {ms : List Df} {n : Nat} {H : Heap} {v : AV} {n' : Nat} {H' : Heap}, leaveD P ec ms n H (fun n H => resV P f fn env n H) = .ok v n' H' →
    n ≤ n' ∧ ∀ (s : Sg) (a : Act) (w : World) (R : Ending → World → Prop) (ds : List Deferred), EnvR s env N a.tmps → DefsR s ms ds → Rel P s H w → Free s n n' → n' ≤ LIM →
      (∀ V s' w', v.conc s' = some V → Rel P s' H' w' → Step s n H w s' n' H' w' → R (.returned V) w') → LeavesInM Fence.wide 0 P fn a.tmps R ds .returning w
  | [], n, H, v, n', H', h => by
    have h : resV P f fn env n H = .ok v n' H' := h
    obtain ⟨rfl, rfl, g⟩ := resV_ok h
    refine ⟨Nat.le_refl _, fun s a w R ds h1 h2 h3 h4 h5 h6 => ?_⟩
    have hds := DefsR.nil h2
    subst hds
    obtain ⟨V, v1, v2⟩ := g s N a w h1 h3
    exact ⟨V, v2, h6 V s w v1 h3 (Step.refl ..)⟩
  | .mark x :: ms, n, H, v, n', H', h => by
    have h : (match Q8.get H x with | some .defd => Q8.set none H x fun H => leaveD P ec ms n H (fun n H => resV P f fn env n H) | _ => .er [225]) = .ok v n' H' := h
    split at h
    · rename_i hx
      rw [Q8.set_k] at h
      obtain ⟨i1, i2⟩ := leaveD_ok hec h
      refine ⟨i1, fun s a w R ds h1 h2 h3 h4 h5 h6 => ?_⟩
      cases ds with
      | nil => exact h2.elim
      | cons d ds =>
        obtain ⟨⟨b, d1, d2⟩, h2⟩ := h2
        have hxl := h3.lim x b d1
        obtain ⟨b', o, k1, k2, k3⟩ := h3.blk x _ hxl hx
        rw [d1] at k1; injection k1 with k1; subst k1
        have ho : o = .deferred (some []) := by
          cases o with
          | deferred l => cases l with
            | none => exact k3.elim
            | some l => cases l with
              | nil => rfl
              | cons => exact k3.elim
          | _ => exact k3.elim
        subst ho
        have hbl := (Array.getElem?_eq_some_iff.1 k2).1
        obtain ⟨p1, p2, p3, p4, p5, p6⟩ := putObj_facts w b (.deferred none) hbl
        obtain ⟨z1, z2⟩ := h3.kill n hxl hx d1 p1 p3 p4 p5 p6
        refine ⟨by simp, .inl ⟨b, _, d2, run_takeDeferred k2, ?_⟩⟩
        exact i2 s a _ R ds h1 h2 z1 h4 h5 fun V s' w' j1 j2 j3 => h6 V s' w' j1 j2 (z2.trans j3 (Nat.le_refl _) i1)
    · cases h
  | .call g args :: ms, n, H, v, n', H', h => by
    have h : (match bodyOf P ec g args n H (fun fn env ms n H => match ms with | [] => resV P g fn env n H | _ => .er [234]) with
          | .ok _ n H => leaveD P ec ms n H (fun n H => resV P f fn env n H)
          | .er l => .er l) = .ok v n' H' := h
    split at h
    · rename_i u n1 H1 hb
      obtain ⟨i1, i2⟩ := leaveD_ok hec h
      obtain ⟨fg, c, env0, e, env1, ms1, n2, H2, c1, c2, c3, c4, c5, c6⟩ := bodyOf_ok hb
      split at c5
      · obtain ⟨rfl, rfl, g5⟩ := resV_ok c5
        have gc := hec _ _ _ _ _ _ _ _ _ _ _ _ c3
        refine ⟨Nat.le_trans gc.1 i1, fun s a w R ds h1 h2 h3 h4 h5 h6 => ?_⟩
        cases ds with
        | nil => exact h2.elim
        | cons d ds =>
          obtain ⟨⟨D, C, d1, rfl⟩, h2⟩ := h2
          refine ⟨by simp, .inr ⟨(fun h => by cases h), _, _, g, ⟨D ++ C⟩, rfl, ?_, fun _ _ => trivial, ?_⟩⟩
          · have := (callable_run c1).2.2 ((⟨D⟩ : Array Value) ++ (⟨C⟩ : Array Value)) w
            have he : ((⟨D⟩ : Array Value) ++ (⟨C⟩ : Array Value)) = ⟨D ++ C⟩ := by apply Array.ext'; simp
            rw [he] at this
            simp only [invoke]
            rw [he]
            exact this
          · refine (callsDIn_of_wp (R := fun e w' => match e with | .returned _ => LeavesInM Fence.wide 0 P fn a.tmps R ds .returning w' | _ => False) (callable_run c1).1 c2 trivial ?_).mono ?_
            · refine gc.wp (ro := none) (c6 s _ d1) trivial trivial h3 (h4.left i1) (Nat.le_trans i1 h5) fun s1 a1 w1 k1 k2 k3 k4 => ?_
              have hle := k4.le (h4.left i1)
              obtain ⟨V, v1, v2⟩ := g5 s1 _ a1 w1 k1 k3
              have post : a1.defers = [] ∧ ∃ v, (results fg a1.tmps).run P w1 = .ok v w1 ∧ LeavesInM Fence.wide 0 P fn a.tmps R ds .returning w1 :=
                ⟨DefsR.nil k2, V, v2, i2 s1 a w1 R ds (h1.le hle) (DefsR.le h2 hle) k3 (k4.free h4 gc.1) h5 fun V s' w' j1 j2 j3 => h6 V s' w' j1 j2 (k4.trans j3 gc.1 i1)⟩
              rcases c4 with rfl | rfl
              · exact post
              · exact post
            · intro e u' w' ⟨hu, hR⟩
              subst hu
              cases e with
              | returned v => exact hR
              | panicked ch => exact hR.elim
              | outgrown => exact hR.elim
      · cases c5
    · cases h
/-- What is told of some functions holds. -/
def OrcOk (P : Program) (O : Orc) : Prop := ∀ f g, O f = some g → ∀ args n H v n' H', g args n H = .ok v n' H' → FnGood P f args n H v n' H'
theorem stepF_ok {O : Orc} {ec : EC} (hO : OrcOk P O) (hec : EcOk P ec) : EfOk P (stepF P O ec) := by
  intro f args n H v n' H' h
  unfold stepF at h
  split at h
  · rename_i g hg
    exact hO f g hg _ _ _ _ _ _ h
  · obtain ⟨fn, c, env0, e, env1, ms1, n1, H1, c1, c2, c3, c4, c5, c6⟩ := bodyOf_ok h
    have gc := hec _ _ _ _ _ _ _ _ _ _ _ _ c3
    obtain ⟨i1, i2⟩ := leaveD_ok (N := fn.ntmps) hec c5
    refine ⟨Nat.le_trans gc.1 i1, fun s w Args R hA hr hf hl hR => callsIn_of_wp_marks (callable_run c1).1 c2 trivial ?_⟩
    refine gc.wp (ro := none) (c6 s _ hA) trivial trivial hr (hf.left i1) (Nat.le_trans i1 hl) fun s1 a1 w1 k1 k2 k3 k4 => ?_
    have post : LeavesInM Fence.wide 0 P fn a1.tmps R a1.defers .returning w1 := i2 s1 a1 w1 R a1.defers k1 k2 k3 (k4.free hf gc.1) hl fun V s' w' j1 j2 j3 => hR V s' w' j1 j2 (k4.trans j3 gc.1 i1)
    rcases c4 with rfl | rfl
    · exact post
    · exact post
end
end Go.Sy
