/- SymV, SymW, SymX -/
import Derived.Test.YtcpophfchchpkaaGreatDoorMf9
import Derived.OrdersIn
namespace Go.Sy
open Go
section
variable {P : Program}
/-! ### An operation looks at its operands alone -/
theorem allGround_congr {env env' : Env} : ∀ {l : List Operand}, (∀ x ∈ l, opd env x = opd env' x) → allGround env l = allGround env' l
  | [], _ => rfl
  | x :: r, h => by
    have hu : ∀ e : Env, allGround e (x :: r) = (match opd e x with | some a => (match valOf a with | some _ => allGround e r | none => false) | none => false) := fun _ => rfl
    rw [hu, hu, h x (List.mem_cons_self ..), allGround_congr fun y hy => h y (List.mem_cons_of_mem _ hy)]
theorem opds_congr {env env' : Env} : ∀ {l : List Operand}, (∀ x ∈ l, opd env x = opd env' x) → opds env l = opds env' l
  | [], _ => rfl
  | x :: r, h => by
    have hu : ∀ e : Env, opds e (x :: r) = (match opd e x with | some a => (match opds e r with | some r => some (a :: r) | none => none) | none => none) := fun _ => rfl
    rw [hu, hu, h x (List.mem_cons_self ..), opds_congr fun y hy => h y (List.mem_cons_of_mem _ hy)]
theorem fillA_congr {env env' : Env} {pl : Nat → Option (Nat × Nat)} : ∀ {ps : List (Nat × Operand)}, (∀ p ∈ ps, opd env p.2 = opd env' p.2) → fillA pl env ps = fillA pl env' ps
  | [], _ => rfl
  | p :: r, h => by
    have hu : ∀ e : Env, fillA pl e (p :: r) = fun l => (match pl p.1, opd e p.2 with
      | some (o, s), some v => (match Nat.beq (len v.cells) s, v with
          | true, .tup _ => none
          | true, v => (match repl o l v.cells with | some l => fillA pl e r l | none => none)
          | false, _ => none)
      | _, _ => none) := fun _ => rfl
    rw [hu, hu, h p (List.mem_cons_self ..), fillA_congr fun y hy => h y (List.mem_cons_of_mem _ hy)]
theorem bnd_congr {env env' : Env} {x : Option Operand} {d : Nat} (h : ∀ y, x = some y → opd env y = opd env' y) : bnd env x d = bnd env' x d := by
  cases x with
  | none => rfl
  | some y => simp only [bnd, h y rfl]
theorem evGround_congr {o : Oper} (hs : ∀ cs b, o.op ≠ .select cs b) {env env' : Env} (h : ∀ x ∈ o.op.operands, opd env x = opd env' x) (n : Nat) (H : Heap) : evGround P o env n H = evGround P o env' n H := by
  have h1 : allGround env o.op.operands.toList = allGround env' o.op.operands.toList := allGround_congr fun x hx => h x (by simpa using hx)
  have h2 : execOp (groundEnv env) o = execOp (groundEnv env') o := execOp_congr o hs fun x hx => by unfold groundEnv; rw [h x hx]
  unfold evGround
  rw [h1, h2]
theorem evOp_congr {o : Oper} {env env' : Env} (h : ∀ x ∈ o.op.operands, opd env x = opd env' x) (n : Nat) (H : Heap) : evOp o.op P o env n H = evOp o.op P o env' n H := by
  rw [evOp_eq, evOp_eq]
  have hg : (∀ cs b, o.op ≠ .select cs b) → ∀ n H, evGround P o env n H = evGround P o env' n H := fun hs n H => evGround_congr hs h n H
  cases hop : o.op <;> rw [hop] at h hg
  case move x => have h1 := h x (by simp [Op.operands]); show vo (evMove x env n H) = vo (evMove x env' n H); unfold evMove; rw [h1]
  case assign x => have h1 := h x (by simp [Op.operands]); show vo (evMove x env n H) = vo (evMove x env' n H); unfold evMove; rw [h1]
  case pick c x y =>
    have h1 := h c (by simp [Op.operands]); have h2 := h x (by simp [Op.operands]); have h3 := h y (by simp [Op.operands])
    show vo (evPick c x y env n H) = vo (evPick c x y env' n H); unfold evPick evMove; rw [h1, h2, h3]
  case box t x => have h1 := h x (by simp [Op.operands]); show vo (evBox P t x env n H) = vo (evBox P t x env' n H); unfold evBox; rw [h1]
  case build t ps =>
    have h1 : ∀ pl, fillA pl env ps.toList = fillA pl env' ps.toList := fun pl => fillA_congr fun p hp => h p.2 (by simp [Op.operands]; exact ⟨p.1, by simpa using hp⟩)
    show vo (evBuild P t ps.toList env n H) = vo (evBuild P t ps.toList env' n H); unfold evBuild; simp only [h1]
  case buildSlice t m ps =>
    have h1 : ∀ pl, fillA pl env ps.toList = fillA pl env' ps.toList := fun pl => fillA_congr fun p hp => h p.2 (by simp [Op.operands]; exact ⟨p.1, by simpa using hp⟩)
    show vo (evBuildSlice P t m ps.toList env n H) = vo (evBuildSlice P t m ps.toList env' n H); unfold evBuildSlice; simp only [h1]
  case load t x => have h1 := h x (by simp [Op.operands]); show vo (evLoad P t x env n H) = vo (evLoad P t x env' n H); unfold evLoad; rw [h1]
  case store t x y => have h1 := h x (by simp [Op.operands]); have h2 := h y (by simp [Op.operands]); show vo (evStore P t x y env n H) = vo (evStore P t x y env' n H); unfold evStore; rw [h1, h2]
  case nilCheck x => have h1 := h x (by simp [Op.operands]); show vo (evNilCheck x env n H) = vo (evNilCheck x env' n H); unfold evNilCheck; rw [h1]
  case binOp op t x y yt =>
    have h1 := h x (by simp [Op.operands]); have h2 := h y (by simp [Op.operands]); have hg := hg (by simp)
    show vo (evBin P o op t x y env n H) = vo (evBin P o op t x y env' n H); unfold evBin; simp only [h1, h2, hg]
  case unOp op t x => show vo (evGround P o env n H) = vo (evGround P o env' n H); rw [hg (by simp)]
  case convert s d x => have h1 := h x (by simp [Op.operands]); have hg := hg (by simp); show vo (evConvert P o s d x env n H) = vo (evConvert P o s d x env' n H); unfold evConvert; simp only [h1, hg]
  case makeInterface t x => have h1 := h x (by simp [Op.operands]); show vo (evMakeInterface P t x env n H) = vo (evMakeInterface P t x env' n H); unfold evMakeInterface; rw [h1]
  case makeFunc f fi ca =>
    have h1 : opds env fi.toList = opds env' fi.toList := opds_congr fun x hx => h x (by simp [Op.operands]; left; simpa using hx)
    have h2 : opds env ca.toList = opds env' ca.toList := opds_congr fun x hx => h x (by simp [Op.operands]; right; simpa using hx)
    show vo (evMakeFunc f fi.toList ca.toList env n H) = vo (evMakeFunc f fi.toList ca.toList env' n H); unfold evMakeFunc; rw [h1, h2]
  case makeMap t r =>
    show vo (evMakeMap P t r env n H) = vo (evMakeMap P t r env' n H)
    unfold evMakeMap
    cases r with
    | none => rfl
    | some x => have h1 := h x (by simp [Op.operands]); simp only [h1]
  case makeSlice t x y => have h1 := h x (by simp [Op.operands]); have h2 := h y (by simp [Op.operands]); show vo (evMakeSlice P t x y env n H) = vo (evMakeSlice P t x y env' n H); unfold evMakeSlice; rw [h1, h2]
  case slice t x lo hi mx =>
    have h1 := h x (by simp [Op.operands])
    have h2 : ∀ d, bnd env lo d = bnd env' lo d := fun d => bnd_congr fun y hy => h y (by simp [Op.operands, hy])
    have h3 : ∀ d, bnd env hi d = bnd env' hi d := fun d => bnd_congr fun y hy => h y (by simp [Op.operands, hy])
    have hg := hg (by simp)
    show vo (evSlice P o t x lo hi mx env n H) = vo (evSlice P o t x lo hi mx env' n H); unfold evSlice; simp only [h1, h2, h3, hg]
  case fieldAddr s x f => have h1 := h x (by simp [Op.operands]); show vo (evFieldAddr P s x f env n H) = vo (evFieldAddr P s x f env' n H); unfold evFieldAddr; rw [h1]
  case field t x f => have h1 := h x (by simp [Op.operands]); show vo (evField P t x f env n H) = vo (evField P t x f env' n H); unfold evField; rw [h1]
  case indexAddr t x y => have h1 := h x (by simp [Op.operands]); have h2 := h y (by simp [Op.operands]); show vo (evIndexAddr P t x y env n H) = vo (evIndexAddr P t x y env' n H); unfold evIndexAddr; rw [h1, h2]
  case index t x y =>
    have h1 := h x (by simp [Op.operands]); have h2 := h y (by simp [Op.operands]); have hg := hg (by simp)
    show vo (evIndex P o t x y env n H) = vo (evIndex P o t x y env' n H); unfold evIndex; simp only [h1, h2, hg]
  case lookup t x y ok => have h1 := h x (by simp [Op.operands]); have h2 := h y (by simp [Op.operands]); show vo (evLookup P t x y ok env n H) = vo (evLookup P t x y ok env' n H); unfold evLookup; rw [h1, h2]
  case mapUpdate t x y u =>
    have h1 := h x (by simp [Op.operands]); have h2 := h y (by simp [Op.operands]); have h3 := h u (by simp [Op.operands])
    show vo (evMapUpdate P t x y u env n H) = vo (evMapUpdate P t x y u env' n H); unfold evMapUpdate; rw [h1, h2, h3]
  case mapEntry t x y => have h1 := h x (by simp [Op.operands]); have h2 := h y (by simp [Op.operands]); show vo (evMapEntry P t x y env n H) = vo (evMapEntry P t x y env' n H); unfold evMapEntry; rw [h1, h2]
  case entryStore t x y u =>
    have h1 := h x (by simp [Op.operands]); have h2 := h y (by simp [Op.operands]); have h3 := h u (by simp [Op.operands])
    show vo (evEntryStore x y u env n H) = vo (evEntryStore x y u env' n H); unfold evEntryStore; rw [h1, h2, h3]
  case extract x ix => have h1 := h x (by simp [Op.operands]); show vo (evExtract x ix env n H) = vo (evExtract x ix env' n H); unfold evExtract; rw [h1]
  case call c =>
    have hg := hg (by simp)
    have hargs : ∀ x ∈ c.args.toList, opd env x = opd env' x := fun x hx => h x (by
      have hx : x ∈ c.args := by simpa using hx
      simp only [Op.operands, Call.operands]
      split <;> simp [hx])
    have h1 := opds_congr hargs
    show evCall P o c env n H = evCall P o c env' n H
    unfold evCall
    cases hc : c.callee with
    | builtin b =>
      rcases hl : c.args.toList with _ | ⟨x, _ | ⟨y, _ | ⟨z, r⟩⟩⟩ <;> rw [hl] at hargs <;> rcases ht : c.argTypes.toList with _ | ⟨t, _ | ⟨t', ts⟩⟩ <;> cases b <;>
        simp only [evLen, evAppend, evCopy, evDelete, evClear, evCap, hg, hargs, List.mem_cons, true_or, or_true]
    | invoke r name =>
      have h2 := h r (by simp only [Op.operands, Call.operands, hc]; simp)
      simp only [h1, h2]
    | value f =>
      have h2 := h f (by simp only [Op.operands, Call.operands, hc]; simp)
      simp only [h1, h2]
  case range t x =>
    have h1 := h x (by simp [Op.operands])
    show vo (evMapRange P t x env n H) = vo (evMapRange P t x env' n H)
    unfold evMapRange
    simp only [h1]
  case next it st =>
    have h1 := h it (by simp [Op.operands])
    show vo (evMapNext it st env n H) = vo (evMapNext it st env' n H)
    unfold evMapNext
    simp only [h1]
  case entry it =>
    have h1 := h it (by simp [Op.operands])
    show vo (evItEntry it env n H) = vo (evItEntry it env' n H)
    unfold evItEntry
    simp only [h1]
  case «defer» c =>
    have hargs : ∀ x ∈ c.args.toList, opd env x = opd env' x := fun x hx => h x (by
      have hx : x ∈ c.args := by simpa using hx
      simp only [Op.operands, Call.operands]
      split <;> simp [hx])
    have h1 := opds_congr hargs
    show evDefer c env = evDefer c env'
    unfold evDefer
    cases hc : c.callee with
    | value f =>
      have h2 := h f (by simp only [Op.operands, Call.operands, hc]; simp)
      simp only [h1, h2]
    | _ => rfl
  all_goals rfl
end
end Go.Sy
namespace Go.Sy
open Go
/-! ### What the checks of a region say -/
noncomputable def maskOf (o : Oper) (L : List Nat) : Nat := o.after.toList.foldl (fun s e => if Region.binds .any e then s ||| 2 ^ e.on ||| (nth L e.on).getD 0 else s) 0
theorem masks_cons (o : Oper) (r : List Oper) (acc : List Nat) : masks (o :: r) acc = masks r (acc ++ [maskOf o acc]) := rfl
theorem masks_spec : ∀ (ops : List Oper) (acc : List Nat), (masks ops acc).length = acc.length + ops.length ∧ (∀ i, i < acc.length → (masks ops acc)[i]? = acc[i]?) ∧
    ∀ k o, ops[k]? = some o → (masks ops acc)[acc.length + k]? = some (maskOf o ((masks ops acc).take (acc.length + k)))
  | [], acc => ⟨rfl, fun _ _ => rfl, fun k o h => by simp at h⟩
  | o :: r, acc => by
    rw [masks_cons]
    obtain ⟨h1, h2, h3⟩ := masks_spec r (acc ++ [maskOf o acc])
    simp only [List.length_append, List.length_singleton] at h1 h2 h3
    refine ⟨by simp; omega, fun i hi => ?_, fun k o' ho => ?_⟩
    · rw [h2 i (by omega), List.getElem?_append_left hi]
    · cases k with
      | zero =>
        simp only [List.getElem?_cons_zero, Option.some.injEq] at ho
        subst ho
        rw [Nat.add_zero, h2 acc.length (by omega)]
        have ht : (masks r (acc ++ [maskOf o acc])).take acc.length = acc := by
          apply List.ext_getElem?
          intro i
          by_cases hi : i < acc.length
          · rw [List.getElem?_take_of_lt hi, h2 i (by omega), List.getElem?_append_left hi]
          · rw [List.getElem?_eq_none (by rw [List.length_take]; omega), List.getElem?_eq_none (by omega)]
        rw [ht]
        simp
      | succ k =>
        have := h3 k o' (by simpa using ho)
        rw [show acc.length + (k + 1) = acc.length + 1 + k from by omega]
        exact this
theorem maskOf_bit {o : Oper} {L : List Nat} {j : Nat} : (maskOf o L).testBit j = true ↔ ∃ e ∈ o.after.toList, Region.binds .any e = true ∧ (e.on = j ∨ ((L[e.on]?).getD 0).testBit j = true) := by
  have key : ∀ (l : List Edge) (s : Nat), (l.foldl (fun s e => if Region.binds .any e then s ||| 2 ^ e.on ||| (nth L e.on).getD 0 else s) s).testBit j = true ↔ s.testBit j = true ∨ ∃ e ∈ l, Region.binds .any e = true ∧ (e.on = j ∨ ((L[e.on]?).getD 0).testBit j = true) := by
    intro l
    induction l with
    | nil => intro s; simp
    | cons e l ih =>
      intro s
      rw [List.foldl_cons, ih]
      by_cases hb : Region.binds .any e = true
      · rw [if_pos hb, nth_eq]
        simp only [Nat.testBit_or, Nat.testBit_two_pow, Bool.or_eq_true, decide_eq_true_eq, List.mem_cons, exists_eq_or_imp, hb, true_and]
        constructor
        · rintro ((h | h) | h)
          · rcases h with h | h
            · exact .inl h
            · exact .inr (.inl (.inl h))
          · exact .inr (.inl (.inr h))
          · exact .inr (.inr h)
        · rintro (h | (h | h) | h)
          · exact .inl (.inl (.inl h))
          · exact .inl (.inl (.inr h))
          · exact .inl (.inr h)
          · exact .inr h
      · rw [if_neg hb]
        simp only [List.mem_cons, exists_eq_or_imp, hb, false_and, false_or, Bool.false_eq_true]
  unfold maskOf
  rw [key]
  simp
theorem edgesOk_spec : ∀ (ops : List Oper) (i : Nat), edgesOk ops i = true → ∀ k o, ops[k]? = some o → ∀ e ∈ o.after.toList, Region.binds .any e = true → e.on < i + k
  | [], i, _, k, o, ho => by simp at ho
  | o :: r, i, h, k, o', ho => by
    have hu : edgesOk (o :: r) i = (o.after.toList.all (fun e => !Region.binds .any e || Nat.blt e.on i) && edgesOk r (Nat.succ i)) := rfl
    rw [hu, Bool.and_eq_true] at h
    cases k with
    | zero =>
      simp only [List.getElem?_cons_zero, Option.some.injEq] at ho
      subst ho
      intro e he hb
      have := (List.all_eq_true.1 h.1) e he
      rw [hb] at this
      have : e.on < i := by simpa using this
      exact this
    | succ k =>
      intro e he hb
      have := edgesOk_spec r _ h.2 k o' (by simpa using ho) e he hb
      omega
theorem tmpsOk_spec {all : List Oper} {ms : List Nat} {w : T (List Nat)} : ∀ (ops : List Oper) (j : Nat), tmpsOk all ms w ops j = true → ∀ k o, ops[k]? = some o → ∀ t ∈ names all o, ∀ i ∈ (w.get t).getD [], cmpB ms i (j + k) = true
  | [], j, _, k, o, ho => by simp at ho
  | o :: r, j, h, k, o', ho => by
    have hu : tmpsOk all ms w (o :: r) j = ((names all o).all (fun t => ((w.get t).getD []).all fun i => cmpB ms i j) && tmpsOk all ms w r (Nat.succ j)) := rfl
    rw [hu, Bool.and_eq_true] at h
    cases k with
    | zero =>
      simp only [List.getElem?_cons_zero, Option.some.injEq] at ho
      subst ho
      intro t ht i hi
      exact (List.all_eq_true.1 ((List.all_eq_true.1 h.1) t ht)) i hi
    | succ k =>
      intro t ht i hi
      have := tmpsOk_spec r _ h.2 k o' (by simpa using ho) t ht i hi
      rw [show j + (k + 1) = j.succ + k from by omega]
      exact this
theorem writers_spec : ∀ (ops : List Oper) (i : Nat) (t : T (List Nat)), (∀ u x, x ∈ (t.get u).getD [] → x ∈ ((writers ops i t).get u).getD []) ∧
    ∀ k o d, ops[k]? = some o → o.dst = some d → (i + k) ∈ ((writers ops i t).get d).getD []
  | [], i, t => ⟨fun u x h => h, fun k o d ho => by simp at ho⟩
  | o :: r, i, t => by
    have hu : writers (o :: r) i t = (match o.dst with | none => writers r (Nat.succ i) t | some d => T.set (some (i :: (t.get d).getD [])) t d fun t => writers r (Nat.succ i) t) := rfl
    rw [hu]
    cases hd : o.dst with
    | none =>
      obtain ⟨h1, h2⟩ := writers_spec r (Nat.succ i) t
      refine ⟨h1, fun k o' d ho hd' => ?_⟩
      cases k with
      | zero =>
        simp only [List.getElem?_cons_zero, Option.some.injEq] at ho
        subst ho
        rw [hd] at hd'; cases hd'
      | succ k =>
        have := h2 k o' d (by simpa using ho) hd'
        rw [show i + (k + 1) = i.succ + k from by omega]
        exact this
    | some d0 =>
      simp only [T.set_k]
      obtain ⟨h1, h2⟩ := writers_spec r (Nat.succ i) (t.upd d0 (some (i :: (t.get d0).getD [])))
      refine ⟨fun u x hx => h1 u x ?_, fun k o' d ho hd' => ?_⟩
      · rw [T.get_upd]
        split
        · rename_i e; subst e; simp [hx]
        · exact hx
      · cases k with
        | zero =>
          simp only [List.getElem?_cons_zero, Option.some.injEq] at ho
          subst ho
          rw [hd] at hd'; injection hd' with hd'; subst hd'
          refine h1 _ _ ?_
          rw [T.get_upd, if_pos rfl]
          simp
        | succ k =>
          have := h2 k o' d (by simpa using ho) hd'
          rw [show i + (k + 1) = i.succ + k from by omega]
          exact this
theorem bigIn_spec {m : Nat} : ∀ (ks : List K) (i to : Nat), bigIn ks m i to = true → ∀ k kd, ks[k]? = some kd → i + k < to → kd.big = true → m.testBit (i + k) = true
  | [], i, to, _, k, kd, hk => by simp at hk
  | kd0 :: r, i, to, h, k, kd, hk => by
    have hu : bigIn (kd0 :: r) m i to = (match Nat.blt i to with | true => (!kd0.big || m.testBit i) && bigIn r m (Nat.succ i) to | false => true) := rfl
    rw [hu] at h
    intro hlt hbig
    have hi : Nat.blt i to = true := Nat.ble_eq.mpr (by omega)
    rw [hi] at h
    simp only [Bool.and_eq_true] at h
    cases k with
    | zero =>
      simp only [List.getElem?_cons_zero, Option.some.injEq] at hk
      subst hk
      have := h.1
      rw [hbig] at this
      simpa using this
    | succ k =>
      have := bigIn_spec r _ _ h.2 k kd (by simpa using hk) (by omega) hbig
      rw [show i + (k + 1) = i.succ + k from by omega]
      exact this
theorem loOf_spec {m : Nat} : ∀ (ks : List K) (i lo : Nat), loOf ks m i lo = lo ∨ ∃ k kd, ks[k]? = some kd ∧ kd.big = true ∧ m.testBit (i + k) = true ∧ loOf ks m i lo = i + k + 1
  | [], i, lo => .inl rfl
  | kd :: r, i, lo => by
    have hu : loOf (kd :: r) m i lo = loOf r m (Nat.succ i) (match kd.big && m.testBit i with | true => Nat.succ i | false => lo) := rfl
    rw [hu]
    have up : ∀ lo', (∃ k kd', r[k]? = some kd' ∧ kd'.big = true ∧ m.testBit (i.succ + k) = true ∧ loOf r m i.succ lo' = i.succ + k + 1) → ∃ k kd', (kd :: r)[k]? = some kd' ∧ kd'.big = true ∧ m.testBit (i + k) = true ∧ loOf r m i.succ lo' = i + k + 1 := by
      rintro lo' ⟨k, kd', h1, h2, h3, h4⟩
      exact ⟨k + 1, kd', by simpa using h1, h2, by rw [show i + (k + 1) = i.succ + k from by omega]; exact h3, by omega⟩
    cases hb : (kd.big && m.testBit i) with
    | true =>
      rcases loOf_spec r (Nat.succ i) (Nat.succ i) with h | h
      · simp only [Bool.and_eq_true] at hb
        exact .inr ⟨0, kd, by simp, hb.1, by simpa using hb.2, by simpa using h⟩
      · exact .inr (up _ h)
    | false =>
      rcases loOf_spec r (Nat.succ i) lo with h | h
      · exact .inl h
      · exact .inr (up _ h)
theorem hiOf_spec {j : Nat} : ∀ (ks : List K) (ms : List Nat) (i : Nat), ms.length = ks.length → hiOf ks j ms i = i + ks.length ∨ ∃ k kd m, ks[k]? = some kd ∧ ms[k]? = some m ∧ kd.big = true ∧ m.testBit j = true ∧ hiOf ks j ms i = i + k
  | [], ms, i, _ => .inl rfl
  | kd :: r, [], i, h => by simp at h
  | kd :: r, m :: ms, i, h => by
    have hu : hiOf (kd :: r) j (m :: ms) i = (match kd.big && m.testBit j with | true => i | false => hiOf r j ms (Nat.succ i)) := rfl
    rw [hu]
    by_cases hb : (kd.big && m.testBit j) = true
    · rw [hb]
      simp only [Bool.and_eq_true] at hb
      exact .inr ⟨0, kd, m, by simp, by simp, hb.1, hb.2, rfl⟩
    · rw [Bool.not_eq_true] at hb
      rw [hb]
      show hiOf r j ms (Nat.succ i) = _ ∨ ∃ k kd' m', _ ∧ _ ∧ _ ∧ _ ∧ hiOf r j ms (Nat.succ i) = _
      rcases hiOf_spec r ms (Nat.succ i) (by simpa using h) with h' | ⟨k, kd', m', h1, h2, h3, h4, h5⟩
      · exact .inl (by rw [h', List.length_cons]; omega)
      · exact .inr ⟨k + 1, kd', m', by simpa using h1, by simpa using h2, h3, h4, by rw [h5]; omega⟩
def InfoOk (ks : List K) (ms : List Nat) (x : K × Nat) (j : Nat) (r : RI) : Prop :=
  match x.1 with
  | .chain => r = .chain ∧ bigIn ks x.2 0 j = true
  | .new => r = .new
  | .pure => r = .pure
  | .read => r = .read (loOf ks x.2 0 0) (hiOf ks j ms 0) ∧ bigIn ks x.2 0 (loOf ks x.2 0 0) = true
theorem infos_spec {ks : List K} {ms : List Nat} : ∀ (todo : List (K × Nat)) (j : Nat) (l : List RI), infos ks ms todo j = some l → l.length = todo.length ∧ ∀ k x, todo[k]? = some x → ∃ r, l[k]? = some r ∧ InfoOk ks ms x (j + k) r
  | [], j, l, h => by injection h with h; subst h; exact ⟨rfl, fun k x hx => by simp at hx⟩
  | x :: t, j, l, h => by
    have hu : infos ks ms (x :: t) j = (match x.1 with
      | .chain => (match bigIn ks x.2 0 j with | true => (match infos ks ms t (Nat.succ j) with | some l => some (.chain :: l) | none => none) | false => none)
      | .new => (match infos ks ms t (Nat.succ j) with | some l => some (.new :: l) | none => none)
      | .pure => (match infos ks ms t (Nat.succ j) with | some l => some (.pure :: l) | none => none)
      | .read => (match bigIn ks x.2 0 (loOf ks x.2 0 0) with
          | true => (match infos ks ms t (Nat.succ j) with | some l => some (.read (loOf ks x.2 0 0) (hiOf ks j ms 0) :: l) | none => none)
          | false => none)) := rfl
    rw [hu] at h
    have fin : ∀ {r : RI} {l' : List RI}, infos ks ms t (Nat.succ j) = some l' → r :: l' = l → InfoOk ks ms x j r → l.length = (x :: t).length ∧ ∀ k y, (x :: t)[k]? = some y → ∃ r, l[k]? = some r ∧ InfoOk ks ms y (j + k) r := by
      intro r l' h1 h2 h3
      subst h2
      obtain ⟨i1, i2⟩ := infos_spec t _ l' h1
      refine ⟨by simp [i1], fun k y hy => ?_⟩
      cases k with
      | zero =>
        simp only [List.getElem?_cons_zero, Option.some.injEq] at hy
        subst hy
        exact ⟨r, rfl, h3⟩
      | succ k =>
        obtain ⟨r', h4, h5⟩ := i2 k y (by simpa using hy)
        exact ⟨r', by simpa using h4, by rw [show j + (k + 1) = j.succ + k from by omega]; exact h5⟩
    split at h
    · rename_i hx
      split at h
      · rename_i hb
        split at h
        · rename_i l' hl; injection h with h; exact fin hl h (by unfold InfoOk; rw [hx]; exact ⟨rfl, hb⟩)
        · cases h
      · cases h
    · rename_i hx
      split at h
      · rename_i l' hl; injection h with h; exact fin hl h (by unfold InfoOk; rw [hx])
      · cases h
    · rename_i hx
      split at h
      · rename_i l' hl; injection h with h; exact fin hl h (by unfold InfoOk; rw [hx])
      · cases h
    · rename_i hx
      split at h
      · rename_i hb
        split at h
        · rename_i l' hl; injection h with h; exact fin hl h (by unfold InfoOk; rw [hx]; exact ⟨rfl, hb⟩)
        · cases h
      · cases h
/-- What comes before what, in a region. -/
def Bf (ops : List Oper) (i j : Nat) : Prop := (((masks ops [])[i]?).getD 0).testBit j = true
structure Reg (P : Program) (ops : List Oper) (is : List RI) : Prop where
  edge : ∀ i o, ops[i]? = some o → ∀ e ∈ o.after.toList, Region.binds .any e = true → e.on < i
  bf : ∀ i o, ops[i]? = some o → ∀ j, Bf ops i j ↔ ∃ e ∈ o.after.toList, Region.binds .any e = true ∧ (e.on = j ∨ Bf ops e.on j)
  none : ∀ i, ops[i]? = none → ∀ j, ¬ Bf ops i j
  tmps : ∀ j o, ops[j]? = some o → ∀ t ∈ names ops o, ∀ i o', ops[i]? = some o' → o'.dst = some t → i = j ∨ (i < j ∧ Bf ops j i) ∨ (j < i ∧ Bf ops i j)
  len : is.length = ops.length
  chain : ∀ (j : Nat) (o : Oper), ops[j]? = some o → kindOf P o.op = K.chain → is[j]? = some .chain ∧ ∀ i o', ops[i]? = some o' → i < j → (kindOf P o'.op).big = true → Bf ops j i
  new : ∀ (j : Nat) (o : Oper), ops[j]? = some o → kindOf P o.op = K.new → is[j]? = some .new
  pure : ∀ (j : Nat) (o : Oper), ops[j]? = some o → kindOf P o.op = K.pure → is[j]? = some .pure
  read : ∀ (j : Nat) (o : Oper), ops[j]? = some o → kindOf P o.op = K.read → ∃ lo hi, is[j]? = some (.read lo hi) ∧ (∀ i o', ops[i]? = some o' → i < lo → (kindOf P o'.op).big = true → Bf ops j i) ∧
    (lo = 0 ∨ ∃ i o', ops[i]? = some o' ∧ (kindOf P o'.op).big = true ∧ lo = i + 1) ∧ (hi = ops.length ∨ ∃ o', ops[hi]? = some o' ∧ (kindOf P o'.op).big = true ∧ Bf ops hi j)
theorem regInfo_spec {P : Program} {ops : List Oper} {is : List RI} (h : regInfo P ops = some is) : Reg P ops is := by
  unfold regInfo at h
  split at h
  · rename_i hc
    simp only [Bool.and_eq_true] at hc
    obtain ⟨⟨he, hs⟩, ht⟩ := hc
    obtain ⟨m1, m2, m3⟩ := masks_spec ops []
    simp only [List.length_nil, Nat.zero_add] at m1 m3
    have he := edgesOk_spec ops 0 he
    simp only [Nat.zero_add] at he
    have ht := tmpsOk_spec ops 0 ht
    simp only [Nat.zero_add] at ht
    have hw := (writers_spec ops 0 .e).2
    simp only [Nat.zero_add] at hw
    obtain ⟨i1, i2⟩ := infos_spec _ _ _ h
    simp only [Nat.zero_add] at i2
    have hm : ∀ (i : Nat) (o : Oper), ops[i]? = some o → ((masks ops [])[i]?).getD 0 = maskOf o ((masks ops []).take i) := fun i o ho => by rw [m3 i o ho]; rfl
    have hz : ∀ (j : Nat) (o : Oper), ops[j]? = some o → ((ops.map fun o => kindOf P o.op).zip (masks ops []))[j]? = some (kindOf P o.op, ((masks ops [])[j]?).getD 0) := fun j o ho => by
      rw [List.getElem?_zip_eq_some]
      refine ⟨by simp [ho], ?_⟩
      rw [m3 j o ho]; rfl
    have hk : ∀ {i : Nat} {o : Oper}, ops[i]? = some o → (ops.map fun o => kindOf P o.op)[i]? = some (kindOf P o.op) := fun ho => by simp [ho]
    have hk' : ∀ {i : Nat} {kd : K}, (ops.map fun o => kindOf P o.op)[i]? = some kd → ∃ o, ops[i]? = some o ∧ kindOf P o.op = kd := fun {i kd} hi => by
      rw [List.getElem?_map, Option.map_eq_some_iff] at hi
      exact hi
    refine ⟨he, fun i o ho j => ?_, fun i hi j hj => ?_, fun j o ho t htn i o' ho' hd => ?_, by rw [i1]; simp [m1], fun j o ho hkd => ?_, fun j o ho hkd => ?_, fun j o ho hkd => ?_, fun j o ho hkd => ?_⟩
    · unfold Bf
      rw [hm i o ho, maskOf_bit]
      constructor
      · rintro ⟨e, e1, e2, e3⟩
        refine ⟨e, e1, e2, ?_⟩
        rw [List.getElem?_take_of_lt (he i o ho e e1 e2)] at e3
        exact e3
      · rintro ⟨e, e1, e2, e3⟩
        refine ⟨e, e1, e2, ?_⟩
        rw [List.getElem?_take_of_lt (he i o ho e e1 e2)]
        exact e3
    · unfold Bf at hj
      have hi : ops.length ≤ i := List.getElem?_eq_none_iff.1 hi
      rw [List.getElem?_eq_none (by omega)] at hj
      simp at hj
    · have := ht j o ho t htn i (hw i o' t ho' hd)
      unfold cmpB at this
      simp only [Bool.or_eq_true, Bool.and_eq_true, natbeq, decide_eq_true_eq] at this
      rcases this with (h | ⟨h1, h2⟩) | ⟨h1, h2⟩
      · exact .inl h
      · exact .inr (.inl ⟨Nat.ble_eq.mp h1, h2⟩)
      · exact .inr (.inr ⟨Nat.ble_eq.mp h1, h2⟩)
    · obtain ⟨r, r1, r2⟩ := i2 j _ (hz j o ho)
      unfold InfoOk at r2
      rw [hkd] at r2
      simp only at r2
      refine ⟨by rw [r1, r2.1], fun i o' ho' hlt hbig => ?_⟩
      have := bigIn_spec _ 0 j r2.2 i _ (hk ho') (by omega) hbig
      rw [Nat.zero_add] at this
      exact this
    · obtain ⟨r, r1, r2⟩ := i2 j _ (hz j o ho)
      unfold InfoOk at r2
      rw [hkd] at r2
      rw [r1, r2]
    · obtain ⟨r, r1, r2⟩ := i2 j _ (hz j o ho)
      unfold InfoOk at r2
      rw [hkd] at r2
      rw [r1, r2]
    · obtain ⟨r, r1, r2⟩ := i2 j _ (hz j o ho)
      unfold InfoOk at r2
      rw [hkd] at r2
      simp only at r2
      refine ⟨_, _, by rw [r1, r2.1], fun i o' ho' hlt hbig => ?_, ?_, ?_⟩
      · have := bigIn_spec _ 0 _ r2.2 i _ (hk ho') (by omega) hbig
        rw [Nat.zero_add] at this
        exact this
      · rcases loOf_spec (m := ((masks ops [])[j]?).getD 0) (ops.map fun o => kindOf P o.op) 0 0 with h | ⟨k, kd, k1, k2, k3, k4⟩
        · exact .inl h
        · obtain ⟨o', o1, o2⟩ := hk' k1
          exact .inr ⟨k, o', o1, by rw [o2]; exact k2, by omega⟩
      · rcases hiOf_spec (j := j) (ops.map fun o => kindOf P o.op) (masks ops []) 0 (by simp [m1]) with h | ⟨k, kd, m, k1, k2, k3, k4, k5⟩
        · exact .inl (by rw [h]; simp)
        · obtain ⟨o', o1, o2⟩ := hk' k1
          rw [Nat.zero_add] at k5
          rw [k5]
          exact .inr ⟨o', o1, by rw [o2]; exact k3, by unfold Bf; rw [k2]; exact k4⟩
  · cases h
theorem Reg.lt {P : Program} {ops : List Oper} {is : List RI} (h : Reg P ops is) : ∀ i j, Bf ops i j → j < i := by
  intro i
  induction i using Nat.strongRecOn with
  | _ i ih =>
    intro j hj
    cases ho : ops[i]? with
    | none => exact absurd hj (h.none i ho j)
    | some o =>
      obtain ⟨e, e1, e2, e3⟩ := (h.bf i o ho j).1 hj
      have hlt := h.edge i o ho e e1 e2
      rcases e3 with rfl | e3
      · exact hlt
      · have := ih e.on hlt j e3
        omega
/-- What has been done is closed: with an operation, all that comes before it. -/
def Closed (ops : List Oper) (L : Nat → Prop) : Prop := ∀ i o, ops[i]? = some o → L i → ∀ e ∈ o.after.toList, Region.binds .any e = true → L e.on
theorem Reg.closed {P : Program} {ops : List Oper} {is : List RI} (h : Reg P ops is) {L : Nat → Prop} (hL : Closed ops L) : ∀ i j, L i → Bf ops i j → L j := by
  intro i
  induction i using Nat.strongRecOn with
  | _ i ih =>
    intro j hi hj
    cases ho : ops[i]? with
    | none => exact absurd hj (h.none i ho j)
    | some o =>
      obtain ⟨e, e1, e2, e3⟩ := (h.bf i o ho j).1 hj
      have hl := hL i o ho hi e e1 e2
      rcases e3 with rfl | e3
      · exact hl
      · exact ih e.on (h.edge i o ho e e1 e2) j hl e3
theorem Reg.ready {P : Program} {ops : List Oper} {is : List RI} (h : Reg P ops is) {L : Nat → Prop} (hL : Closed ops L) {i : Nat} {o : Oper} (ho : ops[i]? = some o) (hr : ∀ e ∈ o.after.toList, Region.binds .any e = true → L e.on) {j : Nat} (hj : Bf ops i j) : L j := by
  obtain ⟨e, e1, e2, e3⟩ := (h.bf i o ho j).1 hj
  rcases e3 with rfl | e3
  · exact hr e e1 e2
  · exact h.closed hL e.on j (hr e e1 e2) e3
end Go.Sy
namespace Go.Sy
open Go
section
variable {P : Program}
/-! ### Equality of values -/
theorem eqInt_eq {a b : Int} (h : eqInt a b = true) : a = b := by
  unfold eqInt at h
  split at h
  · rw [natbeq, decide_eq_true_eq] at h; rw [h]
  · rw [natbeq, decide_eq_true_eq] at h; rw [h]
  · cases h
theorem eqBytes_eq : ∀ {l m : List UInt8}, eqBytes l m = true → l = m
  | [], [], _ => rfl
  | [], _ :: _, h => by cases h
  | a :: l, [], h => by cases h
  | a :: l, b :: m, h => by
    have hu : eqBytes (a :: l) (b :: m) = (match Nat.beq a.toNat b.toNat with | true => eqBytes l m | false => false) := rfl
    rw [hu] at h
    split at h
    · rename_i e
      have e : a.toNat = b.toNat := by simpa using e
      rw [eqBytes_eq h, UInt8.toNat.inj e]
    · cases h
theorem eq1_eq {a b : AV} (h : eq1 a b = true) : a = b := by
  unfold eq1 at h
  split at h
  · simp only [beq_iff_eq] at h; rw [h]
  · split at h
    · rename_i e; rw [ikEq_eq e, eqInt_eq h]
    · cases h
  · rw [eqBytes_eq h]
  · rfl
  · split at h
    · rename_i e; rw [natbeq, decide_eq_true_eq] at e h; rw [e, h]
    · cases h
  · rfl
  · split at h
    · rename_i e1 e2 e3; rw [natbeq, decide_eq_true_eq] at e1 e2 e3 h; rw [e1, e2, e3, h]
    · cases h
  · split at h
    · rename_i e1 e2 e3
      rw [natbeq, decide_eq_true_eq] at e1 e2 e3
      split at h
      · rw [natbeq, decide_eq_true_eq] at h; rw [e1, e2, e3, h]
      · rw [natbeq, decide_eq_true_eq] at h; rw [e1, e2, e3, h]
      · cases h
    · cases h
  · rfl
  · rw [natbeq, decide_eq_true_eq] at h; rw [h]
  · rw [natbeq, decide_eq_true_eq] at h; rw [h]
  · rfl
  · rw [natbeq, decide_eq_true_eq] at h; rw [h]
  · rfl
  · cases h
theorem eq1s_eq : ∀ {l m : List AV}, eq1s l m = true → l = m
  | [], [], _ => rfl
  | [], _ :: _, h => by cases h
  | a :: l, [], h => by cases h
  | a :: l, b :: m, h => by
    have hu : eq1s (a :: l) (b :: m) = (match eq1 a b with | true => eq1s l m | false => false) := rfl
    rw [hu] at h
    split at h
    · rename_i e; rw [eq1s_eq h, eq1_eq e]
    · cases h
theorem eq2_eq {a b : AV} (h : eq2 a b = true) : a = b := by
  unfold eq2 at h
  split at h
  · rw [eq1s_eq h]
  · exact eq1_eq h
theorem eq2s_eq : ∀ {l m : List AV}, eq2s l m = true → l = m
  | [], [], _ => rfl
  | [], _ :: _, h => by cases h
  | a :: l, [], h => by cases h
  | a :: l, b :: m, h => by
    have hu : eq2s (a :: l) (b :: m) = (match eq2 a b with | true => eq2s l m | false => false) := rfl
    rw [hu] at h
    split at h
    · rename_i e; rw [eq2s_eq h, eq2_eq e]
    · cases h
theorem eqV_eq {a b : AV} (h : eqV a b = true) : a = b := by
  unfold eqV at h
  split at h
  · rw [eq1s_eq h]
  · rw [eq2s_eq h]
  · split at h
    · rename_i e1 e2; rw [natbeq, decide_eq_true_eq] at e1; rw [e1, eq1s_eq e2, eq1s_eq h]
    · cases h
  · exact eq1_eq h
/-! ### What was carried out -/
theorem snapsOk_spec {r : Rd} : ∀ {l : List (Nat × Heap)}, snapsOk P r l = true → ∀ s ∈ l, r.lo ≤ s.1 → s.1 ≤ r.hi → ∃ v n H, evOp r.o.op P r.o r.env 0 s.2 = .val v n H ∧ eqV r.v v = true
  | [], _, s, hs => by cases hs
  | x :: l, h, s, hs => by
    have hu : snapsOk P r (x :: l) = (match Nat.ble r.lo x.1 && Nat.ble x.1 r.hi with
      | true => (match evOp r.o.op P r.o r.env 0 x.2 with
          | .val v _ _ => (match eqV r.v v with | true => snapsOk P r l | false => false)
          | _ => false)
      | false => snapsOk P r l) := rfl
    rw [hu] at h
    intro h1 h2
    have rest : snapsOk P r l = true → s ∈ l → ∃ v n H, evOp r.o.op P r.o r.env 0 s.2 = .val v n H ∧ eqV r.v v = true := fun h hs => snapsOk_spec h s hs h1 h2
    split at h
    · split at h
      · rename_i v n H hv
        split at h
        · rename_i he
          cases hs with
          | head => exact ⟨v, n, H, hv, he⟩
          | tail _ hs => exact rest h hs
        · cases h
      · cases h
    · rename_i hc
      cases hs with
      | head =>
        rw [Nat.ble_eq.mpr h1, Nat.ble_eq.mpr h2] at hc
        cases hc
      | tail _ hs => exact rest h hs
theorem rdsOk_spec {snaps : List (Nat × Heap)} : ∀ {l : List Rd}, rdsOk P snaps l = true → ∀ r ∈ l, snapsOk P r snaps = true
  | [], _, r, hr => by cases hr
  | x :: l, h, r, hr => by
    have hu : rdsOk P snaps (x :: l) = (match snapsOk P x snaps with | true => rdsOk P snaps l | false => false) := rfl
    rw [hu] at h
    split at h
    · rename_i hx
      cases hr with
      | head => exact hx
      | tail _ hr => exact rdsOk_spec h r hr
    · cases h
/-- One operation of a region that draws its order, carried out in the written order. -/
def Ent (P : Program) (ec : EC) (ef : EF) (N : Nat) (all : List Oper) (SN : List (Nat × Heap)) (RD : List Rd) (i : Nat) (o : Oper) (x : RI) (env : Env) (n : Nat) (H : Heap) (v : AV) (env' : Env) (n' : Nat) (H' : Heap) : Prop :=
  PutRel o.dst N v env env' ∧ ((wantedA all o.guard env = some false ∧ v = undefA ∧ n' = n ∧ H' = H ∧ (match x with | .chain => (i + 1, H') ∈ SN | .new => (i + 1, H') ∈ SN | _ => True)) ∨
    (wantedA all o.guard env = some true ∧ match x with
      | .pure => evOp o.op P o env n H = .val v n' H'
      | .read lo hi => evOp o.op P o env n H = .val v n' H' ∧ (⟨o, env, v, lo, hi⟩ : Rd) ∈ RD
      | .new => evOp o.op P o env n H = .val v n' H' ∧ (i + 1, H') ∈ SN
      | .chain => evV P ec ef o env n H = .ok v n' H' ∧ (i + 1, H') ∈ SN))
theorem putD_ok {dst : Option Tmp} {N : Nat} {v : AV} {env env' : Env} {n n' : Nat} {H H' : Heap} (h : putD dst N v env n H = .ok env' n' H') : PutRel dst N v env env' ∧ n' = n ∧ H' = H := by
  unfold putD at h
  obtain ⟨e1, h1, h2⟩ := putK_val h (fun _ e => by cases e)
  injection h1 with q1 q2 q3
  subst q1 q2 q3
  exact ⟨h2, rfl, rfl⟩
theorem evWanted_ok {ec : EC} {ef : EF} {N : Nat} {o : Oper} {env env' : Env} {n n' : Nat} {H H' : Heap} (h : evWanted P ec ef N o env n H = .ok env' n' H') : ∃ v, evV P ec ef o env n H = .ok v n' H' ∧ PutRel o.dst N v env env' := by
  unfold evWanted at h
  unfold evV
  cases hr : evOp o.op P o env n H with
  | val v n1 H1 =>
    rw [hr] at h
    obtain ⟨h1, rfl, rfl⟩ := putD_ok h
    exact ⟨v, rfl, h1⟩
  | call g args =>
    rw [hr] at h
    simp only at h ⊢
    split at h
    · rename_i v n1 H1 hc
      obtain ⟨h1, rfl, rfl⟩ := putD_ok h
      exact ⟨v, hc, h1⟩
    · cases h
  | yld y args =>
    rw [hr] at h
    simp only at h ⊢
    split at h
    · rename_i v n1 H1 hc
      obtain ⟨h1, rfl, rfl⟩ := putD_ok h
      exact ⟨v, hc, h1⟩
    · cases h
  | dfr f args => rw [hr] at h; cases h
  | no k => rw [hr] at h; cases h
theorem evDrawn_cons (ec : EC) (ef : EF) (N : Nat) (all : List Oper) (o : Oper) (ops : List Oper) (x : RI) (is : List RI) (i : Nat) (snaps : List (Nat × Heap)) (rds : List Rd) (env : Env) (n : Nat) (H : Heap) :
    evDrawn P ec ef N all (o :: ops) (x :: is) i snaps rds env n H = (match wantedA all o.guard env with
        | some false => (match putD o.dst N undefA env n H with
            | .ok env n H => (match x with
                | .pure => evDrawn P ec ef N all ops is (Nat.succ i) snaps rds env n H
                | .read _ _ => evDrawn P ec ef N all ops is (Nat.succ i) snaps rds env n H
                | _ => evDrawn P ec ef N all ops is (Nat.succ i) ((Nat.succ i, H) :: snaps) rds env n H)
            | .er l => .er l)
        | some true => (match x with
          | .pure => (match evOp o.op P o env n H with
              | .val v n H => (match putD o.dst N v env n H with | .ok env n H => evDrawn P ec ef N all ops is (Nat.succ i) snaps rds env n H | .er l => .er l)
              | .no k => .er [k, 212]
              | _ => .er [212])
          | .read lo hi => (match evOp o.op P o env n H with
              | .val v n H => (match putD o.dst N v env n H with | .ok env' n H => evDrawn P ec ef N all ops is (Nat.succ i) snaps (⟨o, env, v, lo, hi⟩ :: rds) env' n H | .er l => .er l)
              | .no k => .er [k, 213]
              | _ => .er [213])
          | .new => (match evOp o.op P o env n H with
              | .val v n H => (match putD o.dst N v env n H with | .ok env n H => evDrawn P ec ef N all ops is (Nat.succ i) ((Nat.succ i, H) :: snaps) rds env n H | .er l => .er l)
              | .no k => .er [k, 214]
              | _ => .er [214])
          | .chain => (match evWanted P ec ef N o env n H with
              | .ok env n H => evDrawn P ec ef N all ops is (Nat.succ i) ((Nat.succ i, H) :: snaps) rds env n H
              | .er l => .er l))
        | none => .er [215]) := rfl
theorem evDrawn_trace {ec : EC} {ef : EF} {N : Nat} {all : List Oper} : ∀ {ops : List Oper} {is : List RI} {i : Nat} {snaps : List (Nat × Heap)} {rds : List Rd} {env : Env} {n : Nat} {H : Heap} {envF : Env} {nF : Nat} {HF : Heap}, is.length = ops.length →
    evDrawn P ec ef N all ops is i snaps rds env n H = .ok envF nF HF → ∃ (SN : List (Nat × Heap)) (RD : List Rd) (E : Nat → Env) (nn : Nat → Nat) (HH : Nat → Heap) (vv : Nat → AV), (∀ s ∈ snaps, s ∈ SN) ∧ (∀ r ∈ rds, r ∈ RD) ∧ rdsOk P SN RD = true ∧
      E 0 = env ∧ nn 0 = n ∧ HH 0 = H ∧ E ops.length = envF ∧ nn ops.length = nF ∧ HH ops.length = HF ∧
      ∀ j o x, ops[j]? = some o → is[j]? = some x → Ent P ec ef N all SN RD (i + j) o x (E j) (nn j) (HH j) (vv j) (E (j + 1)) (nn (j + 1)) (HH (j + 1))
  | [], is, i, snaps, rds, env, n, H, envF, nF, HF, _, h => by
    have h : (match rdsOk P snaps rds with | true => SR.ok env n H | false => .er [210]) = .ok envF nF HF := h
    split at h
    · rename_i hr
      injection h with q1 q2 q3
      subst q1 q2 q3
      exact ⟨snaps, rds, fun _ => env, fun _ => n, fun _ => H, fun _ => undefA, fun _ h => h, fun _ h => h, hr, rfl, rfl, rfl, rfl, rfl, rfl, fun j o x ho => by simp at ho⟩
    · cases h
  | o :: ops, [], i, snaps, rds, env, n, H, envF, nF, HF, hl, h => by simp at hl
  | o :: ops, x :: is, i, snaps, rds, env, n, H, envF, nF, HF, hl, h => by
    have hl : is.length = ops.length := by simpa using hl
    -- from the rest
    have cons : ∀ {snaps' : List (Nat × Heap)} {rds' : List Rd} {v : AV} {env1 : Env} {n1 : Nat} {H1 : Heap}, evDrawn P ec ef N all ops is (Nat.succ i) snaps' rds' env1 n1 H1 = .ok envF nF HF → (∀ s ∈ snaps, s ∈ snaps') → (∀ r ∈ rds, r ∈ rds') →
        (∀ SN RD, (∀ s ∈ snaps', s ∈ SN) → (∀ r ∈ rds', r ∈ RD) → Ent P ec ef N all SN RD i o x env n H v env1 n1 H1) →
        ∃ (SN : List (Nat × Heap)) (RD : List Rd) (E : Nat → Env) (nn : Nat → Nat) (HH : Nat → Heap) (vv : Nat → AV), (∀ s ∈ snaps, s ∈ SN) ∧ (∀ r ∈ rds, r ∈ RD) ∧ rdsOk P SN RD = true ∧
        E 0 = env ∧ nn 0 = n ∧ HH 0 = H ∧ E (o :: ops).length = envF ∧ nn (o :: ops).length = nF ∧ HH (o :: ops).length = HF ∧
        ∀ j o' x', (o :: ops)[j]? = some o' → (x :: is)[j]? = some x' → Ent P ec ef N all SN RD (i + j) o' x' (E j) (nn j) (HH j) (vv j) (E (j + 1)) (nn (j + 1)) (HH (j + 1)) := by
      intro snaps' rds' v env1 n1 H1 hr h1 h2 h3
      obtain ⟨SN, RD, E, nn, HH, vv, k1, k2, k3, k4, k5, k6, k7, k8, k9, k10⟩ := evDrawn_trace hl hr
      refine ⟨SN, RD, (fun | 0 => env | j + 1 => E j), (fun | 0 => n | j + 1 => nn j), (fun | 0 => H | j + 1 => HH j), (fun | 0 => v | j + 1 => vv j), fun s hs => k1 s (h1 s hs), fun r hr => k2 r (h2 r hr), k3, rfl, rfl, rfl, k7, k8, k9, fun j o' x' ho hx => ?_⟩
      cases j with
      | zero =>
        simp only [List.getElem?_cons_zero, Option.some.injEq] at ho hx
        subst ho hx
        have := h3 SN RD k1 k2
        simp only [k4, k5, k6]
        exact this
      | succ j =>
        have := k10 j o' x' (by simpa using ho) (by simpa using hx)
        rw [show i + (j + 1) = i.succ + j from by omega]
        exact this
    rw [evDrawn_cons] at h
    split at h
    · rename_i hw
      split at h
      · rename_i env1 n1 H1 hp
        obtain ⟨p1, rfl, rfl⟩ := putD_ok hp
        split at h
        · exact cons h (fun _ h => h) (fun _ h => h) fun SN RD h1 h2 => ⟨p1, .inl ⟨hw, rfl, rfl, rfl, trivial⟩⟩
        · exact cons h (fun _ h => h) (fun _ h => h) fun SN RD h1 h2 => ⟨p1, .inl ⟨hw, rfl, rfl, rfl, trivial⟩⟩
        · rename_i x1 x2
          refine cons h (fun _ h => List.mem_cons_of_mem _ h) (fun _ h => h) fun SN RD h1 h2 => ⟨p1, .inl ⟨hw, rfl, rfl, rfl, ?_⟩⟩
          have := h1 _ (List.mem_cons_self ..)
          cases x <;> first | exact this | trivial
      · cases h
    · rename_i hw
      split at h
      · split at h
        · rename_i v n1 H1 hv
          split at h
          · rename_i env1 n2 H2 hp
            obtain ⟨p1, rfl, rfl⟩ := putD_ok hp
            exact cons h (fun _ h => h) (fun _ h => h) fun SN RD h1 h2 => ⟨p1, .inr ⟨hw, hv⟩⟩
          · cases h
        · cases h
        · cases h
      · split at h
        · rename_i v n1 H1 hv
          split at h
          · rename_i env1 n2 H2 hp
            obtain ⟨p1, rfl, rfl⟩ := putD_ok hp
            exact cons h (fun _ h => h) (fun _ h => List.mem_cons_of_mem _ h) fun SN RD h1 h2 => ⟨p1, .inr ⟨hw, hv, h2 _ (List.mem_cons_self ..)⟩⟩
          · cases h
        · cases h
        · cases h
      · split at h
        · rename_i v n1 H1 hv
          split at h
          · rename_i env1 n2 H2 hp
            obtain ⟨p1, rfl, rfl⟩ := putD_ok hp
            exact cons h (fun _ h => List.mem_cons_of_mem _ h) (fun _ h => h) fun SN RD h1 h2 => ⟨p1, .inr ⟨hw, hv, h1 _ (List.mem_cons_self ..)⟩⟩
          · cases h
        · cases h
        · cases h
      · split at h
        · rename_i env1 n1 H1 hv
          obtain ⟨v, v1, v2⟩ := evWanted_ok hv
          exact cons h (fun _ h => List.mem_cons_of_mem _ h) (fun _ h => h) fun SN RD h1 h2 => ⟨v2, .inr ⟨hw, v1, h1 _ (List.mem_cons_self ..)⟩⟩
        · cases h
    · cases h
end
end Go.Sy
