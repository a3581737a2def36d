/- SymI, SymJ, SymK, SymL -/
import Derived.Test.YtcpophfchchpkaaGreatDoorMs3
import Derived.LaidEql
namespace Go.Sy
open Go
section
variable {P : Program}
theorem evMakeMap_ok {o : Oper} {t : TypeId} {r : Option Operand} (hop : o.op = .makeMap t r) {env : Env} {n n' : Nat} {H H' : Heap} {v : AV} (h : evMakeMap P t r env n H = .val v n' H') :
    ∃ A, n' = n + 1 ∧ H' = Q8.upd H n (some A) ∧ NewOk P o env n v A := by
  unfold evMakeMap at h
  split at h
  · rw [Q8.set_k, frc_eq] at h
    injection h with h1 h2 h3
    subst h1 h2 h3
    refine ⟨_, rfl, rfl, fun s N a w he hg hn => ⟨.map (some w.heap.size), .map #[] 0, 0, w.alloc (.map #[] 0), ?_, rfl, rfl, rfl, rfl, by simp [AV.conc, Sg.set], rfl, trivial⟩⟩
    simp [execOp, hop, Instr.makeMap]
  · rename_i x
    split at h
    · rename_i k y kt e hx hu
      rw [Q8.set_k, frc_eq] at h
      injection h with h1 h2 h3
      subst h1 h2 h3
      refine ⟨_, rfl, rfl, fun s N a w he hg hn => ⟨.map (some w.heap.size), .map #[] 0, 0, w.alloc (.map #[] 0), ?_, rfl, rfl, rfl, rfl, by simp [AV.conc, Sg.set], rfl, trivial⟩⟩
      have ex := opd_conc he hg hx
      simp only [AV.conc, Option.some.injEq] at ex
      simp [execOp, hop, Instr.makeMap, underlying_run hu, ← ex, asInt, asIntOf]
    · cases h
theorem evMakeSlice_ok {o : Oper} {t : TypeId} {x y : Operand} (hop : o.op = .makeSlice t x y) {env : Env} {n n' : Nat} {H H' : Heap} {v : AV} (h : evMakeSlice P t x y env n H = .val v n' H') :
    ∃ A, n' = n + 1 ∧ H' = Q8.upd H n (some A) ∧ NewOk P o env n v A := by
  unfold evMakeSlice at h
  split at h
  · rename_i k1 l k2 c e hx hy hu
    split at h
    · rename_i z sz by_ hz hsz hby
      split at h
      · rename_i hb
        rw [frc_eq, Q8.set_k, frc_eq] at h
        injection h with h1 h2 h3
        subst h1 h2 h3
        simp only [Bool.and_eq_true] at hb
        obtain ⟨⟨⟨b1, b2⟩, b3⟩, b4⟩ := hb
        have b1 := Nat.ble_eq.mp b1
        have b2 : by_ * c ≤ 2 ^ 48 := Nat.ble_eq.mp b2
        have b3 : c ≤ 2 ^ 48 := Nat.ble_eq.mp b3
        refine ⟨_, rfl, rfl, fun s N a w he hg hn => ?_⟩
        obtain ⟨i, v, vs, hi, hv, hc, hvl, hs⟩ := zeroC_run hz
        obtain ⟨c1, c2⟩ := hs (s.set n w.heap.size 0)
        have hsi := sizeB_info hsz hi
        obtain ⟨i', hi', hbi⟩ := bytesB_run hby
        rw [hi] at hi'; injection hi' with hi'; subst hi'
        have ex := opd_conc he hg hx
        have ey := opd_conc he hg hy
        simp only [AV.conc, Option.some.injEq] at ex ey
        have hbz : (i.bytes : Int) * ((Int.ofNat c : Int)) ≤ 281474976710656 := by
          rw [hbi]
          have : ((by_ * c : Nat) : Int) ≤ ((2 ^ 48 : Nat) : Int) := Int.ofNat_le.2 b2
          simpa using this
        have hm := run_make (P := P) w t e i v hu hi hv k1 k2 (Int.ofNat l) (Int.ofNat c) (Int.natCast_nonneg l) (Int.ofNat_le.2 b1) hbz (by
          have : ((c : Nat) : Int) ≤ ((2 ^ 48 : Nat) : Int) := Int.ofNat_le.2 b3
          have h2 : ((2 ^ 48 : Nat) : Int) ≤ 9223372036854775807 := by decide
          exact Int.le_trans this h2)
        refine ⟨.slice (some ⟨w.heap.size, 0, none⟩) l c, .cells (madeCells ⟨vs⟩ (c * sz)) e (0, 0), 0, w.alloc (.cells (madeCells ⟨vs⟩ (c * sz)) e), ?_, rfl, rfl, rfl, rfl, sl_conc.2 ⟨_, Sg.set_blk .., by simp [Cap.fits, b1], by simp [Cap.val]⟩, rowZ c1 c2 _⟩
        have e1 : (Int.ofNat c).toNat = c := rfl
        have e2 : (Int.ofNat l).toNat = l := rfl
        rw [e1, e2, hsi, hc] at hm
        simp only [execOp, hop, ← ex, ← ey, Sem.run_bind, hm, Result.andThen_ok, Sem.run_pure]
      · cases h
    · cases h
  · cases h
theorem bnd_spec {s : Sg} {N : Nat} {a : Act} {env : Env} (he : EnvR s env N a.tmps) (hg : s.glob) {x : Option Operand} {d l : Nat} (h : bnd env x d = some l) : (x = none ∧ l = d) ∨ ∃ op k, x = some op ∧ a.eval op = .int k (Int.ofNat l) := by
  unfold bnd at h
  split at h
  · injection h with h; exact .inl ⟨rfl, h.symm⟩
  · rename_i op
    split at h
    · rename_i k i hx
      injection h with h; subst h
      have ex := opd_conc he hg hx
      simp only [AV.conc, Option.some.injEq] at ex
      exact .inr ⟨op, k, rfl, ex.symm⟩
    · cases h
theorem bounds_run {s : Sg} {N : Nat} {a : Act} {env : Env} (he : EnvR s env N a.tmps) (hg : s.glob) {lo hi : Option Operand} {m cap l h : Nat} (isS : Bool) (hl : bnd env lo 0 = some l) (hh : bnd env hi m = some h) (h1 : l ≤ h) (h2 : h ≤ cap) (w : World) :
    (Instr.sliceBounds isS m cap (lo.map a.eval) (hi.map a.eval) none).run P w = .ok (l, h, cap) w := by
  rcases bnd_spec he hg hl with ⟨rfl, rfl⟩ | ⟨lo', k, rfl, el⟩ <;> rcases bnd_spec he hg hh with ⟨rfl, rfl⟩ | ⟨hi', k', rfl, eh⟩
  · simp [Instr.sliceBounds]
  · simp [Instr.sliceBounds, Instr.sliceBound, asIntOf, eh, h2]
  · simp [Instr.sliceBounds, Instr.sliceBound, asIntOf, el, h1]
  · simp [Instr.sliceBounds, Instr.sliceBound, asIntOf, el, eh, h1, h2]
theorem evSlice_ok {o : Oper} {t : TypeId} {x : Operand} {lo hi mx : Option Operand} (hop : o.op = .slice t x lo hi mx) {env : Env} {n n' : Nat} {H H' : Heap} {v : AV} (h : evSlice P o t x lo hi mx env n H = .val v n' H') : n' = n ∧ H' = H ∧ PureOk P o env v := by
  unfold evSlice at h
  split at h
  · rename_i y b m c e hx hu
    split at h
    · rename_i sz l hh hsz hl hhi
      split at h
      · cases h
      · rename_i hlh
        have hlh := Nat.ble_eq.mp hlh
        have key : ∀ {s : Sg} {N : Nat} {a : Act}, EnvR s env N a.tmps → s.glob → ∀ B, a.eval x = .slice (some ⟨B, b, none⟩) m (c.val s y) → hh ≤ c.val s y → ∀ (q : Nat), (c.val s y = l → q = b) → (c.val s y ≠ l → q = b + l * sz) → ∀ w,
            (execOp a.eval o).run P w = .ok (.value (.slice (some ⟨B, q, none⟩) (hh - l) (c.val s y - l))) w := by
          intro s N a he hg B ex hk q q1 q2 w
          have hb := bounds_run (P := P) (m := m) (cap := c.val s y) he hg true hl hhi hlh hk w
          have e0 : (execOp a.eval o).run P w = .ok (.value (.slice (if c.val s y = l then some ⟨B, b, none⟩ else (some (⟨B, b, none⟩ : Addr)).map (·.add (l * sz))) (hh - l) (c.val s y - l))) w := by
            simp [execOp, hop, Instr.sliceAt, underlying_run hu, ex, Instr.slice, hb, sizeB_run hsz]
          rw [e0]
          by_cases hk : c.val s y = l
          · simp [hk, q1 hk]
          · simp [hk, add_addr, q2 hk]
        split at h
        · rename_i k
          split at h
          · rename_i hhk
            have hhk := Nat.ble_eq.mp hhk
            simp only [frc_eq] at h
            injection h with h1 h2 h3
            subst h1 h2 h3
            refine ⟨rfl, rfl, fun s N a he hg => ?_⟩
            obtain ⟨B, hB, hf, ex⟩ := sl_conc.1 (opd_conc he hg hx)
            refine ⟨_, sl_conc.2 ⟨B, hB, ?_, rfl⟩, fun w => ?_⟩
            · simp only [Cap.fits, decide_eq_true_eq]
              show hh - l ≤ k - l
              omega
            rw [bsel, natbeq]
            by_cases hk : k = l
            · rw [key he hg B ex hhk b (fun _ => rfl) (fun h => absurd hk h) w]; simp [hk, Cap.val]
            · rw [key he hg B ex hhk (b + l * sz) (fun h => absurd h hk) (fun _ => rfl) w]; simp [hk, Cap.val]
          · cases h
        · rename_i u
          split at h
          · rename_i hc
            simp only [Bool.and_eq_true, Bool.or_eq_true] at hc
            obtain ⟨hm1, hm2⟩ := hc
            have hm1 := Nat.ble_eq.mp hm1
            simp only [frc_eq] at h
            injection h with h1 h2 h3
            subst h1 h2 h3
            refine ⟨rfl, rfl, fun s N a he hg => ?_⟩
            obtain ⟨B, hB, hf, ex⟩ := sl_conc.1 (opd_conc he hg hx)
            simp only [Cap.fits, decide_eq_true_eq] at hf
            refine ⟨_, sl_conc.2 ⟨B, hB, ?_, rfl⟩, fun w => ?_⟩
            · simp only [Cap.fits, decide_eq_true_eq]
              show u + l + (hh - l) ≤ s.cap y
              omega
            have hq : s.cap y - u = l → b + l * sz = b := fun hk => by
              rcases hm2 with hm2 | hm2
              · have : l < m := Nat.ble_eq.mp hm2
                omega
              · rw [natbeq] at hm2
                have : l = 0 := of_decide_eq_true hm2
                subst this; simp
            rw [key he hg B ex (by simp only [Cap.val]; omega) (b + l * sz) hq (fun _ => rfl) w]
            simp only [Cap.val]
            show _ = Result.ok (Next.value (Value.slice (some ⟨B, b + l * sz, none⟩) (hh - l) (s.cap y - (u + l)))) w
            rw [show s.cap y - u - l = s.cap y - (u + l) by omega]
          · split at h
            · rename_i hc
              simp only [Bool.and_eq_true, natbeq, decide_eq_true_eq] at hc
              obtain ⟨rfl, rfl⟩ := hc
              simp only [frc_eq] at h
              injection h with h1 h2 h3
              subst h1 h2 h3
              refine ⟨rfl, rfl, fun s N a he hg => ?_⟩
              obtain ⟨B, hB, hf, ex⟩ := sl_conc.1 (opd_conc he hg hx)
              simp only [Cap.fits, decide_eq_true_eq] at hf
              refine ⟨_, se_conc.2 ⟨B, hB, ?_, rfl⟩, fun w => ?_⟩
              · show u + l ≤ s.cap y; exact hf
              by_cases hk : s.cap y = u + l
              · rw [key he hg B ex (by simp only [Cap.val]; omega) b (fun _ => rfl) (fun h => absurd (show s.cap y - u = l by omega) h) w]
                simp only [Cap.val]
                show _ = Result.ok (Next.value (Value.slice (some ⟨B, if s.cap y = u + l then b else b + l * sz, none⟩) 0 (s.cap y - (u + l)))) w
                rw [if_pos hk, show s.cap y - u - l = s.cap y - (u + l) by omega, Nat.sub_self]
              · rw [key he hg B ex (by simp only [Cap.val]; omega) (b + l * sz) (fun h => absurd (show s.cap y = u + l by simp only [Cap.val] at h; omega) hk) (fun _ => rfl) w]
                simp only [Cap.val]
                show _ = Result.ok (Next.value (Value.slice (some ⟨B, if s.cap y = u + l then b else b + l * sz, none⟩) 0 (s.cap y - (u + l)))) w
                rw [if_neg hk, show s.cap y - u - l = s.cap y - (u + l) by omega, Nat.sub_self]
            · cases h
    · cases h
  · rename_i y b d u e hx hu
    split at h
    · rename_i sz hl hhi hsz
      injection h with h1 h2 h3
      subst h1 h2 h3
      refine ⟨rfl, rfl, fun s N a he hg => ?_⟩
      have ex' := opd_conc he hg hx
      obtain ⟨B, hB, hf, ex⟩ := se_conc.1 ex'
      refine ⟨_, ex', fun w => ?_⟩
      have hb := bounds_run (P := P) (m := 0) (cap := s.cap y - u) he hg true hl hhi (Nat.le_refl 0) (Nat.zero_le _) w
      have e0 : (execOp a.eval o).run P w = .ok (.value (.slice (if s.cap y - u = 0 then some ⟨B, if s.cap y = u then b else b + d, none⟩ else (some (⟨B, if s.cap y = u then b else b + d, none⟩ : Addr)).map (·.add (0 * sz))) (0 - 0) (s.cap y - u - 0))) w := by
        simp [execOp, hop, Instr.sliceAt, underlying_run hu, ex, Instr.slice, hb, sizeB_run hsz]
      rw [e0, ex]
      simp [add_addr]
    · cases h
  · rename_i y b m e hx hu
    split at h
    · rename_i sz l hh hsz hl hhi
      split at h
      · rename_i hc
        simp only [Bool.and_eq_true] at hc
        obtain ⟨hlh, hhm⟩ := hc
        have hlh := Nat.ble_eq.mp hlh
        have hhm := Nat.ble_eq.mp hhm
        simp only [frc_eq] at h
        injection h with h1 h2 h3
        subst h1 h2 h3
        refine ⟨rfl, rfl, fun s N a he hg => ?_⟩
        have ex := opd_conc he hg hx
        simp only [AV.conc, Option.map_eq_some_iff] at ex
        obtain ⟨B, hB, ex⟩ := ex
        refine ⟨_, sl_conc.2 ⟨B, hB, ?_, rfl⟩, fun w => ?_⟩
        · simp only [Cap.fits, decide_eq_true_eq]
          show hh - l ≤ m - l
          omega
        have hb := bounds_run (P := P) he hg false hl hhi hlh hhm w
        rw [bsel, natbeq]
        have e0 : (execOp a.eval o).run P w = .ok (.value (.slice (some (if m = l then ⟨B, b, none⟩ else (⟨B, b, none⟩ : Addr).add (l * sz))) (hh - l) (m - l))) w := by
          simp [execOp, hop, Instr.sliceAt, underlying_run hu, ← ex, Instr.sureAddr, hb, sizeB_run hsz]
        rw [e0]
        simp only [Cap.val, decide_eq_true_eq]
        by_cases hk : m = l
        · simp only [hk, if_true]; rfl
        · simp only [hk, if_false, add_addr]; rfl
      · cases h
    · cases h
  · exact evGround_ok (fun cs b => by rw [hop]; simp) h
end
end Go.Sy
namespace Go.Sy
open Go
section
variable {P : Program}
theorem wrap_nat {k : IntKind} {x : Nat} (h : x ≤ lid k) : k.wrap (Int.ofNat x) = Int.ofNat x := by
  cases k <;> simp only [lid] at h <;> simp only [IntKind.wrap, IntKind.bits, IntKind.signed] <;> simp <;> omega
theorem ikEq_eq {j k : IntKind} (h : ikEq j k = true) : j = k := by
  cases j <;> cases k <;> first | rfl | cases h
theorem natV_ok {k : IntKind} {x n n' : Nat} {H H' : Heap} {e : OR} {v : AV} (h : natV k x n H e = .val v n' H') : (e = .val v n' H') ∨ (n' = n ∧ H' = H ∧ v = .i k (.ofNat x) ∧ x ≤ lid k) := by
  unfold natV at h
  rw [bsel] at h
  split at h
  · rename_i hb
    rw [frc_eq] at h
    injection h with h1 h2 h3
    exact .inr ⟨h2.symm, h3.symm, h1.symm, Nat.ble_eq.mp hb⟩
  · exact .inl h
theorem boolV_ok {b : Bool} {n n' : Nat} {H H' : Heap} {v : AV} (h : boolV b n H = .val v n' H') : n' = n ∧ H' = H ∧ v = .b b := by
  unfold boolV at h
  cases b <;> injection h with h1 h2 h3 <;> exact ⟨h2.symm, h3.symm, h1.symm⟩
/-! Equality with an address -/
theorem equal_succ (t : TypeId) (x y : Value) : Op.equal t x y = Op.equalIn (9999 + 1) t x y := rfl
theorem binOp_eql {t : TypeId} {x y : Value} (h : ∀ k a, x ≠ .int k a) (h2 : ∀ k a, x ≠ .float k a) (h3 : ∀ k a b, x ≠ .complex k a b) (h4 : ∀ a, x ≠ .string a) : binOp .eql t x y = (do pure (.bool (← Op.equal t x y))) := by
  cases x <;> first | rfl | exact absurd rfl (h _ _) | exact absurd rfl (h2 _ _) | exact absurd rfl (h3 _ _ _) | exact absurd rfl (h4 _)
theorem binOp_neq {t : TypeId} {x y : Value} (h : ∀ k a, x ≠ .int k a) (h2 : ∀ k a, x ≠ .float k a) (h3 : ∀ k a b, x ≠ .complex k a b) (h4 : ∀ a, x ≠ .string a) : binOp .neq t x y = (do pure (.bool (!(← Op.equal t x y)))) := by
  cases x <;> first | rfl | exact absurd rfl (h _ _) | exact absurd rfl (h2 _ _) | exact absurd rfl (h3 _ _ _) | exact absurd rfl (h4 _)
/-- The values that eqA takes. -/
def refy : Value → Bool
  | .pointer _ | .slice _ _ _ | .map _ | .func _ _ _ | .nilFunc | .iface _ _ | .nilIface => true
  | _ => false
theorem exec_bin {o : Oper} {op : BinOp} {t : TypeId} {x y : Operand} {yt : TypeId} (hop : o.op = .binOp op t x y yt) (ρ : Operand → Value) : execOp ρ o = (do pure (.value (← (do eqGuard op t x y (ρ x) (ρ y); binOp op t (ρ x) (ρ y))))) := by
  obtain ⟨dst, op', ty, pos, af, gu⟩ := o
  simp only at hop
  subst hop
  rfl
theorem eq_run {o : Oper} {op : BinOp} {t : TypeId} {x y : Operand} {yt : TypeId} (hop : o.op = .binOp op t x y yt) (hoq : op = .eql ∨ op = .neq) {a : Act} (hx : refy (a.eval x) = true) (hnn : ¬ (a.eval x = .nilIface ∧ a.eval y = .nilIface)) {w : World} {r : Bool}
    (h : (Op.equal t (a.eval x) (a.eval y)).run P w = .ok r w) : (execOp a.eval o).run P w = .ok (.value (.bool (match op with | .neq => !r | _ => r))) w := by
  have hguard : (eqGuard op t x y (a.eval x) (a.eval y)).run P w = .ok () w := by
    unfold eqGuard
    rcases hoq with rfl | rfl <;>
    · generalize a.eval x = vx at *
      generalize a.eval y = vy at *
      cases vx <;> simp [refy] at hx <;> cases vy <;> first | rfl | exact absurd ⟨rfl, rfl⟩ hnn
  rcases hoq with rfl | rfl
  · rw [exec_bin hop]
    simp only [Sem.run_bind, hguard, Result.andThen_ok]
    rw [binOp_eql (by intro k b e; rw [e] at hx; cases hx) (by intro k b e; rw [e] at hx; cases hx) (by intro k b c e; rw [e] at hx; cases hx) (by intro b e; rw [e] at hx; cases hx)]
    simp [h]
  · rw [exec_bin hop]
    simp only [Sem.run_bind, hguard, Result.andThen_ok]
    rw [binOp_neq (by intro k b e; rw [e] at hx; cases hx) (by intro k b e; rw [e] at hx; cases hx) (by intro k b c e; rw [e] at hx; cases hx) (by intro b e; rw [e] at hx; cases hx)]
    simp [h]
/-- The forms of a value that is not nil, and of nil. -/
def nonNil : TypeDesc → Value → Prop
  | .pointer _, .pointer (some _) => True
  | .slice _, .slice (some _) _ _ => True
  | .map _ _, .map (some _) => True
  | .func _ _ _, .func _ _ _ => True
  | .interface _, .iface _ _ => True
  | _, _ => False
def nilOf : TypeDesc → Value → Prop
  | .pointer _, .pointer none => True
  | .slice _, .slice none _ _ => True
  | .map _ _, .map none => True
  | .func _ _ _, .nilFunc => True
  | .interface _, .nilIface => True
  | _, _ => False
theorem nil_run' {t : TypeId} {d : TypeDesc} (hd : P.underlying t = some d) {va vb : Value} (h : (nilOf d va ∧ nonNil d vb) ∨ (nonNil d va ∧ nilOf d vb)) (w : World) (m : Nat) : (Op.equalIn (m + 1) t va vb).run P w = .ok false w ∧ refy va = true ∧ ¬ (va = .nilIface ∧ vb = .nilIface) := by
  rcases h with ⟨h1, h2⟩ | ⟨h1, h2⟩
  · unfold nilOf at h1
    split at h1 <;> unfold nonNil at h2 <;> split at h2 <;> first | exact h1.elim | exact h2.elim | (rename_i hh; cases hh; done) | skip
    all_goals exact ⟨by simp only [Op.equalIn, Sem.run_bind, underlying_run hd, Result.andThen_ok]; rfl, rfl, by simp⟩
  · unfold nonNil at h1
    split at h1 <;> unfold nilOf at h2 <;> split at h2 <;> first | exact h1.elim | exact h2.elim | (rename_i hh; cases hh; done) | skip
    all_goals exact ⟨by simp only [Op.equalIn, Sem.run_bind, underlying_run hd, Result.andThen_ok]; rfl, rfl, by simp⟩
theorem nil_run {t : TypeId} {d : TypeDesc} (hd : P.underlying t = some d) {va vb : Value} (h : (nilOf d va ∧ nonNil d vb) ∨ (nonNil d va ∧ nilOf d vb)) (w : World) : (Op.equal t va vb).run P w = .ok false w ∧ refy va = true ∧ ¬ (va = .nilIface ∧ vb = .nilIface) := nil_run' hd h w 9999
theorem ptr_run {t e : TypeId} (hd : P.underlying t = some (.pointer e)) {k : Nat} (hk : sizeB P e = some k) (hk0 : k ≠ 0) (x y : Addr) (w : World) (m : Nat) : (Op.equalIn (m + 1) t (.pointer (some x)) (.pointer (some y))).run P w = (sameAddr x y).run P w := by
  simp only [Op.equalIn, Sem.run_bind, underlying_run hd, Result.andThen_ok, sizeB_run hk]
  rw [if_pos hk0]
theorem fits_nonNil {s : Sg} {d : TypeDesc} {a : AV} {v : Value} (h : kindFits d a = true) (hv : a.conc s = some v) : nonNil d v := by
  unfold kindFits at h
  split at h <;> first | (cases h; done) | skip
  · simp only [AV.conc, Option.map_eq_some_iff] at hv; obtain ⟨B, _, rfl⟩ := hv; trivial
  · obtain ⟨B, _, _, rfl⟩ := sl_conc.1 hv; trivial
  · simp only [AV.conc, Option.map_eq_some_iff] at hv; obtain ⟨B, _, rfl⟩ := hv; trivial
  · simp only [AV.conc] at hv
    split at hv
    · split at hv
      · injection hv with hv; subst hv; trivial
      · cases hv
    · cases hv
  · simp only [AV.conc, Option.map_eq_some_iff] at hv; obtain ⟨B, _, rfl⟩ := hv; trivial
  · simp only [AV.conc, Option.map_eq_some_iff] at hv; obtain ⟨B, _, rfl⟩ := hv; trivial
theorem sort_nil {s : Sg} {d : TypeDesc} {a b : AV} {va vb : Value} (h : sameSort a b = true) (ha : a.conc s = some va) (hb : b.conc s = some vb) (hk : (kindFits d a || kindFits d b) = true) : (nilOf d va ∧ nonNil d vb) ∨ (nonNil d va ∧ nilOf d vb) := by
  rw [Bool.or_eq_true] at hk
  rcases hk with hk | hk
  · refine .inr ⟨fits_nonNil hk ha, ?_⟩
    cases a <;> cases b <;> first | (cases h; done) | skip
    all_goals first | (exfalso; revert hk; cases d <;> simp [kindFits]; done) | (simp only [AV.conc, Option.some.injEq] at hb; subst hb; cases d <;> first | trivial | (cases hk; done) | (revert hk; simp [kindFits]))
  · refine .inl ⟨?_, fits_nonNil hk hb⟩
    cases a <;> cases b <;> first | (cases h; done) | skip
    all_goals first | (exfalso; revert hk; cases d <;> simp [kindFits]; done) | (simp only [AV.conc, Option.some.injEq] at ha; subst ha; cases d <;> first | trivial | (cases hk; done) | (revert hk; simp [kindFits]))
/-- What eqA says, of the values that stand for these. -/
theorem eqA_ok {s : Sg} {H : Heap} {w : World} (hr : Rel P s H w) {t : TypeId} {a b : AV} {r : Bool} (h : eqA P t H a b = some r) {va vb : Value} (ha : a.conc s = some va) (hb : b.conc s = some vb) :
    (Op.equal t va vb).run P w = .ok r w ∧ refy va = true ∧ ¬ (va = .nilIface ∧ vb = .nilIface) := by
  unfold eqA at h
  split at h
  · cases h
  · rename_i d hd
    split at h
    · rename_i hs
      split at h
      · rename_i hk
        injection h with h; subst h
        exact nil_run hd (sort_nil hs ha hb hk) w
      · cases h
    · split at h
      · rename_i e x p y q hns
        split at h
        · cases h
        · cases h
        · rename_i k hk0 hk
          split at h
          · rename_i t1 z1 m1 c1 e1 t2 z2 m2 c2 e2 h1 h2
            simp only [AV.conc, Option.map_eq_some_iff] at ha hb
            obtain ⟨A, hA, rfl⟩ := ha
            obtain ⟨B, hB, rfl⟩ := hb
            have lx := hr.lim x A hA
            have ly := hr.lim y B hB
            obtain ⟨A', o1, a1, a2, a3⟩ := hr.blk x _ lx h1
            rw [hA] at a1; injection a1 with a1; subst a1
            obtain ⟨B', o2, b1, b2, b3⟩ := hr.blk y _ ly h2
            rw [hB] at b1; injection b1 with b1; subst b1
            have f1 : ∃ ca, o1 = .cells ca t1 (0, 0) := by
              cases o1 with
              | cells ca t' fz =>
                obtain ⟨rfl, _, _, _, h5⟩ := a3
                rcases h5 with rfl | ⟨h5, _⟩
                · exact ⟨ca, rfl⟩
                · cases h5
              | _ => exact a3.elim
            have f2 : ∃ ca, o2 = .cells ca t2 (0, 0) := by
              cases o2 with
              | cells ca t' fz =>
                obtain ⟨rfl, _, _, _, h5⟩ := b3
                rcases h5 with rfl | ⟨h5, _⟩
                · exact ⟨ca, rfl⟩
                · cases h5
              | _ => exact b3.elim
            obtain ⟨ca, rfl⟩ := f1
            obtain ⟨cb, rfl⟩ := f2
            refine ⟨?_, rfl, by simp⟩
            rw [equal_succ, ptr_run hd hk (fun e => hk0 e)]
            by_cases e0 : (⟨A, p, none⟩ : Addr) = ⟨B, q, none⟩
            · injection e0 with e1 e2
              subst e1 e2
              have hxy := hr.inj x y A lx ly (by rw [h1]; simp) (by rw [h2]; simp) hA hB
              rw [natbeq, decide_eq_true hxy] at h
              simp only [Option.some.injEq] at h
              subst h
              rw [run_sameAddr_same]; simp
            · rw [run_sameAddr_other w e0 a2 b2]
              split at h
              · rename_i hxy
                rw [natbeq] at hxy
                have hxy := of_decide_eq_true hxy
                subst hxy
                rw [hA] at hB; injection hB with hB; subst hB
                injection h with h; subst h
                rw [natbeq, decide_eq_false (fun e => e0 (by rw [e]))]
              · injection h with h; subst h; rfl
          · cases h
      · cases h
theorem eqA_pure {s : Sg} {H : Heap} {t : TypeId} (hp : ∀ e, P.underlying t ≠ some (.pointer e)) {a b : AV} {r : Bool} (h : eqA P t H a b = some r) {va vb : Value} (ha : a.conc s = some va) (hb : b.conc s = some vb) (w : World) :
    (Op.equal t va vb).run P w = .ok r w ∧ refy va = true ∧ ¬ (va = .nilIface ∧ vb = .nilIface) := by
  unfold eqA at h
  split at h
  · cases h
  · rename_i d hd
    split at h
    · rename_i hs
      split at h
      · rename_i hk
        injection h with h; subst h
        exact nil_run hd (sort_nil hs ha hb hk) w
      · cases h
    · split at h
      · rename_i e x p y q hns
        exact absurd hd (hp e)
      · cases h
theorem ints_run {o : Oper} {op : BinOp} {t : TypeId} {x y : Operand} {yt : TypeId} (hop : o.op = .binOp op t x y yt) {a : Act} {k : IntKind} {p q : Nat} (hx : a.eval x = .int k (Int.ofNat p)) (hy : a.eval y = .int k (Int.ofNat q)) {r : Value} (w : World)
    (h : (binOp op t (.int k (Int.ofNat p)) (.int k (Int.ofNat q))).run P w = .ok r w) : (execOp a.eval o).run P w = .ok (.value r) w := by
  rw [exec_bin hop, hx, hy]
  have hguard : (eqGuard op t x y (.int k (Int.ofNat p)) (.int k (Int.ofNat q))).run P w = .ok () w := by
    unfold eqGuard
    cases op <;> rfl
  simp only [Sem.run_bind, hguard, Result.andThen_ok, h, Sem.run_pure]
theorem eqI_eq {a b : Int} (h : eqI a b = true) : a = b := by
  unfold eqI at h
  split at h
  · rw [Nat.eq_of_beq_eq_true h]
  · rw [Nat.eq_of_beq_eq_true h]
  · cases h
theorem lookT_ok {c : Nat} {m x : Int} : ∀ {ts : List (Nat × Int × Bool)} {r : Bool}, lookT c m ts = some r → ts.all (testB x) = true → testB x (c, m, r) = true
  | [], r, h, _ => by cases h
  | t :: ts, r, h, ha => by
    rw [List.all_cons, Bool.and_eq_true] at ha
    have hh : (match Nat.beq t.1 c, eqI t.2.1 m with | true, true => some t.2.2 | _, _ => lookT c m ts) = some r := h
    split at hh
    · rename_i h1 h2
      injection hh with h3
      rw [← Nat.eq_of_beq_eq_true h1, ← eqI_eq h2, ← h3]
      exact ha.1
    · exact lookT_ok hh ha.2
theorem ints_runI {o : Oper} {op : BinOp} {t : TypeId} {x y : Operand} {yt : TypeId} (hop : o.op = .binOp op t x y yt) {a : Act} {k : IntKind} {p q : Int} (hx : a.eval x = .int k p) (hy : a.eval y = .int k q) {r : Value} (w : World)
    (h : (binOp op t (.int k p) (.int k q)).run P w = .ok r w) : (execOp a.eval o).run P w = .ok (.value r) w := by
  rw [exec_bin hop, hx, hy]
  have hguard : (eqGuard op t x y (.int k p) (.int k q)).run P w = .ok () w := by
    unfold eqGuard
    cases op <;> rfl
  simp only [Sem.run_bind, hguard, Result.andThen_ok, h, Sem.run_pure]
theorem cmp_run {op : BinOp} {t : TypeId} {k : IntKind} {x m : Int} {r : Bool} (h : testB x (cmpC op, m, r) = true) (w : World) : (binOp op t (.int k x) (.int k m)).run P w = .ok (.bool r) w := by
  cases op <;> cases r <;> simp [testB, cmpC] at h <;> simp [binOp, Op.intCmp, h]
  all_goals omega
theorem evBin_ok {o : Oper} {op : BinOp} {t : TypeId} {x y : Operand} {yt : TypeId} (hop : o.op = .binOp op t x y yt) {env : Env} {n n' : Nat} {H H' : Heap} {v : AV} (h : evBin P o op t x y env n H = .val v n' H') :
    n' = n ∧ H' = H ∧ ReadOk P o env H v ∧ (((op ≠ .eql ∧ op ≠ .neq) ∨ ∀ e, P.underlying t ≠ some (.pointer e)) → PureOk P o env v) := by
  have ground : ∀ {v n' H'}, evGround P o env n H = .val v n' H' → n' = n ∧ H' = H ∧ ReadOk P o env H v ∧ (((op ≠ .eql ∧ op ≠ .neq) ∨ ∀ e, P.underlying t ≠ some (.pointer e)) → PureOk P o env v) := fun hg =>
    let ⟨h1, h2, h3⟩ := evGround_ok (P := P) (o := o) (fun cs b => by rw [hop]; simp) hg
    ⟨h1, h2, h3.read, fun _ => h3⟩
  unfold evBin at h
  split at h
  · rename_i k p k' q hx hy
    split at h
    · rename_i hk
      have hk := ikEq_eq hk
      subst hk
      have vals : ∀ {s : Sg} {N : Nat} {a : Act}, EnvR s env N a.tmps → s.glob → a.eval x = .int k (Int.ofNat p) ∧ a.eval y = .int k (Int.ofNat q) := fun he hg => by
        have ex := opd_conc he hg hx
        have ey := opd_conc he hg hy
        simp only [AV.conc, Option.some.injEq] at ex ey
        exact ⟨ex.symm, ey.symm⟩
      have num : ∀ {r : Nat} {e : OR}, natV k r n H e = .val v n' H' → (e = .val v n' H' → n' = n ∧ H' = H ∧ ReadOk P o env H v ∧ (((op ≠ .eql ∧ op ≠ .neq) ∨ ∀ e, P.underlying t ≠ some (.pointer e)) → PureOk P o env v)) →
          (r ≤ lid k → ∀ w, (binOp op t (.int k (Int.ofNat p)) (.int k (Int.ofNat q))).run P w = .ok (.int k (Int.ofNat r)) w) →
          n' = n ∧ H' = H ∧ ReadOk P o env H v ∧ (((op ≠ .eql ∧ op ≠ .neq) ∨ ∀ e, P.underlying t ≠ some (.pointer e)) → PureOk P o env v) := fun hn hg hb => by
        rcases natV_ok hn with e | ⟨h1, h2, h3, h4⟩
        · exact hg e
        · subst h1 h2 h3
          have hp : PureOk P o env (.i k (.ofNat _)) := fun s N a he hg => by
            obtain ⟨ex, ey⟩ := vals he hg
            exact ⟨_, rfl, fun w => ints_run hop ex ey w (hb h4 w)⟩
          exact ⟨rfl, rfl, hp.read, fun _ => hp⟩
      have boo : ∀ {r : Bool}, boolV r n H = .val v n' H' → (∀ w, (binOp op t (.int k (Int.ofNat p)) (.int k (Int.ofNat q))).run P w = .ok (.bool r) w) →
          n' = n ∧ H' = H ∧ ReadOk P o env H v ∧ (((op ≠ .eql ∧ op ≠ .neq) ∨ ∀ e, P.underlying t ≠ some (.pointer e)) → PureOk P o env v) := fun hn hb => by
        obtain ⟨h1, h2, h3⟩ := boolV_ok hn
        subst h1 h2 h3
        have hp : PureOk P o env (.b _) := fun s N a he hg => by
          obtain ⟨ex, ey⟩ := vals he hg
          exact ⟨_, rfl, fun w => ints_run hop ex ey w (hb w)⟩
        exact ⟨rfl, rfl, hp.read, fun _ => hp⟩
      split at h
      · refine num h ground fun hl w => ?_
        have : k.wrap (Int.ofNat p + Int.ofNat q) = Int.ofNat (p + q) := by
          rw [show Int.ofNat p + Int.ofNat q = Int.ofNat (p + q) from rfl]; exact wrap_nat hl
        simp [binOp, Op.intArith]
        exact this
      · rw [bsel] at h
        split at h
        · rename_i hle
          have hle := Nat.ble_eq.mp hle
          refine num h ground fun hl w => ?_
          have : k.wrap (Int.ofNat p - Int.ofNat q) = Int.ofNat (p - q) := by
            rw [show Int.ofNat p - Int.ofNat q = Int.ofNat (p - q) from (Int.ofNat_sub hle).symm]; exact wrap_nat hl
          simp [binOp, Op.intArith]
          exact this
        · exact ground h
      · refine num h ground fun hl w => ?_
        have : k.wrap (Int.ofNat p * Int.ofNat q) = Int.ofNat (p * q) := by
          rw [show Int.ofNat p * Int.ofNat q = Int.ofNat (p * q) from rfl]; exact wrap_nat hl
        simp [binOp, Op.intArith]
        exact this
      · refine boo h fun w => ?_
        rw [natbeq]
        simp [binOp, Op.intCmp]
        rw [Bool.eq_iff_iff]; simp <;> omega
      · refine boo h fun w => ?_
        rw [natbeq]
        simp [binOp, Op.intCmp]
        rw [Bool.eq_iff_iff]; simp <;> omega
      · refine boo h fun w => ?_
        simp [binOp, Op.intCmp]
        rw [Bool.eq_iff_iff]; simp [Nat.blt] <;> omega
      · refine boo h fun w => ?_
        simp [binOp, Op.intCmp]
        rw [Bool.eq_iff_iff]; simp <;> omega
      · refine boo h fun w => ?_
        simp [binOp, Op.intCmp]
        rw [Bool.eq_iff_iff]; simp [Nat.blt] <;> omega
      · refine boo h fun w => ?_
        simp [binOp, Op.intCmp]
        rw [Bool.eq_iff_iff]; simp <;> omega
      · exact ground h
    · exact ground h
  · rename_i k x' ts k' m hx hy
    split at h
    · rename_i r hk hl
      have hk := ikEq_eq hk
      subst hk
      obtain ⟨h1, h2, h3⟩ := boolV_ok h
      subst h1 h2 h3
      have hp : PureOk P o env (.b r) := fun s N a he hg => by
        have ex := opd_conc he hg hx
        have ey := opd_conc he hg hy
        simp only [AV.conc] at ex ey
        split at ex
        · rename_i hts
          injection ex with ex
          injection ey with ey
          exact ⟨_, rfl, fun w => ints_runI hop ex.symm ey.symm w (cmp_run (lookT_ok hl hts) w)⟩
        · cases ex
      exact ⟨rfl, rfl, hp.read, fun _ => hp⟩
    · cases h
  · rename_i va vb hnot hnot2 hx hy
    split at h
    · rename_i hop'
      split at h
      · rename_i r hr
        obtain ⟨h1, h2, h3⟩ := boolV_ok h
        subst h1 h2 h3
        refine ⟨rfl, rfl, fun s N a w m he hR => ?_, fun hc s N a he hg => ?_⟩
        · obtain ⟨e1, e2, e3⟩ := eqA_ok hR hr (opd_conc he hR.glob hx) (opd_conc he hR.glob hy)
          exact ⟨.bool r, w, eq_run hop (.inl rfl) e2 e3 e1, rfl, hR, Step.refl ..⟩
        · refine ⟨.bool r, rfl, fun w => ?_⟩
          obtain ⟨e1, e2, e3⟩ := eqA_pure (hc.resolve_left (fun h => h.1 rfl)) hr (opd_conc he hg hx) (opd_conc he hg hy) w
          exact eq_run hop (.inl rfl) e2 e3 e1
      · exact ground h
    · split at h
      · rename_i r hr
        obtain ⟨h1, h2, h3⟩ := boolV_ok h
        subst h1 h2 h3
        refine ⟨rfl, rfl, fun s N a w m he hR => ?_, fun hc s N a he hg => ?_⟩
        · obtain ⟨e1, e2, e3⟩ := eqA_ok hR hr (opd_conc he hR.glob hx) (opd_conc he hR.glob hy)
          exact ⟨.bool (!r), w, eq_run hop (.inr rfl) e2 e3 e1, rfl, hR, Step.refl ..⟩
        · refine ⟨.bool (!r), rfl, fun w => ?_⟩
          obtain ⟨e1, e2, e3⟩ := eqA_pure (hc.resolve_left (fun h => h.2 rfl)) hr (opd_conc he hg hx) (opd_conc he hg hy) w
          exact eq_run hop (.inr rfl) e2 e3 e1
      · exact ground h
    · exact ground h
  · cases h
end
end Go.Sy
namespace Go.Sy
open Go
section
variable {P : Program}
theorem evLoad_ok {o : Oper} {t : TypeId} {x : Operand} (hop : o.op = .load t x) {env : Env} {n n' : Nat} {H H' : Heap} {v : AV} (h : evLoad P t x env n H = .val v n' H') : n' = n ∧ H' = H ∧ ReadOk P o env H v := by
  unfold evLoad at h
  split at h
  · rename_i y q hx
    split at h
    · rename_i t' z m c ex mk hH
      have addr : ∀ {s : Sg} {N : Nat} {a : Act} {w : World}, EnvR s env N a.tmps → Rel P s H w → ∃ b ob, a.eval x = .pointer (some ⟨b, q, none⟩) ∧ w.heap[b]? = some ob ∧ BlkR P s y (.row t' z m c ex mk) ob := fun he hr => by
        have ex' := opd_conc he hr.glob hx
        simp only [AV.conc, Option.map_eq_some_iff] at ex'
        obtain ⟨b, hb, ex'⟩ := ex'
        obtain ⟨b', ob, h1, h2, h3⟩ := hr.blk y _ (hr.lim y b hb) hH
        rw [hb] at h1; injection h1 with h1; subst h1
        exact ⟨b, ob, ex'.symm, h2, h3⟩
      split at h
      · rename_i hagg
        split at h
        · rename_i u hu
          injection h with h1 h2 h3
          subst h1 h2 h3
          refine ⟨rfl, rfl, fun s N a w k he hr => ?_⟩
          obtain ⟨b, ob, e1, e2, e3⟩ := addr he hr
          obtain ⟨V, v1, v2, _⟩ := e3.cell e2 hu
          refine ⟨V, w, ?_, v1, hr, Step.refl ..⟩
          simp [execOp, hop, Instr.loadAt, e1, Instr.sureAddr, loadVar, isAggB_run hagg, v2]
        · cases h
      · rename_i hagg
        split at h
        · rename_i sz hsz
          split at h
          · rename_i l hl
            injection h with h1 h2 h3
            subst h1 h2 h3
            refine ⟨rfl, rfl, fun s N a w k he hr => ?_⟩
            obtain ⟨b, ob, e1, e2, e3⟩ := addr he hr
            obtain ⟨vs, v1, v2, v3, v4⟩ := e3.cells e2 hl
            refine ⟨.agg ⟨vs⟩, w, ?_, conc_agg v1 v3, hr, Step.refl ..⟩
            have hc := run_loadCells_list (P := P) w ⟨b, q, none⟩ vs v4
            rw [v2] at hc
            simp [execOp, hop, Instr.loadAt, e1, Instr.sureAddr, loadVar, isAggB_run hagg, sizeB_run hsz, hc]
          · cases h
        · cases h
      · cases h
    · cases h
  · cases h
/-- Cells are written into a row. -/
theorem write_ok {s : Sg} {H : Heap} {w : World} (hr : Rel P s H w) {y : Nat} {e : TypeId} {z : Nat → Option AV} {m : Nat} {c : T AV} {ex mk : Bool} (hH : Q8.get H y = some (.row e z m c ex mk)) {b : Nat} (hb : s.blk y = some b)
    {l : List AV} {vs : List Value} (hl : concL s l = some vs) (h1 : vs.all Value.oneCell' = true) {q : Nat} (hq : q + l.length ≤ m) (n : Nat) :
    ∃ w', (storeCells ⟨b, q, none⟩ vs).run P w = .ok () w' ∧ Rel P s (Q8.upd H y (some (.row e z m (c.puts l q) ex mk))) w' ∧ Step s n H w s n (Q8.upd H y (some (.row e z m (c.puts l q) ex mk))) w' := by
  obtain ⟨b', ob, k1, k2, k3⟩ := hr.blk y _ (hr.lim y b hb) hH
  rw [hb] at k1; injection k1 with k1; subst k1
  cases ob with
  | cells a t' fz =>
    have hlen := concL_length hl
    have hm : m ≤ a.size := k3.2.1
    obtain ⟨a', r1, r2, r3, r4, r5, r6, r7, r8⟩ := setCells_row b t' fz vs q w a k2 (by omega)
    refine ⟨w.setCells b q vs, ?_, ?_⟩
    · have := run_storeCells_cells (P := P) b q vs 0 w (fun j hj => ?_) (fun j hj => ?_) (fun v hv => (List.all_eq_true.1 h1) v hv)
      · simpa using this
      · simp only [Nat.add_zero, World.cell?, k2]
        have : q + j < a.size := by omega
        simp [this]
      · exact k3.frozen k2 (show q + 0 + j < a.size by omega)
    · obtain ⟨c1, c2, c3, c4, c5⟩ := k3
      refine hr.write n (hr.lim y b hb) hH hb r5 r1 ⟨c1, by omega, fun i A hA => ?_, by rw [r2]; exact c4, by rw [r2]; exact c5⟩ r4 r6 r7 r8
      rw [cellAt_eq] at hA
      split at hA
      · rename_i hi
        rw [T.get_puts] at hA
        rw [r3 i]
        by_cases hw : q ≤ i ∧ i < q + l.length
        · rw [if_pos hw] at hA
          rw [if_pos (by omega)]
          have hsome : ∃ u, l[i - q]? = some u := ⟨l[i - q]'(by omega), List.getElem?_eq_getElem (by omega)⟩
          obtain ⟨u, hu⟩ := hsome
          rw [hu] at hA
          injection hA with hA; subst hA
          obtain ⟨V, v1, v2⟩ := concL_get hl hu
          exact ⟨V, v1, v2, (List.all_eq_true.1 h1) V (List.mem_of_getElem? v2)⟩
        · rw [if_neg hw] at hA
          rw [if_neg (by omega)]
          exact c3 i A (by rw [cellAt_eq, if_pos hi]; exact hA)
      · cases hA
  | _ => exact k3.elim
theorem evStore_ok {o : Oper} {t : TypeId} {x y : Operand} (hop : o.op = .store t x y) {env : Env} {n n' : Nat} {H H' : Heap} {v : AV} (h : evStore P t x y env n H = .val v n' H') : OpOk P o env n H v n' H' := by
  unfold evStore at h
  split at h
  · rename_i g q u hx hy
    split at h
    · rename_i e z m c ex mk sz hH hsz
      split at h
      · cases h
      · rename_i hnt hb2 hb1
        rw [putCells_k, Q8.set_k] at h
        injection h with h1 h2 h3
        subst h1 h2 h3
        refine ⟨Nat.le_refl _, fun s N a w he hr _ _ => ?_⟩
        have ex' := opd_conc he hr.glob hx
        simp only [AV.conc, Option.map_eq_some_iff] at ex'
        obtain ⟨b, hb, ex'⟩ := ex'
        obtain ⟨vs, c1, c2, c3⟩ := cells_conc (opd_conc he hr.glob hy) hnt
        rw [natbeq] at hb1
        have hb1 := of_decide_eq_true hb1
        rw [len_eq] at hb1
        have hb2 : q + sz ≤ m := Nat.ble_eq.mp hb2
        obtain ⟨w', r1, r2, r3⟩ := write_ok hr hH hb c1 c3 (q := q) (by omega) n
        refine ⟨undef, s, w', .inr ⟨?_, rfl⟩, by simp [undefA, AV.conc, concL, undef], r2, r3⟩
        have hvl : vs.length = sz := by rw [concL_length c1]; exact hb1
        simp [execOp, hop, Instr.storeAt, ← ex', Instr.sureAddr, storeVar, sizeB_run hsz, c2, hvl, r1]
      · cases h
    · cases h
  · cases h
end
end Go.Sy
namespace Go.Sy
open Go
section
variable {P : Program}
theorem bytes_eq (a b : ByteArray) : (a == b) = true ↔ a = b := by
  cases a with | mk x => cases b with | mk y =>
  constructor
  · intro h
    have e : x = y := by simpa using (show (x == y) = true from h)
    rw [e]
  · intro h
    cases h
    show (x == x) = true
    simp
theorem heap_set' {w : World} {r : Nat} {o o' : Obj} (hb : w.heap[r]? = some o) : (w.heap.setIfInBounds r o')[r]? = some o' ∧ ∀ r', r' ≠ r → (w.heap.setIfInBounds r o')[r']? = w.heap[r']? := by
  have hlt : r < w.heap.size := (Array.getElem?_eq_some_iff.1 hb).1
  exact ⟨by simp [hlt], fun r' hne => by simp [Ne.symm hne]⟩
theorem bytes_beq' (l m : List UInt8) : ((⟨⟨l⟩⟩ : ByteArray) == ⟨⟨m⟩⟩) = (l == m) := by
  rw [Bool.eq_iff_iff, bytes_eq]
  simp
theorem getObj_map {w : World} {r : Nat} {es : Array MapEntry} {clock : Nat} (hb : w.heap[r]? = some (.map es clock)) : (getObj r).run P w = .ok (.map es clock) w := by
  simp [getObj, Sem.run, hb]
theorem setObj_map {w : World} {r : Nat} {es : Array MapEntry} {clock : Nat} (o : Obj) (hb : w.heap[r]? = some (.map es clock)) : (setObj r o).run P w = .ok () { w with heap := w.heap.setIfInBounds r o } := by
  simp [setObj, Sem.run, hb]
theorem keyEq_now {d : TypeDesc} {k e : AV} {r : Bool} {s : Sg} {kv ev : Value} (hk : keyType d k = true) (h : keyEq k e = some r) (h1 : k.conc s = some kv) (h2 : e.conc s = some ev) : Instr.sameNow d kv ev = some r ∧ (r = true → kv = ev) := by
  unfold keyEq at h
  split at h
  · rename_i j a k' b
    rw [bsel] at h
    split at h
    · rename_i hk'
      have := ikEq_eq hk'
      subst this
      injection h with h
      simp only [AV.conc, Option.some.injEq] at h1 h2
      subst h1 h2
      cases d <;> simp [keyType] at hk
      rw [natbeq] at h
      subst h
      refine ⟨?_, fun h => by simp at h; rw [h]⟩
      simp only [Instr.sameNow, if_true, Option.some.injEq]
      rw [Bool.eq_iff_iff]; simp; omega
    · cases h
  · injection h with h
    simp only [AV.conc, Option.some.injEq] at h1 h2
    subst h1 h2
    cases d <;> simp [keyType] at hk
    subst h
    refine ⟨by simp only [Instr.sameNow, bytes_beq'], fun h => by simp at h; rw [h]⟩
  · injection h with h
    simp only [AV.conc, Option.some.injEq] at h1 h2
    subst h1 h2
    cases d <;> simp [keyType] at hk
    subst h
    exact ⟨rfl, fun h => by simp at h; rw [h]⟩
  · cases h
theorem findK_ok {d : TypeDesc} {s : Sg} {k : AV} {kv : Value} (hk : keyType d k = true) (h1 : k.conc s = some kv) : ∀ {es : List (AV × AV × Nat)} {fs : List MapEntry} {i : Nat} {r : Option (Nat × AV × Nat)}, All2 (MapR s) es fs → findK k es i = some r →
    (r = none → Instr.findNow d kv fs i = some none) ∧
    (∀ j v b, r = some (j, v, b) → ∃ p V f, j = i + p ∧ fs[p]? = some f ∧ f.key = kv ∧ f.val = V ∧ f.born = b ∧ v.conc s = some V ∧ Instr.findNow d kv fs i = some (some (j, V)))
  | [], [], i, r, _, h => by
    have h : some (none : Option (Nat × AV × Nat)) = some r := h
    injection h with h; subst h
    exact ⟨fun _ => rfl, fun j v b e => (by cases e)⟩
  | e :: es, f :: fs, i, r, hm, h => by
    obtain ⟨⟨m1, m2, m3⟩, hr⟩ := hm
    have h : (match keyEq k e.1 with | some true => some (some (i, e.2)) | some false => findK k es (Nat.succ i) | none => none) = some r := h
    split at h
    · rename_i hq
      injection h with h; subst h
      obtain ⟨q1, q2⟩ := keyEq_now hk hq h1 m1
      refine ⟨fun e => (by cases e), fun j v b e' => ?_⟩
      injection e' with e'
      obtain ⟨e1, e2⟩ := Prod.mk.inj e'
      subst e1
      rw [e2] at m2 m3
      exact ⟨0, f.val, f, rfl, rfl, (q2 rfl).symm, rfl, m3, m2, by simp [Instr.findNow, q1]⟩
    · rename_i hq
      obtain ⟨q1, q2⟩ := keyEq_now hk hq h1 m1
      obtain ⟨k1, k3⟩ := findK_ok hk h1 hr h
      refine ⟨fun e => by simp [Instr.findNow, q1, k1 e], fun j v b e => ?_⟩
      obtain ⟨p, V, f', p1, p2, p3, p4, p5, p6, p7⟩ := k3 j v b e
      exact ⟨p + 1, V, f', by omega, by simpa using p2, p3, p4, p5, p6, by simp [Instr.findNow, q1, p7]⟩
    · cases h
theorem checkKey_run {kt : TypeId} {d : TypeDesc} {s : Sg} {k : AV} {kv : Value} (hd : P.underlying kt = some d) (hk : keyType d k = true) (h1 : k.conc s = some kv) (em : Bool) (w : World) : (Instr.checkKey em 10000 kt kv).run P w = .ok () w := by
  have e : Instr.checkKey em 10000 kt kv = Instr.checkKey em (9999 + 1) kt kv := rfl
  rw [e]
  unfold Instr.checkKey
  simp only [Sem.run_bind, underlying_run hd, Result.andThen_ok]
  unfold keyType at hk
  split at hk <;> first | (cases hk; done) | skip
  all_goals simp only [AV.conc, Option.some.injEq] at h1; subst h1; rfl
theorem findKey_run {kt : TypeId} {d : TypeDesc} {kv : Value} {fs : List MapEntry} {r : Option (Nat × Value)} (hd : P.underlying kt = some d) (h : Instr.findNow d kv fs 0 = some r) (w : World) : (Instr.findKey kt kv fs).run P w = .ok r w := by
  simp [Instr.findKey, underlying_run hd, h]
theorem sameBits_key {d : TypeDesc} {k : AV} {s : Sg} {kv : Value} (hk : keyType d k = true) (h1 : k.conc s = some kv) : Instr.sameBits 10000 kv kv = true := by
  unfold keyType at hk
  split at hk <;> first | (cases hk; done) | skip
  all_goals simp only [AV.conc, Option.some.injEq] at h1; subst h1; simp [Instr.sameBits, bytes_eq]
/-- The map that an operand stands for. -/
theorem map_at {s : Sg} {N : Nat} {a : Act} {env : Env} {H : Heap} {w : World} (he : EnvR s env N a.tmps) (hr : Rel P s H w) {x : Operand} {y : Nat} (hx : opd env x = some (.m y)) {es : List (AV × AV × Nat)} {cl : Nat} (hH : Q8.get H y = some (.map es cl)) :
    ∃ b fs, s.blk y = some b ∧ a.eval x = .map (some b) ∧ w.heap[b]? = some (.map fs cl) ∧ All2 (MapR s) es fs.toList := by
  have ex := opd_conc he hr.glob hx
  simp only [AV.conc, Option.map_eq_some_iff] at ex
  obtain ⟨b, hb, ex⟩ := ex
  obtain ⟨b', ob, h1, h2, h3⟩ := hr.blk y _ (hr.lim y b hb) hH
  rw [hb] at h1; injection h1 with h1; subst h1
  cases ob with
  | map fs cl' =>
    obtain ⟨rfl, h3⟩ := h3
    exact ⟨b, fs, hb, ex.symm, h2, h3⟩
  | _ => exact h3.elim
theorem evLookup_ok {o : Oper} {t : TypeId} {x y : Operand} {ok : Bool} (hop : o.op = .lookup t x y ok) {env : Env} {n n' : Nat} {H H' : Heap} {v : AV} (h : evLookup P t x y ok env n H = .val v n' H') : n' = n ∧ H' = H ∧ ReadOk P o env H v := by
  unfold evLookup at h
  split at h
  · rename_i g kv kt e hx hy hu
    split at h
    · rename_i es cl d z hH hd hz
      obtain ⟨iz, zv, hi, hzv, hzo⟩ := zeroB_info hz
      split at h
      · rename_i j u b hk hf
        have fin : n' = n ∧ H' = H ∧ v = (if ok then .tup [u, .b true] else u) := by
          cases ok <;> injection h with h1 h2 h3 <;> exact ⟨h2.symm, h3.symm, h1.symm⟩
        obtain ⟨rfl, rfl, rfl⟩ := fin
        refine ⟨rfl, rfl, fun s N a w m he hr => ?_⟩
        obtain ⟨B, fs, hB, e1, e2, e3⟩ := map_at he hr hx hH
        have ky := opd_conc he hr.glob hy
        obtain ⟨_, k3⟩ := findK_ok hk ky e3 hf
        obtain ⟨p, V, f', p1, p2, p3, p4, p5, p6, p7⟩ := k3 j u b rfl
        have hl : (Instr.lookup t (a.eval x) (a.eval y) ok).run P w = .ok (if ok then .tuple #[V, .bool true] else V) w := by
          have hg := getObj_map (P := P) e2
          simp [Instr.lookup, underlying_run hu, e1, hg, checkKey_run hd hk ky, findKey_run hd p7]
        refine ⟨if ok then .tuple #[V, .bool true] else V, w, by simp [execOp, hop, hl], ?_, hr, Step.refl ..⟩
        cases ok <;> simp [AV.conc, concL, p6]
      · rename_i hk hf
        have fin : n' = n ∧ H' = H ∧ v = (if ok then .tup [z, .b false] else z) := by
          cases ok <;> injection h with h1 h2 h3 <;> exact ⟨h2.symm, h3.symm, h1.symm⟩
        obtain ⟨rfl, rfl, rfl⟩ := fin
        refine ⟨rfl, rfl, fun s N a w m he hr => ?_⟩
        obtain ⟨B, fs, hB, e1, e2, e3⟩ := map_at he hr hx hH
        have ky := opd_conc he hr.glob hy
        obtain ⟨k1, _⟩ := findK_ok hk ky e3 hf
        have hl : (Instr.lookup t (a.eval x) (a.eval y) ok).run P w = .ok (if ok then .tuple #[zv, .bool false] else zv) w := by
          have hg := getObj_map (P := P) e2
          simp [Instr.lookup, underlying_run hu, e1, hg, checkKey_run hd hk ky, findKey_run hd (k1 rfl), zeroValue, typeInfo, hi, hzv]
        have hzc := ofValue_conc hzo s
        refine ⟨if ok then .tuple #[zv, .bool false] else zv, w, by simp [execOp, hop, hl], ?_, hr, Step.refl ..⟩
        cases ok <;> simp [AV.conc, concL, hzc]
      · cases h
    · cases h
  · rename_i kv kt e hx hy hu
    split at h
    · rename_i d z hd hz
      obtain ⟨iz, zv, hi, hzv, hzo⟩ := zeroB_info hz
      split at h
      · rename_i hk
        have fin : n' = n ∧ H' = H ∧ v = (if ok then .tup [z, .b false] else z) := by
          cases ok <;> injection h with h1 h2 h3 <;> exact ⟨h2.symm, h3.symm, h1.symm⟩
        obtain ⟨rfl, rfl, rfl⟩ := fin
        refine ⟨rfl, rfl, fun s N a w m he hr => ?_⟩
        have e1 : a.eval x = .map none := by
          have ex := opd_conc he hr.glob hx
          simp only [AV.conc, Option.some.injEq] at ex
          exact ex.symm
        have ky := opd_conc he hr.glob hy
        obtain ⟨k1, _⟩ := findK_ok (es := []) (fs := []) (i := 0) (r := none) hk ky trivial rfl
        have hl : (Instr.lookup t (a.eval x) (a.eval y) ok).run P w = .ok (if ok then .tuple #[zv, .bool false] else zv) w := by
          simp [Instr.lookup, underlying_run hu, e1, checkKey_run hd hk ky, findKey_run hd (k1 rfl), zeroValue, typeInfo, hi, hzv]
        have hzc := ofValue_conc hzo s
        refine ⟨if ok then .tuple #[zv, .bool false] else zv, w, by simp [execOp, hop, hl], ?_, hr, Step.refl ..⟩
        cases ok <;> simp [AV.conc, concL, hzc]
      · cases h
    · cases h
  · cases h
/-! Maps that are written -/
theorem modAt_ok {s : Sg} {g : AV × AV × Nat → AV × AV × Nat} {gm : MapEntry → MapEntry} : ∀ {es : List (AV × AV × Nat)} {fs : List MapEntry} {p : Nat}, All2 (MapR s) es fs →
    (∀ e f, es[p]? = some e → fs[p]? = some f → MapR s (g e) (gm f)) → All2 (MapR s) (modAt es g p) (fs.modify p gm)
  | [], [], p, _, _ => by cases p <;> trivial
  | e :: es, f :: fs, 0, h, hg => by
    show All2 (MapR s) (g e :: es) ((f :: fs).modify 0 gm)
    rw [List.modify_zero_cons]
    exact ⟨hg e f rfl rfl, h.2⟩
  | e :: es, f :: fs, p + 1, h, hg => by
    show All2 (MapR s) (e :: modAt es g p) ((f :: fs).modify (p + 1) gm)
    rw [List.modify_succ_cons]
    exact ⟨h.1, modAt_ok h.2 fun e' f' h1 h2 => hg e' f' (by simpa using h1) (by simpa using h2)⟩
theorem All2.at {α β : Type} {R : α → β → Prop} : ∀ {l : List α} {m : List β} {p : Nat} {a : α} {b : β}, All2 R l m → l[p]? = some a → m[p]? = some b → R a b
  | [], [], p, a, b, _, h, _ => by simp at h
  | _ :: _, _ :: _, 0, a, b, h, h1, h2 => by simp at h1 h2; subst h1 h2; exact h.1
  | _ :: _, _ :: _, p + 1, a, b, h, h1, h2 => h.2.at (by simpa using h1) (by simpa using h2)
theorem All2.push {α β : Type} {R : α → β → Prop} : ∀ {l : List α} {m : List β} {a : α} {b : β}, All2 R l m → R a b → All2 R (l ++ [a]) (m ++ [b])
  | [], [], _, _, _, h => ⟨h, trivial⟩
  | _ :: _, _ :: _, _, _, h, k => ⟨h.1, h.2.push k⟩
theorem All2.erase {α β : Type} {R : α → β → Prop} : ∀ {l : List α} {m : List β} (p : Nat), All2 R l m → All2 R (l.eraseIdx p) (m.eraseIdx p)
  | [], [], p, _ => by simp; trivial
  | _ :: _, _ :: _, 0, h => h.2
  | _ :: _, _ :: _, p + 1, h => ⟨h.1, h.2.erase p⟩
theorem eraseAt_eq : ∀ (es : List (AV × AV × Nat)) (p : Nat), eraseAt es p = es.eraseIdx p
  | [], p => by simp [eraseAt]
  | e :: es, 0 => rfl
  | e :: es, p + 1 => by show e :: eraseAt es p = _; rw [eraseAt_eq es p]; rfl
/-- A map's block is written. -/
theorem map_write {s : Sg} {H : Heap} {w : World} (hr : Rel P s H w) {y b : Nat} (hb : s.blk y = some b) {A : Blk} (hH : Q8.get H y = some A) {fs gs : Array MapEntry} {cl cl' cl2 : Nat} {es : List (AV × AV × Nat)} (hw : w.heap[b]? = some (.map fs cl)) (hes : All2 (MapR s) es gs.toList) (hc : cl' = cl2) (n : Nat) :
    ∃ w', (setObj b (.map gs cl')).run P w = .ok () w' ∧ Rel P s (Q8.upd H y (some (.map es cl2))) w' ∧ Step s n H w s n (Q8.upd H y (some (.map es cl2))) w' := by
  subst hc
  refine ⟨_, setObj_map (P := P) _ hw, ?_⟩
  obtain ⟨h1, h2⟩ := heap_set' (w := w) (o' := .map gs cl') hw
  exact hr.write n (hr.lim y b hb) hH hb (by simp) h1 ⟨rfl, hes⟩ h2 rfl rfl rfl
theorem concU (s : Sg) : undefA.conc s = some undef := rfl
theorem evMapUpdate_ok {o : Oper} {t : TypeId} {x y u : Operand} (hop : o.op = .mapUpdate t x y u) {env : Env} {n n' : Nat} {H H' : Heap} {v : AV} (h : evMapUpdate P t x y u env n H = .val v n' H') : OpOk P o env n H v n' H' := by
  unfold evMapUpdate at h
  split at h
  · rename_i g kv uv kt e hx hy hu' hu
    split at h
    · rename_i es cl d hH hd
      split at h
      · rename_i j ob hk hf
        obtain ⟨ov, b⟩ := ob
        rw [frcL_eq, Q8.set_k] at h
        injection h with h1 h2 h3
        subst h1 h2 h3
        refine ⟨Nat.le_refl _, fun s N a w he hr _ _ => ?_⟩
        obtain ⟨B, fs, hB, e1, e2, e3⟩ := map_at he hr hx hH
        have ky := opd_conc he hr.glob hy
        have kx := opd_conc he hr.glob hu'
        obtain ⟨_, k3⟩ := findK_ok hk ky e3 hf
        obtain ⟨p, V, f', p1, p2, p3, p4, p5, p6, p7⟩ := k3 j ov b rfl
        rw [Nat.zero_add] at p1; subst p1
        have p2' : fs[j]? = some f' := by simpa using p2
        obtain ⟨w', r1, r2, r3⟩ := map_write (es := modAt es (fun e => (kv, uv, e.2.2)) j) (gs := fs.modify j fun e => { e with key := a.eval y, val := a.eval u }) hr hB hH e2 (by
          rw [Array.toList_modify]
          exact modAt_ok e3 fun e f h1 h2 => ⟨ky, kx, (All2.at e3 h1 h2).2.2⟩) rfl n
        refine ⟨undef, s, w', .inr ⟨?_, rfl⟩, concU s, r2, r3⟩
        have hg := getObj_map (P := P) e2
        simp [execOp, hop, Instr.mapUpdate, underlying_run hu, e1, hg, checkKey_run hd hk ky, findKey_run hd p7, Instr.keyThatStays, p2', p3, sameBits_key hk ky, r1]
      · rename_i hk hf
        rw [frcL_eq, frc_eq, Q8.set_k] at h
        injection h with h1 h2 h3
        subst h1 h2 h3
        refine ⟨Nat.le_refl _, fun s N a w he hr _ _ => ?_⟩
        obtain ⟨B, fs, hB, e1, e2, e3⟩ := map_at he hr hx hH
        have ky := opd_conc he hr.glob hy
        have kx := opd_conc he hr.glob hu'
        obtain ⟨k1, _⟩ := findK_ok hk ky e3 hf
        obtain ⟨w', r1, r2, r3⟩ := map_write (cl' := cl + 1) (cl2 := Nat.succ cl) (es := es ++ [(kv, uv, cl)]) (gs := fs.push { key := a.eval y, val := a.eval u, born := cl }) hr hB hH e2 (by
          rw [Array.toList_push]
          exact e3.push ⟨ky, kx, rfl⟩) rfl n
        refine ⟨undef, s, w', .inr ⟨?_, rfl⟩, concU s, r2, r3⟩
        have hg := getObj_map (P := P) e2
        simp [execOp, hop, Instr.mapUpdate, underlying_run hu, e1, hg, checkKey_run hd hk ky, findKey_run hd (k1 rfl), r1]
      · cases h
    · cases h
  · cases h
theorem evMapEntry_ok {o : Oper} {t : TypeId} {x y : Operand} (hop : o.op = .mapEntry t x y) {env : Env} {n n' : Nat} {H H' : Heap} {v : AV} (h : evMapEntry P t x y env n H = .val v n' H') : OpOk P o env n H v n' H' := by
  unfold evMapEntry at h
  split at h
  · rename_i g kv kt e hx hy hu
    split at h
    · rename_i es cl d z hH hd hz
      split at h
      · rename_i j ov b hk hf
        rw [frcL_eq, Q8.set_k] at h
        injection h with h1 h2 h3
        subst h1 h2 h3
        refine ⟨Nat.le_refl _, fun s N a w he hr _ _ => ?_⟩
        obtain ⟨B, fs, hB, e1, e2, e3⟩ := map_at he hr hx hH
        have ky := opd_conc he hr.glob hy
        obtain ⟨_, k3⟩ := findK_ok hk ky e3 hf
        obtain ⟨p, V, f', p1, p2, p3, p4, p5, p6, p7⟩ := k3 j ov b rfl
        rw [Nat.zero_add] at p1; subst p1
        have p2' : fs[j]? = some f' := by simpa using p2
        obtain ⟨w', r1, r2, r3⟩ := map_write (es := modAt es (fun e => (kv, e.2)) j) (gs := fs.modify j fun e => { e with key := a.eval y }) hr hB hH e2 (by
          rw [Array.toList_modify]
          exact modAt_ok e3 fun e f h1 h2 => ⟨ky, (All2.at e3 h1 h2).2.1, (All2.at e3 h1 h2).2.2⟩) rfl n
        refine ⟨.tuple #[V, goInt f'.born], s, w', .inl ?_, ?_, r2, r3⟩
        · have hg := getObj_map (P := P) e2
          simp [execOp, hop, Instr.mapEntry, underlying_run hu, e1, hg, checkKey_run hd hk ky, findKey_run hd p7, Instr.keyThatStays, p2', p3, sameBits_key hk ky, r1]
        · simp [AV.conc, concL, p6, p5, goInt]
      · rename_i hk hf
        rw [frcL_eq, Q8.set_k] at h
        injection h with h1 h2 h3
        subst h1 h2 h3
        refine ⟨Nat.le_refl _, fun s N a w he hr _ _ => ?_⟩
        obtain ⟨iz, zv, hi, hzv, hzo⟩ := zeroB_info hz
        have hzc := ofValue_conc hzo s
        obtain ⟨B, fs, hB, e1, e2, e3⟩ := map_at he hr hx hH
        have ky := opd_conc he hr.glob hy
        obtain ⟨k1, _⟩ := findK_ok hk ky e3 hf
        obtain ⟨w', r1, r2, r3⟩ := map_write (cl' := cl + 1) (cl2 := Nat.succ cl) (es := es ++ [(kv, z, cl)]) (gs := fs.push { key := a.eval y, val := zv, born := cl }) hr hB hH e2 (by
          rw [Array.toList_push]
          exact e3.push ⟨ky, hzc, rfl⟩) rfl n
        refine ⟨.tuple #[zv, goInt cl], s, w', .inl ?_, ?_, r2, r3⟩
        · have hg := getObj_map (P := P) e2
          simp [execOp, hop, Instr.mapEntry, underlying_run hu, e1, hg, checkKey_run hd hk ky, findKey_run hd (k1 rfl), zeroValue, typeInfo, hi, hzv, r1]
        · simp [AV.conc, concL, hzc, goInt]
      · cases h
    · cases h
  · cases h
theorem findB_ok {s : Sg} {b : Nat} : ∀ {es : List (AV × AV × Nat)} {fs : List MapEntry} {i j : Nat}, All2 (MapR s) es fs → findB b es i = some j → ∃ p, j = i + p ∧ fs.findIdx? (fun e => (e.born : Int) == (b : Int)) = some p
  | [], [], i, j, _, h => by cases h
  | e :: es, f :: fs, i, j, hm, h => by
    have h : Bool.rec (motive := fun _ => Option Nat) (findB b es (Nat.succ i)) (some i) (Nat.beq e.2.2 b) = some j := h
    rw [bsel, natbeq] at h
    have hb : f.born = e.2.2 := hm.1.2.2
    split at h
    · rename_i hq
      have hq := of_decide_eq_true hq
      injection h with h; subst h
      exact ⟨0, rfl, by rw [List.findIdx?_cons]; simp [hb, hq]⟩
    · rename_i hq
      have hq : ¬ e.2.2 = b := fun e0 => hq (by simp [e0])
      obtain ⟨p, h1, h2⟩ := findB_ok hm.2 h
      refine ⟨p + 1, by omega, ?_⟩
      rw [List.findIdx?_cons, if_neg (by simp [hb]; omega), h2]; rfl
theorem evEntryStore_ok {o : Oper} {t : TypeId} {x y u : Operand} (hop : o.op = .entryStore t x y u) {env : Env} {n n' : Nat} {H H' : Heap} {v : AV} (h : evEntryStore x y u env n H = .val v n' H') : OpOk P o env n H v n' H' := by
  unfold evEntryStore at h
  split at h
  · rename_i g k b uv hx hy hu'
    split at h
    · rename_i es cl hH
      split at h
      · rename_i j hf
        rw [frcL_eq, Q8.set_k] at h
        injection h with h1 h2 h3
        subst h1 h2 h3
        refine ⟨Nat.le_refl _, fun s N a w he hr _ _ => ?_⟩
        obtain ⟨B, fs, hB, e1, e2, e3⟩ := map_at he hr hx hH
        have ky := opd_conc he hr.glob hy
        have kx := opd_conc he hr.glob hu'
        simp only [AV.conc, Option.some.injEq] at ky
        obtain ⟨p, p1, p2⟩ := findB_ok e3 hf
        rw [Nat.zero_add] at p1; subst p1
        obtain ⟨w', r1, r2, r3⟩ := map_write (es := modAt es (fun e => (e.1, uv, e.2.2)) j) (gs := fs.modify j fun e => { e with val := a.eval u }) hr hB hH e2 (by
          rw [Array.toList_modify]
          exact modAt_ok e3 fun e f h1 h2 => ⟨(All2.at e3 h1 h2).1, kx, (All2.at e3 h1 h2).2.2⟩) rfl n
        refine ⟨undef, s, w', .inr ⟨?_, rfl⟩, concU s, r2, r3⟩
        have hg := getObj_map (P := P) e2
        have p2' : fs.findIdx? (fun e => (e.born : Int) == (b : Int)) = some j := by cases fs with | mk l => simpa using p2
        have p2'' : fs.findIdx? (fun e => (e.born : Int) == Int.ofNat b) = some j := p2'
        simp only [execOp, hop, Instr.entryStore, Sem.run_bind, e1, hg, Result.andThen_ok, ← ky, asInt, asIntOf, Sem.run_pure, p2'', r1]
      · cases h
    · cases h
  · cases h
end
end Go.Sy
