/- SymAA, SymBB, SymCA, Base -/
import Derived.Test.YtloecagaldepfaaGreatDoorMb10
import Derived.Below
import Derived.WalkKit
import Derived.WalkSpells
import Derived.WalkLawsBesides
import Derived.Maps.AppendAt
import Derived.Lib.Hide
import Derived.Laws.IdiomStrings
namespace Go.Sy
open Go
section
variable {P : Program}
theorem wp_value {o : Oper} (hd : ∀ c, o.op ≠ .defer c) {ro : Option Nat} {a : Act} {w w' : World} {V : Value} {K : Act → World → Prop} {Q : Exit → Act → World → Prop} (h : (execOp a.eval o).run P w = .ok (.value V) w') (hK : K (a.put o.dst V) w') : o.wpIn (fen ro) 0 P a w K Q := by
  refine ⟨fun _ _ => fen_fn _ _, ?_⟩
  rw [Oper.semAt_eq _ _ _ hd, h]
  exact hK
theorem first_big {ops : List Oper} {q : Nat} : ∀ i, q ≤ i → Big P ops i → ∃ b, q ≤ b ∧ b ≤ i ∧ Big P ops b ∧ ∀ k, q ≤ k → k < b → ¬ Big P ops k := by
  intro i
  induction i using Nat.strongRecOn with
  | _ i ih =>
    intro h1 h2
    by_cases h : ∃ k, q ≤ k ∧ k < i ∧ Big P ops k
    · obtain ⟨k, k1, k2, k3⟩ := h
      obtain ⟨b, b1, b2, b3, b4⟩ := ih k k2 k1 k3
      exact ⟨b, b1, by omega, b3, b4⟩
    · exact ⟨i, h1, Nat.le_refl _, h2, fun k k1 k2 k3 => h ⟨k, k1, k2, k3⟩⟩
theorem mem_ready {ops : Array Oper} {listed : Array Bool} (hs : listed.size = ops.size) {i : Nat} (h : i ∈ Region.ready .any ops listed) : ∃ o, ops[i]? = some o ∧ listed[i]? = some false ∧ ∀ e ∈ o.after.toList, Region.binds .any e = true → listed[e.on]? = some true := by
  unfold Region.ready at h
  simp only [List.mem_filter, List.mem_range, Bool.and_eq_true] at h
  obtain ⟨h1, h2, h3⟩ := h
  have ho : ops[i]? = some ops[i] := Array.getElem?_eq_getElem h1
  rw [ho] at h3
  refine ⟨_, ho, ?_, fun e he hb => ?_⟩
  · have hi : i < listed.size := by omega
    rw [Array.getElem?_eq_getElem hi]
    have h2 : (!listed.getD i true) = true := h2
    rw [Array.getD_eq_getD_getElem?, Array.getElem?_eq_getElem hi] at h2
    simpa using h2
  · simp only [Option.map_some, Option.getD_some] at h3
    have := (Array.all_eq_true_iff_forall_mem.1 h3) e (by simpa using he)
    rw [hb] at this
    simp only [Bool.not_true, Bool.false_or] at this
    rw [Array.getD_eq_getD_getElem?] at this
    cases hl : listed[e.on]? with
    | none => rw [hl] at this; cases this
    | some b => rw [hl] at this; simpa using this
theorem not_ready {ops : Array Oper} {listed : Array Bool} (hs : listed.size = ops.size) (hedge : ∀ i o, ops[i]? = some o → ∀ e ∈ o.after.toList, Region.binds .any e = true → e.on < i) (h : Region.ready .any ops listed = []) : ∀ i, i < ops.size → listed[i]? = some true := by
  intro i
  induction i using Nat.strongRecOn with
  | _ i ih =>
    intro hi
    have hil : i < listed.size := by omega
    cases hb : listed[i] with
    | true => rw [Array.getElem?_eq_getElem hil, hb]
    | false =>
      have ho : ops[i]? = some ops[i] := Array.getElem?_eq_getElem hi
      have : i ∈ Region.ready .any ops listed := by
        unfold Region.ready
        simp only [List.mem_filter, List.mem_range, Bool.and_eq_true]
        refine ⟨hi, by rw [Array.getD_eq_getD_getElem?, Array.getElem?_eq_getElem hil, hb]; rfl, ?_⟩
        rw [ho]
        simp only [Option.map_some, Option.getD_some]
        refine Array.all_eq_true_iff_forall_mem.2 fun e he => ?_
        cases hbe : Region.binds .any e with
        | false => rfl
        | true =>
          have hlt := hedge i _ ho e (by simpa using he) hbe
          rw [Array.getD_eq_getD_getElem?, ih e.on hlt (by omega)]
          rfl
      rw [h] at this
      cases this
section
variable {ec : EC} {ef : EF} {N : Nat} {ops : List Oper} {is : List RI} {SN : List (Nat × Heap)} {RD : List Rd} {E : Nat → Env} {nn : Nat → Nat} {HH : Nat → Heap} {vv : Nat → AV} {s0 : Sg} {w0 : World} {ds : List Deferred}
theorem Ctx.snap (c : Ctx P ec ef N ops is SN RD E nn HH vv) {q : Nat} (h : q = 0 ∨ ∃ p, q = p + 1 ∧ Big P ops p) : (q, HH q) ∈ SN := by
  rcases h with rfl | ⟨p, rfl, o, ho, hb⟩
  · exact c.snap0
  · exact (c.cases ho).2.1 hb
theorem drawn_wp (c : Ctx P ec ef N ops is SN RD E nn HH vv) (hlim : nn ops.length ≤ LIM) {ro : Option Nat} {Q : Exit → Act → World → Prop}
    (hQ : ∀ s' a' w', EnvR s' (E ops.length) N a'.tmps → a'.defers = ds → s0.le s' → Rel P s' (HH ops.length) w' → Step s0 (nn 0) (HH 0) w0 s' (nn ops.length) (HH ops.length) w' → Q .normal a' w') :
    ∀ (fuel : Nat) (listed : Array Bool) (s : Sg) (q : Nat) (a : Act) (w : World), listed.size = ops.length → listed.toList.countP (fun b => !b) ≤ fuel →
      Inv P N ops E nn HH vv s0 w0 ds s q (fun i => listed[i]? = some true) a w → (∀ i, q ≤ i → Big P ops i → (∀ k, q ≤ k → k < i → ¬ Big P ops k) → ¬ listed[i]? = some true) →
      wpAnyIn (fen ro) 0 P .any ⟨ops⟩ Q fuel listed a w := by
  intro fuel
  have fin : ∀ (listed : Array Bool) (s : Sg) (q : Nat) (a : Act) (w : World), Inv P N ops E nn HH vv s0 w0 ds s q (fun i => listed[i]? = some true) a w → (∀ i, q ≤ i → Big P ops i → (∀ k, q ≤ k → k < i → ¬ Big P ops k) → ¬ listed[i]? = some true) →
      (∀ i, i < ops.length → listed[i]? = some true) → Q .normal a w := by
    intro listed s q a w I hmax hall
    have nb : ∀ k, q ≤ k → k < ops.length → ¬ Big P ops k := fun k h1 h2 h3 => by
      obtain ⟨b, b1, b2, b3, b4⟩ := first_big k h1 h3
      exact hmax b b1 b3 b4 (hall b (by omega))
    obtain ⟨e1, e2⟩ := c.same _ I.qle (Nat.le_refl _) nb
    refine hQ s a w ⟨I.size, fun t A hA => ?_⟩ I.defs I.le (e1 ▸ I.rel) (e1 ▸ I.step)
    rcases c.envGet t _ (Nat.le_refl _) with ⟨i, o, h1, h2, h3, h4, h5⟩ | ⟨h1, h2⟩
    · rw [h5] at hA; injection hA with hA; subst hA
      obtain ⟨V, v1, v2⟩ := I.vals i o (hall i h1) h2
      exact ⟨V, v1, v2 t h3 fun k ok hk _ hok => h4 k ok hk (List.getElem?_eq_some_iff.1 hok).1 hok⟩
    · rw [h2] at hA
      exact I.init t A hA fun k ok _ hok => h1 k ok (List.getElem?_eq_some_iff.1 hok).1 hok
  induction fuel with
  | zero =>
    intro listed s q a w hs hc I hmax
    have hall : ∀ i, i < ops.length → listed[i]? = some true := fun i hi => by
      have hil : i < listed.size := by omega
      rw [Array.getElem?_eq_getElem hil]
      have h0 : listed.toList.countP (fun b => !b) = 0 := by omega
      have := (List.countP_eq_zero.1 h0) listed[i] (by simp)
      simpa using this
    refine ⟨?_, fin listed s q a w I hmax hall⟩
    apply List.eq_nil_iff_forall_not_mem.2
    intro i hi
    obtain ⟨o, h1, h2, _⟩ := mem_ready (by simpa using hs) hi
    have := hall i (by have := (Array.getElem?_eq_some_iff.1 h1).1; simpa using this)
    rw [h2] at this; cases this
  | succ fuel ih =>
    intro listed s q a w hs hc I hmax
    refine ⟨fun hr => fin listed s q a w I hmax fun i hi => not_ready (by simpa using hs) (fun i o ho => c.reg.edge i o (by simpa using ho)) hr i (by simpa using hi), fun j hj => ?_⟩
    obtain ⟨o, ho, hjf, hedges⟩ := mem_ready (by simpa using hs) hj
    have ho : ops[j]? = some o := by simpa using ho
    have hjl : j < ops.length := (List.getElem?_eq_some_iff.1 ho).1
    have hjn : ¬ listed[j]? = some true := by rw [hjf]; simp
    have hset : (fun i => (listed.setIfInBounds j true)[i]? = some true) = (fun i => listed[i]? = some true ∨ i = j) := by
      funext i
      apply propext
      by_cases hij : j = i
      · subst hij
        simp [show j < listed.size from by omega]
      · rw [Array.getElem?_setIfInBounds_ne hij]
        constructor
        · exact .inl
        · rintro (h | h)
          · exact h
          · exact absurd h.symm hij
    have hcount : (listed.setIfInBounds j true).toList.countP (fun b => !b) ≤ fuel := by
      have hjs : j < listed.toList.length := by simp; omega
      have h1 : listed.toList[j] = false := by
        have := (Array.getElem?_eq_some_iff.1 hjf).2
        simpa using this
      have h2 : 0 < listed.toList.countP (fun b => !b) := List.countP_pos_iff.2 ⟨false, by rw [← h1]; exact List.getElem_mem hjs, rfl⟩
      rw [Array.toList_setIfInBounds, List.countP_set (h := hjs)]
      simp only [h1, Bool.not_false, Bool.not_true, if_true, Bool.false_eq_true, if_false]
      omega
    have hb : ∀ i, Bf ops j i → listed[i]? = some true := fun i h => c.reg.ready I.closed ho hedges h
    have next : ∀ {s' : Sg} {q' : Nat} {w' : World} {V : Value}, Inv P N ops E nn HH vv s0 w0 ds s' q' (fun i => listed[i]? = some true ∨ i = j) (a.put o.dst V) w' → wpAnyIn (fen ro) 0 P .any ⟨ops⟩ Q fuel (listed.setIfInBounds j true) (a.put o.dst V) w' := fun {s' q' w' V} I' => by
      obtain ⟨q2, I2, hmax2⟩ := I'.advance c hlim _ (Nat.le_refl _)
      rw [← hset] at I2
      refine ih _ s' q2 _ w' (by simpa using hs) hcount I2 fun i h1 h2 h3 => ?_
      have := hmax2 i h1 h2 h3
      intro h
      exact this ((congrFun hset i).mp h)
    obtain ⟨env', he, hcon, hwa⟩ := I.env c ho hjn hb
    obtain ⟨hp, hsn, hcase⟩ := c.cases ho
    unfold wpOpIn
    have ho' : (⟨ops⟩ : Array Oper)[j]? = some o := by simpa using ho
    rw [ho']
    simp only
    have bigq : Big P ops j → q ≤ j := fun hbj => by
      apply Classical.byContradiction
      intro h
      exact hjn (I.done j (by omega) hbj)
    rcases hcase with ⟨h1, h2, h3, h4⟩ | ⟨h1, h⟩
    · -- not wanted
      have hw := wantedA_ok (by rw [hwa]; exact h1) he
      rw [hw]
      simp only [Bool.false_eq_true, if_false]
      refine ⟨fun _ _ => fen_fn _ _, next (I.exec c ho hjn hedges (Sg.le.refl s) (by rw [h2]; exact undefA_conc s) (by rw [h3]; exact Step.refl ..) I.rel (.inl ⟨rfl, fun _ => ⟨.inl ⟨h3, h4⟩, fun e => by omega⟩⟩))⟩
    · have hw := wantedA_ok (by rw [hwa]; exact h1) he
      rw [hw]
      simp only [if_true]
      have pureCase : nn (j + 1) = nn j → HH (j + 1) = HH j → PureOk P o env' (vv j) → (∀ c, o.op ≠ .defer c) → o.wpIn (fen ro) 0 P a w (wpAnyIn (fen ro) 0 P .any ⟨ops⟩ Q fuel (listed.setIfInBounds j true)) Q := fun g1 g2 g3 g4 => by
        obtain ⟨V, v1, v2⟩ := g3 s N a he I.rel.glob
        exact wp_value g4 (v2 w) (next (I.exec c ho hjn hedges (Sg.le.refl s) v1 (by rw [g1]; exact Step.refl ..) I.rel (.inl ⟨rfl, fun _ => ⟨.inl ⟨g1, g2⟩, fun e => by omega⟩⟩)))
      have nodef : ∀ {n : Nat} {H : Heap} {v : AV} {n' : Nat} {H' : Heap}, evOp o.op P o env' n H = .val v n' H' → ∀ c, o.op ≠ .defer c := fun h => evOp_no_dfr h (fun _ _ e => by cases e) (fun _ e => by cases e)
      rcases h with ⟨hk, h⟩ | ⟨hk, h, hrd⟩ | ⟨hk, h⟩ | ⟨hk, h⟩
      · -- pure
        rw [evOp_congr hcon] at h
        have hko := evOp_ok h
        rw [hk] at hko
        exact pureCase hko.1 hko.2.1 hko.2.2 (nodef h)
      · -- read
        have hko0 := evOp_ok h
        rw [hk] at hko0
        obtain ⟨lo, hi, r1, r2, r3, r4⟩ := c.reg.read j o ho hk
        have hlo : lo ≤ q := by
          rcases r3 with rfl | ⟨i, oi, i1, i2, rfl⟩
          · exact Nat.zero_le _
          · apply Classical.byContradiction
            intro hlt
            obtain ⟨b, b1, b2, b3, b4⟩ := first_big (P := P) (ops := ops) i (q := q) (by omega) ⟨oi, i1, i2⟩
            obtain ⟨ob, ob1, ob2⟩ := b3
            exact hmax b b1 ⟨ob, ob1, ob2⟩ b4 (hb b (r2 b ob ob1 (by omega) ob2))
        have hhi : q ≤ hi := by
          rcases r4 with rfl | ⟨oh, h1, h2, h3⟩
          · exact I.qle
          · apply Classical.byContradiction
            intro hlt
            exact hjn (c.reg.closed I.closed hi j (I.done hi (by omega) ⟨oh, h1, h2⟩) h3)
        obtain ⟨v2, n2, H2, e1, e2⟩ := snapsOk_spec (rdsOk_spec c.rds _ (hrd lo hi r1)) _ (c.snap I.qb) hlo hhi
        have e2 := eqV_eq e2
        simp only at e1 e2
        rw [evOp_congr hcon, ← e2] at e1
        have hko := evOp_ok e1
        rw [hk] at hko
        obtain ⟨V, w', v1, v2, v3, v4⟩ := hko.2.2 s N a w (nn j) he I.rel
        exact wp_value (nodef e1) v1 (next (I.exec c ho hjn hedges (Sg.le.refl s) v2 (by rw [hko0.1]; exact v4) v3 (.inl ⟨rfl, fun hbj => by
          obtain ⟨o', ho2, hb2⟩ := hbj
          rw [ho] at ho2; injection ho2 with ho2; subst ho2
          rw [hk] at hb2; cases hb2⟩)))
      · -- a new block
        rw [evOp_congr hcon] at h
        have hko := evOp_ok h
        rw [hk] at hko
        have hbj : Big P ops j := ⟨o, ho, by rw [hk]; rfl⟩
        rcases hko with ⟨g1, g2, g3⟩ | ⟨A, g1, g2, g3⟩
        · exact pureCase g1 g2 g3 (nodef h)
        · have hfree := I.free j (bigq hbj) hjl hjn (nn j) (Nat.le_refl _) (by omega)
          have hnl : nn j < LIM := by have := c.mono (i := j + 1) ops.length (by omega) (Nat.le_refl _); omega
          obtain ⟨V, obj, cc, w', v1, v2, v3, v4, v5, v6, v7⟩ := g3 s N a w he I.rel.glob hfree
          obtain ⟨r1, r2, r3⟩ := I.rel.push hnl hfree cc v2 v3 v4 v5
          refine wp_value (nodef h) v1 (next (I.exec c ho hjn hedges (Sg.set_le hfree) v6 (by rw [g1]; exact r2) r1 (.inl ⟨rfl, fun _ => ⟨.inr ⟨A, w.heap.size, obj, g1, g2, Sg.set_blk .., ?_, v7, I.step.size, r3⟩, fun _ b hbb => ?_⟩⟩)))
          · rw [v2]; simp
          · rw [Sg.set_blk] at hbb; injection hbb with hbb; omega
      · -- in its turn
        have hbj : Big P ops j := ⟨o, ho, by rw [hk]; rfl⟩
        have hqj := bigq hbj
        have hall : ∀ i, i < j → Big P ops i → listed[i]? = some true := fun i hi ⟨oi, i1, i2⟩ => hb i ((c.reg.chain j o ho hk).2 i oi i1 hi i2)
        have nb : ∀ k, q ≤ k → k < j → ¬ Big P ops k := fun k k1 k2 k3 => by
          obtain ⟨b, b1, b2, b3, b4⟩ := first_big k k1 k3
          exact hmax b b1 b3 b4 (hall b (by omega) b3)
        obtain ⟨e1, e2⟩ := c.same j hqj (by omega) nb
        have hcv : evV P ec ef o env' (nn j) (HH j) = .ok (vv j) (nn (j + 1)) (HH (j + 1)) := by
          unfold evV at h ⊢
          rw [evOp_congr hcon] at h
          exact h
        obtain ⟨g1, g2⟩ := evV_ok c.hec c.hef hcv
        have hfr := I.free j hqj hjl hjn
        have hnl : nn (j + 1) ≤ LIM := Nat.le_trans (c.mono (i := j + 1) ops.length (by omega) (Nat.le_refl _)) hlim
        refine g2 s N a w ro _ Q he (by rw [e1]; exact I.rel) hfr hnl fun V s' w' v1 v2 v3 => ?_
        rw [e1] at v3
        exact next (I.exec c ho hjn hedges (v3.le hfr) v1 v3 v2 (.inr ⟨rfl, hbj, hqj, hall⟩))
end
theorem evRegion_drawn {ec : EC} {ef : EF} (hm : P.follows .mixedOrders = true) (hec : EcOk P ec) (hef : EfOk P ef) {rd : Option Nat} {N id : Nat} {ops : Array Oper} {env : Env} {ms : List Df} {n : Nat} {H : Heap} {e : Ext} {env' : Env} {ms' : List Df} {n' : Nat} {H' : Heap}
    (h : evRegion P ec ef rd N id ops.toList true env ms n H = .ok e env' ms' n' H') : CodeGood P (.region id ops true) rd N env ms n H e env' ms' n' H' := by
  have h : (match regInfo P ops.toList with
      | some is => (match evDrawn P ec ef N ops.toList ops.toList is 0 [(0, H)] [] env.fresh n H with | .ok env n H => CR.ok .nrm env ms n H | .er l => .er (id :: l))
      | none => .er [id, 216]) = .ok e env' ms' n' H' := h
  split at h
  · rename_i is hi
    have hreg := regInfo_spec hi
    split at h
    · rename_i env1 n1 H1 hd
      injection h with q1 q2 q3 q4 q5
      subst q1 q2 q3 q4 q5
      obtain ⟨SN, RD, E, nn, HH, vv, t1, t2, t3, t4, t5, t6, t7, t8, t9, t10⟩ := evDrawn_trace hreg.len hd
      have c : Ctx P ec ef N ops.toList is SN RD E nn HH vv := ⟨hec, hef, hreg, t3, by rw [t6]; exact t1 _ (List.mem_cons_self ..), fun j o x ho hx => by have := t10 j o x ho hx; rwa [Nat.zero_add] at this⟩
      have hnn : n ≤ n1 := by rw [← t5, ← t8]; exact c.mono _ (Nat.zero_le _) (Nat.le_refl _)
      refine ⟨hnn, fun s a w ro Q h1 h2 h3 h4 h5 h6 h7 => wpIn_region_any hm ?_⟩
      have I0 : Inv P N ops.toList E nn HH vv s w.drew a.defers s 0 (fun i => (Array.replicate ops.size false)[i]? = some true) a w.drew := by
        have hno : ∀ i, ¬ (Array.replicate ops.size false)[i]? = some true := fun i hi => by
          rw [Array.getElem?_replicate] at hi
          split at hi <;> cases hi
        refine ⟨fun i o _ hi => absurd hi (hno i), Nat.zero_le _, .inl rfl, fun i hi => by omega, by rw [t6]; exact h4.drew, Sg.le.refl s, ⟨fun _ _ => ⟨rfl, rfl⟩, Nat.le_refl _, fun _ _ _ => rfl, fun y b hy k1 k2 _ => ⟨y, hy, k1, k2⟩, rfl, rfl, rfl⟩, fun i _ hi _ x x1 x2 => h5 x ?_ ?_, fun i _ _ hi => absurd hi (hno i), fun i j _ _ _ _ hi => absurd hi (hno i), fun i o hi => absurd hi (hno i), fun t A hA _ => ?_, h1.size, rfl⟩
        · have := c.mono (i := 0) i (Nat.zero_le _) (by omega); rw [t5] at this; omega
        · have := c.mono (i := i + 1) ops.toList.length (by omega) (Nat.le_refl _); rw [t8] at this; omega
        · rw [t4] at hA; exact h1.fresh.get t A hA
      obtain ⟨q, I, hmax⟩ := I0.advance c (by rw [t8]; exact h6) _ (Nat.le_refl _)
      have hdr : Step s n H w s n1 H w.drew := ⟨fun _ _ => ⟨rfl, rfl⟩, Nat.le_refl _, fun _ _ _ => rfl, fun y b hy k1 k2 _ => ⟨y, hy, k1, k2⟩, rfl, rfl, rfl⟩
      refine drawn_wp c (by rw [t8]; exact h6) (s0 := s) (w0 := w.drew) (ds := a.defers) (fun s' a' w' k1 k2 k3 k4 k5 => ?_) ops.size (Array.replicate ops.size false) s q a w.drew (by simp) ?_ I hmax
      · rw [t7] at k1
        rw [t9] at k4
        rw [t5, t6, t8, t9] at k5
        exact h7 s' a' w' k1 (by rw [k2]; exact h2.le k3) k4 (hdr.within k5 (Nat.le_refl _) (Nat.le_refl _))
      · exact Nat.le_trans List.countP_le_length (by simp)
    · cases h
  · cases h
end
end Go.Sy
namespace Go.Sy
open Go
section
variable {P : Program}
theorem stepC_ok {ec : EC} {ef : EF} (hm : P.follows .mixedOrders = true) (hec : EcOk P ec) (hef : EfOk P ef) : EcOk P (fun c => stepC c P ec ef) := by
  intro c rd N env ms n H e env' ms' n' H' h
  have ext : ∀ {x : Ext}, evExt x rd N env ms n H = .ok e env' ms' n' H' → (∀ F (Q : Exit → Act → World → Prop) a w, Q x.exit a w → wpX P F 0 c Q a w) → CodeGood P c rd N env ms n H e env' ms' n' H' := fun h hw => by
    injection h with q1 q2 q3 q4 q5
    subst q1 q2 q3 q4 q5
    exact .nrm0 hw
  cases c with
  | skip => exact ext h fun F Q a w hq => wpIn_skip hq
  | label l => exact ext h fun F Q a w hq => wpIn_label hq
  | region id ops draw =>
    cases draw with
    | false => exact evRegion_plain hec hef h
    | true => exact evRegion_drawn hm hec hef h
  | seq a b => exact evSeq_ok hec h
  | cond x a b => exact evCond_ok hec h
  | block id a => exact evBlock_ok hec h
  | loop a => exact evLoop_ok hec h
  | rangeFunc f ps asg body => exact evRange_ok hec hef h
  | exit id => exact ext h fun F Q a w hq => wpIn_exit hq
  | ret => exact ext h fun F Q a w hq => wpIn_ret hq
  | scope b =>
    have h : evScope ec b 1000000 b rd N env ms n H = .ok e env' ms' n' H' := h
    exact evScope_ok hec h
  | goto l => exact ext h fun F Q a w hq => wpIn_goto hq
  | refuse r => cases h
theorem ev_ok {O : Orc} (hm : P.follows .mixedOrders = true) (hO : OrcOk P O) (fuel : Nat) : EcOk P (ev P O fuel).ec ∧ EfOk P (ev P O fuel).ef := by
  induction fuel with
  | zero => exact ⟨(fun c rd N env ms n H e env' ms' n' H' h => by cases h), (fun f args n H v n' H' h => by cases h)⟩
  | succ m ih => exact ⟨stepC_ok hm ih.1 ih.2, stepF_ok hO ih.1⟩
/-- What is told of no function. -/
theorem orcOk_none : OrcOk P (fun _ => none) := fun f g h => by cases h
theorem orcOk_one {f : FuncId} {g : List AV → Nat → Heap → VR} (h : ∀ args n H v n' H', g args n H = .ok v n' H' → FnGood P f args n H v n' H') : OrcOk P (fun x => match Nat.beq x f with | true => some g | false => none) := by
  intro x g' hx
  simp only at hx
  split at hx
  · rename_i e
    have e : x = f := by simpa using e
    subst e
    injection hx with hx; subst hx
    exact h
  · cases hx
/-- A call, from what the evaluator says of it. -/
theorem calls_of_ev {O : Orc} (hm : P.follows .mixedOrders = true) (hO : OrcOk P O) {fuel : Nat} {f : FuncId} {args : List AV} {n : Nat} {H : Heap} {v : AV} {n' : Nat} {H' : Heap} (h : (ev P O fuel).ef f args n H = .ok v n' H')
    {s : Sg} {w : World} {Args : List Value} (hA : concL s args = some Args) (hr : Rel P s H w) (hf : Free s n n') (hl : n' ≤ LIM) {R : Ending → World → Prop}
    (hR : ∀ V s' w', v.conc s' = some V → Rel P s' H' w' → Step s n H w s' n' H' w' → R (.returned V) w') : CallsIn Fence.wide 0 P f ⟨Args⟩ w R :=
  ((ev_ok hm hO fuel).2 f args n H v n' H' h).2 s w Args R hA hr hf hl hR
end
end Go.Sy
namespace Go.Sy
open Go Go.RowKit
/-- A program's variable: its type, what its cells hold. -/
structure GV where
  t : TypeId
  l : List AV
  vs : List Value
def GV.Good (g : GV) : Prop := (∀ s, concL s g.l = some g.vs) ∧ ∀ v ∈ g.vs, v.oneCell' = true
noncomputable def putGs {β : Type} (gs : List GV) : Nat → Heap → (Heap → β) → β :=
  List.rec (motive := fun _ => Nat → Heap → (Heap → β) → β) (fun _ H k => k H)
    (fun g _ ih i H k => putCells g.l .e 0 fun c => frc (len g.l) fun m => Q8.set (some (.row g.t (fun _ => none) m c true false)) H i fun H => frc (Nat.succ i) fun i => ih i H k) gs
/-- The variable reads as at first (its type is no number that the kernel could compare: so a proposition). -/
noncomputable def sameG (g : GV) (b : Option Blk) : Prop :=
  match b with
  | some (.row t z m c true false) => (match Nat.beq m (len g.l), cellsAt z m c m 0 with
      | true, some l => (match eq1s l g.l with | true => t = g.t | false => False)
      | _, _ => False)
  | _ => False
noncomputable def sameGs (H : Heap) (gs : List GV) : Nat → Prop :=
  List.rec (motive := fun _ => Nat → Prop) (fun _ => True) (fun g _ ih i => sameG g (Q8.get H i) ∧ ih (Nat.succ i)) gs
noncomputable def closedP (P : Program) (O : Orc) (fuel : Nat) (f : FuncId) (args : List AV) (res : AV) (gs : List GV) : Prop :=
  putGs gs 0 Q8.e fun H => match (ev P O fuel).ef f args 64 H with
    | .ok v n' H' => (match eqV v res, Nat.ble n' 65536 with | true, true => sameGs H' gs 0 | _, _ => False)
    | .er _ => False
noncomputable def rowG (g : GV) : Blk := .row g.t (fun _ => none) g.l.length (T.e.puts g.l 0) true false
noncomputable def hG : List GV → Nat → Heap → Heap
  | [], _, H => H
  | g :: gs, i, H => hG gs (i + 1) (Q8.upd H i (some (rowG g)))
theorem putGs_k {β : Type} (gs : List GV) : ∀ (i : Nat) (H : Heap) (k : Heap → β), putGs gs i H k = k (hG gs i H) := by
  induction gs with
  | nil => intro i H k; rfl
  | cons g gs ih =>
    intro i H k
    show putCells g.l .e 0 (fun c => frc (len g.l) fun m => Q8.set (some (.row g.t (fun _ => none) m c true false)) H i fun H => frc (Nat.succ i) fun i => putGs gs i H k) = _
    rw [putCells_k, frc_eq, Q8.set_k, frc_eq, ih, len_eq]
    rfl
theorem get_hG (gs : List GV) : ∀ (i : Nat) (H : Heap) (x : Nat), i + gs.length ≤ LIM → x < LIM → Q8.get (hG gs i H) x = if i ≤ x ∧ x < i + gs.length then (gs[x - i]?).map rowG else Q8.get H x := by
  induction gs with
  | nil => intro i H x _ _; rw [if_neg (by simp)]; rfl
  | cons g gs ih =>
    intro i H x hi hx
    have hl : (g :: gs).length = gs.length + 1 := rfl
    rw [hl] at hi ⊢
    show Q8.get (hG gs (i + 1) (Q8.upd H i (some (rowG g)))) x = _
    rw [ih (i + 1) _ x (by omega) hx, Q8.get_upd _ _ _ _ (by omega) hx]
    by_cases h1 : i = x
    · subst h1
      rw [if_neg (by omega), if_pos rfl, if_pos (by omega)]; simp
    · rw [if_neg h1]
      by_cases h2 : i + 1 ≤ x ∧ x < i + 1 + gs.length
      · rw [if_pos h2, if_pos (by omega), show x - i = (x - (i + 1)) + 1 by omega]; simp
      · rw [if_neg h2, if_neg (by omega)]
theorem sameGs_at {H : Heap} : ∀ {gs : List GV} {i : Nat}, sameGs H gs i → ∀ {j : Nat} {g : GV}, gs[j]? = some g → sameG g (Q8.get H (i + j))
  | [], i, _, j, g, hj => by simp at hj
  | g' :: gs, i, h, j, g, hj => by
    have h : sameG g' (Q8.get H i) ∧ sameGs H gs (Nat.succ i) := h
    cases j with
    | zero => simp at hj; subst hj; exact h.1
    | succ j => rw [show i + (j + 1) = Nat.succ i + j by simp; omega]; exact sameGs_at h.2 (by simpa using hj)
/-- The symbols at first: the program's variables. -/
def sg0 : Sg := ⟨fun x => if x < 64 then some x else none, fun _ => 0⟩
theorem sg0_some {x b : Nat} (h : sg0.blk x = some b) : x < 64 ∧ b = x := by
  simp only [sg0] at h
  split at h
  · rename_i hx; injection h with h; exact ⟨hx, h.symm⟩
  · cases h
section
variable {P : Program}
theorem rowG_good {g : GV} (hg : g.Good) (s : Sg) (x : Nat) : BlkR P s x (rowG g) (Obj.cells ⟨g.vs⟩ g.t (0, 0)) := by
  have hl := concL_length (hg.1 s)
  refine ⟨rfl, by simp [hl], fun i A hA => ?_, by simp [hl], .inl rfl⟩
  have hlt := cellAt_lt hA
  rw [cellAt_eq, if_pos hlt, T.get_puts] at hA
  rw [if_pos (by omega)] at hA
  rw [Nat.sub_zero, List.getElem?_eq_getElem hlt] at hA
  have hA' : g.l[i]? = some A := by rw [List.getElem?_eq_getElem hlt]; exact hA
  obtain ⟨V, h1, h2⟩ := concL_get (hg.1 s) hA'
  exact ⟨V, h1, by simpa using h2, hg.2 V (List.mem_of_getElem? h2)⟩
theorem rel0 {gs : List GV} {w : World} (hgs : gs.length ≤ 64) (hg : ∀ g ∈ gs, g.Good) (hw : ∀ (j : Nat) (g : GV), gs[j]? = some g → w.heap[j]? = some (Obj.cells ⟨g.vs⟩ g.t (0, 0))) : Rel P sg0 (hG gs 0 Q8.e) w := by
  have hL : (64 : Nat) < LIM := by decide
  refine ⟨fun x b h => by have := (sg0_some h).1; omega, fun g h => by simp [sg0, h], fun x A hx hA => ?_, fun x y b _ _ _ _ h1 h2 => ?_⟩
  · rw [get_hG gs 0 _ x (by omega) hx] at hA
    split at hA
    · rename_i h
      rw [Nat.sub_zero, Option.map_eq_some_iff] at hA
      obtain ⟨g, h1, rfl⟩ := hA
      exact ⟨x, _, by simp [sg0]; omega, hw x g h1, rowG_good (hg g (List.mem_of_getElem? h1)) _ _⟩
    · rw [Q8.get_e] at hA; cases hA
  · exact (sg0_some h1).2.symm.trans (sg0_some h2).2
theorem sameG_row' {g : GV} (hg : g.Good) {s : Sg} {x : Nat} {t : TypeId} {z : Nat → Option AV} {m : Nat} {c : T AV} {o : Obj} (h1 : t = g.t) (h2 : m = g.l.length) (h3 : cellsAt z m c m 0 = some g.l) (hr : BlkR P s x (.row t z m c true false) o) : o = Obj.cells ⟨g.vs⟩ g.t (0, 0) := by
  cases o with
  | cells a t' fz =>
    obtain ⟨r1, r2, r3, r4, r5⟩ := hr
    rw [if_pos rfl] at r4
    have hf : fz = (0, 0) := by
      rcases r5 with r5 | ⟨r5, _⟩
      · exact r5
      · cases r5
    have ha : a = ⟨g.vs⟩ := by
      have hl := concL_length (hg.1 s)
      apply Array.ext_getElem?
      intro i
      by_cases hi : i < m
      · obtain ⟨k1, k2⟩ := (cellsAt_get h3).2 i hi
        rw [Nat.zero_add] at k1 k2
        obtain ⟨B, hB⟩ := Option.isSome_iff_exists.1 k2
        obtain ⟨V, v1, v2, _⟩ := r3 i B hB
        rw [hB] at k1
        obtain ⟨V', u1, u2⟩ := concL_get (hg.1 s) k1
        rw [v1] at u1; injection u1 with u1; subst u1
        rw [v2]; simpa using u2.symm
      · rw [Array.getElem?_eq_none (by omega), Array.getElem?_eq_none (by simp; omega)]
    subst hf ha
    rw [r1, h1]
  | _ => exact hr.elim
theorem sameG_row {g : GV} (hg : g.Good) {s : Sg} {x : Nat} {A : Blk} {o : Obj} (h : sameG g (some A)) (hr : BlkR P s x A o) : o = Obj.cells ⟨g.vs⟩ g.t (0, 0) := by
  unfold sameG at h
  split at h
  · rename_i t z m c e
    injection e with e
    subst e
    split at h
    · rename_i l h2 h3
      split at h
      · rename_i h4
        have h1 := h
        have h2 := Nat.eq_of_beq_eq_true h2
        rw [len_eq] at h2
        have h4 := eq1s_eq h4
        subst h4
        exact sameG_row' hg h1 h2 h3 hr
      · cases h
    · cases h
  · cases h
/-- A closed run, from what the evaluator says. -/
theorem closed_run {O : Orc} (hm : P.follows .mixedOrders = true) (hO : OrcOk P O) {fuel : Nat} {f : FuncId} {args : List AV} {res : AV} {gs : List GV} {Args : List Value} {V : Value}
    (hgs : gs.length ≤ 64) (hg : ∀ g ∈ gs, g.Good) (hA : ∀ s, concL s args = some Args) (hV : ∀ s, res.conc s = some V) (h : closedP P O fuel f args res gs)
    {w : World} (hw : ∀ (j : Nat) (g : GV), gs[j]? = some g → w.heap[j]? = some (Obj.cells ⟨g.vs⟩ g.t (0, 0))) : Calls P f ⟨Args⟩ w fun e w' => e = .returned V ∧ Below w.heap.size w w' := by
  unfold closedP at h
  rw [putGs_k] at h
  split at h
  · rename_i v n' H' hev
    split at h
    · rename_i h1 h2
      have h3 := h
      have h1 := eqV_eq h1
      subst h1
      have hr0 := rel0 (P := P) hgs hg hw
      refine callsIn_wide.1 (calls_of_ev hm hO hev (hA sg0) hr0 (fun x h1 _ => by simp [sg0]; omega) (Nat.le_of_ble_eq_true h2) fun V' s' w' hv hr hs => ?_)
      rw [hV] at hv
      injection hv with hv
      subst hv
      refine ⟨rfl, hs.os, hs.tape, hs.output, hs.size, fun k hk => ?_⟩
      by_cases hkg : k < gs.length
      · obtain ⟨g, hgk⟩ : ∃ g, gs[k]? = some g := ⟨_, List.getElem?_eq_getElem hkg⟩
        have hsm := sameGs_at h3 hgk
        rw [Nat.zero_add] at hsm
        cases hB : Q8.get H' k with
        | none => rw [hB] at hsm; exact hsm.elim
        | some B =>
          rw [hB] at hsm
          obtain ⟨b, o, b1, b2, b3⟩ := hr.blk k B (by have : (64 : Nat) < LIM := by decide
                                                      omega) hB
          rw [(hs.off k (.inl (by omega))).1] at b1
          have := (sg0_some b1).2
          subst this
          rw [b2, hw _ _ hgk, sameG_row (hg g (List.mem_of_getElem? hgk)) hsm b3]
      · refine hs.frame k hk fun x hx h1 h2 => ?_
        have := (sg0_some h2).2
        subst this
        rw [get_hG gs 0 _ _ (by have : (64 : Nat) < LIM := by decide
                                omega) hx, if_neg (by omega), Q8.get_e] at h1
        exact h1 rfl
    · cases h
  · cases h
end
end Go.Sy
namespace Go.Proofs.YtloecagaldepfaaGreatDoor
open Go Go.RowKit
attribute [go_sem] Lib.run_eql_slice_nil
/-- Between two worlds only blocks in S may have changed, and new ones have come. -/
structure Only (S : Nat → Prop) (w w' : World) : Prop where
  os : w'.os = w.os
  tape : w'.tape = w.tape
  output : w'.output = w.output
  size : w.heap.size ≤ w'.heap.size
  block : ∀ k, k < w.heap.size → ¬ S k → w'.heap[k]? = w.heap[k]?
section
variable {S T : Nat → Prop} {a b c w w' : World}
theorem Only.refl (S : Nat → Prop) (w : World) : Only S w w := ⟨rfl, rfl, rfl, Nat.le_refl _, fun _ _ _ => rfl⟩
theorem Only.trans (h : Only S a b) (k : Only T b c) (hT : ∀ i, i < a.heap.size → T i → S i) : Only S a c :=
  ⟨k.os.trans h.os, k.tape.trans h.tape, k.output.trans h.output, Nat.le_trans h.size k.size, fun i hi hn =>
    (k.block i (Nat.lt_of_lt_of_le hi h.size) (fun ht => hn (hT i hi ht))).trans (h.block i hi hn)⟩
theorem Only.mono (h : Only S a b) (hT : ∀ i, i < a.heap.size → S i → T i) : Only T a b :=
  ⟨h.os, h.tape, h.output, h.size, fun i hi hn => h.block i hi (fun hs => hn (hT i hi hs))⟩
theorem Only.of_below (h : Below a.heap.size a b) : Only S a b := ⟨h.os, h.tape, h.output, h.size, fun i hi _ => h.block i hi⟩
theorem Only.below {B : Nat} (h : Only S a b) (hS : ∀ i, i < B → i < a.heap.size → ¬ S i) (hB : B ≤ a.heap.size) : Below B a b :=
  ⟨h.os, h.tape, h.output, h.size, fun i hi => h.block i (by omega) (hS i hi (by omega))⟩
theorem Only.of_grown {row : Option Nat} (h : a.grownBy b row) : Only (fun k => row = some k) a b :=
  ⟨h.os, h.tape, h.output, h.size, fun i hi hn => h.block i hi (fun e => hn e.symm)⟩
theorem Only.drew (h : Only S a w) : Only S a w.drew := ⟨h.os, h.tape, h.output, h.size, h.block⟩
theorem Only.alloc (h : Only S a w) (o : Obj) : Only S a (w.alloc o) :=
  ⟨h.os, h.tape, h.output, Nat.le_trans h.size (by simp), fun i hi hn => (Below.heap_alloc w o i (Nat.lt_of_lt_of_le hi h.size)).trans (h.block i hi hn)⟩
theorem Only.setCell (h : Only S a w) {p : Addr} (hp : S p.block ∨ a.heap.size ≤ p.block) (u : Value) : Only S a (w.setCell p u) :=
  ⟨h.os, h.tape, h.output, by simpa [World.setCell] using h.size, fun i hi hn => (Below.heap_setCell w p u i (by
    rintro rfl
    rcases hp with hp | hp
    · exact hn hp
    · omega)).trans (h.block i hi hn)⟩
end
theorem lt_of_heap {w : World} {g : Nat} {o : Obj} (h : w.heap[g]? = some o) : g < w.heap.size := by
  rcases Nat.lt_or_ge g w.heap.size with h2 | h2
  · exact h2
  · rw [Array.getElem?_eq_none h2] at h; cases h
/-- Block g is just these cells, none of them frozen. -/
def Blk (w : World) (g : Nat) (t : TypeId) (cs : Array Value) : Prop := w.heap[g]? = some (.cells cs t (0, 0))
section
variable {w w' : World} {g : Nat} {t : TypeId} {cs : Array Value}
theorem Blk.lt (h : Blk w g t cs) : g < w.heap.size := lt_of_heap h
theorem Blk.cell (h : Blk w g t cs) (i : Nat) (v : Value) (hv : cs[i]? = some v) : w.cell? ⟨g, i, none⟩ = some v := by
  unfold Blk at h; simp [World.cell?, h, hv]
theorem Blk.frozen (h : Blk w g t cs) (i : Nat) : w.frozen? ⟨g, i, none⟩ = false := by
  unfold Blk at h; simp [World.frozen?, h]
theorem Blk.new (w : World) (t : TypeId) (cs : Array Value) : Blk (w.alloc (.cells cs t)) w.heap.size t cs := heap_alloc_new w _
theorem Blk.new2 (w : World) (o : Obj) (t : TypeId) (cs : Array Value) : Blk ((w.alloc o).alloc (.cells cs t)) (w.heap.size + 1) t cs := by
  have := Blk.new (w.alloc o) t cs
  rwa [World.size_alloc] at this
theorem Blk.new3 (w : World) (o o2 : Obj) (t : TypeId) (cs : Array Value) : Blk (((w.alloc o).alloc o2).alloc (.cells cs t)) (w.heap.size + 1 + 1) t cs := by
  have := Blk.new ((w.alloc o).alloc o2) t cs
  rwa [World.size_alloc, World.size_alloc] at this
theorem Blk.alloc (h : Blk w g t cs) (o : Obj) : Blk (w.alloc o) g t cs := (Below.heap_alloc w o g h.lt).trans h
theorem Blk.drew (h : Blk w g t cs) : Blk w.drew g t cs := h
theorem Blk.set_ (h : Blk w g t cs) (i : Nat) (u : Value) : Blk (w.setCell ⟨g, i, none⟩ u) g t (cs.setIfInBounds i u) := by
  unfold Blk at h ⊢; simp [World.setCell, Array.getElem?_modify, h]
theorem Blk.far (h : Blk w g t cs) {p : Addr} (hp : g ≠ p.block) (u : Value) : Blk (w.setCell p u) g t cs := (Below.heap_setCell w p u g hp).trans h
theorem Blk.only {S : Nat → Prop} (h : Blk w g t cs) (ho : Only S w w') (hn : ¬ S g) : Blk w' g t cs := (ho.block g h.lt hn).trans h
theorem Blk.below (h : Blk w g t cs) (hb : Below w.heap.size w w') : Blk w' g t cs := (hb.block g h.lt).trans h
theorem Blk.below_at {B : Nat} (h : Blk w g t cs) (hb : Below B w w') (hg : g < B) : Blk w' g t cs := (hb.block g hg).trans h
theorem Blk.own {o : Obj} (hb : Below (w.alloc o).heap.size (w.alloc o) w') : w'.heap[w.heap.size]? = some o ∧ w.heap.size < w'.heap.size := by
  have h1 : w.heap.size < (w.alloc o).heap.size := by simp
  refine ⟨(hb.block _ h1).trans ?_, Nat.lt_of_lt_of_le h1 hb.size⟩
  exact heap_alloc_new w o
theorem Blk.ne_ {g' : Nat} {t' : TypeId} {cs' : Array Value} {fr : Nat × Nat} (h : Blk w g t cs) (h' : w.heap[g']? = some (.cells cs' t' fr)) (hne : t ≠ t') : g ≠ g' := by
  rintro rfl
  unfold Blk at h
  rw [h] at h'
  injection h' with h'
  injection h' with _ ht
  exact hne ht
end
theorem below_own {w w1 : World} {o : Obj} (hb : Below (w.alloc o).heap.size (w.alloc o) w1) : Below w.heap.size w w1 :=
  ((Below.refl _ _).alloc (Nat.le_refl _) _).trans (hb.mono (by simp))
theorem below_drew {w w1 : World} {B : Nat} (hb : Below B w.drew w1) : Below B w w1 := ⟨hb.os, hb.tape, hb.output, hb.size, hb.block⟩
/-- A row keeps lying where only other blocks have changed. -/
theorem ownsRow_only {S : Nat → Prop} {w w' : World} {base : Nat} {e : TypeId} {size : Nat} {v : Value} {n : Nat} {xs : List Value} (h : w.ownsRow base e size v n xs) (ho : Only S w w') (hn : ∀ k, v.ownBlock = some k → ¬ S k) : w'.ownsRow base e size v n xs := by
  refine ⟨h.1, ?_⟩
  rcases h.2 with h2 | ⟨g, cap, cur, hv, hg, hh, r⟩
  · exact Or.inl h2
  · exact Or.inr ⟨g, cap, cur, hv, hg, (ho.block g (lt_of_heap hh) (hn g (by rw [hv]; rfl))).trans hh, r⟩
theorem ownsRow_base {w : World} {base base' : Nat} {e : TypeId} {size : Nat} {v : Value} {n : Nat} {xs : List Value} (h : w.ownsRow base e size v n xs) (hb : base' ≤ base) : w.ownsRow base' e size v n xs := by
  refine ⟨h.1, ?_⟩
  rcases h.2 with h2 | ⟨g, cap, cur, hv, hg, r⟩
  · exact Or.inl h2
  · exact Or.inr ⟨g, cap, cur, hv, by omega, r⟩
/-- What a slice hands to append or to a conversion: m elements of some cells, read at its address. -/
def Src (w : World) (size : Nat) (A : Option Addr) (m : Nat) (news : List Value) : Prop :=
  news.length = m * size ∧ (A = none → m = 0) ∧ ∀ a, A = some a → ∀ j u, news[j]? = some u → w.cell? (a.add j) = some u
section
variable {P : Program} (w : World)
theorem run_append_none_any (base : Nat) (t ty e : TypeId) (i : TypeInfo) (size : Nat) (ht : P.underlying t = some (.slice e)) (hi : P.info? e = some i)
    (v : Value) (n : Nat) (xs : List Value) (hown : w.ownsRow base e size v n xs) (c : Nat) :
    (Builtin.append_ #[t, t] ty #[v, .slice none 0 c]).run P w = .ok v w := by
  rcases hown.2 with ⟨rfl, rfl⟩ | ⟨g, cap, cur, rfl, _, _, hnc, _⟩
  · simp [Builtin.append_, run_underlying ht, sizeOf, typeInfo, hi, Builtin.lenOf, Builtin.firstCells]
  · simp [Builtin.append_, run_underlying ht, sizeOf, typeInfo, hi, Builtin.lenOf, Builtin.firstCells, hnc, storeCells]
/-- append onto a row of the call's own, whatever the source. -/
theorem run_append_src (base : Nat) (t ty e : TypeId) (i : TypeInfo) (z : Value) (size bytes : Nat) (ht : P.underlying t = some (.slice e)) (hi : P.info? e = some i) (hz : i.zero = some z)
    (hsize : i.size = size) (hby : i.bytes = bytes) (hzs : z.cells.size = size) (hsz : 0 < size)
    (v : Value) (n : Nat) (xs : List Value) (hown : w.ownsRow base e size v n xs)
    (A : Option Addr) (m c : Nat) (news : List Value) (hs : Src w size A m news) (h1 : ∀ u ∈ news, u.oneCell' = true)
    (h63 : n + m ≤ maxLen) (hbytes : (n + m) * bytes ≤ 140737488355328) (hbase : base ≤ w.heap.size) :
    ∃ v' w', (Builtin.append_ #[t, t] ty #[v, .slice A m c]).run P w = .ok v' w' ∧ w'.ownsRow base e size v' (n + m) (xs ++ news) ∧ w.grownBy w' v.ownBlock ∧
      (v'.ownBlock = v.ownBlock ∨ v'.ownBlock = some w.heap.size) := by
  obtain ⟨hl, hn, hc⟩ := hs
  cases A with
  | none =>
    have hm := hn rfl
    subst hm
    have : news = [] := by simpa using hl
    subst this
    exact ⟨v, w, run_append_none_any w base t ty e i size ht hi v n xs hown c, by simpa using hown, World.grownBy.refl w _, .inl rfl⟩
  | some a =>
    obtain ⟨v', w', hrun, h2, h3, _, h5⟩ := run_append_own_at (P := P) w base t ty e i z size bytes ht hi hz hsize hby hzs hsz v n xs hown a m c news hl (hc a rfl) h1 h63 hbytes hbase
    exact ⟨v', w', hrun, h2, h3, h5⟩
theorem wp_append_src {o : Oper} {a : Act} {K : Act → World → Prop} {Q : Exit → Act → World → Prop} (s x : Operand) (t : TypeId)
    (ho : o.op = .call { callee := .builtin .append, args := #[s, x], argTypes := #[t, t] })
    (base : Nat) (e : TypeId) (i : TypeInfo) (z : Value) (size bytes : Nat) (ht : P.underlying t = some (.slice e)) (hi : P.info? e = some i) (hz : i.zero = some z)
    (hsize : i.size = size) (hby : i.bytes = bytes) (hzs : z.cells.size = size) (hsz : 0 < size)
    (v : Value) (n : Nat) (xs : List Value) (hs : a.eval s = v) (hown : w.ownsRow base e size v n xs)
    (A : Option Addr) (m c : Nat) (news : List Value) (hx : a.eval x = .slice A m c) (hr : Src w size A m news) (h1 : ∀ u ∈ news, u.oneCell' = true)
    (h63 : n + m ≤ maxLen) (hbytes : (n + m) * bytes ≤ 140737488355328) (hbase : base ≤ w.heap.size)
    (h : ∀ v' w', w'.ownsRow base e size v' (n + m) (xs ++ news) → w.grownBy w' v.ownBlock → (v'.ownBlock = v.ownBlock ∨ v'.ownBlock = some w.heap.size) → K (a.put o.dst v') w') : o.wp P a w K Q := by
  obtain ⟨v', w', hrun, h2, h3, h4⟩ := run_append_src (P := P) w base t o.type e i z size bytes ht hi hz hsize hby hzs hsz v n xs hown A m c news hr h1 h63 hbytes hbase
  unfold Oper.wp execOp
  simp only [ho, resolve, invoke, builtin, Sem.run_bind, Sem.run_pure, Result.andThen_ok, List.map_toArray, List.map_cons, List.map_nil, hs, hx, hrun]
  exact h v' w' h2 h3 h4
theorem wpList_append_src {ops : Array Oper} {rest : List Oper} {o : Oper} {a : Act} {Q : Exit → Act → World → Prop} (hgd : o.guard = none) (s x : Operand) (t : TypeId)
    (ho : o.op = .call { callee := .builtin .append, args := #[s, x], argTypes := #[t, t] })
    (base : Nat) (e : TypeId) (i : TypeInfo) (z : Value) (size bytes : Nat) (ht : P.underlying t = some (.slice e)) (hi : P.info? e = some i) (hz : i.zero = some z)
    (hsize : i.size = size) (hby : i.bytes = bytes) (hzs : z.cells.size = size) (hsz : 0 < size)
    (v : Value) (n : Nat) (xs : List Value) (hs : a.eval s = v) (hown : w.ownsRow base e size v n xs)
    (A : Option Addr) (m c : Nat) (news : List Value) (hx : a.eval x = .slice A m c) (hr : Src w size A m news) (h1 : ∀ u ∈ news, u.oneCell' = true)
    (h63 : n + m ≤ maxLen) (hbytes : (n + m) * bytes ≤ 140737488355328) (hbase : base ≤ w.heap.size)
    (h : ∀ v' w', w'.ownsRow base e size v' (n + m) (xs ++ news) → w.grownBy w' v.ownBlock → (v'.ownBlock = v.ownBlock ∨ v'.ownBlock = some w.heap.size) → wpList P ops Q rest (a.put o.dst v') w') : wpList P ops Q (o :: rest) a w :=
  wpList_plain hgd fun _ hK => wp_append_src w s x t ho base e i z size bytes ht hi hz hsize hby hzs hsz v n xs hs hown A m c news hx hr h1 h63 hbytes hbase fun v' w' h2 h3 h4 => hK _ _ (h v' w' h2 h3 h4)
theorem step_append_src {ops : Array Oper} {o : Oper} {a : Act} {K : Act → World → Prop} {Q : Exit → Act → World → Prop} {E : Prop} (hgd : o.guard = none) (s x : Operand) (t : TypeId)
    (ho : o.op = .call { callee := .builtin .append, args := #[s, x], argTypes := #[t, t] })
    (base : Nat) (e : TypeId) (i : TypeInfo) (z : Value) (size bytes : Nat) (ht : P.underlying t = some (.slice e)) (hi : P.info? e = some i) (hz : i.zero = some z)
    (hsize : i.size = size) (hby : i.bytes = bytes) (hzs : z.cells.size = size) (hsz : 0 < size)
    (v : Value) (n : Nat) (xs : List Value) (hs : a.eval s = v) (hown : w.ownsRow base e size v n xs)
    (A : Option Addr) (m c : Nat) (news : List Value) (hx : a.eval x = .slice A m c) (hr : Src w size A m news) (h1 : ∀ u ∈ news, u.oneCell' = true)
    (h63 : n + m ≤ maxLen) (hbytes : (n + m) * bytes ≤ 140737488355328) (hbase : base ≤ w.heap.size)
    (h : ∀ v' w', w'.ownsRow base e size v' (n + m) (xs ++ news) → w.grownBy w' v.ownBlock → (v'.ownBlock = v.ownBlock ∨ v'.ownBlock = some w.heap.size) → K (a.put o.dst v') w') :
    if Region.wanted o (yielded ops a.tmps) = true then Oper.wp P o a w K Q else E := by
  have hw : Region.wanted o (yielded ops a.tmps) = true := by simp [Region.wanted, hgd]
  rw [if_pos hw]
  exact wp_append_src w s x t ho base e i z size bytes ht hi hz hsize hby hzs hsz v n xs hs hown A m c news hx hr h1 h63 hbytes hbase h
end
/-- The cells of bytes. -/
def bcells (bs : List UInt8) : List Value := bs.map fun x => .int .u8 (x.toNat : Int)
theorem bcells_length (bs : List UInt8) : (bcells bs).length = bs.length := by simp [bcells]
theorem bcells_one (bs : List UInt8) : ∀ u ∈ bcells bs, u.oneCell' = true := by
  intro u hu
  simp only [bcells, List.mem_map] at hu
  obtain ⟨x, _, rfl⟩ := hu
  rfl
/-- A slice that reads as bytes: it lies below block B, or in a block of bytes. -/
def Bts (w : World) (B U : Nat) (v : Value) (bs : List UInt8) : Prop :=
  ∃ A cap, v = .slice A bs.length cap ∧ bs.length ≤ cap ∧ cap ≤ maxLen ∧ (A = none → bs.length = 0) ∧
    (0 < bs.length → ∃ b off, A = some ⟨b, off, none⟩ ∧ b < w.heap.size ∧ (b < B ∨ ∃ c fr, w.heap[b]? = some (.cells c U fr)) ∧ ∀ i (h : i < bs.length), w.cell? ⟨b, off + i, none⟩ = some (.int .u8 (bs[i].toNat : Int)))
/-- What all slices of bytes keep: old blocks below B, and blocks of bytes, are as they were. -/
def KeepB (B U : Nat) (w w' : World) : Prop :=
  w.heap.size ≤ w'.heap.size ∧ ∀ k, k < w.heap.size → (k < B ∨ ∃ c fr, w.heap[k]? = some (.cells c U fr)) → w'.heap[k]? = w.heap[k]?
section
variable {w w' w2 : World} {B U : Nat} {v : Value} {bs : List UInt8}
theorem KeepB.refl (B U : Nat) (w : World) : KeepB B U w w := ⟨Nat.le_refl _, fun _ _ _ => rfl⟩
theorem KeepB.of_below (h : Below w.heap.size w w') : KeepB B U w w' := ⟨h.size, fun k hk _ => h.block k hk⟩
theorem KeepB.of_only {S : Nat → Prop} (h : Only S w w') (hS : ∀ k, k < w.heap.size → S k → B ≤ k ∧ ∀ c fr, w.heap[k]? ≠ some (.cells c U fr)) : KeepB B U w w' :=
  ⟨h.size, fun k hk hc => h.block k hk (fun hs => by
    obtain ⟨h1, h2⟩ := hS k hk hs
    rcases hc with hc | ⟨c, fr, hc⟩
    · omega
    · exact h2 c fr hc)⟩
theorem KeepB.trans (h : KeepB B U w w') (k : KeepB B U w' w2) : KeepB B U w w2 :=
  ⟨Nat.le_trans h.1 k.1, fun i hi hc => (k.2 i (Nat.lt_of_lt_of_le hi h.1) (by
    rcases hc with hc | ⟨c, fr, hc⟩
    · exact .inl hc
    · exact .inr ⟨c, fr, by rw [h.2 i hi (.inr ⟨c, fr, hc⟩)]; exact hc⟩)).trans (h.2 i hi hc)⟩
theorem Bts.keep (h : Bts w B U v bs) (k : KeepB B U w w') : Bts w' B U v bs := by
  obtain ⟨A, cap, hv, hl, hm, hn, hr⟩ := h
  refine ⟨A, cap, hv, hl, hm, hn, fun h0 => ?_⟩
  obtain ⟨b, off, hA, hb, ht, hc⟩ := hr h0
  have e := k.2 b hb ht
  refine ⟨b, off, hA, Nat.lt_of_lt_of_le hb k.1, ?_, fun i hi => ?_⟩
  · rcases ht with ht | ⟨c, fr, ht⟩
    · exact .inl ht
    · exact .inr ⟨c, fr, by rw [e]; exact ht⟩
  · rw [World.cell?_of_block (w := w) (a := ⟨b, off + i, none⟩) e]
    exact hc i hi
theorem Bts.below (h : Bts w B U v bs) (k : Below w.heap.size w w') : Bts w' B U v bs := h.keep (KeepB.of_below k)
theorem Bts.alloc (h : Bts w B U v bs) (o : Obj) : Bts (w.alloc o) B U v bs := h.below ((Below.refl _ _).alloc (Nat.le_refl _) _)
theorem Bts.drew (h : Bts w B U v bs) : Bts w.drew B U v bs := h
theorem Bts.nil (w : World) (B U : Nat) : Bts w B U (.slice none 0 0) [] := ⟨none, 0, rfl, Nat.le_refl _, Nat.zero_le _, fun _ => rfl, fun h => by simp at h⟩
/-- Only other blocks have changed (in which no byte of this slice lies). -/
theorem Bts.only {S : Nat → Prop} (h : Bts w B U v bs) (k : Only S w w') (hn : ∀ g, v.ownBlock = some g → ¬ S g) : Bts w' B U v bs := by
  obtain ⟨A, cap, hv, hl, hm, hnn, hr⟩ := h
  refine ⟨A, cap, hv, hl, hm, hnn, fun h0 => ?_⟩
  obtain ⟨b, off, hA, hb, ht, hc⟩ := hr h0
  have e := k.block b hb (hn b (by rw [hv, hA]; rfl))
  refine ⟨b, off, hA, Nat.lt_of_lt_of_le hb k.size, ?_, fun i hi => ?_⟩
  · rcases ht with ht | ⟨c, fr, ht⟩
    · exact .inl ht
    · exact .inr ⟨c, fr, by rw [e]; exact ht⟩
  · rw [World.cell?_of_block (w := w) (a := ⟨b, off + i, none⟩) e]
    exact hc i hi
/-- A row of bytes of the call's own reads as bytes. -/
theorem Bts.of_own {base : Nat} (h : w.ownsRow base U 1 v bs.length (bcells bs)) (B : Nat) : Bts w B U v bs := by
  rcases h.2 with ⟨hv, h0⟩ | ⟨g, cap, cur, hv, hg, hh, hnc, hm, hcs, ht⟩
  · exact ⟨none, 0, by rw [hv, h0], by omega, Nat.zero_le _, fun _ => h0, fun h => by omega⟩
  · refine ⟨some ⟨g, 0, none⟩, cap, hv, hnc, hm, (fun h => by cases h), fun _ => ⟨g, 0, rfl, lt_of_heap hh, .inr ⟨_, _, hh⟩, fun i hi => ?_⟩⟩
    have hc : cur[i]? = some (.int .u8 (bs[i].toNat : Int)) := by
      have : (cur.toList.take (bs.length * 1))[i]? = some (.int .u8 (bs[i].toNat : Int)) := by
        rw [ht]
        simp [bcells, hi]
      rw [List.getElem?_take, if_pos (by omega)] at this
      simpa using this
    simp only [Nat.zero_add]
    simp [World.cell?, hh, hc]
theorem add_plain (b off j : Nat) : (⟨b, off, none⟩ : Addr).add j = ⟨b, off + j, none⟩ := by
  unfold Addr.add
  split
  · rename_i h; subst h; rfl
  · rfl
/-- What such a slice hands to append. -/
theorem Bts.src (h : Bts w B U v bs) : ∃ A cap, v = .slice A bs.length cap ∧ Src w 1 A bs.length (bcells bs) := by
  obtain ⟨A, cap, hv, _, _, hn, hr⟩ := h
  refine ⟨A, cap, hv, by simp [bcells], hn, fun a ha j u hu => ?_⟩
  have hj : j < bs.length := by
    have := (List.getElem?_eq_some_iff.1 hu).1
    simpa [bcells] using this
  obtain ⟨b, off, hA, _, _, hc⟩ := hr (by omega)
  rw [ha] at hA
  injection hA with hA
  subst hA
  rw [add_plain, hc j hj]
  simp [bcells, hj] at hu
  rw [hu]
theorem Bts.src_at {A : Option Addr} {n cap : Nat} (h : Bts w B U (.slice A n cap) bs) : n = bs.length ∧ Src w 1 A bs.length (bcells bs) := by
  obtain ⟨A', cap', e, hs⟩ := h.src
  injection e with e1 e2 e3
  subst e1
  exact ⟨e2, hs⟩
theorem Bts.form (h : Bts w B U v bs) : ∃ A cap, v = .slice A bs.length cap := by obtain ⟨A, cap, hv, _⟩ := h; exact ⟨A, cap, hv⟩
theorem Bts.le (h : Bts w B U v bs) : bs.length ≤ maxLen := by obtain ⟨_, _, _, h1, h2, _⟩ := h; omega
/-- Its conversion to a string. -/
theorem Bts.string {P : Program} (h : Bts w B U v bs) (src dst : TypeId) (hs : P.underlying src = some (.slice U)) (he : P.underlying U = some (.int .u8)) (hd : P.underlying dst = some .string) :
    (convert src dst v).run P w = .ok (.string ⟨bs.toArray⟩) w := by
  obtain ⟨A, cap, rfl, _, _, hn, hr⟩ := h
  cases A with
  | none =>
    have h0 := hn rfl
    have : bs = [] := by simpa using h0
    subst this
    exact run_convert_bytes_nil w src U hs he _ _ dst hd
  | some a =>
    refine run_convert_bytes_back w src dst U a cap bs hs he hd fun j hj => ?_
    obtain ⟨b, off, hA, _, _, hc⟩ := hr (by omega)
    injection hA with hA
    subst hA
    rw [add_plain]
    exact hc j hj
end
theorem own_form {w : World} {base : Nat} {e : TypeId} {size : Nat} {v : Value} {n : Nat} {xs : List Value} (h : w.ownsRow base e size v n xs) : ∃ A cap, v = .slice A n cap ∧ n ≤ cap ∧ cap ≤ maxLen := by
  rcases h.2 with ⟨rfl, rfl⟩ | ⟨g, cap, cur, rfl, _, _, h1, h2, _⟩
  · exact ⟨none, 0, rfl, Nat.le_refl _, Nat.zero_le _⟩
  · exact ⟨_, _, rfl, h1, h2⟩
theorem below_own2 {w w1 : World} {o o2 : Obj} (hb : Below ((w.alloc o).alloc o2).heap.size ((w.alloc o).alloc o2) w1) : Below w.heap.size w w1 :=
  (((Below.refl _ _).alloc (Nat.le_refl _) _).alloc (by simp) _).trans (hb.mono (by simp; omega))
theorem own_empty (w : World) (e : TypeId) (size : Nat) : (w.alloc (.cells #[] e)).ownsRow w.heap.size e size (.slice (some ⟨w.heap.size, 0, none⟩) 0 0) 0 [] :=
  World.ownsRow_made w #[] 0 (Nat.le_refl _) (by unfold maxLen; omega) (by simp)
end Go.Proofs.YtloecagaldepfaaGreatDoor
