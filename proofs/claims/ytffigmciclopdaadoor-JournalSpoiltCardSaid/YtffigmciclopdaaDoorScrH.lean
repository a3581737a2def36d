/- The walks of layer 26: Valid, Write, Parse. -/
import Derived.Test.YtffigmciclopdaaDoorScrG
namespace Go.Proofs.YtffigmciclopdaaDoor
open Go Go.RowKit

theorem wrOp_pos {o : OpV} {bs : List UInt8} (h : wrOp o = some bs) : 0 < bs.length ∧ bs.length ≤ 292 := by
  unfold wrOp at h
  split at h
  · cases h
  · rename_i hb
    split at h
    · injection h with h
      subst h
      exact ⟨wrRaw_pos _ _, wrRaw_len _ _ (by omega) (by omega)⟩
    · cases h

theorem WrRet.cases {r : Option (List UInt8)} {w : World} {e : Ending} {w' : World} (h : WrRet r w e w') (hp : ∀ bs, r = some bs → 0 < bs.length) :
    (r = none ∧ e = .returned (.slice none 0 0) ∧ Below w.heap.size w w') ∨
    ∃ bs g cap, r = some bs ∧ e = .returned (.slice (some ⟨g, 0, none⟩) bs.length cap) ∧ w'.ownsRow w.heap.size 5 1 (.slice (some ⟨g, 0, none⟩) bs.length cap) bs.length (bcells bs) ∧ Below w.heap.size w w' := by
  cases r with
  | none =>
    obtain ⟨h1, h2⟩ := h
    exact .inl ⟨rfl, h1, h2⟩
  | some bs =>
    obtain ⟨v', rfl, h2, h3⟩ := h
    have := hp bs rfl
    have h2' := h2
    rcases h2.2 with ⟨_, h0⟩ | ⟨g, cap, cur, rfl, _⟩
    · omega
    · exact .inr ⟨bs, g, cap, rfl, rfl, h2', h3⟩

theorem valid_any (B : Nat) (o : OpV) (V : Value) (w : World) (hv : Bts w B 5 V o.val) (hk : KG w) (ht : 0 ≤ o.ticks) :
    Calls Tryd.prog 30 #[opv o V] w fun e w' => e = .returned (.bool (wrOp o).isSome) ∧ Below w.heap.size w w' := by
  obtain ⟨VA, vc, rfl⟩ := hv.form
  have HW := Lib.hid (fun ob => write_any B o (.slice VA o.val.length vc) (w.alloc ob) (hv.alloc _) (hk.below ((Below.refl _ _).alloc (Nat.le_refl _) _) hk.1) ht)
  unfold opv opc
  clear hv hk ht
  go_enter Tryd.func30, Tryd.ntmps30
  go_wp2_with fail
  refine (HW.out _).mono ?_
  intro e w1 hret
  rcases hret.cases (fun bs h => (wrOp_pos h).1) with ⟨hw, rfl, hb⟩ | ⟨bs, g, cap, hw, rfl, ho, hb⟩
  · have HB := Lib.hid hb
    have HS := Lib.hid hw
    clear hw hb hret
    go_wp2_with fail
    go_ret
    exact ⟨by rw [HS.out]; rfl, below_own HB.out⟩
  · have HB := Lib.hid hb
    have HS := Lib.hid hw
    clear hw hb ho hret
    go_wp2_with fail
    go_ret
    exact ⟨by rw [HS.out]; rfl, below_own HB.out⟩

/-- The cells of operations in a row. -/
def ocs (ps : List (OpV × Value)) : List Value := ps.flatMap fun p => opcs p.1 p.2
theorem ocs_length (ps : List (OpV × Value)) : (ocs ps).length = ps.length * 9 := by
  induction ps with
  | nil => rfl
  | cons p ps ih =>
    have : (ocs (p :: ps)).length = (ocs ps).length + 9 := by simp [ocs, opcs]
    rw [this, ih, List.length_cons]; omega
theorem ocs_append (ps qs : List (OpV × Value)) : ocs (ps ++ qs) = ocs ps ++ ocs qs := by simp [ocs]
theorem ocs_at : ∀ (ps : List (OpV × Value)) (i j : Nat) (p : OpV × Value), ps[i]? = some p → j < 9 → (ocs ps)[i * 9 + j]? = (opcs p.1 p.2)[j]?
  | [], i, j, p, h, _ => by simp at h
  | q :: ps, 0, j, p, h, hj => by
    have e : q = p := by simpa using h
    subst e
    have : ocs (q :: ps) = opcs q.1 q.2 ++ ocs ps := rfl
    rw [this, List.getElem?_append_left (by simp [opcs]; omega)]
    simp
  | q :: ps, i + 1, j, p, h, hj => by
    have : ocs (q :: ps) = opcs q.1 q.2 ++ ocs ps := rfl
    rw [this, List.getElem?_append_right (by simp [opcs]; omega)]
    have e : (i + 1) * 9 + j - (opcs q.1 q.2).length = i * 9 + j := by simp [opcs]; omega
    rw [e]
    exact ocs_at ps i j p (by simpa using h) hj
theorem ocs_one (ps : List (OpV × Value)) (h : ∀ p ∈ ps, ∃ A n c, p.2 = .slice A n c) : ∀ u ∈ ocs ps, u.oneCell' = true := by
  intro u hu
  simp only [ocs, List.mem_flatMap] at hu
  obtain ⟨p, hp, hu⟩ := hu
  obtain ⟨A, n, c, e⟩ := h p hp
  simp only [opcs, e, List.mem_cons, List.not_mem_nil, or_false] at hu
  rcases hu with rfl | rfl | rfl | rfl | rfl | rfl | rfl | rfl | rfl <;> rfl

/-- A slice that reads as operations. -/
structure OpsAt (w : World) (B : Nat) (v : Value) (ps : List (OpV × Value)) : Prop where
  form : ∃ A cap, v = .slice A ps.length cap ∧ ps.length ≤ cap ∧ cap ≤ maxLen ∧ (A = none → ps.length = 0) ∧
    (0 < ps.length → ∃ b off, A = some ⟨b, off, none⟩ ∧ b < w.heap.size ∧ ∀ i p, ps[i]? = some p → ∀ j u, (opcs p.1 p.2)[j]? = some u → w.cell? ⟨b, off + (i * 9 + j), none⟩ = some u)
  vals : ∀ p ∈ ps, Bts w B 5 p.2 p.1.val
  wf : ∀ p ∈ ps, 0 ≤ p.1.ticks

section
variable {w w' : World} {B : Nat} {v : Value} {ps : List (OpV × Value)}
theorem OpsAt.below (h : OpsAt w B v ps) (hb : Below w.heap.size w w') : OpsAt w' B v ps := by
  obtain ⟨⟨A, cap, e, h1, h2, h3, h4⟩, h5, h6⟩ := h
  refine ⟨⟨A, cap, e, h1, h2, h3, fun hp => ?_⟩, fun p hp => (h5 p hp).below hb, h6⟩
  obtain ⟨b, off, hA, hlt, hc⟩ := h4 hp
  refine ⟨b, off, hA, Nat.lt_of_lt_of_le hlt hb.size, fun i p hi j u hu => ?_⟩
  rw [World.cell?_of_block (w := w) (a := ⟨b, off + (i * 9 + j), none⟩) (hb.block b hlt)]
  exact hc i p hi j u hu
theorem OpsAt.slice (h : OpsAt w B v ps) : ∃ A cap, v = .slice A ps.length cap := by obtain ⟨⟨A, cap, e, _⟩, _, _⟩ := h; exact ⟨A, cap, e⟩
/-- The cells of the operation with an index. -/
theorem OpsAt.at_ {A : Option Addr} {n cap : Nat} (h : OpsAt w B (.slice A n cap) ps) {i : Nat} {p : OpV × Value} (hi : ps[i]? = some p) : ∃ b off, A = some ⟨b, off, none⟩ ∧ b < w.heap.size ∧
    w.cell? ⟨b, off + i * 9, none⟩ = some (.int .i64 p.1.kind) ∧ w.cell? ⟨b, off + i * 9 + 1, none⟩ = some (.int .u64 p.1.ticks) ∧ w.cell? ⟨b, off + i * 9 + 2, none⟩ = some (.string p.1.key) ∧ w.cell? ⟨b, off + i * 9 + 3, none⟩ = some p.2 ∧ w.cell? ⟨b, off + i * 9 + 4, none⟩ = some (.int .u64 p.1.ttl) ∧ w.cell? ⟨b, off + i * 9 + 5, none⟩ = some (.int .i64 p.1.count) ∧ w.cell? ⟨b, off + i * 9 + 6, none⟩ = some (.int .i64 p.1.bytes) ∧ w.cell? ⟨b, off + i * 9 + 7, none⟩ = some (.int .i64 p.1.cursor) ∧ w.cell? ⟨b, off + i * 9 + 8, none⟩ = some (.int .u64 p.1.birth) := by
  obtain ⟨⟨A', cap', e, h1, h2, h3, h4⟩, h5, h6⟩ := h
  injection e with e1 e2 e3
  subst e1
  have hl := (List.getElem?_eq_some_iff.1 hi).1
  obtain ⟨b, off, hA, hlt, hc⟩ := h4 (by omega)
  refine ⟨b, off, hA, hlt, ?_, ?_, ?_, ?_, ?_, ?_, ?_, ?_, ?_⟩
  · exact hc i p hi 0 _ rfl
  · exact hc i p hi 1 _ rfl
  · exact hc i p hi 2 _ rfl
  · exact hc i p hi 3 _ rfl
  · exact hc i p hi 4 _ rfl
  · exact hc i p hi 5 _ rfl
  · exact hc i p hi 6 _ rfl
  · exact hc i p hi 7 _ rfl
  · exact hc i p hi 8 _ rfl
/-- A row of operations of the call's own. -/
theorem OpsAt.of_own {base : Nat} (h : w.ownsRow base 43 9 v ps.length (ocs ps)) (hv : ∀ p ∈ ps, Bts w B 5 p.2 p.1.val) (hw : ∀ p ∈ ps, 0 ≤ p.1.ticks) : OpsAt w B v ps := by
  refine ⟨?_, hv, hw⟩
  rcases h.2 with ⟨rfl, h0⟩ | ⟨g, cap, cur, rfl, hg, hh, h1, h2, h3, h4⟩
  · exact ⟨none, 0, by rw [h0], by omega, Nat.zero_le _, fun _ => h0, fun hp => by omega⟩
  · refine ⟨some ⟨g, 0, none⟩, cap, rfl, h1, h2, (fun h => by cases h), fun _ => ⟨g, 0, rfl, lt_of_heap hh, fun i p hi j u hu => ?_⟩⟩
    have hj : j < 9 := by have := (List.getElem?_eq_some_iff.1 hu).1; simpa [opcs] using this
    have := h.cells (g := g) rfl (i * 9 + j) u (by rw [ocs_at ps i j p hi hj]; exact hu)
    rw [add_plain] at this
    exact this
end

end Go.Proofs.YtffigmciclopdaaDoor
