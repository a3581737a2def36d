/- Layer 45: Ops, Record, Copy. -/
import Derived.Test.YtffigmciclopdaaDoorJouH
namespace Go.Proofs.YtffigmciclopdaaDoor
open Go Go.RowKit

theorem ocs_set : ∀ (ps : List (OpV × Value)) (i : Nat) (p : OpV × Value) (u : Value), ps[i]? = some p → (ocs ps).set (i * 9 + 3) u = ocs (ps.set i (p.1, u))
  | [], i, p, u, h => by simp at h
  | q :: ps, 0, p, u, h => by
    have e : q = p := by simpa using h
    subst e
    rfl
  | q :: ps, i + 1, p, u, h => by
    have e1 : ocs (q :: ps) = opcs q.1 q.2 ++ ocs ps := rfl
    have e2 : ocs ((q :: ps).set (i + 1) (p.1, u)) = opcs q.1 q.2 ++ ocs (ps.set i (p.1, u)) := rfl
    rw [e1, e2, ← ocs_set ps i p u (by simpa using h), List.set_append_right _ _ (by simp [opcs]; omega)]
    congr 2
    simp [opcs]; omega

theorem set_same {α : Type} (l : List α) (i : Nat) (x : α) (h : l[i]? = some x) : l.set i x = l := by
  apply List.ext_getElem?
  intro j
  rw [List.getElem?_set]
  split
  · rename_i e; subst e; rw [h]; simp [(List.getElem?_eq_some_iff.1 h).1]
  · rfl

/-- A row of operations with values of its own. -/
structure OpsNew (w : World) (base : Nat) (v : Value) (ps : List (OpV × Value)) : Prop where
  row : w.ownsRow base 43 9 v ps.length (ocs ps)
  vals : ∀ p ∈ ps, w.ownsRow base 5 1 p.2 p.1.val.length (bcells p.1.val)
  wf : ∀ p ∈ ps, 0 ≤ p.1.ticks
theorem OpsNew.at_ {w : World} {base B : Nat} {v : Value} {ps : List (OpV × Value)} (h : OpsNew w base v ps) : OpsAt w B v ps := OpsAt.of_own h.row (fun p hp => Bts.of_own (h.vals p hp) B) h.wf
theorem OpsNew.below {w w' : World} {base : Nat} {v : Value} {ps : List (OpV × Value)} (h : OpsNew w base v ps) (hb : Below w.heap.size w w') : OpsNew w' base v ps :=
  ⟨own_later h.row hb, fun p hp => own_later (h.vals p hp) hb, h.wf⟩
theorem OpsNew.base {w : World} {base base' : Nat} {v : Value} {ps : List (OpV × Value)} (h : OpsNew w base v ps) (hb : base' ≤ base) : OpsNew w base' v ps := ⟨ownsRow_base h.row hb, fun p hp => ownsRow_base (h.vals p hp) hb, h.wf⟩

/-- Copies of operations. -/
def OpsRet (ps : List (OpV × Value)) (w : World) (e : Ending) (w' : World) : Prop :=
  ∃ v qs, e = .returned v ∧ qs.map Prod.fst = ps.map Prod.fst ∧ OpsNew w' w.heap.size v qs ∧ Below w.heap.size w w'

structure OsI (w wr : World) (B g n cap : Nat) (ps qs : List (OpV × Value)) (m : Nat) : Prop where
  row : wr.ownsRow w.heap.size 43 9 (.slice (some ⟨g, 0, none⟩) n cap) n (ocs qs)
  len : qs.length = n
  map : qs.map Prod.fst = ps.map Prod.fst
  done : ∀ i p, i < m → qs[i]? = some p → wr.ownsRow w.heap.size 5 1 p.2 p.1.val.length (bcells p.1.val)
  rest : ∀ i, m ≤ i → qs[i]? = ps[i]?
  vals : ∀ p ∈ ps, Bts wr B 5 p.2 p.1.val
  below : Below w.heap.size w wr

theorem OsI.step {w wr w1 : World} {B g n cap m : Nat} {ps qs : List (OpV × Value)} {p : OpV × Value} {V : Value} (h : OsI w wr B g n cap ps qs m) (hp : qs[m]? = some p) (hb : Below wr.heap.size wr w1)
    (hV : w1.ownsRow wr.heap.size 5 1 V p.1.val.length (bcells p.1.val)) (hB : B ≤ w.heap.size) : OsI w (w1.setCell ⟨g, m * 9 + 3, none⟩ V) B g n cap ps (qs.set m (p.1, V)) (m + 1) := by
  obtain ⟨hi, hx⟩ := List.getElem?_eq_some_iff.1 hp
  have hrow1 := own_later h.row hb
  have ho : Only (fun k => k = g) w1 (w1.setCell ⟨g, m * 9 + 3, none⟩ V) := Only.set1 w1 g _ V
  have hne : ∀ {base : Nat} {v : Value} {k : Nat} {xs : List Value}, w1.ownsRow base 5 1 v k xs → w.heap.size ≤ base → (w1.setCell ⟨g, m * 9 + 3, none⟩ V).ownsRow w.heap.size 5 1 v k xs := fun hv hbs =>
    ownsRow_base (ownsRow_only hv ho (fun k hk e => by subst e; exact row_differs hv hrow1 (by decide) _ hk rfl)) hbs
  have hg0 := (row_heap h.row (k := g) rfl).1
  have hkb : KeepB B 5 w1 (w1.setCell ⟨g, m * 9 + 3, none⟩ V) := KeepB.of_only ho fun k _ e => by
    subst e
    obtain ⟨_, cur, hc⟩ := row_heap hrow1 (k := k) rfl
    exact ⟨by omega, fun c fr hc2 => by rw [hc] at hc2; injection hc2 with hc2; injection hc2 with _ ht; exact absurd ht (by decide)⟩
  refine ⟨?_, by rw [List.length_set]; exact h.len, ?_, ?_, ?_, fun q hq => ((h.vals q hq).below hb).keep hkb, ?_⟩
  · have := (hrow1.stored (m * 9 + 3) V).1
    rwa [ocs_set qs m p V hp] at this
  · rw [List.map_set, ← h.map]
    have : (qs.map Prod.fst)[m]? = some p.1 := by rw [List.getElem?_map, hp]; rfl
    exact set_same _ _ _ this
  · intro i q hi' hq
    by_cases e : i = m
    · subst e
      rw [List.getElem?_set_self hi] at hq
      injection hq with hq
      subst hq
      exact hne hV h.below.size
    · rw [List.getElem?_set_ne (fun h => e h.symm)] at hq
      exact hne (own_later (h.done i q (by omega) hq) hb) (Nat.le_refl _)
  · intro i hi'
    rw [List.getElem?_set_ne (by omega)]
    exact h.rest i (by omega)
  · exact (h.below.trans (hb.mono h.below.size)).setCell (by show w.heap.size ≤ g; omega) _

set_option maxRecDepth 100000 in
set_option maxHeartbeats 2000000 in
theorem jOps_any (B b : Nat) (dv ev ov : Value) (ds : List UInt8) (es : List Nat) (ps : List (OpV × Value)) (w : World) (h : JRep w B b dv ev ov ds es ps) (hB : B ≤ w.heap.size) (hs : ∀ p ∈ ps, p.1.val.length ≤ 1000000) :
    Calls Tryd.prog 24 #[.pointer (some ⟨b, 0, none⟩)] w (OpsRet ps w) := by
  have hpl : ps.length ≤ 4096 := by have := h.elen; have := h.emax; omega
  have hcl := opsClone_any B ov ps w h.opsAt (by omega)
  have HC := Lib.hid hcl
  have HR := Lib.hid h
  have HBs := Lib.hid hB
  have HSm := Lib.hid hs
  have HPl := Lib.hid hpl
  obtain ⟨OA, oc, rfl, _, _⟩ := own_form h.ops
  have x2 : w.cell? ⟨b, 2, none⟩ = some (.slice OA ps.length oc) := h.blk.cell 2 _ rfl
  clear h hcl hB hs hpl
  go_enter Tryd.func24, Tryd.ntmps24
  go_wp2_with fail
  refine HC.out.mono ?_
  rintro e w1 ⟨v, rfl, ho, hb⟩
  have hform := ho.2
  rcases hform with ⟨rfl, h0⟩ | ⟨g, cap, cur, rfl, _⟩
  · have : ps = [] := by simpa using h0
    subst this
    have HB1 := Lib.hid hb
    clear ho hb h0 x2
    go_wp2_with fail
    go_loopw [4, 14] (fun _ i wr => i = .int .i64 0 ∧ wr = w1) (fun _ _ _ => 0)
    case atStart => exact ⟨rfl, rfl⟩
    case round =>
      obtain ⟨rfl, rfl⟩ := hrel
      go_wp2_with fail
      go_ret
      exact ⟨_, [], rfl, rfl, ⟨World.ownsRow_nil _ _ _ _, fun p hp => by simp at hp, fun p hp => by simp at hp⟩, HB1.out⟩
  · have hst : OsI w w1 B g ps.length cap ps ps 0 := ⟨ho, rfl, rfl, fun i p hi => by omega, fun i _ => rfl, fun p hp => (HR.out.vals p hp).1.below hb, hb⟩
    have HSt := Lib.hid hst
    obtain ⟨n, hn⟩ : ∃ n, ps.length = n := ⟨_, rfl⟩
    have HN := Lib.hid hn
    have hnI : n ≤ 4096 := by have := HPl.out; omega
    have HNI := Lib.hid hnI
    rw [hn] at HSt
    clear hst ho hb x2
    rw [hn]
    clear hn hnI
    go_wp2_with fail
    go_loopw [4, 14] (fun _ i wr => ∃ (m : Nat) (qs : List (OpV × Value)), m ≤ n ∧ i = .int .i64 m ∧ OsI w wr B g n cap ps qs m) (fun _ i _ => n - (intOf i).toNat)
    case atStart => exact ⟨0, ps, Nat.zero_le _, rfl, HSt.out⟩
    case round =>
      obtain ⟨m, qs, hm, rfl, hI⟩ := hrel
      have HI := Lib.hid hI
      by_cases hml : m < n
      · have hqi : m < qs.length := by rw [hI.len]; exact hml
        obtain ⟨p, hp⟩ : ∃ p, qs[m]? = some p := ⟨_, List.getElem?_eq_getElem hqi⟩
        have hpp : ps[m]? = some p := by rw [← hI.rest m (Nat.le_refl _)]; exact hp
        have hpm := List.mem_of_getElem? hpp
        have hval := hI.vals p hpm
        have z3 : wr.cell? ⟨g, m * 9 + 3, none⟩ = some p.2 := by
          have := hI.row.cells (g := g) rfl (m * 9 + 3) p.2 (by rw [ocs_at qs m 3 p hp (by omega)]; rfl)
          rw [add_plain, Nat.zero_add] at this
          exact this
        obtain ⟨o, pv⟩ := p
        dsimp only at z3 hval
        obtain ⟨VA, vc, rfl⟩ := hval.form
        have HP := Lib.hid hp
        have hfz : wr.frozen? ⟨g, m * 9 + 3, none⟩ = false := by
          obtain ⟨_, cur, hc⟩ := row_heap hI.row (k := g) rfl
          exact Blk.frozen hc _
        have hlt : g < wr.heap.size := by
          obtain ⟨_, cur, hc⟩ := row_heap hI.row (k := g) rfl
          exact lt_of_heap hc
        have HCl := Lib.hid (bytesClone_any B (.slice VA o.val.length vc) o.val wr hval (by have := HSm.out _ hpm; dsimp only at this; omega))
        have hnI := HNI.out
        have hmI : (m : Int) < (n : Int) := by omega
        clear hp hpp hpm hval hI hqi
        go_wp2_with fail
        refine HCl.out.mono ?_
        rintro e w2 ⟨v2, rfl, ho2, hb2⟩
        have hst := HI.out.step HP.out hb2 ho2 HBs.out
        obtain ⟨A2, c2, rfl, _, _⟩ := own_form ho2
        have HSt2 := Lib.hid hst
        have hr2 := own_later HI.out.row hb2
        have hfz2 : w2.frozen? ⟨g, m * 9 + 3, none⟩ = false := by
          obtain ⟨_, cur, hc⟩ := row_heap hr2 (k := g) rfl
          exact Blk.frozen hc _
        have z4 : w2.cell? ⟨g, m * 9 + 3, none⟩ = some (.slice VA o.val.length vc) := by
          have := hr2.cells (g := g) rfl (m * 9 + 3) (.slice VA o.val.length vc) (by rw [ocs_at qs m 3 _ HP.out (by omega)]; rfl)
          rw [add_plain, Nat.zero_add] at this
          exact this
        clear hst ho2 hb2 hr2 z3 hfz
        go_wp2_with fail
        go_roundw
        case rel => exact ⟨m + 1, _, by omega, by go_num, HSt2.out⟩
        case measure => simp [intOf]; omega
      · obtain rfl : m = n := by omega
        have hmI : ¬ (m : Int) < (m : Int) := by omega
        clear hI
        go_wp2_with fail
        go_ret
        have hI := HI.out
        refine ⟨_, qs, rfl, hI.map, ⟨?_, fun p hp => ?_, fun p hp => ?_⟩, hI.below⟩
        · rw [hI.len]; exact hI.row
        · obtain ⟨i, hi, hpi⟩ := List.getElem_of_mem hp
          exact hI.done i p (by have := hI.len; omega) (by rw [List.getElem?_eq_getElem hi, hpi])
        · have : p.1 ∈ ps.map Prod.fst := by rw [← hI.map]; exact List.mem_map_of_mem hp
          obtain ⟨q, hq, e⟩ := List.mem_map.1 this
          rw [← e]; exact HR.out.wf q hq

end Go.Proofs.YtffigmciclopdaaDoor
