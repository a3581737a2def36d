/- Layer 45: copies of rows: the operations, the ends. -/
import Derived.Test.YtffigmciclopdaaDoorJouG
namespace Go.Proofs.YtffigmciclopdaaDoor
open Go Go.RowKit

theorem OpsAt.src {w : World} {B : Nat} {A : Option Addr} {n cap : Nat} {ps : List (OpV × Value)} (h : OpsAt w B (.slice A n cap) ps) : n = ps.length ∧ Src w 9 A ps.length (ocs ps) := by
  obtain ⟨⟨A', cap', e, h1, h2, h3, h4⟩, _, _⟩ := h
  injection e with e1 e2 e3
  subst e1
  refine ⟨e2, ocs_length ps, h3, fun a ha j u hu => ?_⟩
  have hj := (List.getElem?_eq_some_iff.1 hu).1
  rw [ocs_length] at hj
  obtain ⟨b, off, hA, _, hc⟩ := h4 (by omega)
  rw [ha] at hA
  injection hA with hA
  subst hA
  have hi : j / 9 < ps.length := by omega
  have hm : j % 9 < 9 := Nat.mod_lt _ (by omega)
  obtain ⟨p, hp⟩ : ∃ p, ps[j / 9]? = some p := ⟨_, List.getElem?_eq_getElem hi⟩
  have e : j = j / 9 * 9 + j % 9 := by omega
  rw [e, ocs_at ps (j / 9) (j % 9) p hp hm] at hu
  rw [add_plain]
  have := hc (j / 9) p hp (j % 9) u hu
  rw [← e] at this
  exact this

/-- A row is handed back. -/
def RowRet (e : TypeId) (size n : Nat) (xs : List Value) (w : World) (en : Ending) (w' : World) : Prop :=
  ∃ v, en = .returned v ∧ w'.ownsRow w.heap.size e size v n xs ∧ Below w.heap.size w w'

theorem own_empty9 (w : World) : (w.alloc (.cells #[] 43)).ownsRow w.heap.size 43 9 (.slice (some ⟨w.heap.size, 0, none⟩) 0 0) 0 [] := own_empty w _ _

set_option maxRecDepth 100000 in
set_option maxHeartbeats 1000000 in
theorem opsClone_any (B : Nat) (v : Value) (ps : List (OpV × Value)) (w : World) (h : OpsAt w B v ps) (hl : ps.length ≤ 1000000) :
    Calls Tryd.prog 34 #[v] w (RowRet 43 9 ps.length (ocs ps) w) := by
  obtain ⟨j0, kj0, jz0, jz1, jz2⟩ := info_parts op_info
  obtain ⟨A, cap, rfl⟩ := h.slice
  have HL := Lib.hid hl
  have H1 := Lib.hid (ocs_one ps (fun p hp => by obtain ⟨A, c, e⟩ := (h.vals p hp).form; exact ⟨A, _, c, e⟩))
  cases A with
  | none =>
    have h0 : ps.length = 0 := h.src.2.2.1 rfl
    have : ps = [] := by simpa using h0
    subst this
    clear h hl h0 H1
    go_enter Tryd.func34, Tryd.ntmps34
    go_wp2
    go_ret
    exact ⟨_, rfl, World.ownsRow_nil _ _ _ _, Below.refl _ _⟩
  | some a =>
    have HS := Lib.hid (fun ob => (h.below ((Below.refl _ w).alloc (Nat.le_refl _) ob)).src.2)
    clear h hl
    go_enter Tryd.func34, Tryd.ntmps34
    go_wp2_with (at_builtin; refine wpList_append_src _ rfl _ _ _ rfl w.heap.size 43 j0 _ 9 96 Tryd.underlying25 kj0 jz0 jz1 jz2 rfl (by decide) _ 0 [] rfl (own_empty9 w) (some a) ps.length cap (ocs ps) rfl (HS.out _) H1.out (by have := HL.out; unfold maxLen; omega) (by have := HL.out; omega) (by simp) ?_; intro v1 w1 hown hg hat)
    go_ret
    refine ⟨v1, rfl, by simpa using hown, ?_⟩
    exact ((Below.refl _ _).alloc (Nat.le_refl _) _).grown hg (by simp) (by intro k hk; cases hk; exact Nat.le_refl _)

theorem src_row {w : World} {base : Nat} {e : TypeId} {size : Nat} {A : Option Addr} {n cap : Nat} {xs : List Value} (h : w.ownsRow base e size (.slice A n cap) n xs) : Src w size A n xs := by
  refine ⟨h.1, fun hA => ?_, fun a ha j u hu => ?_⟩
  · rcases h.2 with ⟨_, h0⟩ | ⟨g, c, cur, hv, _⟩
    · exact h0
    · subst hA; injection hv with e1; cases e1
  · rcases h.2 with ⟨hv, h0⟩ | ⟨g, c, cur, hv, hg, hh, _⟩
    · have := (List.getElem?_eq_some_iff.1 hu).1
      rw [h.1, h0] at this
      omega
    · injection hv with e1 e2 e3
      rw [e1] at ha
      injection ha with ha
      subst ha
      subst e1
      exact h.cells (g := g) rfl j u hu

theorem ncs_one (es : List Nat) : ∀ u ∈ ncs es, u.oneCell' = true := by
  intro u hu
  simp only [ncs, List.mem_map] at hu
  obtain ⟨n, _, rfl⟩ := hu
  rfl

set_option maxRecDepth 100000 in
set_option maxHeartbeats 1000000 in
theorem intsClone_any (base : Nat) (v : Value) (es : List Nat) (w : World) (h : w.ownsRow base 3 1 v es.length (ncs es)) (hl : es.length ≤ 1000000) :
    Calls Tryd.prog 33 #[v] w (RowRet 3 1 es.length (ncs es) w) := by
  obtain ⟨j0, kj0, jz0, jz1, jz2⟩ := info_parts int_info
  obtain ⟨A, cap, rfl, _, _⟩ := own_form h
  have HL := Lib.hid hl
  cases A with
  | none =>
    have h0 : es.length = 0 := (src_row h).2.1 rfl
    have : es = [] := by simpa using h0
    subst this
    clear h hl h0
    go_enter Tryd.func33, Tryd.ntmps33
    go_wp2
    go_ret
    exact ⟨_, rfl, World.ownsRow_nil _ _ _ _, Below.refl _ _⟩
  | some a =>
    have HS := Lib.hid (fun ob => src_row (own_later h ((Below.refl _ w).alloc (Nat.le_refl _) ob)))
    clear h hl
    go_enter Tryd.func33, Tryd.ntmps33
    go_wp2_with (at_builtin; refine wpList_append_src _ rfl _ _ _ rfl w.heap.size 3 j0 _ 1 8 Tryd.underlying29 kj0 jz0 jz1 jz2 rfl (by decide) _ 0 [] rfl (own_empty w _ _) (some a) es.length cap (ncs es) rfl (HS.out _) (ncs_one _) (by have := HL.out; unfold maxLen; omega) (by have := HL.out; omega) (by simp) ?_; intro v1 w1 hown hg hat)
    go_ret
    refine ⟨v1, rfl, by simpa using hown, ?_⟩
    exact ((Below.refl _ _).alloc (Nat.le_refl _) _).grown hg (by simp) (by intro k hk; cases hk; exact Nat.le_refl _)

end Go.Proofs.YtffigmciclopdaaDoor
