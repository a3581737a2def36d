/- The walks of layer 26: the parts of a kind; how an operation is read. -/
import Derived.Test.YtffigmciclopdaaDoorScrC
import Derived.Laws.EntriesVeiled
namespace Go.Proofs.YtffigmciclopdaaDoor
open Go Go.RowKit

def partV (p : Part) : List Value := [.func (.func (rdF p)) #[] #[], .func (.func (wrF p)) #[] #[]]
def pcells (ps : List Part) : List Value := ps.flatMap partV

def mkF : Part → Nat
  | .key => 47
  | .value => 48
  | .ttl => 49
  | .budgets => 50
  | .aim => 51
  | .birth => 52


theorem mk_key (w : World) : Calls Tryd.prog 47 #[] w fun e w' => e = .returned (.agg (partV .key).toArray) ∧ Below w.heap.size w w' := by
  go_enter Tryd.func47, Tryd.ntmps47
  go_wp2_with fail
  refine bodyPost_ret (v := .agg (partV .key).toArray) (by simp [results, Tryd.results47, go_sem, partV, rdF, wrF]) rfl ⟨rfl, ?_⟩
  exact (Below.refl _ _).alloc (Nat.le_refl _) _
theorem mk_value (w : World) : Calls Tryd.prog 48 #[] w fun e w' => e = .returned (.agg (partV .value).toArray) ∧ Below w.heap.size w w' := by
  go_enter Tryd.func48, Tryd.ntmps48
  go_wp2_with fail
  refine bodyPost_ret (v := .agg (partV .value).toArray) (by simp [results, Tryd.results48, go_sem, partV, rdF, wrF]) rfl ⟨rfl, ?_⟩
  exact (Below.refl _ _).alloc (Nat.le_refl _) _
theorem mk_ttl (w : World) : Calls Tryd.prog 49 #[] w fun e w' => e = .returned (.agg (partV .ttl).toArray) ∧ Below w.heap.size w w' := by
  go_enter Tryd.func49, Tryd.ntmps49
  go_wp2_with fail
  refine bodyPost_ret (v := .agg (partV .ttl).toArray) (by simp [results, Tryd.results49, go_sem, partV, rdF, wrF]) rfl ⟨rfl, ?_⟩
  exact (Below.refl _ _).alloc (Nat.le_refl _) _
theorem mk_budgets (w : World) : Calls Tryd.prog 50 #[] w fun e w' => e = .returned (.agg (partV .budgets).toArray) ∧ Below w.heap.size w w' := by
  go_enter Tryd.func50, Tryd.ntmps50
  go_wp2_with fail
  refine bodyPost_ret (v := .agg (partV .budgets).toArray) (by simp [results, Tryd.results50, go_sem, partV, rdF, wrF]) rfl ⟨rfl, ?_⟩
  exact (Below.refl _ _).alloc (Nat.le_refl _) _
theorem mk_aim (w : World) : Calls Tryd.prog 51 #[] w fun e w' => e = .returned (.agg (partV .aim).toArray) ∧ Below w.heap.size w w' := by
  go_enter Tryd.func51, Tryd.ntmps51
  go_wp2_with fail
  refine bodyPost_ret (v := .agg (partV .aim).toArray) (by simp [results, Tryd.results51, go_sem, partV, rdF, wrF]) rfl ⟨rfl, ?_⟩
  exact (Below.refl _ _).alloc (Nat.le_refl _) _
theorem mk_birth (w : World) : Calls Tryd.prog 52 #[] w fun e w' => e = .returned (.agg (partV .birth).toArray) ∧ Below w.heap.size w w' := by
  go_enter Tryd.func52, Tryd.ntmps52
  go_wp2_with fail
  refine bodyPost_ret (v := .agg (partV .birth).toArray) (by simp [results, Tryd.results52, go_sem, partV, rdF, wrF]) rfl ⟨rfl, ?_⟩
  exact (Below.refl _ _).alloc (Nat.le_refl _) _

/-- The parts of a kind, in a new row. -/
def PartsRet (ps : List Part) (w : World) (e : Ending) (w' : World) : Prop :=
  ∃ v, e = .returned v ∧ w'.ownsRow w.heap.size 87 2 v ps.length (pcells ps) ∧ Below w.heap.size w w'

theorem PartsRet.of_row {ps : List Part} {w wx : World} {cs : Array Value} (hb : Below w.heap.size w wx) (hc : cs = (pcells ps).toArray) (hl : ps.length ≤ 3) :
    PartsRet ps w (.returned (.slice (some ⟨wx.heap.size, 0, none⟩) ps.length ps.length)) (wx.alloc (.cells cs 87)) := by
  subst hc
  refine ⟨_, rfl, ?_, hb.alloc hb.size _⟩
  have hs : (pcells ps).toArray.size = ps.length * 2 := by
    have : ∀ l : List Part, (pcells l).length = l.length * 2 := by
      intro l
      induction l with
      | nil => rfl
      | cons p l ih => rw [show pcells (p :: l) = partV p ++ pcells l from rfl, List.length_append, ih, List.length_cons]; simp [partV]; omega
    simpa using this ps
  have := World.ownsRow_lit (base := w.heap.size) (e := 87) (size := 2) wx (pcells ps).toArray ps.length hb.size (by unfold maxLen; omega) hs
  simpa using this



set_option maxHeartbeats 1000000 in
theorem parts_any (k : Int) (w : World) : Calls Tryd.prog 44 #[.int .i64 k] w (PartsRet (partsOf k) w) := by
  rcases (by omega : k = 3 ∨ k = 4 ∨ k = 6 ∨ k = 1 ∨ k = 2 ∨ k = 5 ∨ k = 8 ∨ k = 12 ∨ k = 14 ∨ k = 13 ∨ (k ≠ 3 ∧ k ≠ 4 ∧ k ≠ 6 ∧ k ≠ 1 ∧ k ≠ 2 ∧ k ≠ 5 ∧ k ≠ 8 ∧ k ≠ 12 ∧ k ≠ 14 ∧ k ≠ 13)) with hk | hk | hk | hk | hk | hk | hk | hk | hk | hk | hk
  · subst hk
    go_enter Tryd.func44, Tryd.ntmps44
    go_wp2_with fail
    refine (mk_key _).mono ?_
    rintro e w1 ⟨rfl, h1⟩
    simp only [partV]
    go_wp2_with fail
    go_ret
    exact PartsRet.of_row (ps := [.key]) h1 rfl (by decide)
  · subst hk
    go_enter Tryd.func44, Tryd.ntmps44
    go_wp2_with fail
    refine (mk_key _).mono ?_
    rintro e w1 ⟨rfl, h1⟩
    simp only [partV]
    go_wp2_with fail
    go_ret
    exact PartsRet.of_row (ps := [.key]) h1 rfl (by decide)
  · subst hk
    go_enter Tryd.func44, Tryd.ntmps44
    go_wp2_with fail
    refine (mk_key _).mono ?_
    rintro e w1 ⟨rfl, h1⟩
    simp only [partV]
    go_wp2_with fail
    go_ret
    exact PartsRet.of_row (ps := [.key]) h1 rfl (by decide)
  · subst hk
    go_enter Tryd.func44, Tryd.ntmps44
    go_wp2_with fail
    refine (mk_key _).mono ?_
    rintro e w1 ⟨rfl, h1⟩
    simp only [partV]
    go_wp2_with fail
    refine (mk_value _).mono ?_
    rintro e w2 ⟨rfl, h2⟩
    have h2 := h1.trans (h2.mono h1.size)
    clear h1
    simp only [partV]
    go_wp2_with fail
    go_ret
    exact PartsRet.of_row (ps := [.key, .value]) h2 rfl (by decide)
  · subst hk
    go_enter Tryd.func44, Tryd.ntmps44
    go_wp2_with fail
    refine (mk_key _).mono ?_
    rintro e w1 ⟨rfl, h1⟩
    simp only [partV]
    go_wp2_with fail
    refine (mk_value _).mono ?_
    rintro e w2 ⟨rfl, h2⟩
    have h2 := h1.trans (h2.mono h1.size)
    clear h1
    simp only [partV]
    go_wp2_with fail
    refine (mk_ttl _).mono ?_
    rintro e w3 ⟨rfl, h3⟩
    have h3 := h2.trans (h3.mono h2.size)
    clear h2
    simp only [partV]
    go_wp2_with fail
    go_ret
    exact PartsRet.of_row (ps := [.key, .value, .ttl]) h3 rfl (by decide)
  · subst hk
    go_enter Tryd.func44, Tryd.ntmps44
    go_wp2_with fail
    refine (mk_key _).mono ?_
    rintro e w1 ⟨rfl, h1⟩
    simp only [partV]
    go_wp2_with fail
    refine (mk_ttl _).mono ?_
    rintro e w2 ⟨rfl, h2⟩
    have h2 := h1.trans (h2.mono h1.size)
    clear h1
    simp only [partV]
    go_wp2_with fail
    go_ret
    exact PartsRet.of_row (ps := [.key, .ttl]) h2 rfl (by decide)
  · subst hk
    go_enter Tryd.func44, Tryd.ntmps44
    go_wp2_with fail
    refine (mk_budgets _).mono ?_
    rintro e w1 ⟨rfl, h1⟩
    simp only [partV]
    go_wp2_with fail
    go_ret
    exact PartsRet.of_row (ps := [.budgets]) h1 rfl (by decide)
  · subst hk
    go_enter Tryd.func44, Tryd.ntmps44
    go_wp2_with fail
    refine (mk_aim _).mono ?_
    rintro e w1 ⟨rfl, h1⟩
    simp only [partV]
    go_wp2_with fail
    go_ret
    exact PartsRet.of_row (ps := [.aim]) h1 rfl (by decide)
  · subst hk
    go_enter Tryd.func44, Tryd.ntmps44
    go_wp2_with fail
    refine (mk_aim _).mono ?_
    rintro e w1 ⟨rfl, h1⟩
    simp only [partV]
    go_wp2_with fail
    go_ret
    exact PartsRet.of_row (ps := [.aim]) h1 rfl (by decide)
  · subst hk
    go_enter Tryd.func44, Tryd.ntmps44
    go_wp2_with fail
    refine (mk_aim _).mono ?_
    rintro e w1 ⟨rfl, h1⟩
    simp only [partV]
    go_wp2_with fail
    refine (mk_birth _).mono ?_
    rintro e w2 ⟨rfl, h2⟩
    have h2 := h1.trans (h2.mono h1.size)
    clear h1
    simp only [partV]
    go_wp2_with fail
    go_ret
    exact PartsRet.of_row (ps := [.aim, .birth]) h2 rfl (by decide)
  · obtain ⟨k1, k2, k3, k4, k5, k6, k7, k8, k9, k10⟩ := hk
    have e1 : (k == 3) = false := by simpa using k1
    have e2 : (k == 4) = false := by simpa using k2
    have e3 : (k == 6) = false := by simpa using k3
    have e4 : (k == 1) = false := by simpa using k4
    have e5 : (k == 2) = false := by simpa using k5
    have e6 : (k == 5) = false := by simpa using k6
    have e7 : (k == 8) = false := by simpa using k7
    have e8 : (k == 12) = false := by simpa using k8
    have e9 : (k == 14) = false := by simpa using k9
    have e10 : (k == 13) = false := by simpa using k10
    have hp : partsOf k = [] := by simp [partsOf, k1, k2, k3, k4, k5, k6, k7, k8, k9, k10]
    rw [hp]
    clear hp
    go_enter Tryd.func44, Tryd.ntmps44
    go_wp2_with fail
    go_ret
    exact ⟨_, rfl, World.ownsRow_nil _ _ _ _, Below.refl _ _⟩

end Go.Proofs.YtffigmciclopdaaDoor
