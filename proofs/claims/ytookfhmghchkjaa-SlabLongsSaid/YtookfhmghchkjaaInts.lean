/- slices.Clone and slices.Reverse of whole numbers, in the words of rows. -/
import Derived.Test.YtookfhmghchkjaaSlabM
import Derived.Test.YtookfhmghchkjaaShelf
import Derived.Laws.IdiomCopy
import Derived.WalkKit
namespace Go.Proofs.Ytookfhmghchkjaa
open Go Go.RowKit

theorem ownsRow_setCells {base : Nat} {e : TypeId} {size g n cap : Nat} : ∀ (vs : List Value) (o : Nat) (w : World) (xs : List Value), w.ownsRow base e size (.slice (some ⟨g, 0, none⟩) n cap) n xs → o + vs.length ≤ xs.length →
    (w.setCells g o vs).ownsRow base e size (.slice (some ⟨g, 0, none⟩) n cap) n (xs.take o ++ vs ++ xs.drop (o + vs.length)) ∧ Only (fun j => j = g) w (w.setCells g o vs)
  | [], o, w, xs, h, _ => by
    refine ⟨?_, Only.refl _ _⟩
    simp only [List.append_nil, List.length_nil, Nat.add_zero, List.take_append_drop]
    exact h
  | v :: vs, o, w, xs, h, hl => by
    have h1 := (h.stored o v).1
    have hl' : o + 1 + vs.length ≤ (xs.set o v).length := by simp at hl ⊢; omega
    obtain ⟨h2, h3⟩ := ownsRow_setCells vs (o + 1) (w.setCell ⟨g, o, none⟩ v) (xs.set o v) h1 hl'
    have ho : o < xs.length := by simp at hl; omega
    have e : (xs.set o v).take (o + 1) ++ vs ++ (xs.set o v).drop (o + 1 + vs.length) = xs.take o ++ (v :: vs) ++ xs.drop (o + (v :: vs).length) := by
      rw [List.take_set, List.drop_set_of_lt (by omega), List.take_add_one, List.getElem?_eq_getElem ho]
      rw [List.set_append_right _ _ (by simp; omega)]
      simp [Nat.min_eq_left (Nat.le_of_lt ho)]
      rw [show o + 1 + vs.length = o + (vs.length + 1) from by omega]
    rw [e] at h2
    exact ⟨h2, (Only.setCell (S := fun j => j = g) (Only.refl _ _) (p := ⟨g, o, none⟩) (.inl rfl) v).trans h3 (fun _ _ h => h)⟩

theorem ics_map (ns : List Nat) : ics ns = (ns.map fun n : Nat => (n : Int)).map (Value.int .i64) := by simp [ics]

theorem intsClone_any (B : Nat) (v : Value) (ns : List Nat) (w : World) (h : w.ownsRow B 3 1 v ns.length (ics ns)) (hl : ns.length ≤ 100000) :
    Calls Try.prog 41 #[v] w fun e w' => ∃ v', e = .returned v' ∧ w'.ownsRow w.heap.size 3 1 v' ns.length (ics ns) ∧ Below w.heap.size w w' := by
  rcases h.2 with ⟨rfl, h0⟩ | ⟨g, cap, cur, rfl, _⟩
  · refine (Try.slices_Clone_int_nil 0 0 w).mono ?_
    rintro e w' ⟨rfl, rfl⟩
    have : ns = [] := List.length_eq_zero_iff.1 h0
    subst this
    exact ⟨_, rfl, World.ownsRow_nil _ _ _ _, Below.refl _ _⟩
  · refine (Try.slices_Clone_int g 0 ns.length cap (ns.map fun n : Nat => (n : Int)) w (by simp) (by omega) (fun j hj => ?_)).mono ?_
    · rw [Nat.zero_add, h.cellAt j (by simpa using hj)]
      simp at hj
      simp [ics, hj]
    · rintro e w' ⟨v', rfl, h1, _, h2⟩
      refine ⟨v', rfl, ?_, h2⟩
      rw [ics_map]
      rw [List.take_of_length_le (by simp)] at h1
      exact h1

theorem intsReverse_any (B : Nat) (v : Value) (ns : List Nat) (w : World) (h : w.ownsRow B 3 1 v ns.length (ics ns)) (hl : ns.length ≤ 100000) :
    Calls Try.prog 42 #[v] w fun e w' => e = .returned (.tuple #[]) ∧ w'.ownsRow B 3 1 v ns.length (ics ns.reverse) ∧ Below B w w' := by
  rcases h.2 with ⟨rfl, h0⟩ | ⟨g, cap, cur, rfl, hg, _⟩
  · refine (Try.slices_Reverse_int_empty none 0 w).mono ?_
    rintro e w' ⟨rfl, rfl⟩
    have : ns = [] := List.length_eq_zero_iff.1 h0
    subst this
    exact ⟨rfl, h, Below.refl _ _⟩
  · refine (Try.slices_Reverse_int_cells g 0 ns.length cap (ns.map fun n : Nat => (n : Int)) w (by simp) (by omega) (fun j hj => ?_) (fun j _ => by rw [Nat.zero_add]; exact h.frozenAt j)).mono ?_
    · rw [Nat.zero_add, h.cellAt j (by simpa using hj)]
      simp at hj
      simp [ics, hj]
    · rintro e w' ⟨rfl, q, rfl⟩
      have hq : (w.drewN q).ownsRow B 3 1 (.slice (some ⟨g, 0, none⟩) ns.length cap) ns.length (ics ns) := h
      have ev : ((ns.map fun n : Nat => (n : Int)).take ns.length).reverse.map (Value.int .i64) = ics ns.reverse := by
        rw [List.take_of_length_le (by simp)]
        simp [ics]
      rw [ev]
      obtain ⟨h1, h2⟩ := ownsRow_setCells (ics ns.reverse) 0 (w.drewN q) (ics ns) hq (by simp [ics])
      refine ⟨rfl, ?_, ?_⟩
      · rw [List.take_zero, List.nil_append, List.drop_eq_nil_of_le (by simp [ics]), List.append_nil] at h1
        exact h1
      · have hb0 : Below B w (w.drewN q) := ⟨rfl, rfl, rfl, Nat.le_refl _, fun _ _ => rfl⟩
        have hB : B ≤ w.heap.size := Nat.le_trans hg (Nat.le_of_lt (lt_of_heap (row_blockS h rfl).2.choose_spec))
        exact hb0.trans (h2.below (fun i hi _ e => by omega) hB)

end Go.Proofs.Ytookfhmghchkjaa
