/- Law 45's filled: what it builds (plain), and what holds on its way. -/
import Derived.Test.YtffigmciclopdaaDoorJouX
namespace Go.Proofs.YtffigmciclopdaaDoor
open Go Go.RowKit

/-- One operation more. -/
def filS (st : List UInt8 × List Nat × List OpV) (o : OpV) : List UInt8 × List Nat × List OpV :=
  match recO (sumL st.1) o with
  | none => st
  | some r => (st.1 ++ r, st.2.1 ++ [st.1.length + r.length], st.2.2 ++ [o])
/-- The records of operations. -/
def fil (os : List OpV) : List UInt8 × List Nat × List OpV := os.foldl filS ([], [], [])
theorem fil_snoc (os : List OpV) (o : OpV) : fil (os ++ [o]) = filS (fil os) o := by simp [fil]

/-- What filled works with: its three slices, and the journal. -/
structure FlI (w W : World) (v6 v7 v8 dv ev ov : Value) (da : List UInt8) (ea : List Nat) (pw : List (OpV × Value)) (ds : List UInt8) (es : List Nat) (pj : List (OpV × Value)) : Prop where
  rep : JRep W w.heap.size w.heap.size dv ev ov ds es pj
  ops : W.ownsRow w.heap.size 43 9 v6 pw.length (ocs pw)
  ends : W.ownsRow w.heap.size 3 1 v7 ea.length (ncs ea)
  all : W.ownsRow w.heap.size 5 1 v8 da.length (bcells da)
  below : Below w.heap.size w W
  sep : ∀ k, (v6.ownBlock = some k ∨ v7.ownBlock = some k ∨ v8.ownBlock = some k) → ¬ jFp w.heap.size dv ev ov k ∧ ∀ p ∈ pj, p.2.ownBlock ≠ some k
  fresh : ∀ p ∈ pj, ∀ k, p.2.ownBlock = some k → w.heap.size ≤ k

section
variable {w W W2 : World} {v6 v7 v8 dv ev ov u6 u7 u8 : Value} {da ds da2 : List UInt8} {ea es ea2 : List Nat} {pw pj pw2 : List (OpV × Value)}
theorem FlI.rowlt (h : FlI w W v6 v7 v8 dv ev ov da ea pw ds es pj) {k : Nat} (hk : v6.ownBlock = some k ∨ v7.ownBlock = some k ∨ v8.ownBlock = some k) : w.heap.size ≤ k ∧ k < W.heap.size := by
  rcases hk with hk | hk | hk
  · obtain ⟨h1, _, h2⟩ := row_heap h.ops hk; exact ⟨h1, lt_of_heap h2⟩
  · obtain ⟨h1, _, h2⟩ := row_heap h.ends hk; exact ⟨h1, lt_of_heap h2⟩
  · obtain ⟨h1, _, h2⟩ := row_heap h.all hk; exact ⟨h1, lt_of_heap h2⟩
theorem FlI.keep (h : FlI w W v6 v7 v8 dv ev ov da ea pw ds es pj) {S : Nat → Prop} (ho : Only S W W2) (hS : ∀ k, S k → w.heap.size ≤ k ∧ ¬ jFp w.heap.size dv ev ov k ∧ ∀ p ∈ pj, p.2.ownBlock ≠ some k)
    (h6 : W2.ownsRow w.heap.size 43 9 u6 pw2.length (ocs pw2)) (h7 : W2.ownsRow w.heap.size 3 1 u7 ea2.length (ncs ea2)) (h8 : W2.ownsRow w.heap.size 5 1 u8 da2.length (bcells da2))
    (hb : ∀ k, (u6.ownBlock = some k ∨ u7.ownBlock = some k ∨ u8.ownBlock = some k) → (v6.ownBlock = some k ∨ v7.ownBlock = some k ∨ v8.ownBlock = some k) ∨ W.heap.size ≤ k) : FlI w W2 u6 u7 u8 dv ev ov da2 ea2 pw2 ds es pj := by
  refine ⟨h.rep.onlyV ho (fun k hk hs => (hS k hs).2.1 hk) (fun p hp k hk hs => (hS k hs).2.2 p hp hk), h6, h7, h8, h.below.trans (ho.below (fun i hi _ e => by have := (hS i e).1; omega) h.below.size), fun k hk => ?_, h.fresh⟩
  rcases hb k hk with hk | hk
  · exact h.sep k hk
  · refine ⟨fun e => ?_, fun p hp e => ?_⟩
    · have := (h.rep.toJS.fp_lt e).2; omega
    · have := ((h.rep.vals p hp).2 k e).1; omega
theorem FlI.adv (h : FlI w W v6 v7 v8 dv ev ov da ea pw ds es pj) (hb : Below W.heap.size W W2) : FlI w W2 v6 v7 v8 dv ev ov da ea pw ds es pj :=
  ⟨h.rep.below hb, own_later h.ops hb, own_later h.ends hb, own_later h.all hb, h.below.trans (hb.mono h.below.size), h.sep, h.fresh⟩
/-- The journal has a record more. -/
theorem FlI.append (h : FlI w W v6 v7 v8 dv ev ov da ea pw ds es pj) {d2 e2 o2 V' : Value} {ds2 : List UInt8} {es2 : List Nat} {o : OpV} (hr : JRep W2 w.heap.size w.heap.size d2 e2 o2 ds2 es2 (pj ++ [(o, V')])) (ho : Only (jFp w.heap.size dv ev ov) W W2)
    (hf : ∀ k, jFp w.heap.size d2 e2 o2 k → jFp w.heap.size dv ev ov k ∨ W.heap.size ≤ k) (hV : ∀ k, V'.ownBlock = some k → W.heap.size ≤ k) : FlI w W2 v6 v7 v8 d2 e2 o2 da ea pw ds2 es2 (pj ++ [(o, V')]) := by
  refine ⟨hr, ownsRow_only h.ops ho (fun k hk => (h.sep k (.inl hk)).1), ownsRow_only h.ends ho (fun k hk => (h.sep k (.inr (.inl hk))).1), ownsRow_only h.all ho (fun k hk => (h.sep k (.inr (.inr hk))).1), h.below.trans (ho.below (fun i hi _ e => by have := (h.rep.toJS.fp_lt e).1; omega) h.below.size), fun k hk => ⟨fun e => ?_, fun p hp e => ?_⟩, fun p hp k hk => ?_⟩
  · rcases hf k e with e | e
    · exact (h.sep k hk).1 e
    · have := (h.rowlt hk).2; omega
  · rcases List.mem_append.1 hp with hp | hp
    · exact (h.sep k hk).2 p hp e
    · rw [List.mem_singleton.1 hp] at e
      have := hV k e
      have := (h.rowlt hk).2
      omega
  · rcases List.mem_append.1 hp with hp | hp
    · exact h.fresh p hp k hk
    · rw [List.mem_singleton.1 hp] at hk
      exact Nat.le_trans h.below.size (hV k hk)
/-- Another block has been written over. -/
theorem FlI.spoilt (h : FlI w W v6 v7 v8 dv ev ov da ea pw ds es pj) {S : Nat → Prop} (ho : Only S W W2) (hS : ∀ k, S k → w.heap.size ≤ k ∧ ¬ jFp w.heap.size dv ev ov k ∧ (∀ p ∈ pj, p.2.ownBlock ≠ some k) ∧ ¬ (v6.ownBlock = some k ∨ v7.ownBlock = some k ∨ v8.ownBlock = some k)) : FlI w W2 v6 v7 v8 dv ev ov da ea pw ds es pj :=
  h.keep ho (fun k hk => ⟨(hS k hk).1, (hS k hk).2.1, (hS k hk).2.2.1⟩) (ownsRow_only h.ops ho (fun k hk hs => (hS k hs).2.2.2 (.inl hk))) (ownsRow_only h.ends ho (fun k hk hs => (hS k hs).2.2.2 (.inr (.inl hk)))) (ownsRow_only h.all ho (fun k hk hs => (hS k hs).2.2.2 (.inr (.inr hk)))) (fun k hk => .inl hk)
theorem FlI.growAll (h : FlI w W v6 v7 v8 dv ev ov da ea pw ds es pj) {r : List UInt8} (hg : W.grownBy W2 v8.ownBlock) (ho : W2.ownsRow w.heap.size 5 1 u8 (da.length + r.length) (bcells da ++ bcells r)) (ha : u8.ownBlock = v8.ownBlock ∨ u8.ownBlock = some W.heap.size) : FlI w W2 v6 v7 u8 dv ev ov (da ++ r) ea pw ds es pj := by
  have hon := Only.of_grown hg
  refine h.keep hon (fun k hk => ⟨(h.rowlt (.inr (.inr hk))).1, h.sep k (.inr (.inr hk))⟩) (ownsRow_only h.ops hon (row_differs h.ops h.all (by decide))) (ownsRow_only h.ends hon (row_differs h.ends h.all (by decide))) ?_ (fun k hk => ?_)
  · rw [List.length_append, show bcells (da ++ r) = bcells da ++ bcells r by simp [bcells]]; exact ho
  · rcases hk with hk | hk | hk
    · exact .inl (.inl hk)
    · exact .inl (.inr (.inl hk))
    · rcases ha with ha | ha
      · exact .inl (.inr (.inr (ha ▸ hk)))
      · rw [ha] at hk; injection hk with hk; exact .inr (by omega)
theorem FlI.growOps (h : FlI w W v6 v7 v8 dv ev ov da ea pw ds es pj) {o : OpV} {V : Value} (hg : W.grownBy W2 v6.ownBlock) (ho : W2.ownsRow w.heap.size 43 9 u6 (pw.length + 1) (ocs pw ++ opcs o V)) (ha : u6.ownBlock = v6.ownBlock ∨ u6.ownBlock = some W.heap.size) : FlI w W2 u6 v7 v8 dv ev ov da ea (pw ++ [(o, V)]) ds es pj := by
  have hon := Only.of_grown hg
  refine h.keep hon (fun k hk => ⟨(h.rowlt (.inl hk)).1, h.sep k (.inl hk)⟩) ?_ (ownsRow_only h.ends hon (row_differs h.ends h.ops (by decide))) (ownsRow_only h.all hon (row_differs h.all h.ops (by decide))) (fun k hk => ?_)
  · rw [List.length_append, List.length_singleton, ocs_append, show ocs [(o, V)] = opcs o V by simp [ocs]]; exact ho
  · rcases hk with hk | hk | hk
    · rcases ha with ha | ha
      · exact .inl (.inl (ha ▸ hk))
      · rw [ha] at hk; injection hk with hk; exact .inr (by omega)
    · exact .inl (.inr (.inl hk))
    · exact .inl (.inr (.inr hk))
theorem FlI.growEnds (h : FlI w W v6 v7 v8 dv ev ov da ea pw ds es pj) {n : Nat} (hg : W.grownBy W2 v7.ownBlock) (ho : W2.ownsRow w.heap.size 3 1 u7 (ea.length + 1) (ncs ea ++ [.int .i64 (n : Int)])) (ha : u7.ownBlock = v7.ownBlock ∨ u7.ownBlock = some W.heap.size) : FlI w W2 v6 u7 v8 dv ev ov da (ea ++ [n]) pw ds es pj := by
  have hon := Only.of_grown hg
  refine h.keep hon (fun k hk => ⟨(h.rowlt (.inr (.inl hk))).1, h.sep k (.inr (.inl hk))⟩) (ownsRow_only h.ops hon (row_differs h.ops h.ends (by decide))) ?_ (ownsRow_only h.all hon (row_differs h.all h.ends (by decide))) (fun k hk => ?_)
  · rw [List.length_append, List.length_singleton, show ncs (ea ++ [n]) = ncs ea ++ [.int .i64 (n : Int)] by simp [ncs]]; exact ho
  · rcases hk with hk | hk | hk
    · exact .inl (.inl hk)
    · rcases ha with ha | ha
      · exact .inl (.inr (.inl (ha ▸ hk)))
      · rw [ha] at hk; injection hk with hk; exact .inr (by omega)
    · exact .inl (.inr (.inr hk))
theorem FlI.start (w : World) : FlI w (w.alloc (.cells #[.slice none 0 0, .slice none 0 0, .slice none 0 0] 35)) (.slice none 0 0) (.slice none 0 0) (.slice none 0 0) (.slice none 0 0) (.slice none 0 0) (.slice none 0 0) [] [] [] [] [] [] :=
  ⟨⟨⟨Blk.new _ _ _, World.ownsRow_nil _ _ _ _, World.ownsRow_nil _ _ _ _, World.ownsRow_nil _ _ _ _, fun p hp => by simp at hp, fun p hp => by simp at hp, Nat.le_refl _⟩, .inl rfl, by simp, rfl, by simp⟩, World.ownsRow_nil _ _ _ _, World.ownsRow_nil _ _ _ _, World.ownsRow_nil _ _ _ _, (Below.refl _ _).alloc (Nat.le_refl _) _, fun k hk => (by rcases hk with hk | hk | hk <;> cases hk), fun p hp => by simp at hp⟩
end

/-- What filled has done with the first m operations. -/
structure FlP (ps : List (OpV × Value)) (ds : List UInt8) (es : List Nat) (pw pj : List (OpV × Value)) (m : Nat) : Prop where
  sub : ∀ p ∈ pw, p ∈ ps
  same : pj.map Prod.fst = pw.map Prod.fst
  fil : fil ((ps.take m).map Prod.fst) = (ds, es, pw.map Prod.fst)
  cnt : es.length ≤ m
  dl : ds.length ≤ 298 * m
  mono : ∀ i T, es[i]? = some T → fromE es i ≤ T ∧ T ≤ ds.length
theorem fromE_snoc (es : List Nat) (x i : Nat) (h : i ≤ es.length) : fromE (es ++ [x]) i = fromE es i := by
  unfold fromE
  by_cases h0 : i = 0
  · rw [if_pos h0, if_pos h0]
  · rw [if_neg h0, if_neg h0, List.getD_eq_getElem?_getD, List.getD_eq_getElem?_getD, List.getElem?_append_left (by omega)]
theorem fromE_le {es : List Nat} {d : Nat} (h : ∀ i T, es[i]? = some T → fromE es i ≤ T ∧ T ≤ d) (i : Nat) (hi : i ≤ es.length) : fromE es i ≤ d := by
  unfold fromE
  by_cases h0 : i = 0
  · rw [if_pos h0]; exact Nat.zero_le _
  · rw [if_neg h0]
    have h1 : es[i - 1]? = some es[i - 1] := List.getElem?_eq_getElem (by omega)
    rw [List.getD_eq_getElem?_getD, h1]
    exact (h _ _ h1).2
theorem FlP.none {ps pw pj : List (OpV × Value)} {ds : List UInt8} {es : List Nat} {m : Nat} {o : OpV} {V : Value} (h : FlP ps ds es pw pj m) (hp : ps[m]? = some (o, V)) (hr : recO (sumL ds) o = none) : FlP ps ds es pw pj (m + 1) := by
  refine ⟨h.sub, h.same, ?_, by have := h.cnt; omega, by have := h.dl; omega, h.mono⟩
  rw [List.take_add_one, hp, List.map_append, Option.toList_some, List.map_singleton, fil_snoc, h.fil, filS, hr]
theorem FlP.some {ps pw pj : List (OpV × Value)} {ds r : List UInt8} {es : List Nat} {m : Nat} {o : OpV} {V V' : Value} (h : FlP ps ds es pw pj m) (hp : ps[m]? = some (o, V)) (hr : recO (sumL ds) o = some r) : FlP ps (ds ++ r) (es ++ [ds.length + r.length]) (pw ++ [(o, V)]) (pj ++ [(o, V')]) (m + 1) := by
  have hl := recO_len hr
  refine ⟨fun p hp2 => ?_, by simp [h.same], ?_, by have := h.cnt; simp; omega, by have := h.dl; simp; omega, fun i T hi => ?_⟩
  · rcases List.mem_append.1 hp2 with hp2 | hp2
    · exact h.sub p hp2
    · rw [List.mem_singleton.1 hp2]; exact List.mem_of_getElem? hp
  · rw [List.take_add_one, hp, List.map_append, Option.toList_some, List.map_singleton, fil_snoc, h.fil, filS, hr]
    simp
  · rw [List.length_append]
    rcases Nat.lt_or_ge i es.length with h1 | h1
    · rw [List.getElem?_append_left h1] at hi
      rw [fromE_snoc _ _ _ (by omega)]
      have := h.mono i T hi
      omega
    · rw [List.getElem?_append_right h1] at hi
      have h2 : i - es.length = 0 := by
        have := (List.getElem?_eq_some_iff.1 hi).1
        simp at this; omega
      rw [h2] at hi
      have hT : ds.length + r.length = T := by simpa using hi
      rw [fromE_snoc _ _ _ (by omega)]
      have := fromE_le h.mono i (by omega)
      omega

end Go.Proofs.YtffigmciclopdaaDoor
