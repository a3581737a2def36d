/- The reference's arena (layer 13) in memory: its four rows; a box with an arena in it; what stores and appends make of them. -/
import Derived.Test.YtookfhmghchkjaaSlabS
import Derived.Test.YtookfhmghchkjaaSlabNW
namespace Go.Proofs.Ytookfhmghchkjaa
open Go Go.RowKit

theorem step_append_dstS {P : Program} {w : World} {ops : Array Oper} {o : Oper} {a : Act} {K : Act → World → Prop} {Q : Exit → Act → World → Prop} {E : Prop} (d : Nat) (hd : o.dst = some d) (hgd : o.guard = none) (s x : Operand) (t : TypeId)
    (ho : o.op = .call { callee := .builtin .append, args := #[s, x], argTypes := #[t, t] })
    (base : Nat) (e : TypeId) (i : TypeInfo) (z : Value) (size bytes : Nat) (ht : P.underlying t = some (.slice e)) (hi : P.info? e = some i) (hz : i.zero = some z)
    (hsize : i.size = size) (hby : i.bytes = bytes) (hzs : z.cells.size = size) (hsz : 0 < size)
    (v : Value) (n : Nat) (xs : List Value) (hs : a.eval s = v) (hown : w.ownsRow base e size v n xs)
    (A : Option Addr) (m c : Nat) (news : List Value) (hx : a.eval x = .slice A m c) (hr : Src w size A m news) (h1 : ∀ u ∈ news, u.oneCell' = true)
    (h63 : n + m ≤ maxLen) (hbytes : (n + m) * bytes ≤ 140737488355328) (hbase : base ≤ w.heap.size)
    (h : ∀ v' w', w'.ownsRow base e size v' (n + m) (xs ++ news) → w.grownBy w' v.ownBlock → (v'.ownBlock = v.ownBlock ∨ v'.ownBlock = some w.heap.size) → K (a.put (some d) v') w') :
    if Region.wanted o (yielded ops a.tmps) = true then Oper.wp P o a w K Q else E :=
  step_append_src w hgd s x t ho base e i z size bytes ht hi hz hsize hby hzs hsz v n xs hs hown A m c news hx hr h1 h63 hbytes hbase (fun v' w' h2 h3 h4 => by rw [hd]; exact h v' w' h2 h3 h4)
theorem cell_farS {W : World} {a p : Addr} {u v : Value} (h : W.cell? a = some v) (hne : ¬ a.block = p.block) : (W.setCell p u).cell? a = some v := (World.cell?_of_block (Below.heap_setCell W p u a.block hne)).trans h
theorem src_oneS {w : World} {g : Nat} {t : TypeId} {x : Value} (h : Blk w g t #[x]) : Src w 1 (some ⟨g, 0, none⟩) 1 [x] := src_blockS h rfl
theorem src_twoS {w : World} {g : Nat} {t : TypeId} {x y : Value} (h : Blk w g t #[x, y]) : Src w 2 (some ⟨g, 0, none⟩) 1 [x, y] := src_blockS h rfl
theorem boolR_info : (Try.prog.info? 4).map (fun i => (i.zero, i.size, i.bytes)) = some (some (.bool false), 1, 1) := by kernel_rfl
theorem cellR_info : (Try.prog.info? 38).map (fun i => (i.zero, i.size, i.bytes)) = some (some (.agg #[.int .i64 0, .int .i64 0]), 2, 16) := by kernel_rfl
theorem bytsR_info : (Try.prog.info? 39).map (fun i => (i.zero, i.size, i.bytes)) = some (some (.slice none 0 0), 1, 24) := by kernel_rfl

def kcs (ks : List (Int × Int)) : List Value := ks.flatMap fun k => [.int .i64 k.1, .int .i64 k.2]
def vcs (vs : List (List UInt8 × Value)) : List Value := vs.map Prod.snd
def ucs (us : List Bool) : List Value := us.map .bool
theorem kcs_snoc (ks : List (Int × Int)) (K N : Int) : kcs (ks ++ [(K, N)]) = kcs ks ++ [.int .i64 K, .int .i64 N] := by simp [kcs]
theorem vcs_snoc (vs : List (List UInt8 × Value)) (x : List UInt8 × Value) : vcs (vs ++ [x]) = vcs vs ++ [x.2] := by simp [vcs]
theorem ucs_snoc (us : List Bool) (u : Bool) : ucs (us ++ [u]) = ucs us ++ [.bool u] := by simp [ucs]
theorem kcs_one (ks : List (Int × Int)) : ∀ u ∈ kcs ks, u.oneCell' = true := by
  intro u hu
  obtain ⟨c, hc, hu⟩ := List.mem_flatMap.1 hu
  simp at hu
  rcases hu with rfl | rfl <;> rfl
theorem ucs_one (us : List Bool) : ∀ u ∈ ucs us, u.oneCell' = true := by
  intro u hu
  obtain ⟨c, hc, rfl⟩ := List.mem_map.1 hu
  rfl

structure RRep (w : World) (B : Nat) (cv bv uv fv : Value) (ks : List (Int × Int)) (vs : List (List UInt8 × Value)) (us : List Bool) (fr : List (Int × Int)) : Prop where
  cells : w.ownsRow B 38 2 cv ks.length (kcs ks)
  bytes : w.ownsRow B 39 1 bv vs.length (vcs vs)
  used : w.ownsRow B 4 1 uv us.length (ucs us)
  free : w.ownsRow B 38 2 fv fr.length (kcs fr)
  vals : ∀ x ∈ vs, Bts w 0 5 x.2 x.1
  cf : ∀ k, cv.ownBlock = some k → fv.ownBlock ≠ some k

section
variable {w w' : World} {B : Nat} {cv bv uv fv : Value} {ks : List (Int × Int)} {vs : List (List UInt8 × Value)} {us : List Bool} {fr : List (Int × Int)}
theorem RRep.nil (w : World) (B : Nat) : RRep w B (.slice none 0 0) (.slice none 0 0) (.slice none 0 0) (.slice none 0 0) [] [] [] [] :=
  ⟨World.ownsRow_nil _ _ _ _, World.ownsRow_nil _ _ _ _, World.ownsRow_nil _ _ _ _, World.ownsRow_nil _ _ _ _, (fun x hx => by cases hx), (fun k hk => by cases hk)⟩
theorem RRep.base {B' : Nat} (h : RRep w B cv bv uv fv ks vs us fr) (hB : B' ≤ B) : RRep w B' cv bv uv fv ks vs us fr :=
  ⟨ownsRow_base h.cells hB, ownsRow_base h.bytes hB, ownsRow_base h.used hB, ownsRow_base h.free hB, h.vals, h.cf⟩
theorem RRep.only {S : Nat → Prop} (h : RRep w B cv bv uv fv ks vs us fr) (ho : Only S w w') (h1 : ∀ k, cv.ownBlock = some k → ¬ S k) (h2 : ∀ k, bv.ownBlock = some k → ¬ S k) (h3 : ∀ k, uv.ownBlock = some k → ¬ S k) (h4 : ∀ k, fv.ownBlock = some k → ¬ S k) (h5 : ∀ x ∈ vs, Bts w' 0 5 x.2 x.1) : RRep w' B cv bv uv fv ks vs us fr :=
  ⟨ownsRow_only h.cells ho h1, ownsRow_only h.bytes ho h2, ownsRow_only h.used ho h3, ownsRow_only h.free ho h4, h5, h.cf⟩
theorem RRep.below (h : RRep w B cv bv uv fv ks vs us fr) (hb : Below w.heap.size w w') : RRep w' B cv bv uv fv ks vs us fr :=
  h.only (S := fun _ => False) (Only.of_below hb) (fun _ _ h => h) (fun _ _ h => h) (fun _ _ h => h) (fun _ _ h => h) (fun x hx => (h.vals x hx).below hb)
theorem RRep.alloc (h : RRep w B cv bv uv fv ks vs us fr) (o : Obj) : RRep (w.alloc o) B cv bv uv fv ks vs us fr := h.below ((Below.refl _ _).alloc (Nat.le_refl _) o)
theorem RRep.drew (h : RRep w B cv bv uv fv ks vs us fr) : RRep w.drew B cv bv uv fv ks vs us fr := h.below (Below.refl _ _).drew

/-- A row stays where blocks of its type stay. -/
theorem row_keep {e : TypeId} {size n : Nat} {v : Value} {xs : List Value} (h : w.ownsRow B e size v n xs) {B' : Nat} (hk : KeepB B' e w w') : w'.ownsRow B e size v n xs := by
  refine ⟨h.1, ?_⟩
  rcases h.2 with h2 | ⟨g, cap, cur, hv, hg, hh, r⟩
  · exact Or.inl h2
  · exact Or.inr ⟨g, cap, cur, hv, hg, (hk.2 g (lt_of_heap hh) (.inr ⟨_, _, hh⟩)).trans hh, r⟩
theorem RRep.keepS {B' : Nat} (h : RRep w B cv bv uv fv ks vs us fr) (hk : KeepS B' w w') : RRep w' B cv bv uv fv ks vs us fr := by
  have hu : KeepB 0 5 w w' := ⟨hk.u8.1, fun k hk' hc => hk.u8.2 k hk' (by
    rcases hc with hc | hc
    · omega
    · exact .inr hc)⟩
  exact ⟨row_keep h.cells (hk.rows _ (by decide) (by decide) (by decide)), row_keep h.bytes (hk.rows _ (by decide) (by decide) (by decide)), row_keep h.used (hk.rows _ (by decide) (by decide) (by decide)), row_keep h.free (hk.rows _ (by decide) (by decide) (by decide)), fun x hx => (h.vals x hx).keep hu, h.cf⟩

theorem kcs_at : ∀ (ks : List (Int × Int)) {i : Nat} {k : Int × Int}, ks[i]? = some k → (kcs ks)[i * 2]? = some (.int .i64 k.1) ∧ (kcs ks)[i * 2 + 1]? = some (.int .i64 k.2)
  | [], i, k, h => by simp at h
  | d :: ks, 0, k, h => by
    simp at h
    subst h
    simp [kcs]
  | d :: ks, i + 1, k, h => by
    have := kcs_at ks (i := i) (k := k) (by simpa using h)
    rw [show (i + 1) * 2 = i * 2 + 1 + 1 by omega]
    simpa [kcs] using this
theorem kcs_length (ks : List (Int × Int)) : (kcs ks).length = ks.length * 2 := by
  induction ks with
  | nil => rfl
  | cons c cs ih => simp [kcs] at ih ⊢; omega

/-- A row of cells, read. -/
theorem kread {v : Value} (h : w.ownsRow B 38 2 v ks.length (kcs ks)) {i : Nat} {k : Int × Int} (hk : ks[i]? = some k) :
    ∃ g cap, v = .slice (some ⟨g, 0, none⟩) ks.length cap ∧ g < w.heap.size ∧ ks.length ≤ cap ∧ B ≤ g ∧ w.cell? ⟨g, i * 2, none⟩ = some (.int .i64 k.1) ∧ w.cell? ⟨g, i * 2 + 1, none⟩ = some (.int .i64 k.2) := by
  obtain ⟨hi, _⟩ := List.getElem?_eq_some_iff.1 hk
  obtain ⟨g, cap, hv, hb, hlt⟩ := h.form (by omega)
  obtain ⟨A, c, e, h1, _⟩ := own_form h
  rw [hv] at e
  injection e with _ _ e
  subst e
  rw [hv] at h
  refine ⟨g, cap, hv, hlt, h1, hb, ?_, ?_⟩
  · rw [h.cellAt _ (by omega)]; exact (kcs_at ks hk).1
  · rw [h.cellAt _ (by omega)]; exact (kcs_at ks hk).2
theorem vread {v : Value} (h : w.ownsRow B 39 1 v vs.length (vcs vs)) {i : Nat} {x : List UInt8 × Value} (hk : vs[i]? = some x) :
    ∃ g cap, v = .slice (some ⟨g, 0, none⟩) vs.length cap ∧ g < w.heap.size ∧ vs.length ≤ cap ∧ B ≤ g ∧ w.cell? ⟨g, i, none⟩ = some x.2 := by
  obtain ⟨hi, _⟩ := List.getElem?_eq_some_iff.1 hk
  obtain ⟨g, cap, hv, hb, hlt⟩ := h.form (by omega)
  obtain ⟨A, c, e, h1, _⟩ := own_form h
  rw [hv] at e
  injection e with _ _ e
  subst e
  rw [hv] at h
  refine ⟨g, cap, hv, hlt, h1, hb, ?_⟩
  rw [h.cellAt _ (by omega)]
  simp [vcs, hk]
theorem uread {v : Value} (h : w.ownsRow B 4 1 v us.length (ucs us)) {i : Nat} {u : Bool} (hk : us[i]? = some u) :
    ∃ g cap, v = .slice (some ⟨g, 0, none⟩) us.length cap ∧ g < w.heap.size ∧ us.length ≤ cap ∧ B ≤ g ∧ w.cell? ⟨g, i, none⟩ = some (.bool u) := by
  obtain ⟨hi, _⟩ := List.getElem?_eq_some_iff.1 hk
  obtain ⟨g, cap, hv, hb, hlt⟩ := h.form (by omega)
  obtain ⟨A, c, e, h1, _⟩ := own_form h
  rw [hv] at e
  injection e with _ _ e
  subst e
  rw [hv] at h
  refine ⟨g, cap, hv, hlt, h1, hb, ?_⟩
  rw [h.cellAt _ (by omega)]
  simp [ucs, hk]
end

/-- A box with an arena in it, its four rows for themselves. -/
structure OInv (w : World) (B g : Nat) (most : Int) (cv bv uv fv : Value) (ks : List (Int × Int)) (vs : List (List UInt8 × Value)) (us : List Bool) (fr : List (Int × Int)) : Prop where
  out : Blk w g 55 #[.int .i64 most, cv, bv, uv, fv]
  rep : RRep w B cv bv uv fv ks vs us fr

section
variable {w w' : World} {B g : Nat} {most : Int} {cv bv uv fv : Value} {ks : List (Int × Int)} {vs : List (List UInt8 × Value)} {us : List Bool} {fr : List (Int × Int)}
theorem OInv.adv (h : OInv w B g most cv bv uv fv ks vs us fr) (hb : Below w.heap.size w w') : OInv w' B g most cv bv uv fv ks vs us fr := ⟨h.out.below hb, h.rep.below hb⟩
theorem OInv.alloc (h : OInv w B g most cv bv uv fv ks vs us fr) (o : Obj) : OInv (w.alloc o) B g most cv bv uv fv ks vs us fr := h.adv ((Below.refl _ _).alloc (Nat.le_refl _) o)
theorem OInv.drew (h : OInv w B g most cv bv uv fv ks vs us fr) : OInv w.drew B g most cv bv uv fv ks vs us fr := h.adv (Below.refl _ _).drew
theorem OInv.of_rep (h : RRep w B cv bv uv fv ks vs us fr) (most : Int) : OInv (w.alloc (.cells #[.int .i64 most, cv, bv, uv, fv] 55)) B w.heap.size most cv bv uv fv ks vs us fr := ⟨Blk.new _ _ _, h.alloc _⟩

theorem OInv.off {e : TypeId} {size n : Nat} {v : Value} {xs : List Value} (h : OInv w B g most cv bv uv fv ks vs us fr) (hr : w.ownsRow B e size v n xs) (he : 55 ≠ e) : v.ownBlock ≠ some g := fun e2 => by
  obtain ⟨_, cur, h2⟩ := row_blockS hr e2
  exact (h.out.ne_ h2 he) rfl

/-- Blocks that are no bytes have changed. -/
theorem bts_turn {S : Nat → Prop} {v : Value} {bs : List UInt8} (hv : Bts w 0 5 v bs) (ho : Only S w w') (hS : ∀ k, S k → ∀ c fr, w.heap[k]? ≠ some (.cells c 5 fr)) : Bts w' 0 5 v bs :=
  hv.keep (KeepB.of_only ho fun k _ hk => ⟨Nat.zero_le _, hS k hk⟩)

theorem own_ne {e : TypeId} {size n : Nat} {v : Value} {xs : List Value} (hr : w.ownsRow B e size v n xs) (he : e ≠ 5) : ∀ k, v.ownBlock = some k → ∀ c fr, w.heap[k]? ≠ some (.cells c 5 fr) := fun k hk c fr e2 => by
  obtain ⟨_, cur, h2⟩ := row_blockS hr hk
  rw [h2] at e2
  injection e2 with e2
  injection e2 with _ e2
  exact he e2


theorem OInv.pushC (h : OInv w B g most cv bv uv fv ks vs us fr) {K N : Int} {v3 : Value} (hg : w.grownBy w' cv.ownBlock) (hown : w'.ownsRow B 38 2 v3 (ks.length + 1) (kcs ks ++ [.int .i64 K, .int .i64 N])) (hat : v3.ownBlock = cv.ownBlock ∨ v3.ownBlock = some w.heap.size) :
    OInv (w'.setCell ⟨g, 1, none⟩ v3) B g most v3 bv uv fv (ks ++ [(K, N)]) vs us fr := by
  have ho : Only (fun k => cv.ownBlock = some k ∨ k = g) w (w'.setCell ⟨g, 1, none⟩ v3) := ((Only.of_grown hg).mono (fun _ _ h => .inl h)).setCell (p := ⟨g, 1, none⟩) (.inl (.inr rfl)) _
  have hS : ∀ k, cv.ownBlock = some k ∨ k = g → ∀ c fr, w.heap[k]? ≠ some (.cells c 5 fr) := fun k hk => by
    rcases hk with hk | rfl
    · exact own_ne h.rep.cells (by decide) k hk
    · exact fun c fr e => h.out.ne_ e (by decide) rfl
  have bo := h.out.grown hg (fun e => h.off h.rep.cells (by decide) e.symm)
  have hn3 : v3.ownBlock ≠ some g := fun e => by
    obtain ⟨_, cur, h2⟩ := row_blockS hown e
    exact (bo.ne_ h2 (by decide)) rfl
  have other : ∀ {e : TypeId} {size n : Nat} {v : Value} {xs : List Value}, w.ownsRow B e size v n xs → 55 ≠ e → (∀ k, v.ownBlock = some k → cv.ownBlock ≠ some k) → (w'.setCell ⟨g, 1, none⟩ v3).ownsRow B e size v n xs := fun hr he hne =>
    ownsRow_only hr ho (fun k hk e => by
      rcases e with e | e
      · exact hne k hk e
      · subst e; exact h.off hr he hk)
  have hvals : ∀ x ∈ vs, Bts (w'.setCell ⟨g, 1, none⟩ v3) 0 5 x.2 x.1 := fun x hx => bts_turn (h.rep.vals x hx) ho hS
  refine ⟨bo.set_ 1 v3, ⟨?_, other h.rep.bytes (by decide) (rows_offS h.rep.bytes h.rep.cells (by decide)), other h.rep.used (by decide) (rows_offS h.rep.used h.rep.cells (by decide)), other h.rep.free (by decide) (fun k hk e => h.rep.cf k e hk), hvals, fun k hk e => ?_⟩⟩
  · rw [List.length_append, List.length_singleton, kcs_snoc]
    exact ownsRow_setCell_other hown (a := ⟨g, 1, none⟩) hn3 _
  · rcases hat with hat | hat
    · exact h.rep.cf k (hat ▸ hk) e
    · rw [hat] at hk
      injection hk with hk
      obtain ⟨_, cur, h2⟩ := row_blockS h.rep.free e
      have := lt_of_heap h2
      omega
theorem OInv.pushF (h : OInv w B g most cv bv uv fv ks vs us fr) {K N : Int} {v3 : Value} (hg : w.grownBy w' fv.ownBlock) (hown : w'.ownsRow B 38 2 v3 (fr.length + 1) (kcs fr ++ [.int .i64 K, .int .i64 N])) (hat : v3.ownBlock = fv.ownBlock ∨ v3.ownBlock = some w.heap.size) :
    OInv (w'.setCell ⟨g, 4, none⟩ v3) B g most cv bv uv v3 ks vs us (fr ++ [(K, N)]) := by
  have ho : Only (fun k => fv.ownBlock = some k ∨ k = g) w (w'.setCell ⟨g, 4, none⟩ v3) := ((Only.of_grown hg).mono (fun _ _ h => .inl h)).setCell (p := ⟨g, 4, none⟩) (.inl (.inr rfl)) _
  have hS : ∀ k, fv.ownBlock = some k ∨ k = g → ∀ c fr, w.heap[k]? ≠ some (.cells c 5 fr) := fun k hk => by
    rcases hk with hk | rfl
    · exact own_ne h.rep.free (by decide) k hk
    · exact fun c fr e => h.out.ne_ e (by decide) rfl
  have bo := h.out.grown hg (fun e => h.off h.rep.free (by decide) e.symm)
  have hn3 : v3.ownBlock ≠ some g := fun e => by
    obtain ⟨_, cur, h2⟩ := row_blockS hown e
    exact (bo.ne_ h2 (by decide)) rfl
  have other : ∀ {e : TypeId} {size n : Nat} {v : Value} {xs : List Value}, w.ownsRow B e size v n xs → 55 ≠ e → (∀ k, v.ownBlock = some k → fv.ownBlock ≠ some k) → (w'.setCell ⟨g, 4, none⟩ v3).ownsRow B e size v n xs := fun hr he hne =>
    ownsRow_only hr ho (fun k hk e => by
      rcases e with e | e
      · exact hne k hk e
      · subst e; exact h.off hr he hk)
  have hvals : ∀ x ∈ vs, Bts (w'.setCell ⟨g, 4, none⟩ v3) 0 5 x.2 x.1 := fun x hx => bts_turn (h.rep.vals x hx) ho hS
  refine ⟨bo.set_ 4 v3, ⟨other h.rep.cells (by decide) (fun k hk e => h.rep.cf k hk e), other h.rep.bytes (by decide) (rows_offS h.rep.bytes h.rep.free (by decide)), other h.rep.used (by decide) (rows_offS h.rep.used h.rep.free (by decide)), ?_, hvals, fun k hk e => ?_⟩⟩
  · rw [List.length_append, List.length_singleton, kcs_snoc]
    exact ownsRow_setCell_other hown (a := ⟨g, 4, none⟩) hn3 _
  · rcases hat with hat | hat
    · exact h.rep.cf k hk (hat ▸ e)
    · rw [hat] at e
      injection e with e
      obtain ⟨_, cur, h2⟩ := row_blockS h.rep.cells hk
      have := lt_of_heap h2
      omega
theorem OInv.pushB (h : OInv w B g most cv bv uv fv ks vs us fr) {x : List UInt8 × Value} {v3 : Value} (hx : Bts w 0 5 x.2 x.1) (hg : w.grownBy w' bv.ownBlock) (hown : w'.ownsRow B 39 1 v3 (vs.length + 1) (vcs vs ++ [x.2])) :
    OInv (w'.setCell ⟨g, 2, none⟩ v3) B g most cv v3 uv fv ks (vs ++ [x]) us fr := by
  have ho : Only (fun k => bv.ownBlock = some k ∨ k = g) w (w'.setCell ⟨g, 2, none⟩ v3) := ((Only.of_grown hg).mono (fun _ _ h => .inl h)).setCell (p := ⟨g, 2, none⟩) (.inl (.inr rfl)) _
  have hS : ∀ k, bv.ownBlock = some k ∨ k = g → ∀ c fr, w.heap[k]? ≠ some (.cells c 5 fr) := fun k hk => by
    rcases hk with hk | rfl
    · exact own_ne h.rep.bytes (by decide) k hk
    · exact fun c fr e => h.out.ne_ e (by decide) rfl
  have bo := h.out.grown hg (fun e => h.off h.rep.bytes (by decide) e.symm)
  have hn3 : v3.ownBlock ≠ some g := fun e => by
    obtain ⟨_, cur, h2⟩ := row_blockS hown e
    exact (bo.ne_ h2 (by decide)) rfl
  have other : ∀ {e : TypeId} {size n : Nat} {v : Value} {xs : List Value}, w.ownsRow B e size v n xs → 55 ≠ e → (∀ k, v.ownBlock = some k → bv.ownBlock ≠ some k) → (w'.setCell ⟨g, 2, none⟩ v3).ownsRow B e size v n xs := fun hr he hne =>
    ownsRow_only hr ho (fun k hk e => by
      rcases e with e | e
      · exact hne k hk e
      · subst e; exact h.off hr he hk)
  have hvals : ∀ x ∈ vs, Bts (w'.setCell ⟨g, 2, none⟩ v3) 0 5 x.2 x.1 := fun x hx => bts_turn (h.rep.vals x hx) ho hS
  refine ⟨bo.set_ 2 v3, ⟨other h.rep.cells (by decide) (rows_offS h.rep.cells h.rep.bytes (by decide)), ?_, other h.rep.used (by decide) (rows_offS h.rep.used h.rep.bytes (by decide)), other h.rep.free (by decide) (rows_offS h.rep.free h.rep.bytes (by decide)), fun y hy => ?_, h.rep.cf⟩⟩
  · rw [List.length_append, List.length_singleton, vcs_snoc]
    exact ownsRow_setCell_other hown (a := ⟨g, 2, none⟩) hn3 _
  · rcases List.mem_append.1 hy with hy | hy
    · exact hvals y hy
    · obtain rfl : y = x := by simpa using hy
      exact bts_turn hx ho hS
theorem OInv.pushU (h : OInv w B g most cv bv uv fv ks vs us fr) {u : Bool} {v3 : Value} (hg : w.grownBy w' uv.ownBlock) (hown : w'.ownsRow B 4 1 v3 (us.length + 1) (ucs us ++ [.bool u])) :
    OInv (w'.setCell ⟨g, 3, none⟩ v3) B g most cv bv v3 fv ks vs (us ++ [u]) fr := by
  have ho : Only (fun k => uv.ownBlock = some k ∨ k = g) w (w'.setCell ⟨g, 3, none⟩ v3) := ((Only.of_grown hg).mono (fun _ _ h => .inl h)).setCell (p := ⟨g, 3, none⟩) (.inl (.inr rfl)) _
  have hS : ∀ k, uv.ownBlock = some k ∨ k = g → ∀ c fr, w.heap[k]? ≠ some (.cells c 5 fr) := fun k hk => by
    rcases hk with hk | rfl
    · exact own_ne h.rep.used (by decide) k hk
    · exact fun c fr e => h.out.ne_ e (by decide) rfl
  have bo := h.out.grown hg (fun e => h.off h.rep.used (by decide) e.symm)
  have hn3 : v3.ownBlock ≠ some g := fun e => by
    obtain ⟨_, cur, h2⟩ := row_blockS hown e
    exact (bo.ne_ h2 (by decide)) rfl
  have other : ∀ {e : TypeId} {size n : Nat} {v : Value} {xs : List Value}, w.ownsRow B e size v n xs → 55 ≠ e → (∀ k, v.ownBlock = some k → uv.ownBlock ≠ some k) → (w'.setCell ⟨g, 3, none⟩ v3).ownsRow B e size v n xs := fun hr he hne =>
    ownsRow_only hr ho (fun k hk e => by
      rcases e with e | e
      · exact hne k hk e
      · subst e; exact h.off hr he hk)
  have hvals : ∀ x ∈ vs, Bts (w'.setCell ⟨g, 3, none⟩ v3) 0 5 x.2 x.1 := fun x hx => bts_turn (h.rep.vals x hx) ho hS
  refine ⟨bo.set_ 3 v3, ⟨other h.rep.cells (by decide) (rows_offS h.rep.cells h.rep.used (by decide)), other h.rep.bytes (by decide) (rows_offS h.rep.bytes h.rep.used (by decide)), ?_, other h.rep.free (by decide) (rows_offS h.rep.free h.rep.used (by decide)), hvals, h.rep.cf⟩⟩
  rw [List.length_append, List.length_singleton, ucs_snoc]
  exact ownsRow_setCell_other hown (a := ⟨g, 3, none⟩) hn3 _

/-- Free := nil. -/
theorem OInv.nilF (h : OInv w B g most cv bv uv fv ks vs us fr) : OInv (w.setCell ⟨g, 4, none⟩ (.slice none 0 0)) B g most cv bv uv (.slice none 0 0) ks vs us [] := by
  have ho : Only (fun k => k = g) w (w.setCell ⟨g, 4, none⟩ (.slice none 0 0)) := Only.setCell (S := fun k => k = g) (Only.refl _ _) (p := ⟨g, 4, none⟩) (.inl rfl) _
  have hS : ∀ k, k = g → ∀ c fr, w.heap[k]? ≠ some (.cells c 5 fr) := fun k hk c fr e => by subst hk; exact h.out.ne_ e (by decide) rfl
  have other : ∀ {e : TypeId} {size n : Nat} {v : Value} {xs : List Value}, w.ownsRow B e size v n xs → 55 ≠ e → (w.setCell ⟨g, 4, none⟩ (.slice none 0 0)).ownsRow B e size v n xs := fun hr he =>
    ownsRow_only hr ho (fun k hk e => by subst e; exact h.off hr he hk)
  exact ⟨h.out.set_ 4 _, ⟨other h.rep.cells (by decide), other h.rep.bytes (by decide), other h.rep.used (by decide), World.ownsRow_nil _ _ _ _, fun x hx => bts_turn (h.rep.vals x hx) ho hS, fun k _ e => by cases e⟩⟩

/-- Used[i] := b. -/
theorem OInv.setU (h : OInv w B g most cv bv uv fv ks vs us fr) {i gu cap : Nat} (hi : i < us.length) (hu : uv = .slice (some ⟨gu, 0, none⟩) us.length cap) (u : Bool) : OInv (w.setCell ⟨gu, i, none⟩ (.bool u)) B g most cv bv uv fv ks vs (us.set i u) fr := by
  have ho : Only (fun k => k = gu) w (w.setCell ⟨gu, i, none⟩ (.bool u)) := Only.setCell (S := fun k => k = gu) (Only.refl _ _) (p := ⟨gu, i, none⟩) (.inl rfl) _
  have hou : uv.ownBlock = some gu := by rw [hu]; rfl
  have hS : ∀ k, k = gu → ∀ c fr, w.heap[k]? ≠ some (.cells c 5 fr) := fun k hk => by subst hk; exact own_ne h.rep.used (by decide) k hou
  have hrow := h.rep.used
  rw [hu] at hrow
  have h2 := (hrow.stored i (.bool u)).1
  refine ⟨h.out.only ho (fun e => h.off h.rep.used (by decide) (by rw [hou, e])), ⟨ownsRow_only h.rep.cells ho (fun k hk e => by subst e; exact rows_offS h.rep.cells h.rep.used (by decide) k hk hou), ownsRow_only h.rep.bytes ho (fun k hk e => by subst e; exact rows_offS h.rep.bytes h.rep.used (by decide) k hk hou), ?_, ownsRow_only h.rep.free ho (fun k hk e => by subst e; exact rows_offS h.rep.free h.rep.used (by decide) k hk hou), fun x hx => bts_turn (h.rep.vals x hx) ho hS, h.rep.cf⟩⟩
  rw [List.length_set, hu, show ucs (us.set i u) = (ucs us).set i (.bool u) by simp [ucs, List.map_set]]
  exact h2
/-- Bytes[i] := v. -/
theorem OInv.setB (h : OInv w B g most cv bv uv fv ks vs us fr) {i gb cap : Nat} (hi : i < vs.length) (hb : bv = .slice (some ⟨gb, 0, none⟩) vs.length cap) {x : List UInt8 × Value} (hx : Bts w 0 5 x.2 x.1) : OInv (w.setCell ⟨gb, i, none⟩ x.2) B g most cv bv uv fv ks (vs.set i x) us fr := by
  have ho : Only (fun k => k = gb) w (w.setCell ⟨gb, i, none⟩ x.2) := Only.setCell (S := fun k => k = gb) (Only.refl _ _) (p := ⟨gb, i, none⟩) (.inl rfl) _
  have hob : bv.ownBlock = some gb := by rw [hb]; rfl
  have hS : ∀ k, k = gb → ∀ c fr, w.heap[k]? ≠ some (.cells c 5 fr) := fun k hk => by subst hk; exact own_ne h.rep.bytes (by decide) k hob
  have hrow := h.rep.bytes
  rw [hb] at hrow
  have h2 := (hrow.stored i x.2).1
  refine ⟨h.out.only ho (fun e => h.off h.rep.bytes (by decide) (by rw [hob, e])), ⟨ownsRow_only h.rep.cells ho (fun k hk e => by subst e; exact rows_offS h.rep.cells h.rep.bytes (by decide) k hk hob), ?_, ownsRow_only h.rep.used ho (fun k hk e => by subst e; exact rows_offS h.rep.used h.rep.bytes (by decide) k hk hob), ownsRow_only h.rep.free ho (fun k hk e => by subst e; exact rows_offS h.rep.free h.rep.bytes (by decide) k hk hob), fun y hy => ?_, h.rep.cf⟩⟩
  · rw [List.length_set, hb, show vcs (vs.set i x) = (vcs vs).set i x.2 by simp [vcs, List.map_set]]
    exact h2
  · rcases List.mem_or_eq_of_mem_set hy with hy | rfl
    · exact bts_turn (h.rep.vals y hy) ho hS
    · exact bts_turn hx ho hS
end

end Go.Proofs.Ytookfhmghchkjaa
