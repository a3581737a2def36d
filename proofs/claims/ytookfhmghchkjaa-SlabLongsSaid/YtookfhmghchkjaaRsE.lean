/- A call of the reference's arena (layer 13) under way: its boxes, and the copy that it turns. -/
import Derived.Test.YtookfhmghchkjaaRsD
namespace Go.Proofs.Ytookfhmghchkjaa
open Go Go.RowKit

/-- What a call that returns another arena leaves. -/
def RRes (w : World) (most : Int) (ks' : List (Int × Int)) (bss' : List (List UInt8)) (us' : List Bool) (fr' : List (Int × Int)) (mk : Value → Value) (e : Ending) (w' : World) : Prop :=
  ∃ cv' bv' uv' fv' vs', e = .returned (mk (.agg #[.int .i64 most, cv', bv', uv', fv'])) ∧ RRep w' w.heap.size cv' bv' uv' fv' ks' vs' us' fr' ∧ vs'.map Prod.fst = bss' ∧ (∀ x ∈ vs', ∀ g, x.2.ownBlock = some g → w.heap.size ≤ g) ∧ Below w.heap.size w w'

/-- A call under way: the arena in its box at s, an arena's box at r and a cell's at c, all below m; the copy at g, in rows at m or above. -/
structure PA (w W : World) (B m s r c g : Nat) (y0 y1 : Value) (most : Int) (cv bv uv fv : Value) (ks : List (Int × Int)) (vs : List (List UInt8 × Value)) (us : List Bool) (fr : List (Int × Int)) (cv' bv' uv' fv' : Value) (ks' : List (Int × Int)) (vs' : List (List UInt8 × Value)) (us' : List Bool) (fr' : List (Int × Int)) : Prop where
  src : RRep W B cv bv uv fv ks vs us fr
  b1 : Blk W s 55 #[.int .i64 most, cv, bv, uv, fv]
  b2 : Blk W r 55 #[.int .i64 0, .slice none 0 0, .slice none 0 0, .slice none 0 0, .slice none 0 0]
  b3 : Blk W c 38 #[y0, y1]
  out : OInv W m g most cv' bv' uv' fv' ks' vs' us' fr'
  gpos : m ≤ g
  below : Below w.heap.size w W
  size : m ≤ W.heap.size
  lo : w.heap.size ≤ s ∧ w.heap.size ≤ r ∧ w.heap.size ≤ c
  hi : s < m ∧ r < m ∧ c < m
  base : w.heap.size ≤ m
  fresh : ∀ x ∈ vs', ∀ k, x.2.ownBlock = some k → w.heap.size ≤ k

section
variable {w W W' : World} {B m s r c g : Nat} {y0 y1 : Value} {most : Int} {cv bv uv fv : Value} {ks : List (Int × Int)} {vs : List (List UInt8 × Value)} {us : List Bool} {fr : List (Int × Int)} {cv' bv' uv' fv' : Value} {ks' : List (Int × Int)} {vs' : List (List UInt8 × Value)} {us' : List Bool} {fr' : List (Int × Int)}

theorem PA.adv (h : PA w W B m s r c g y0 y1 most cv bv uv fv ks vs us fr cv' bv' uv' fv' ks' vs' us' fr') (hb : Below W.heap.size W W') : PA w W' B m s r c g y0 y1 most cv bv uv fv ks vs us fr cv' bv' uv' fv' ks' vs' us' fr' :=
  ⟨h.src.below hb, h.b1.below hb, h.b2.below hb, h.b3.below hb, h.out.adv hb, h.gpos, h.below.trans (hb.mono h.below.size), Nat.le_trans h.size hb.size, h.lo, h.hi, h.base, h.fresh⟩
theorem PA.alloc (h : PA w W B m s r c g y0 y1 most cv bv uv fv ks vs us fr cv' bv' uv' fv' ks' vs' us' fr') (o : Obj) : PA w (W.alloc o) B m s r c g y0 y1 most cv bv uv fv ks vs us fr cv' bv' uv' fv' ks' vs' us' fr' := h.adv ((Below.refl _ _).alloc (Nat.le_refl _) o)
theorem PA.drew (h : PA w W B m s r c g y0 y1 most cv bv uv fv ks vs us fr cv' bv' uv' fv' ks' vs' us' fr') : PA w W.drew B m s r c g y0 y1 most cv bv uv fv ks vs us fr cv' bv' uv' fv' ks' vs' us' fr' := h.adv (Below.refl _ _).drew
theorem PA.drewN (h : PA w W B m s r c g y0 y1 most cv bv uv fv ks vs us fr cv' bv' uv' fv' ks' vs' us' fr') (n : Nat) : PA w (W.drewN n) B m s r c g y0 y1 most cv bv uv fv ks vs us fr cv' bv' uv' fv' ks' vs' us' fr' := h.adv ⟨rfl, rfl, rfl, Nat.le_refl _, fun _ _ => rfl⟩

/-- Only the copy, or what is newer, was turned. -/
theorem PA.low {cv2 bv2 uv2 fv2 : Value} {ks2 : List (Int × Int)} {vs2 : List (List UInt8 × Value)} {us2 : List Bool} {fr2 : List (Int × Int)} (hr : RRep w B cv bv uv fv ks vs us fr) (h : PA w W B m s r c g y0 y1 most cv bv uv fv ks vs us fr cv' bv' uv' fv' ks' vs' us' fr') (hb : Below m W W') (ho : OInv W' m g most cv2 bv2 uv2 fv2 ks2 vs2 us2 fr2) (hf : ∀ x ∈ vs2, ∀ k, x.2.ownBlock = some k → w.heap.size ≤ k) :
    PA w W' B m s r c g y0 y1 most cv bv uv fv ks vs us fr cv2 bv2 uv2 fv2 ks2 vs2 us2 fr2 := by
  obtain ⟨h1, h2, h3⟩ := h.hi
  have hb2 := h.below.trans (hb.mono h.base)
  exact ⟨hr.below hb2, h.b1.below_at hb h1, h.b2.below_at hb h2, h.b3.below_at hb h3, ho, h.gpos, hb2, Nat.le_trans h.size hb.size, h.lo, h.hi, h.base, hf⟩

theorem PA.below_push {e : TypeId} {size n i : Nat} {v : Value} {xs : List Value} {v3 : Value} (h : PA w W B m s r c g y0 y1 most cv bv uv fv ks vs us fr cv' bv' uv' fv' ks' vs' us' fr') (hrow : W.ownsRow m e size v n xs) (hg : W.grownBy W' v.ownBlock) : Below m W (W'.setCell ⟨g, i, none⟩ v3) :=
  ((Below.refl _ _).grown hg h.size (fun j hj => (row_blockS hrow hj).1)).setCell (p := ⟨g, i, none⟩) h.gpos _

theorem PA.pushC (hr : RRep w B cv bv uv fv ks vs us fr) (h : PA w W B m s r c g y0 y1 most cv bv uv fv ks vs us fr cv' bv' uv' fv' ks' vs' us' fr') {K N : Int} {v3 : Value} (hg : W.grownBy W' cv'.ownBlock) (hown : W'.ownsRow m 38 2 v3 (ks'.length + 1) (kcs ks' ++ [.int .i64 K, .int .i64 N])) (hat : v3.ownBlock = cv'.ownBlock ∨ v3.ownBlock = some W.heap.size) :
    PA w (W'.setCell ⟨g, 1, none⟩ v3) B m s r c g y0 y1 most cv bv uv fv ks vs us fr v3 bv' uv' fv' (ks' ++ [(K, N)]) vs' us' fr' :=
  PA.low hr h (h.below_push h.out.rep.cells hg) (h.out.pushC hg hown hat) h.fresh
theorem PA.pushF (hr : RRep w B cv bv uv fv ks vs us fr) (h : PA w W B m s r c g y0 y1 most cv bv uv fv ks vs us fr cv' bv' uv' fv' ks' vs' us' fr') {K N : Int} {v3 : Value} (hg : W.grownBy W' fv'.ownBlock) (hown : W'.ownsRow m 38 2 v3 (fr'.length + 1) (kcs fr' ++ [.int .i64 K, .int .i64 N])) (hat : v3.ownBlock = fv'.ownBlock ∨ v3.ownBlock = some W.heap.size) :
    PA w (W'.setCell ⟨g, 4, none⟩ v3) B m s r c g y0 y1 most cv bv uv fv ks vs us fr cv' bv' uv' v3 ks' vs' us' (fr' ++ [(K, N)]) :=
  PA.low hr h (h.below_push h.out.rep.free hg) (h.out.pushF hg hown hat) h.fresh
theorem PA.pushB (hr : RRep w B cv bv uv fv ks vs us fr) (h : PA w W B m s r c g y0 y1 most cv bv uv fv ks vs us fr cv' bv' uv' fv' ks' vs' us' fr') {x : List UInt8 × Value} {v3 : Value} (hx : Bts W 0 5 x.2 x.1) (hxf : ∀ k, x.2.ownBlock = some k → w.heap.size ≤ k) (hg : W.grownBy W' bv'.ownBlock) (hown : W'.ownsRow m 39 1 v3 (vs'.length + 1) (vcs vs' ++ [x.2])) :
    PA w (W'.setCell ⟨g, 2, none⟩ v3) B m s r c g y0 y1 most cv bv uv fv ks vs us fr cv' v3 uv' fv' ks' (vs' ++ [x]) us' fr' :=
  PA.low hr h (h.below_push h.out.rep.bytes hg) (h.out.pushB hx hg hown) (fun y hy => by
    rcases List.mem_append.1 hy with hy | hy
    · exact h.fresh y hy
    · obtain rfl : y = x := by simpa using hy
      exact hxf)
theorem PA.pushU (hr : RRep w B cv bv uv fv ks vs us fr) (h : PA w W B m s r c g y0 y1 most cv bv uv fv ks vs us fr cv' bv' uv' fv' ks' vs' us' fr') {u : Bool} {v3 : Value} (hg : W.grownBy W' uv'.ownBlock) (hown : W'.ownsRow m 4 1 v3 (us'.length + 1) (ucs us' ++ [.bool u])) :
    PA w (W'.setCell ⟨g, 3, none⟩ v3) B m s r c g y0 y1 most cv bv uv fv ks vs us fr cv' bv' v3 fv' ks' vs' (us' ++ [u]) fr' :=
  PA.low hr h (h.below_push h.out.rep.used hg) (h.out.pushU hg hown) h.fresh
theorem PA.nilF (hr : RRep w B cv bv uv fv ks vs us fr) (h : PA w W B m s r c g y0 y1 most cv bv uv fv ks vs us fr cv' bv' uv' fv' ks' vs' us' fr') : PA w (W.setCell ⟨g, 4, none⟩ (.slice none 0 0)) B m s r c g y0 y1 most cv bv uv fv ks vs us fr cv' bv' uv' (.slice none 0 0) ks' vs' us' [] :=
  PA.low hr h ((Below.refl _ _).setCell (p := ⟨g, 4, none⟩) h.gpos _) h.out.nilF h.fresh
theorem PA.setU (hr : RRep w B cv bv uv fv ks vs us fr) (h : PA w W B m s r c g y0 y1 most cv bv uv fv ks vs us fr cv' bv' uv' fv' ks' vs' us' fr') {i gu cap : Nat} (hi : i < us'.length) (hu : uv' = .slice (some ⟨gu, 0, none⟩) us'.length cap) (u : Bool) :
    PA w (W.setCell ⟨gu, i, none⟩ (.bool u)) B m s r c g y0 y1 most cv bv uv fv ks vs us fr cv' bv' uv' fv' ks' vs' (us'.set i u) fr' :=
  PA.low hr h ((Below.refl _ _).setCell (p := ⟨gu, i, none⟩) (row_blockS h.out.rep.used (by rw [hu]; rfl)).1 _) (h.out.setU hi hu u) h.fresh
theorem PA.setB (hr : RRep w B cv bv uv fv ks vs us fr) (h : PA w W B m s r c g y0 y1 most cv bv uv fv ks vs us fr cv' bv' uv' fv' ks' vs' us' fr') {i gb cap : Nat} (hi : i < vs'.length) (hb : bv' = .slice (some ⟨gb, 0, none⟩) vs'.length cap) {x : List UInt8 × Value} (hx : Bts W 0 5 x.2 x.1) (hxf : ∀ k, x.2.ownBlock = some k → w.heap.size ≤ k) :
    PA w (W.setCell ⟨gb, i, none⟩ x.2) B m s r c g y0 y1 most cv bv uv fv ks vs us fr cv' bv' uv' fv' ks' (vs'.set i x) us' fr' :=
  PA.low hr h ((Below.refl _ _).setCell (p := ⟨gb, i, none⟩) (row_blockS h.out.rep.bytes (by rw [hb]; rfl)).1 _) (h.out.setB hi hb hx) (fun y hy => by
    rcases List.mem_or_eq_of_mem_set hy with hy | rfl
    · exact h.fresh y hy
    · exact hxf)

/-- A cell's box that is no row was written. -/
theorem OInv.offcell {k : Nat} {cs : Array Value} (h : OInv W B g most cv bv uv fv ks vs us fr) (hx : Blk W k 38 cs) (ho : Only (fun j => j = k) W W') (h1 : cv.ownBlock ≠ some k) (h2 : fv.ownBlock ≠ some k) : OInv W' B g most cv bv uv fv ks vs us fr := by
  refine ⟨h.out.only ho (fun e => by subst e; exact (h.out.ne_ hx (by decide)) rfl), h.rep.only ho (fun j hj e => by subst e; exact h1 hj) (fun j hj e => ?_) (fun j hj e => ?_) (fun j hj e => by subst e; exact h2 hj) (fun x hx' => bts_turn (h.rep.vals x hx') ho (fun j hj c fr e => by subst hj; exact (hx.ne_ e (by decide)) rfl))⟩
  · subst e
    obtain ⟨_, cur, h3⟩ := row_blockS h.rep.bytes hj
    exact (hx.ne_ h3 (by decide)) rfl
  · subst e
    obtain ⟨_, cur, h3⟩ := row_blockS h.rep.used hj
    exact (hx.ne_ h3 (by decide)) rfl
theorem PA.offcell {k : Nat} {cs : Array Value} (hr : RRep w B cv bv uv fv ks vs us fr) (h : PA w W B m s r c g y0 y1 most cv bv uv fv ks vs us fr cv' bv' uv' fv' ks' vs' us' fr') (hx : Blk W k 38 cs) (hk : m ≤ k) (ho : Only (fun j => j = k) W W') (h1 : cv'.ownBlock ≠ some k) (h2 : fv'.ownBlock ≠ some k) : PA w W' B m s r c g y0 y1 most cv bv uv fv ks vs us fr cv' bv' uv' fv' ks' vs' us' fr' :=
  PA.low hr h (ho.below (fun i hi _ e => by omega) h.size) (h.out.offcell hx ho h1 h2) h.fresh

/-- The result's boxes were written. -/
theorem PA.fin (h : PA w W B m s r c g y0 y1 most cv bv uv fv ks vs us fr cv' bv' uv' fv' ks' vs' us' fr') (ho : Only (fun j => j = r ∨ j = c) W W') : RRep W' w.heap.size cv' bv' uv' fv' ks' vs' us' fr' ∧ Below w.heap.size w W' := by
  obtain ⟨h1, h2, h3⟩ := h.hi
  obtain ⟨l1, l2, l3⟩ := h.lo
  have key : ∀ {e : TypeId} {size n : Nat} {v : Value} {xs : List Value}, W.ownsRow m e size v n xs → ∀ k, v.ownBlock = some k → ¬ (k = r ∨ k = c) := fun hr k hk e => by
    have := (row_blockS hr hk).1
    omega
  refine ⟨(h.out.rep.only ho (key h.out.rep.cells) (key h.out.rep.bytes) (key h.out.rep.used) (key h.out.rep.free) (fun x hx => bts_turn (h.out.rep.vals x hx) ho (fun j hj c2 fr2 e => ?_))).base h.base, h.below.trans (ho.below (fun i hi _ e => by omega) h.below.size)⟩
  rcases hj with rfl | rfl
  · exact (h.b2.ne_ e (by decide)) rfl
  · exact (h.b3.ne_ e (by decide)) rfl

theorem far7 {gg hh p : Nat} {a b d e f K N : Value} (hS : W.cell? ⟨gg, 0, none⟩ = some a ∧ W.cell? ⟨gg, 1, none⟩ = some b ∧ W.cell? ⟨gg, 2, none⟩ = some d ∧ W.cell? ⟨gg, 3, none⟩ = some e ∧ W.cell? ⟨gg, 4, none⟩ = some f ∧ W.cell? ⟨hh, 0, none⟩ = some K ∧ W.cell? ⟨hh, 1, none⟩ = some N) (hg : ¬ gg = p) (hh' : ¬ hh = p) (i : Nat) (u : Value) :
    (W.setCell ⟨p, i, none⟩ u).cell? ⟨gg, 0, none⟩ = some a ∧ (W.setCell ⟨p, i, none⟩ u).cell? ⟨gg, 1, none⟩ = some b ∧ (W.setCell ⟨p, i, none⟩ u).cell? ⟨gg, 2, none⟩ = some d ∧ (W.setCell ⟨p, i, none⟩ u).cell? ⟨gg, 3, none⟩ = some e ∧ (W.setCell ⟨p, i, none⟩ u).cell? ⟨gg, 4, none⟩ = some f ∧ (W.setCell ⟨p, i, none⟩ u).cell? ⟨hh, 0, none⟩ = some K ∧ (W.setCell ⟨p, i, none⟩ u).cell? ⟨hh, 1, none⟩ = some N := by
  obtain ⟨h0, h1, h2, h3, h4, h5, h6⟩ := hS
  exact ⟨cell_farS h0 hg, cell_farS h1 hg, cell_farS h2 hg, cell_farS h3 hg, cell_farS h4 hg, cell_farS h5 hh', cell_farS h6 hh'⟩
theorem drew7 {gg hh : Nat} {a b d e f K N : Value} (hS : W.cell? ⟨gg, 0, none⟩ = some a ∧ W.cell? ⟨gg, 1, none⟩ = some b ∧ W.cell? ⟨gg, 2, none⟩ = some d ∧ W.cell? ⟨gg, 3, none⟩ = some e ∧ W.cell? ⟨gg, 4, none⟩ = some f ∧ W.cell? ⟨hh, 0, none⟩ = some K ∧ W.cell? ⟨hh, 1, none⟩ = some N) :
    W.drew.cell? ⟨gg, 0, none⟩ = some a ∧ W.drew.cell? ⟨gg, 1, none⟩ = some b ∧ W.drew.cell? ⟨gg, 2, none⟩ = some d ∧ W.drew.cell? ⟨gg, 3, none⟩ = some e ∧ W.drew.cell? ⟨gg, 4, none⟩ = some f ∧ W.drew.cell? ⟨hh, 0, none⟩ = some K ∧ W.drew.cell? ⟨hh, 1, none⟩ = some N := hS
end
theorem only_rc (w : World) (r c : Nat) (a b d e f K N : Value) : Only (fun k => k = r ∨ k = c) w (((((((w.setCell ⟨r, 0, none⟩ a).setCell ⟨r, 1, none⟩ b).setCell ⟨r, 2, none⟩ d).setCell ⟨r, 3, none⟩ e).setCell ⟨r, 4, none⟩ f).setCell ⟨c, 0, none⟩ K).setCell ⟨c, 1, none⟩ N) := by
  have h5 : Only (fun k => k = r ∨ k = c) w (((((w.setCell ⟨r, 0, none⟩ a).setCell ⟨r, 1, none⟩ b).setCell ⟨r, 2, none⟩ d).setCell ⟨r, 3, none⟩ e).setCell ⟨r, 4, none⟩ f) := (only5 w r a b d e f).mono (fun _ _ h => .inl h)
  exact (h5.setCell (p := ⟨c, 0, none⟩) (.inl (.inr rfl)) K).setCell (p := ⟨c, 1, none⟩) (.inl (.inr rfl)) N
theorem only_cr (w : World) (r c : Nat) (a b d e f K N : Value) : Only (fun k => k = r ∨ k = c) w (((((((w.setCell ⟨c, 0, none⟩ K).setCell ⟨c, 1, none⟩ N).setCell ⟨r, 0, none⟩ a).setCell ⟨r, 1, none⟩ b).setCell ⟨r, 2, none⟩ d).setCell ⟨r, 3, none⟩ e).setCell ⟨r, 4, none⟩ f) := by
  have h2 : Only (fun k => k = r ∨ k = c) w ((w.setCell ⟨c, 0, none⟩ K).setCell ⟨c, 1, none⟩ N) := ((Only.refl _ _).setCell (p := ⟨c, 0, none⟩) (.inl (.inr rfl)) K).setCell (p := ⟨c, 1, none⟩) (.inl (.inr rfl)) N
  exact ((((h2.setCell (p := ⟨r, 0, none⟩) (.inl (.inl rfl)) a).setCell (p := ⟨r, 1, none⟩) (.inl (.inl rfl)) b).setCell (p := ⟨r, 2, none⟩) (.inl (.inl rfl)) d).setCell (p := ⟨r, 3, none⟩) (.inl (.inl rfl)) e).setCell (p := ⟨r, 4, none⟩) (.inl (.inl rfl)) f
theorem RRep.keeps {w W : World} {B : Nat} {cv bv uv fv : Value} {ks : List (Int × Int)} {vs : List (List UInt8 × Value)} {us : List Bool} {fr : List (Int × Int)} (h : RRep w B cv bv uv fv ks vs us fr) (hb : Below w.heap.size w W) : RRep W B cv bv uv fv ks vs us fr := h.below hb

/-- How many cells of a class there are. -/
def cntK (k : Nat) (ks : List (Int × Int)) : Nat := (ks.filter fun x => decide (x.1 = (k : Int))).length
theorem cntK_snoc (k : Nat) (ks : List (Int × Int)) (x : Int × Int) : cntK k (ks ++ [x]) = cntK k ks + (if x.1 = (k : Int) then 1 else 0) := by
  unfold cntK
  rw [List.filter_append, List.length_append]
  by_cases h : x.1 = (k : Int) <;> simp [h]
theorem cntK_take {k i : Nat} {ks : List (Int × Int)} {x : Int × Int} (h : ks[i]? = some x) : cntK k (ks.take (i + 1)) = cntK k (ks.take i) + (if x.1 = (k : Int) then 1 else 0) := by
  rw [List.take_add_one, h, ← cntK_snoc]; rfl
theorem cntK_le (k : Nat) (ks : List (Int × Int)) : cntK k ks ≤ ks.length := List.length_filter_le _ _

end Go.Proofs.Ytookfhmghchkjaa
