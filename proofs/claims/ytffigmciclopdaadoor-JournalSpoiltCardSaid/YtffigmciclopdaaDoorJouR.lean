/- Law 45's examples: what they compute. -/
import Derived.Test.YtffigmciclopdaaDoorJouQ
namespace Go.Proofs.YtffigmciclopdaaDoor
open Go Go.RowKit

def kr1 : List UInt8 := [0, 3, 0, 1, 97, 7, 255, 140, 198]
def kr2 : List UInt8 := [0, 1, 9, 200, 208, 159, 46]
def kr : List UInt8 := kr1 ++ kr2
theorem k_sum0 : sumL [] = 5381 := rfl
theorem k_r1 : recO (sumL []) getO = some kr1 := by kernel_rfl
theorem k_r2 : recO (sumL kr1) advO = some kr2 := by kernel_rfl
theorem k_zero (s : Nat) : recO s zeroO = none := by
  have : wrOp zeroO = none := by kernel_rfl
  unfold recO
  rw [this]; rfl
theorem k_adv : wrOp advO = some [9] := by kernel_rfl
theorem k_get : wrOp getO = some [0, 1, 97] := by kernel_rfl
theorem k_rd : rcvd kr = (kr, [9, 16], [getO, advO]) := by kernel_rfl
theorem k_rd1 : rcvd (kr.take 15) = (kr1, [9], [getO]) := by kernel_rfl
theorem k_rd0 : rcvd [] = ([], [], []) := rfl

/-- What the walk through the examples knows. -/
structure Kj (w W : World) (dv ev ov : Value) (ds : List UInt8) (es : List Nat) (ps : List (OpV × Value)) : Prop where
  rep : JRep W w.heap.size w.heap.size dv ev ov ds es ps
  below : Below w.heap.size w W
  kg : KG W
theorem Kj.adv {w W W2 : World} {dv ev ov : Value} {ds : List UInt8} {es : List Nat} {ps : List (OpV × Value)} (h : Kj w W dv ev ov ds es ps) (hb : Below W.heap.size W W2) : Kj w W2 dv ev ov ds es ps :=
  ⟨h.rep.below hb, h.below.trans (hb.mono h.below.size), h.kg.below hb h.kg.1⟩
theorem Kj.next {w W W2 : World} {dv ev ov d2 e2 o2 : Value} {ds d : List UInt8} {es e : List Nat} {ps p : List (OpV × Value)} (h : Kj w W dv ev ov ds es ps) (hr : JRep W2 w.heap.size w.heap.size d2 e2 o2 d e p) (ho : Only (jFp w.heap.size dv ev ov) W W2) (h0 : 0 < w.heap.size) : Kj w W2 d2 e2 o2 d e p :=
  have hb : Below w.heap.size W W2 := ho.below (fun i hi _ e => by have := (h.rep.toJS.fp_lt e).1; omega) h.below.size
  ⟨hr, h.below.trans hb, h.kg.below hb h0⟩
theorem Kj.start (w : World) (hk : KG w) : Kj w (w.alloc (.cells #[.slice none 0 0, .slice none 0 0, .slice none 0 0] 35)) (.slice none 0 0) (.slice none 0 0) (.slice none 0 0) [] [] [] :=
  ⟨⟨⟨Blk.new _ _ _, World.ownsRow_nil _ _ _ _, World.ownsRow_nil _ _ _ _, World.ownsRow_nil _ _ _ _, fun p hp => by simp at hp, fun p hp => by simp at hp, Nat.le_refl _⟩, .inl rfl, by simp, rfl, by simp⟩, (Below.refl _ _).alloc (Nat.le_refl _) _, hk.below ((Below.refl _ _).alloc (Nat.le_refl _) _) hk.1⟩

end Go.Proofs.YtffigmciclopdaaDoor
