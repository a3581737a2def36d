/- SlabPlays, SlabLongs: what holds between two calls. No program in sight. -/
import Derived.Test.YtookfhmghchkjaaSDoM
namespace Go.Proofs.Ytookfhmghchkjaa
open Go Go.RowKit

structure PInvS (w W : World) (B g b m : Nat) (most : Int) (st : PSt) (cv bv uv fv : Value) (ks : List (Int × Int)) (vs : List (List UInt8 × Value)) (us : List Bool) (fr : List (Int × Int)) : Prop where
  rep : ARep W B b most st
  ref : RRep W B cv bv uv fv ks vs us fr
  sync : RSync m st ks (vs.map Prod.fst) us fr
  wf : PWf m st
  below : Below B w W
  box : Blk W g 55 #[.int .i64 most, cv, bv, uv, fv]
  gpos : B ≤ g
  base : B ≤ w.heap.size

section
variable {w W W' : World} {B g b m : Nat} {most : Int} {st : PSt} {cv bv uv fv : Value} {ks : List (Int × Int)} {vs : List (List UInt8 × Value)} {us : List Bool} {fr : List (Int × Int)}
theorem PInvS.size (h : PInvS w W B g b m most st cv bv uv fv ks vs us fr) : B ≤ W.heap.size := Nat.le_trans h.base h.below.size
theorem PInvS.adv (h : PInvS w W B g b m most st cv bv uv fv ks vs us fr) (hb : Below W.heap.size W W') : PInvS w W' B g b m most st cv bv uv fv ks vs us fr :=
  ⟨h.rep.below hb, h.ref.below hb, h.sync, h.wf, h.below.trans (hb.mono h.size), h.box.below hb, h.gpos, h.base⟩

/-- Behind a call of do: the new arena, and the new reference's arena, which is then laid into the box. -/
theorem PInvS.done {b' : Nat} {st' : PSt} {cv' bv' uv' fv' : Value} {ks' : List (Int × Int)} {vs' : List (List UInt8 × Value)} {us' : List Bool} {fr' : List (Int × Int)} (h : PInvS w W B g b m most st cv bv uv fv ks vs us fr)
    (hr : ARep W' B b' most st') (hR : RRep W' B cv' bv' uv' fv' ks' vs' us' fr') (hs : RSync (m + 4) st' ks' (vs'.map Prod.fst) us' fr') (hw : PWf (m + 4) st') (hk : KeepS B W W') (hb : Below B W W') :
    PInvS w (((((W'.setCell ⟨g, 0, none⟩ (.int .i64 most)).setCell ⟨g, 1, none⟩ cv').setCell ⟨g, 2, none⟩ bv').setCell ⟨g, 3, none⟩ uv').setCell ⟨g, 4, none⟩ fv') B g b' (m + 4) most st' cv' bv' uv' fv' ks' vs' us' fr' ∧
      Below B W (((((W'.setCell ⟨g, 0, none⟩ (.int .i64 most)).setCell ⟨g, 1, none⟩ cv').setCell ⟨g, 2, none⟩ bv').setCell ⟨g, 3, none⟩ uv').setCell ⟨g, 4, none⟩ fv') ∧
      KeepB B 5 W (((((W'.setCell ⟨g, 0, none⟩ (.int .i64 most)).setCell ⟨g, 1, none⟩ cv').setCell ⟨g, 2, none⟩ bv').setCell ⟨g, 3, none⟩ uv').setCell ⟨g, 4, none⟩ fv') ∧
      (∀ k cs, Blk W k 41 cs → Blk (((((W'.setCell ⟨g, 0, none⟩ (.int .i64 most)).setCell ⟨g, 1, none⟩ cv').setCell ⟨g, 2, none⟩ bv').setCell ⟨g, 3, none⟩ uv').setCell ⟨g, 4, none⟩ fv') k 41 cs) := by
  have hx : Blk W' g 55 #[.int .i64 most, cv, bv, uv, fv] := hk.blk h.box (by decide) (by decide) (by decide)
  have ho := only5 W' g (.int .i64 most) cv' bv' uv' fv'
  have h1 : Blk (((((W'.setCell ⟨g, 0, none⟩ (.int .i64 most)).setCell ⟨g, 1, none⟩ cv').setCell ⟨g, 2, none⟩ bv').setCell ⟨g, 3, none⟩ uv').setCell ⟨g, 4, none⟩ fv') g 55 #[.int .i64 most, cv', bv', uv', fv'] := ((((hx.set_ 0 (.int .i64 most)).set_ 1 cv').set_ 2 bv').set_ 3 uv').set_ 4 fv'
  generalize World.setCell _ _ _ = W2 at ho h1 ⊢
  have hg := h.gpos
  have hb2 : Below B W' W2 := ho.below (fun i hi _ e => by omega) (Nat.le_trans h.size hb.size)
  have hkb : KeepB B 5 W' W2 := KeepB.of_only ho fun k _ hk => ⟨by omega, fun c fr e => by
    subst hk
    exact (hx.ne_ e (by decide)) rfl⟩
  refine ⟨⟨?_, hR.offbox hx ho, hs, hw, (h.below.trans hb).trans hb2, h1, h.gpos, h.base⟩, hb.trans hb2, hk.u8.trans hkb, fun k cs hc => ?_⟩
  · obtain ⟨sh, h2, h3⟩ := hr
    refine ⟨sh, h2.offbox ho (fun j e => ?_), h3⟩
    subst e
    exact ⟨h.gpos, _, _, hx, by decide, by decide, by decide, by decide⟩
  · have h4 := hk.blk hc (by decide) (by decide) (by decide)
    exact h4.only ho (fun e => (hx.ne_ h4 (by decide)) e.symm)
end

end Go.Proofs.Ytookfhmghchkjaa
