/- SlabLongs: its five calls in memory. No program in sight. -/
import Derived.Test.YtookfhmghchkjaaSPlaysM
import Derived.Test.YtookfhmghchkjaaSlabW
namespace Go.Proofs.Ytookfhmghchkjaa
open Go Go.RowKit

def fiveC (vb vx vy : Value) : Array Value := #[.int .i64 0, .int .i64 0, .int .i64 0, vb, .int .i64 0, .int .i64 0, .int .i64 0, vx, .int .i64 3, .int .i64 0, .int .i64 0, vb, .int .i64 3, .int .i64 12, .int .i64 0, vy, .int .i64 0, .int .i64 0, .int .i64 0, vb]
structure Five (W : World) (B q : Nat) (vb vx vy : Value) (bs xs ys : List UInt8) : Prop where
  blk : Blk W q 41 (fiveC vb vx vy)
  b : Bts W B 5 vb bs
  x : Bts W B 5 vx xs
  y : Bts W B 5 vy ys
section
variable {W W' : World} {B q : Nat} {vb vx vy : Value} {bs xs ys : List UInt8}
theorem Five.below (h : Five W B q vb vx vy bs xs ys) (hb : Below W.heap.size W W') : Five W' B q vb vx vy bs xs ys := ⟨h.blk.below hb, h.b.below hb, h.x.below hb, h.y.below hb⟩
theorem Five.done (h : Five W B q vb vx vy bs xs ys) (hk : KeepB B 5 W W') (hb : ∀ k cs, Blk W k 41 cs → Blk W' k 41 cs) : Five W' B q vb vx vy bs xs ys :=
  ⟨hb _ _ h.blk, h.b.keep hk, h.x.keep hk, h.y.keep hk⟩
theorem Five.at_ (h : Five W B q vb vx vy bs xs ys) (h1 : bs.length ≤ 65540) (h2 : xs.length ≤ 65540) (h3 : ys.length ≤ 65540) : ∀ k, k < 5 → ∃ (what K N : Int) (v : Value) (zs : List UInt8),
    W.cell? ⟨q, k * 4, none⟩ = some (.int .i64 what) ∧ W.cell? ⟨q, k * 4 + 1, none⟩ = some (.int .i64 K) ∧ W.cell? ⟨q, k * 4 + 2, none⟩ = some (.int .i64 N) ∧ W.cell? ⟨q, k * 4 + 3, none⟩ = some v ∧ Bts W B 5 v zs ∧ zs.length ≤ 65540
  | 0, _ => ⟨0, 0, 0, vb, bs, h.blk.cell 0 _ rfl, h.blk.cell 1 _ rfl, h.blk.cell 2 _ rfl, h.blk.cell 3 _ rfl, h.b, h1⟩
  | 1, _ => ⟨0, 0, 0, vx, xs, h.blk.cell 4 _ rfl, h.blk.cell 5 _ rfl, h.blk.cell 6 _ rfl, h.blk.cell 7 _ rfl, h.x, h2⟩
  | 2, _ => ⟨3, 0, 0, vb, bs, h.blk.cell 8 _ rfl, h.blk.cell 9 _ rfl, h.blk.cell 10 _ rfl, h.blk.cell 11 _ rfl, h.b, h1⟩
  | 3, _ => ⟨3, 12, 0, vy, ys, h.blk.cell 12 _ rfl, h.blk.cell 13 _ rfl, h.blk.cell 14 _ rfl, h.blk.cell 15 _ rfl, h.y, h3⟩
  | 4, _ => ⟨0, 0, 0, vb, bs, h.blk.cell 16 _ rfl, h.blk.cell 17 _ rfl, h.blk.cell 18 _ rfl, h.blk.cell 19 _ rfl, h.b, h1⟩
  | n + 5, h => by omega

/-- A slice of bytes is written before any call. -/
theorem PInvS.spoilt0 {w : World} {g b base n : Nat} {most : Int} {v : Value} {vs : List Value} (h : PInvS w W B g b 0 most p0 (.slice none 0 0) (.slice none 0 0) (.slice none 0 0) (.slice none 0 0) [] [] [] []) (hs : W.ownsRow base 5 1 v n vs) (hB : B ≤ base) (ho : Only (fun j => v.ownBlock = some j) W W') :
    PInvS w W' B g b 0 most p0 (.slice none 0 0) (.slice none 0 0) (.slice none 0 0) (.slice none 0 0) [] [] [] [] := by
  obtain ⟨sh, h1, h2⟩ := h.rep
  refine ⟨⟨sh, h1.spoilt hs ho (fun k hk c hc => ?_), h2⟩, RRep.nil _ _, RSync.nil, p0_wf, h.below.trans (ho.below (fun i hi _ e => ?_) h.size), h.box.spoilt hs ho (by decide), h.gpos, h.base⟩
  · have e : (sh k).cs = [] := by simpa [p0] using (h2 k hk).1
    rw [e] at hc
    cases hc
  · have := (row_blockS hs e).1
    omega
end

end Go.Proofs.Ytookfhmghchkjaa
