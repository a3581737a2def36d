/- One call of both arenas (layer 13): its boxes; a slice of bytes of the call's own is written. No program in sight. -/
import Derived.Test.YtookfhmghchkjaaRsL
import Derived.Test.YtookfhmghchkjaaSlabRF
import Derived.Test.YtookfhmghchkjaaSlabCopy
import Derived.Test.YtookfhmghchkjaaSlabActs
namespace Go.Proofs.Ytookfhmghchkjaa
open Go Go.RowKit

theorem Bts.only0 {S : Nat → Prop} {w w' : World} {B U : Nat} {v : Value} {bs : List UInt8} (h : Bts w B U v bs) (ho : Only S w w') (hn : 0 < bs.length → ∀ g, v.ownBlock = some g → ¬ S g) : Bts w' B U v bs := by
  by_cases h0 : 0 < bs.length
  · exact h.only ho (hn h0)
  · obtain ⟨A, cap, hv, hl, hm, hnn, hr⟩ := h
    exact ⟨A, cap, hv, hl, hm, hnn, fun h => absurd h h0⟩
theorem Bts.val_lt {w : World} {B U : Nat} {v : Value} {bs : List UInt8} (h : Bts w B U v bs) (h0 : 0 < bs.length) {k : Nat} (hk : v.ownBlock = some k) : k < w.heap.size := by
  obtain ⟨A, cap, hv, _, _, _, hr⟩ := h
  obtain ⟨b', off, hA, hb, _⟩ := hr h0
  rw [hv, hA] at hk
  cases hk
  exact hb

def NotS (v : Value) (sh : Nat → ShV) : Prop := ∀ k, k < 13 → ∀ c ∈ (sh k).cs, 0 < c.bs.length → ∀ g, c.v.ownBlock = some g → v.ownBlock ≠ some g
def NotR (v : Value) (vs : List (List UInt8 × Value)) : Prop := ∀ x ∈ vs, 0 < x.1.length → ∀ g, x.2.ownBlock = some g → v.ownBlock ≠ some g

section
variable {W W' : World} {B b base n : Nat} {most : Int} {sh sh' : Nat → ShV} {v : Value} {xs : List Value} {cv bv uv fv : Value} {ks : List (Int × Int)} {vs vs' : List (List UInt8 × Value)} {us : List Bool} {fr : List (Int × Int)}

theorem NotS.new (h : SRep W B b most sh) (hb : ∀ g, v.ownBlock = some g → W.heap.size ≤ g) : NotS v sh := fun k hk c hc h0 g hg e => by
  have h1 := (h.vals k hk c hc).val_lt h0 hg
  have h2 := hb g e
  omega
theorem NotS.next {st : PSt} (hn : NotS v sh) (hr : SRep W B b most sh) (h : FP B b most st sh sh' W W') (hb : ∀ g, v.ownBlock = some g → g < W.heap.size) : NotS v sh' := fun k hk c hc h0 g hg e => by
  rcases h.vals k hk c hc with ⟨c0, hc0, e0⟩ | h1
  · obtain ⟨A, cap, e1⟩ := (h.rep.vals k hk c hc).form
    obtain ⟨A', cap', e2⟩ := (hr.vals k hk c0 hc0).form
    have el : c.bs.length = c0.bs.length := by
      rw [e1, e2] at e0
      injection e0
    exact hn k hk c0 hc0 (by omega) g (by rw [← e0]; exact hg) e
  · have := h1 g hg
    have := hb g e
    omega
theorem NotR.new (h : RRep W B cv bv uv fv ks vs us fr) (hb : ∀ g, v.ownBlock = some g → W.heap.size ≤ g) : NotR v vs := fun x hx h0 g hg e => by
  have h1 := (h.vals x hx).val_lt h0 hg
  have h2 := hb g e
  omega
theorem NotR.next (hn : NotR v vs) (h : ∀ x ∈ vs', x ∈ vs ∨ ∀ g, x.2.ownBlock = some g → W.heap.size ≤ g) (hb : ∀ g, v.ownBlock = some g → g < W.heap.size) : NotR v vs' := fun x hx h0 g hg e => by
  rcases h x hx with h1 | h1
  · exact hn x h1 h0 g hg e
  · have := h1 g hg
    have := hb g e
    omega

theorem SRep.spoilt (h : SRep W B b most sh) (hs : W.ownsRow base 5 1 v n xs) (ho : Only (fun j => v.ownBlock = some j) W W') (hv : NotS v sh) : SRep W' B b most sh := by
  refine ⟨h.blk.only ho (fun e => ?_), fun k hk => ownsRow_only (h.cells k hk) ho (fun j hj e => rows_offS (h.cells k hk) hs (by decide) j hj e), fun k hk => ownsRow_only (h.free k hk) ho (fun j hj e => rows_offS (h.free k hk) hs (by decide) j hj e), fun k hk c hc => (h.vals k hk c hc).only0 ho (fun h0 g hg e => hv k hk c hc h0 g hg e), h.apartC, h.apartF, h.base⟩
  obtain ⟨_, cur, h2⟩ := row_blockS hs e
  exact (h.blk.ne_ h2 (by decide)) rfl
theorem RRep.spoiltS (h : RRep W B cv bv uv fv ks vs us fr) (hs : W.ownsRow base 5 1 v n xs) (ho : Only (fun j => v.ownBlock = some j) W W') (hv : NotR v vs) : RRep W' B cv bv uv fv ks vs us fr :=
  h.only ho (fun j hj e => rows_offS h.cells hs (by decide) j hj e) (fun j hj e => rows_offS h.bytes hs (by decide) j hj e) (fun j hj e => rows_offS h.used hs (by decide) j hj e) (fun j hj e => rows_offS h.free hs (by decide) j hj e) (fun x hx => (h.vals x hx).only0 ho (fun h0 g hg e => hv x hx h0 g hg e))
theorem Blk.spoilt {g : Nat} {t : TypeId} {cs : Array Value} (h : Blk W g t cs) (hs : W.ownsRow base 5 1 v n xs) (ho : Only (fun j => v.ownBlock = some j) W W') (ht : t ≠ 5) : Blk W' g t cs := h.only ho (fun e => by
  obtain ⟨_, cur, h2⟩ := row_blockS hs e
  exact (h.ne_ h2 ht) rfl)

/-- Boxes of other types were written. -/
theorem SRep.offbox {S : Nat → Prop} (h : SRep W B b most sh) (ho : Only S W W') (hS : ∀ g, S g → B ≤ g ∧ ∃ cs t, Blk W g t cs ∧ t ≠ 5 ∧ t ≠ 65 ∧ t ≠ 78 ∧ t ≠ 3) : SRep W' B b most sh := by
  have off : ∀ {e : TypeId} {size n : Nat} {v : Value} {xs : List Value}, W.ownsRow B e size v n xs → (e = 78 ∨ e = 3) → ∀ k, v.ownBlock = some k → ¬ S k := fun hr he k hk hs => by
    obtain ⟨_, cur, h3⟩ := row_blockS hr hk
    obtain ⟨_, cs, t, hb, _, _, h1, h2⟩ := hS k hs
    refine (hb.ne_ h3 ?_) rfl
    rcases he with rfl | rfl
    · exact h1
    · exact h2
  refine ⟨h.blk.only ho (fun hs => ?_), fun k hk => ownsRow_only (h.cells k hk) ho (off (h.cells k hk) (.inl rfl)), fun k hk => ownsRow_only (h.free k hk) ho (off (h.free k hk) (.inr rfl)), fun k hk c hc => (h.vals k hk c hc).keep (KeepB.of_only ho fun g hg hs => ?_), h.apartC, h.apartF, h.base⟩
  · obtain ⟨_, cs, t, hb, _, h1, _⟩ := hS b hs
    exact (hb.ne_ h.blk h1) rfl
  · obtain ⟨hB, cs, t, hb, h1, _⟩ := hS g hs
    exact ⟨hB, fun c fr e => (hb.ne_ e h1) rfl⟩
theorem KeepS.after {S : Nat → Prop} {w : World} (h : KeepS B w W) (ho : Only S W W') (hS : ∀ k, S k → w.heap.size ≤ k) : KeepS B w W' := by
  refine ⟨fun U h1 h2 h3 => ⟨Nat.le_trans (h.rows U h1 h2 h3).1 ho.size, fun k hk hc => ?_⟩, fun k o hk hn => ?_⟩
  · have h4 := (h.rows U h1 h2 h3).1
    rw [ho.block k (by omega) (fun hs => by have := hS k hs; omega)]
    exact (h.rows U h1 h2 h3).2 k hk hc
  · have h1 := h.other k o hk hn
    exact (ho.block k (lt_of_heap h1) (fun hs => by have := hS k hs; have := lt_of_heap hk; omega)).trans h1
end

/-- The boxes of a call under way. -/
structure DoB (w W : World) (B : Nat) (cs : Array Value) (what K N : Int) (v : Value) : Prop where
  s1 : Blk W w.heap.size 55 cs
  s2 : Blk W (w.heap.size + 1) 41 #[.int .i64 what, .int .i64 K, .int .i64 N, v]
  s3 : Blk W (w.heap.size + 1 + 1) 55 #[.int .i64 0, .slice none 0 0, .slice none 0 0, .slice none 0 0, .slice none 0 0]
  low : Below B w W
  kp : KeepS B w W
  base : B ≤ w.heap.size
  size : w.heap.size + 3 ≤ W.heap.size
section
variable {w W W' : World} {B : Nat} {cs : Array Value} {what K N : Int} {v : Value}
theorem DoB.new (w : World) (B : Nat) (hB : B ≤ w.heap.size) (cs : Array Value) (what K N : Int) (v : Value) : DoB w (((w.alloc (.cells cs 55)).alloc (.cells #[.int .i64 what, .int .i64 K, .int .i64 N, v] 41)).alloc (.cells #[.int .i64 0, .slice none 0 0, .slice none 0 0, .slice none 0 0, .slice none 0 0] 55)) B cs what K N v := by
  have hb : Below w.heap.size w (((w.alloc (.cells cs 55)).alloc (.cells #[.int .i64 what, .int .i64 K, .int .i64 N, v] 41)).alloc (.cells #[.int .i64 0, .slice none 0 0, .slice none 0 0, .slice none 0 0, .slice none 0 0] 55)) := (((Below.refl _ _).alloc (Nat.le_refl _) _).alloc (by simp) _).alloc (by simp; omega) _
  exact ⟨((Blk.new _ _ _).alloc _).alloc _, (Blk.new2 _ _ _ _).alloc _, Blk.new3 _ _ _ _ _, hb.mono hB, KeepS.of_below hb, hB, by simp⟩
theorem DoB.adv (h : DoB w W B cs what K N v) (hk : KeepS B W W') (hb : Below B W W') : DoB w W' B cs what K N v :=
  ⟨hk.blk h.s1 (by decide) (by decide) (by decide), hk.blk h.s2 (by decide) (by decide) (by decide), hk.blk h.s3 (by decide) (by decide) (by decide), h.low.trans hb, h.kp.trans hk, h.base, Nat.le_trans h.size hb.size⟩
theorem DoB.below (h : DoB w W B cs what K N v) (hb : Below W.heap.size W W') : DoB w W' B cs what K N v :=
  h.adv (KeepS.of_below hb) (hb.mono (Nat.le_trans h.base h.low.size))
theorem DoB.drew (h : DoB w W B cs what K N v) : DoB w W.drew B cs what K N v := h.below (Below.refl _ _).drew
/-- A slice of bytes of the call's own was written. -/
theorem DoB.spoilt {base n : Nat} {u : Value} {xs : List Value} (h : DoB w W B cs what K N v) (hs : W.ownsRow base 5 1 u n xs) (hb : w.heap.size ≤ base) (ho : Only (fun j => u.ownBlock = some j) W W') : DoB w W' B cs what K N v :=
  ⟨h.s1.spoilt hs ho (by decide), h.s2.spoilt hs ho (by decide), h.s3.spoilt hs ho (by decide), h.low.trans (ho.below (fun i hi _ e => by have := (row_blockS hs e).1; have := h.base; omega) (Nat.le_trans h.base h.low.size)), h.kp.after ho (fun k e => Nat.le_trans hb (row_blockS hs e).1), h.base, Nat.le_trans h.size ho.size⟩
/-- The arena's box was written. -/
theorem DoB.setA {x0 x1 x2 x3 x4 : Value} (h : DoB w W B #[x0, x1, x2, x3, x4] what K N v) (a b c d e : Value) : DoB w (((((W.setCell ⟨w.heap.size, 0, none⟩ a).setCell ⟨w.heap.size, 1, none⟩ b).setCell ⟨w.heap.size, 2, none⟩ c).setCell ⟨w.heap.size, 3, none⟩ d).setCell ⟨w.heap.size, 4, none⟩ e) B #[a, b, c, d, e] what K N v := by
  have ho := only5 W w.heap.size a b c d e
  have h1 : Blk (((((W.setCell ⟨w.heap.size, 0, none⟩ a).setCell ⟨w.heap.size, 1, none⟩ b).setCell ⟨w.heap.size, 2, none⟩ c).setCell ⟨w.heap.size, 3, none⟩ d).setCell ⟨w.heap.size, 4, none⟩ e) w.heap.size 55 #[a, b, c, d, e] := ((((h.s1.set_ 0 a).set_ 1 b).set_ 2 c).set_ 3 d).set_ 4 e
  generalize World.setCell _ _ _ = W2 at ho h1 ⊢
  exact ⟨h1, h.s2.only ho (by omega), h.s3.only ho (by omega), h.low.trans (ho.below (fun i hi _ e => by have := h.base; omega) (Nat.le_trans h.base h.low.size)), h.kp.after ho (fun k e => by omega), h.base, Nat.le_trans h.size ho.size⟩
end

/-- What a call of both arenas leaves. -/
def RA (w : World) (B m : Nat) (most : Int) (st : PSt) (av : Value) : Prop := ∃ cv bv uv fv ks vs us fr, av = .agg #[.int .i64 most, cv, bv, uv, fv] ∧ RRep w B cv bv uv fv ks vs us fr ∧ RSync m st ks (vs.map Prod.fst) us fr
def DoPost (w : World) (B m : Nat) (most : Int) (e : Ending) (w' : World) : Prop :=
  ∃ b' st' av', e = .returned (.tuple #[.pointer (some ⟨b', 0, none⟩), av', .bool true]) ∧ ARep w' B b' most st' ∧ RA w' B (m + 4) most st' av' ∧ PWf (m + 4) st' ∧ KeepS B w w' ∧ Below B w w'
structure DoH (w : World) (B b m : Nat) (most : Int) (st : PSt) (sh : Nat → ShV) (cv bv uv fv : Value) (ks : List (Int × Int)) (vs : List (List UInt8 × Value)) (us : List Bool) (fr : List (Int × Int)) (v : Value) (bs : List UInt8) : Prop where
  rep : SRep w B b most sh
  is : SIs sh st
  base : B ≤ w.heap.size
  ref : RRep w B cv bv uv fv ks vs us fr
  sync : RSync m st ks (vs.map Prod.fst) us fr
  wf : PWf m st
  small : m ≤ 500
  mo : 0 ≤ most ∧ most ≤ 1099511627776
  arg : Bts w B 5 v bs
  len : bs.length ≤ 65540

theorem do_done {w W W' : World} {B b m : Nat} {most : Int} {what K N : Int} {cs : Array Value} {st : PSt} {sh : Nat → ShV} {cv bv uv fv v : Value} {ks : List (Int × Int)} {vs : List (List UInt8 × Value)} {us : List Bool} {fr : List (Int × Int)} (h : DoB w W B cs what K N v) (hr : SRep W B b most sh) (hi : SIs sh st) (hR : RRep W B cv bv uv fv ks vs us fr) (hs : RSync (m + 4) st ks (vs.map Prod.fst) us fr) (hw : PWf (m + 4) st)
    (ho : Only (fun k => k = w.heap.size + 1 + 1) W W') : DoPost w B m most (.returned (.tuple #[.pointer (some ⟨b, 0, none⟩), .agg #[.int .i64 most, cv, bv, uv, fv], .bool true])) W' := by
  refine ⟨b, st, _, rfl, ⟨sh, hr.offbox ho (fun g e => ?_), hi⟩, ⟨cv, bv, uv, fv, ks, vs, us, fr, rfl, hR.offbox h.s3 ho, hs⟩, hw, h.kp.after ho (fun k e => by omega), h.low.trans (ho.below (fun i hi _ e => by have := h.base; omega) (Nat.le_trans h.base h.low.size))⟩
  subst e
  exact ⟨by have := h.base; omega, _, _, h.s3, by decide, by decide, by decide, by decide⟩

theorem far5 {W : World} {gg p : Nat} {a b d e f : Value} (hS : W.cell? ⟨gg, 0, none⟩ = some a ∧ W.cell? ⟨gg, 1, none⟩ = some b ∧ W.cell? ⟨gg, 2, none⟩ = some d ∧ W.cell? ⟨gg, 3, none⟩ = some e ∧ W.cell? ⟨gg, 4, none⟩ = some f) (hg : ¬ gg = p) (i : Nat) (u : Value) :
    (W.setCell ⟨p, i, none⟩ u).cell? ⟨gg, 0, none⟩ = some a ∧ (W.setCell ⟨p, i, none⟩ u).cell? ⟨gg, 1, none⟩ = some b ∧ (W.setCell ⟨p, i, none⟩ u).cell? ⟨gg, 2, none⟩ = some d ∧ (W.setCell ⟨p, i, none⟩ u).cell? ⟨gg, 3, none⟩ = some e ∧ (W.setCell ⟨p, i, none⟩ u).cell? ⟨gg, 4, none⟩ = some f := by
  obtain ⟨h0, h1, h2, h3, h4⟩ := hS
  exact ⟨cell_farS h0 hg, cell_farS h1 hg, cell_farS h2 hg, cell_farS h3 hg, cell_farS h4 hg⟩
theorem drew5 {W : World} {gg : Nat} {a b d e f : Value} (hS : W.cell? ⟨gg, 0, none⟩ = some a ∧ W.cell? ⟨gg, 1, none⟩ = some b ∧ W.cell? ⟨gg, 2, none⟩ = some d ∧ W.cell? ⟨gg, 3, none⟩ = some e ∧ W.cell? ⟨gg, 4, none⟩ = some f) :
    W.drew.cell? ⟨gg, 0, none⟩ = some a ∧ W.drew.cell? ⟨gg, 1, none⟩ = some b ∧ W.drew.cell? ⟨gg, 2, none⟩ = some d ∧ W.drew.cell? ⟨gg, 3, none⟩ = some e ∧ W.drew.cell? ⟨gg, 4, none⟩ = some f := hS
theorem row_below {w w' : World} {B size n : Nat} {e : TypeId} {v : Value} {xs : List Value} (h : w.ownsRow B e size v n xs) (hb : Below w.heap.size w w') : w'.ownsRow B e size v n xs := ownsRow_only (S := fun _ => False) h (Only.of_below hb) (fun _ _ h => h)
theorem bcells_u8 (bs : List UInt8) : ∀ j, j < bs.length → ∃ z, (bcells bs)[j]? = some (.int .u8 z) := fun j hj => ⟨_, by simp [bcells, hj]; rfl⟩

end Go.Proofs.Ytookfhmghchkjaa
