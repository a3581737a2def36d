/- The walk of the reference's arena's Copy (layer 13). Printed by wip/gen_rsc.py. -/
import Derived.Test.YtookfhmghchkjaaRsB
import Derived.Test.YtookfhmghchkjaaSlabCopy
import Derived.Deep.RegionHeld3
import Derived.Deep.CutBlock
import Derived.Deep.DeepCutAuto
namespace Go.Proofs.Ytookfhmghchkjaa
open Go Go.RowKit
attribute [local go_sem ↓] Go.wp_at_zero Go.wp_at_succ

theorem below_grown {w w' : World} (h : w.grownBy w' none) : Below w.heap.size w w' := ⟨h.os, h.tape, h.output, h.size, fun k hk => h.block k hk (by simp)⟩
theorem cf_new {W : World} {B sz n : Nat} {e : TypeId} {v u : Value} {xs : List Value} (h : W.ownsRow B e sz v n xs) {m : Nat} (hat : u.ownBlock = none ∨ u.ownBlock = some m) (hm : W.heap.size ≤ m) : ∀ k, v.ownBlock = some k → u.ownBlock ≠ some k := fun k hk e2 => by
  obtain ⟨_, cur, h2⟩ := row_blockS h hk
  have := lt_of_heap h2
  rcases hat with hat | hat
  · rw [hat] at e2; cases e2
  · rw [hat] at e2; injection e2 with e2; omega

theorem cells_far5 {W : World} {a : Addr} {b : Nat} {x u0 u1 u2 u3 u4 : Value} (h : W.cell? a = some x) (hne : ¬ a.block = b) : (((((W.setCell ⟨b, 0, none⟩ u0).setCell ⟨b, 1, none⟩ u1).setCell ⟨b, 2, none⟩ u2).setCell ⟨b, 3, none⟩ u3).setCell ⟨b, 4, none⟩ u4).cell? a = some x := cell_farS (cell_farS (cell_farS (cell_farS (cell_farS h hne) hne) hne) hne) hne

/-- The source beside a copy: its box, the result's box. -/
structure CpA (w W : World) (B : Nat) (most : Int) (cv bv uv fv : Value) (ks : List (Int × Int)) (vs : List (List UInt8 × Value)) (us : List Bool) (fr : List (Int × Int)) (z : Array Value) : Prop where
  rep : RRep W B cv bv uv fv ks vs us fr
  box : Blk W w.heap.size 55 #[.int .i64 most, cv, bv, uv, fv]
  res : Blk W (w.heap.size + 1) 55 z
  below : Below w.heap.size w W
  size : w.heap.size + 2 ≤ W.heap.size
section
variable {w W W' : World} {B : Nat} {most : Int} {cv bv uv fv : Value} {ks : List (Int × Int)} {vs : List (List UInt8 × Value)} {us : List Bool} {fr : List (Int × Int)} {z : Array Value}
theorem CpA.adv (h : CpA w W B most cv bv uv fv ks vs us fr z) (hb : Below W.heap.size W W') : CpA w W' B most cv bv uv fv ks vs us fr z :=
  ⟨h.rep.below hb, h.box.below hb, h.res.below hb, h.below.trans (hb.mono h.below.size), Nat.le_trans h.size hb.size⟩
theorem CpA.alloc (h : CpA w W B most cv bv uv fv ks vs us fr z) (o : Obj) : CpA w (W.alloc o) B most cv bv uv fv ks vs us fr z := h.adv ((Below.refl _ _).alloc (Nat.le_refl _) o)
theorem CpA.drew (h : CpA w W B most cv bv uv fv ks vs us fr z) : CpA w W.drew B most cv bv uv fv ks vs us fr z := h.adv (Below.refl _ _).drew
/-- Only blocks at or above w.heap.size + 2, and none of the source's rows, have changed: nothing of the source. -/
theorem CpA.low (h : CpA w W B most cv bv uv fv ks vs us fr z) (hr : RRep w B cv bv uv fv ks vs us fr) (hb : Below (w.heap.size + 2) W W') : CpA w W' B most cv bv uv fv ks vs us fr z := by
  have hb2 := h.below.trans (hb.mono (Nat.le_add_right _ 2))
  exact ⟨hr.below hb2, h.box.below_at hb (by omega), h.res.below_at hb (by omega), hb2, Nat.le_trans h.size hb.size⟩
/-- Only a box has changed. -/
theorem RRep.atbox {g : Nat} (h : RRep w B cv bv uv fv ks vs us fr) (ho : Only (fun k => k = g) w W) (hg : g < B) (hT : ∀ c fr, w.heap[g]? ≠ some (.cells c 5 fr)) : RRep W B cv bv uv fv ks vs us fr := by
  have key : ∀ {e : TypeId} {size n : Nat} {v : Value} {xs : List Value}, w.ownsRow B e size v n xs → ∀ k, v.ownBlock = some k → ¬ k = g := fun hr k hk e => by
    have := (row_blockS hr hk).1; omega
  exact h.only ho (key h.cells) (key h.bytes) (key h.used) (key h.free) (fun x hx => bts_turn (h.vals x hx) ho (fun k hk => by subst hk; exact hT))
theorem only5 (w : World) (g : Nat) (a b c d e : Value) : Only (fun k => k = g) w (((((w.setCell ⟨g, 0, none⟩ a).setCell ⟨g, 1, none⟩ b).setCell ⟨g, 2, none⟩ c).setCell ⟨g, 3, none⟩ d).setCell ⟨g, 4, none⟩ e) := by
  refine Only.setCell (S := fun k => k = g) ?_ (p := ⟨g, 4, none⟩) (.inl rfl) _
  refine Only.setCell (S := fun k => k = g) ?_ (p := ⟨g, 3, none⟩) (.inl rfl) _
  refine Only.setCell (S := fun k => k = g) ?_ (p := ⟨g, 2, none⟩) (.inl rfl) _
  refine Only.setCell (S := fun k => k = g) ?_ (p := ⟨g, 1, none⟩) (.inl rfl) _
  exact Only.setCell (S := fun k => k = g) (Only.refl _ _) (p := ⟨g, 0, none⟩) (.inl rfl) _
end

theorem below5 {w : World} {B g : Nat} (hg : B ≤ g) {a b c d e : Value} : Below B w (((((w.setCell ⟨g, 0, none⟩ a).setCell ⟨g, 1, none⟩ b).setCell ⟨g, 2, none⟩ c).setCell ⟨g, 3, none⟩ d).setCell ⟨g, 4, none⟩ e) :=
  (((((Below.refl B w).setCell (p := ⟨g, 0, none⟩) hg a).setCell (p := ⟨g, 1, none⟩) hg b).setCell (p := ⟨g, 2, none⟩) hg c).setCell (p := ⟨g, 3, none⟩) hg d).setCell (p := ⟨g, 4, none⟩) hg e
/-- The arena's rows stay where only a box of the arena's type was written. -/
theorem RRep.offbox {w W : World} {B g : Nat} {cv bv uv fv : Value} {ks : List (Int × Int)} {vs : List (List UInt8 × Value)} {us : List Bool} {fr : List (Int × Int)} {cs : Array Value} (h : RRep w B cv bv uv fv ks vs us fr) (hx : Blk w g 55 cs) (ho : Only (fun k => k = g) w W) : RRep W B cv bv uv fv ks vs us fr := by
  have key : ∀ {e : TypeId} {size n : Nat} {v : Value} {xs : List Value}, w.ownsRow B e size v n xs → 55 ≠ e → ∀ k, v.ownBlock = some k → ¬ k = g := fun hr he k hk e => by
    subst e
    obtain ⟨_, cur, h2⟩ := row_blockS hr hk
    exact (hx.ne_ h2 he) rfl
  exact h.only ho (key h.cells (by decide)) (key h.bytes (by decide)) (key h.used (by decide)) (key h.free (by decide)) (fun x hx' => bts_turn (h.vals x hx') ho (fun k hk c fr e => by subst hk; exact (hx.ne_ e (by decide)) rfl))

/-- The copy in the making: the source and its box, the result's box, the copy's box at g. -/
structure RcInv (w W : World) (B g : Nat) (most : Int) (cv bv uv fv : Value) (ks : List (Int × Int)) (vs : List (List UInt8 × Value)) (us : List Bool) (fr : List (Int × Int)) (cv' bv' uv' fv' : Value) (vs' : List (List UInt8 × Value)) : Prop where
  src : CpA w W B most cv bv uv fv ks vs us fr #[.int .i64 0, .slice none 0 0, .slice none 0 0, .slice none 0 0, .slice none 0 0]
  out : OInv W (w.heap.size + 2) g most cv' bv' uv' fv' ks vs' us fr
  gpos : w.heap.size + 2 ≤ g
  fresh : ∀ x ∈ vs', ∀ k, x.2.ownBlock = some k → w.heap.size ≤ k

section
variable {w W W' : World} {B g : Nat} {most : Int} {cv bv uv fv cv' bv' uv' fv' : Value} {ks : List (Int × Int)} {vs vs' : List (List UInt8 × Value)} {us : List Bool} {fr : List (Int × Int)}
theorem RcInv.adv (h : RcInv w W B g most cv bv uv fv ks vs us fr cv' bv' uv' fv' vs') (hb : Below W.heap.size W W') : RcInv w W' B g most cv bv uv fv ks vs us fr cv' bv' uv' fv' vs' :=
  ⟨h.src.adv hb, h.out.adv hb, h.gpos, h.fresh⟩
theorem RcInv.drew (h : RcInv w W B g most cv bv uv fv ks vs us fr cv' bv' uv' fv' vs') : RcInv w W.drew B g most cv bv uv fv ks vs us fr cv' bv' uv' fv' vs' := h.adv (Below.refl _ _).drew
theorem RcInv.push {x : List UInt8 × Value} {v3 : Value} (hr : RRep w B cv bv uv fv ks vs us fr) (h : RcInv w W B g most cv bv uv fv ks vs us fr cv' bv' uv' fv' vs') (hx : Bts W 0 5 x.2 x.1) (hf : ∀ k, x.2.ownBlock = some k → w.heap.size ≤ k) (hg : W.grownBy W' bv'.ownBlock)
    (hown : W'.ownsRow (w.heap.size + 2) 39 1 v3 (vs'.length + 1) (vcs vs' ++ [x.2])) : RcInv w (W'.setCell ⟨g, 2, none⟩ v3) B g most cv bv uv fv ks vs us fr cv' v3 uv' fv' (vs' ++ [x]) := by
  have hsz := h.src.size
  have hgp := h.gpos
  have hb : Below (w.heap.size + 2) W (W'.setCell ⟨g, 2, none⟩ v3) := ((Below.refl _ _).grown hg hsz (fun j hj => (row_blockS h.out.rep.bytes hj).1)).setCell (p := ⟨g, 2, none⟩) hgp _
  refine ⟨h.src.low hr hb, h.out.pushB hx hg hown, hgp, fun y hy => ?_⟩
  rcases List.mem_append.1 hy with hy | hy
  · exact h.fresh y hy
  · obtain rfl : y = x := by simpa using hy
    exact hf
end

set_option maxRecDepth 100000 in
set_option maxHeartbeats 4000000 in
theorem refACopy_any (B : Nat) (most : Int) (cv bv uv fv : Value) (ks : List (Int × Int)) (vs : List (List UInt8 × Value)) (us : List Bool) (fr : List (Int × Int)) (w : World) (h : RRep w B cv bv uv fv ks vs us fr) (hl : ks.length ≤ 1000 ∧ us.length ≤ 1000 ∧ fr.length ≤ 1000 ∧ vs.length ≤ 1000) (hbs : ∀ x ∈ vs, x.1.length ≤ 65536) :
    Calls Try.prog 45 #[.agg #[.int .i64 most, cv, bv, uv, fv]] w fun e w' => ∃ cv' bv' uv' fv' vs', e = .returned (.agg #[.int .i64 most, cv', bv', uv', fv']) ∧ RRep w' w.heap.size cv' bv' uv' fv' ks vs' us fr ∧
      vs'.map Prod.fst = vs.map Prod.fst ∧ (∀ x ∈ vs', ∀ g, x.2.ownBlock = some g → w.heap.size ≤ g) ∧ Below w.heap.size w w' := by
  have HR := Lib.hid h
  have HLs := Lib.hid hl
  have HBs := Lib.hid hbs
  obtain ⟨i1, hi, hy0, hy1, hy2⟩ := info_parts cellR_info
  have HJ1 := Lib.hid hi
  have HY10 := Lib.hid hy0
  have HY11 := Lib.hid hy1
  have HY12 := Lib.hid hy2
  clear hi hy0 hy1 hy2
  obtain ⟨i2, hi, hy0, hy1, hy2⟩ := info_parts boolR_info
  have HJ2 := Lib.hid hi
  have HY20 := Lib.hid hy0
  have HY21 := Lib.hid hy1
  have HY22 := Lib.hid hy2
  clear hi hy0 hy1 hy2
  obtain ⟨i3, hi, hy0, hy1, hy2⟩ := info_parts bytsR_info
  have HJ3 := Lib.hid hi
  have HY30 := Lib.hid hy0
  have HY31 := Lib.hid hy1
  have HY32 := Lib.hid hy2
  clear hi hy0 hy1 hy2
  obtain ⟨i4, hi, hy0, hy1, hy2⟩ := info_parts u8_info
  have HJ4 := Lib.hid hi
  have HY40 := Lib.hid hy0
  have HY41 := Lib.hid hy1
  have HY42 := Lib.hid hy2
  clear hi hy0 hy1 hy2
  obtain ⟨CA, cc, rfl, hc1, _⟩ := own_form h.cells
  obtain ⟨BA, bc, rfl, hb1, _⟩ := own_form h.bytes
  obtain ⟨UA, uc, rfl, hu1, _⟩ := own_form h.used
  obtain ⟨FA, fc, rfl, hf1, _⟩ := own_form h.free
  clear h hl hbs
  go_enter Try.func45, Try.ntmps45
  go_upto_region 1 with fail
  obtain ⟨w1, hw1⟩ : ∃ w1, (w.alloc (.cells #[.int .i64 most, .slice CA ks.length cc, .slice BA vs.length bc, .slice UA us.length uc, .slice FA fr.length fc] 55)).alloc (.cells #[.int .i64 0, .slice none 0 0, .slice none 0 0, .slice none 0 0, .slice none 0 0] 55) = w1 := ⟨_, rfl⟩
  have HA : Hid (CpA w w1 B most (.slice CA ks.length cc) (.slice BA vs.length bc) (.slice UA us.length uc) (.slice FA fr.length fc) ks vs us fr #[.int .i64 0, .slice none 0 0, .slice none 0 0, .slice none 0 0, .slice none 0 0]) := Lib.hid (by
    rw [← hw1]
    exact ⟨(HR.out.alloc _).alloc _, (Blk.new _ _ _).alloc _, Blk.new2 _ _ _ _, ((Below.refl _ _).alloc (Nat.le_refl _) _).alloc (by simp) _, by simp⟩)
  rw [hw1]
  clear hw1
  go_cut [3] (fun x wc => ∃ (g : Nat) (cv' uv' fv' : Value), x = .pointer (some ⟨g, 0, none⟩) ∧ RcInv w wc B g most (.slice CA ks.length cc) (.slice BA vs.length bc) (.slice UA us.length uc) (.slice FA fr.length fc) ks vs us fr cv' (.slice none 0 0) uv' fv' [])
  case first =>
    have x0 : w1.cell? ⟨w.heap.size, 0, none⟩ = some (.int .i64 most) := HA.out.box.cell 0 _ rfl
    have x1 : w1.cell? ⟨w.heap.size, 1, none⟩ = some (.slice CA ks.length cc) := HA.out.box.cell 1 _ rfl
    have x3 : w1.cell? ⟨w.heap.size, 3, none⟩ = some (.slice UA us.length uc) := HA.out.box.cell 3 _ rfl
    have x4 : w1.cell? ⟨w.heap.size, 4, none⟩ = some (.slice FA fr.length fc) := HA.out.box.cell 4 _ rfl
    have hzC := HA.out.box.lt
    have hsz := HA.out.size
    refine wp_region_noPanic ?_
    go_region_held_law (fun W => W.cell? ⟨w.heap.size, 0, none⟩ = some (.int .i64 most) ∧ W.cell? ⟨w.heap.size, 1, none⟩ = some (.slice CA ks.length cc) ∧ W.cell? ⟨w.heap.size, 3, none⟩ = some (.slice UA us.length uc) ∧ W.cell? ⟨w.heap.size, 4, none⟩ = some (.slice FA fr.length fc)) (first | with_reducible exact ⟨x0, x1, x3, x4⟩ | with_reducible exact ⟨cell_drewS x0, cell_drewS x1, cell_drewS x3, cell_drewS x4⟩ | with_reducible exact ⟨cells_far5 x0 (by dsimp only; omega), cells_far5 x1 (by dsimp only; omega), cells_far5 x3 (by dsimp only; omega), cells_far5 x4 (by dsimp only; omega)⟩ | with_reducible exact ⟨cell_drewS (cells_far5 x0 (by dsimp only; omega)), cell_drewS (cells_far5 x1 (by dsimp only; omega)), cell_drewS (cells_far5 x3 (by dsimp only; omega)), cell_drewS (cells_far5 x4 (by dsimp only; omega))⟩ | go_keep)
      (first
        | (refine step_append_dstS 9 (by rfl) (by rfl) _ _ _ (by rfl) (w.heap.size + 2) 38 i1 _ 2 16 Try.underlying51 HJ1.out HY10.out HY11.out HY12.out rfl (by decide) _ 0 [] (by rfl) (World.ownsRow_nil _ _ _ _) _ ks.length _ (kcs ks) (by rfl) (src_ownS (CpA.rep (w := w) (by first | exact HA.out | exact HA.out.drew | exact HA.out.alloc _ | exact HA.out.drew.alloc _ | exact (HA.out.alloc _).drew)).cells) (kcs_one ks) (by have := HLs.out; unfold maxLen; omega) (by have := HLs.out; omega) (CpA.size (w := w) (by first | exact HA.out | exact HA.out.drew | exact HA.out.alloc _ | exact HA.out.drew.alloc _ | exact (HA.out.alloc _).drew)) ?_
           intro vC wC hownC hgC hatC
           have hbl := below_grown hgC
           try (have HCF : Hid (∀ k, vC.ownBlock = some k → (Value.slice AF fr.length cF).ownBlock ≠ some k) := Lib.hid (fun k hk e => cf_new (u := vC) HoF.out hatC (by first | exact Nat.le_refl _ | simp) k e hk))
           try have HoU := Lib.hid (ownsRow_only (S := fun _ => False) HoU.out (Only.of_below (by first | exact hbl | exact below_drew hbl | exact below_own hbl | exact below_own (below_drew hbl) | exact below_drew (below_own hbl) : Below _ _ wC)) (fun _ _ h => h))
           try have HoF := Lib.hid (ownsRow_only (S := fun _ => False) HoF.out (Only.of_below (by first | exact hbl | exact below_drew hbl | exact below_own hbl | exact below_own (below_drew hbl) | exact below_drew (below_own hbl) : Below _ _ wC)) (fun _ _ h => h))
           have HoC : Hid (wC.ownsRow (w.heap.size + 2) 38 2 vC ks.length ((kcs ks))) := Lib.hid (by simpa using hownC)
           first | have HZ := Lib.hid (Blk.below HZ.out hbl) | have HZ := Lib.hid (Blk.below HZ.out (below_drew hbl)) | have HZ := Lib.hid (Blk.below (Blk.new _ _ _) hbl) | have HZ := Lib.hid (Blk.below (Blk.drew (Blk.new _ _ _)) hbl) | skip
           try have hzf := HZ.out.frozen
           try have hzl := HZ.out.lt
           try have z0 := HZ.out.cell 0 _ rfl
           try have z1 := HZ.out.cell 1 _ rfl
           try have z2 := HZ.out.cell 2 _ rfl
           try have z3 := HZ.out.cell 3 _ rfl
           try have z4 := HZ.out.cell 4 _ rfl
           have HA := Lib.hid (CpA.adv (w := w) (by first | exact HA.out | exact HA.out.drew | exact HA.out.alloc _ | exact HA.out.drew.alloc _ | exact (HA.out.alloc _).drew) hbl)
           have x0 : wC.cell? ⟨w.heap.size, 0, none⟩ = some (.int .i64 most) := HA.out.box.cell 0 _ rfl
           have x1 : wC.cell? ⟨w.heap.size, 1, none⟩ = some (.slice CA ks.length cc) := HA.out.box.cell 1 _ rfl
           have x3 : wC.cell? ⟨w.heap.size, 3, none⟩ = some (.slice UA us.length uc) := HA.out.box.cell 3 _ rfl
           have x4 : wC.cell? ⟨w.heap.size, 4, none⟩ = some (.slice FA fr.length fc) := HA.out.box.cell 4 _ rfl
           have hzC := HA.out.box.lt
           have hsz := HA.out.size
           obtain ⟨AC, cC, rfl, _, _⟩ := own_form HoC.out
           clear hbl hownC hgC hatC)
        | (refine step_append_dstS 12 (by rfl) (by rfl) _ _ _ (by rfl) (w.heap.size + 2) 4 i2 _ 1 1 Try.underlying53 HJ2.out HY20.out HY21.out HY22.out rfl (by decide) _ 0 [] (by rfl) (World.ownsRow_nil _ _ _ _) _ us.length _ (ucs us) (by rfl) (src_ownS (CpA.rep (w := w) (by first | exact HA.out | exact HA.out.drew | exact HA.out.alloc _ | exact HA.out.drew.alloc _ | exact (HA.out.alloc _).drew)).used) (ucs_one us) (by have := HLs.out; unfold maxLen; omega) (by have := HLs.out; omega) (CpA.size (w := w) (by first | exact HA.out | exact HA.out.drew | exact HA.out.alloc _ | exact HA.out.drew.alloc _ | exact (HA.out.alloc _).drew)) ?_
           intro vU wU hownU hgU hatU
           have hbl := below_grown hgU
           try have HoC := Lib.hid (ownsRow_only (S := fun _ => False) HoC.out (Only.of_below (by first | exact hbl | exact below_drew hbl | exact below_own hbl | exact below_own (below_drew hbl) | exact below_drew (below_own hbl) : Below _ _ wU)) (fun _ _ h => h))
           try have HoF := Lib.hid (ownsRow_only (S := fun _ => False) HoF.out (Only.of_below (by first | exact hbl | exact below_drew hbl | exact below_own hbl | exact below_own (below_drew hbl) | exact below_drew (below_own hbl) : Below _ _ wU)) (fun _ _ h => h))
           have HoU : Hid (wU.ownsRow (w.heap.size + 2) 4 1 vU us.length ((ucs us))) := Lib.hid (by simpa using hownU)
           first | have HZ := Lib.hid (Blk.below HZ.out hbl) | have HZ := Lib.hid (Blk.below HZ.out (below_drew hbl)) | have HZ := Lib.hid (Blk.below (Blk.new _ _ _) hbl) | have HZ := Lib.hid (Blk.below (Blk.drew (Blk.new _ _ _)) hbl) | skip
           try have hzf := HZ.out.frozen
           try have hzl := HZ.out.lt
           try have z0 := HZ.out.cell 0 _ rfl
           try have z1 := HZ.out.cell 1 _ rfl
           try have z2 := HZ.out.cell 2 _ rfl
           try have z3 := HZ.out.cell 3 _ rfl
           try have z4 := HZ.out.cell 4 _ rfl
           have HA := Lib.hid (CpA.adv (w := w) (by first | exact HA.out | exact HA.out.drew | exact HA.out.alloc _ | exact HA.out.drew.alloc _ | exact (HA.out.alloc _).drew) hbl)
           have x0 : wU.cell? ⟨w.heap.size, 0, none⟩ = some (.int .i64 most) := HA.out.box.cell 0 _ rfl
           have x1 : wU.cell? ⟨w.heap.size, 1, none⟩ = some (.slice CA ks.length cc) := HA.out.box.cell 1 _ rfl
           have x3 : wU.cell? ⟨w.heap.size, 3, none⟩ = some (.slice UA us.length uc) := HA.out.box.cell 3 _ rfl
           have x4 : wU.cell? ⟨w.heap.size, 4, none⟩ = some (.slice FA fr.length fc) := HA.out.box.cell 4 _ rfl
           have hzC := HA.out.box.lt
           have hsz := HA.out.size
           obtain ⟨AU, cU, rfl, _, _⟩ := own_form HoU.out
           clear hbl hownU hgU hatU)
        | (refine step_append_dstS 15 (by rfl) (by rfl) _ _ _ (by rfl) (w.heap.size + 2) 38 i1 _ 2 16 Try.underlying51 HJ1.out HY10.out HY11.out HY12.out rfl (by decide) _ 0 [] (by rfl) (World.ownsRow_nil _ _ _ _) _ fr.length _ (kcs fr) (by rfl) (src_ownS (CpA.rep (w := w) (by first | exact HA.out | exact HA.out.drew | exact HA.out.alloc _ | exact HA.out.drew.alloc _ | exact (HA.out.alloc _).drew)).free) (kcs_one fr) (by have := HLs.out; unfold maxLen; omega) (by have := HLs.out; omega) (CpA.size (w := w) (by first | exact HA.out | exact HA.out.drew | exact HA.out.alloc _ | exact HA.out.drew.alloc _ | exact (HA.out.alloc _).drew)) ?_
           intro vF wF hownF hgF hatF
           have hbl := below_grown hgF
           try (have HCF : Hid (∀ k, (Value.slice AC ks.length cC).ownBlock = some k → vF.ownBlock ≠ some k) := Lib.hid (cf_new (u := vF) HoC.out hatF (by first | exact Nat.le_refl _ | simp)))
           try have HoC := Lib.hid (ownsRow_only (S := fun _ => False) HoC.out (Only.of_below (by first | exact hbl | exact below_drew hbl | exact below_own hbl | exact below_own (below_drew hbl) | exact below_drew (below_own hbl) : Below _ _ wF)) (fun _ _ h => h))
           try have HoU := Lib.hid (ownsRow_only (S := fun _ => False) HoU.out (Only.of_below (by first | exact hbl | exact below_drew hbl | exact below_own hbl | exact below_own (below_drew hbl) | exact below_drew (below_own hbl) : Below _ _ wF)) (fun _ _ h => h))
           have HoF : Hid (wF.ownsRow (w.heap.size + 2) 38 2 vF fr.length ((kcs fr))) := Lib.hid (by simpa using hownF)
           first | have HZ := Lib.hid (Blk.below HZ.out hbl) | have HZ := Lib.hid (Blk.below HZ.out (below_drew hbl)) | have HZ := Lib.hid (Blk.below (Blk.new _ _ _) hbl) | have HZ := Lib.hid (Blk.below (Blk.drew (Blk.new _ _ _)) hbl) | skip
           try have hzf := HZ.out.frozen
           try have hzl := HZ.out.lt
           try have z0 := HZ.out.cell 0 _ rfl
           try have z1 := HZ.out.cell 1 _ rfl
           try have z2 := HZ.out.cell 2 _ rfl
           try have z3 := HZ.out.cell 3 _ rfl
           try have z4 := HZ.out.cell 4 _ rfl
           have HA := Lib.hid (CpA.adv (w := w) (by first | exact HA.out | exact HA.out.drew | exact HA.out.alloc _ | exact HA.out.drew.alloc _ | exact (HA.out.alloc _).drew) hbl)
           have x0 : wF.cell? ⟨w.heap.size, 0, none⟩ = some (.int .i64 most) := HA.out.box.cell 0 _ rfl
           have x1 : wF.cell? ⟨w.heap.size, 1, none⟩ = some (.slice CA ks.length cc) := HA.out.box.cell 1 _ rfl
           have x3 : wF.cell? ⟨w.heap.size, 3, none⟩ = some (.slice UA us.length uc) := HA.out.box.cell 3 _ rfl
           have x4 : wF.cell? ⟨w.heap.size, 4, none⟩ = some (.slice FA fr.length fc) := HA.out.box.cell 4 _ rfl
           have hzC := HA.out.box.lt
           have hsz := HA.out.size
           obtain ⟨AF, cF, rfl, _, _⟩ := own_form HoF.out
           clear hbl hownF hgF hatF))
    all_goals
      refine NoPanic.normal ?_
      go_wp2_with fail
      go_meet
      first
        | exact ⟨_, _, _, _, rfl, CpA.low HA.out HR.out (below5 (by omega)), ⟨((((HZ.out.set_ 0 _).set_ 1 _).set_ 2 _).set_ 3 _).set_ 4 _, RRep.offbox ⟨HoC.out, World.ownsRow_nil _ _ _ _, HoU.out, HoF.out, (fun x hx => by cases hx), HCF.out⟩ HZ.out (only5 _ _ _ _ _ _ _)⟩, by omega, (fun x hx => by cases hx)⟩
        | exact ⟨_, _, _, _, rfl, CpA.alloc HA.out _, OInv.of_rep ⟨HoC.out, World.ownsRow_nil _ _ _ _, HoU.out, HoF.out, (fun x hx => by cases hx), HCF.out⟩ most, by omega, (fun x hx => by cases hx)⟩
  case rest =>
    obtain ⟨g, cv', uv', fv', rfl, hinv⟩ := hcut
    have HI1 := Lib.hid hinv
    clear hinv HA
    obtain ⟨C2, cc2, rfl, _, _⟩ := own_form HI1.out.out.rep.cells
    obtain ⟨U2, uc2, rfl, _, _⟩ := own_form HI1.out.out.rep.used
    obtain ⟨F2, fc2, rfl, _, _⟩ := own_form HI1.out.out.rep.free
    go_wp2_with fail
    go_loopw [4] (fun i wr => ∃ (k : Nat) (bv' : Value) (vs' : List (List UInt8 × Value)), k ≤ vs.length ∧ i = .int .i64 k ∧ vs'.map Prod.fst = (vs.map Prod.fst).take k ∧ RcInv w wr B g most (.slice CA ks.length cc) (.slice BA vs.length bc) (.slice UA us.length uc) (.slice FA fr.length fc) ks vs us fr (.slice C2 ks.length cc2) bv' (.slice U2 us.length uc2) (.slice F2 fr.length fc2) vs') (fun i _ => vs.length - (intOf i).toNat)
    case atStart => exact ⟨0, _, [], by omega, rfl, rfl, HI1.out⟩
    case round =>
      obtain ⟨k, bv', vs', hk, rfl, hal, hinv⟩ := hrel
      have hkl' : vs'.length = k := by
        have := congrArg List.length hal
        simp only [List.length_map, List.length_take] at this
        omega
      subst hkl'
      have HC := Lib.hid hinv
      have HAL := Lib.hid hal
      have hbs := hinv.out.rep.bytes
      obtain ⟨B1, bc1, rfl, _, _⟩ := own_form hbs
      have q2 : wr.cell? ⟨w.heap.size, 2, none⟩ = some (.slice BA vs.length bc) := hinv.src.box.cell 2 _ rfl
      have o2 : wr.cell? ⟨g, 2, none⟩ = some (.slice B1 vs'.length bc1) := hinv.out.out.cell 2 _ rfl
      have hzl := hinv.out.out.lt
      have hgp := hinv.gpos
      have hwl := HLs.out.2.2.2
      clear hinv hal HI1 hbs
      by_cases hkl : vs'.length < vs.length
      · obtain ⟨⟨bs, v⟩, hr⟩ : ∃ r, vs[vs'.length]? = some r := ⟨_, List.getElem?_eq_getElem hkl⟩
        obtain ⟨gb, cap, e1, hgl, hcc, _, c2⟩ := vread HC.out.src.rep.bytes hr
        injection e1 with e1 _ e3
        subst e1 e3
        have hbl : bs.length ≤ 65536 := HBs.out _ (List.mem_of_getElem? hr)
        have hvb : Bts wr 0 5 v bs := HC.out.src.rep.vals _ (List.mem_of_getElem? hr)
        obtain ⟨VA, vc, hve⟩ := hvb.form
        subst hve
        have HVB := Lib.hid hvb
        have HBL := Lib.hid hbl
        have HR2 := Lib.hid hr
        have HWL := Lib.hid hwl
        have hiI : (vs'.length : Int) < (vs.length : Int) := by omega
        have hcI : (vs.length : Int) ≤ (bc : Int) := by omega
        have hwI : (vs'.length : Int) ≤ 1000 := by omega
        have D2 := Lib.hid c2
        have hgb : gb ≠ g := fun e => by
          have h1 := HC.out.src.rep.bytes.lt gb rfl
          have h2 := HC.out.out.rep.bytes
          subst e
          obtain ⟨_, cur, h3⟩ := row_blockS HC.out.src.rep.bytes (k := gb) rfl
          exact (HC.out.out.out.ne_ h3 (by decide)) rfl
        clear hvb hbl hr hwl
        go_upto_region 5 with fail
        go_region_law
          (first
            | (refine step_append_dstS 31 (by rfl) (by rfl) _ _ _ (by rfl) (w.heap.size + 2) 5 i4 _ 1 1 Try.underlying39 HJ4.out HY40.out HY41.out HY42.out rfl (by decide) _ 0 [] (by rfl) (World.ownsRow_nil _ _ _ _) _ bs.length _ (bcells bs) (by rfl) (Bts.src_at HVB.out.drew).2 (bcells_one bs) (by have := HBL.out; unfold maxLen; omega) (by have := HBL.out; omega) HC.out.drew.src.size ?_
               intro vN wN hownN hgN hatN
               have hbl := below_grown hgN
               have HC := Lib.hid (HC.out.drew.adv hbl)
               have HoN : Hid (wN.ownsRow (w.heap.size + 2) 5 1 vN bs.length (bcells bs)) := Lib.hid (by simpa using hownN)
               have q2 : wN.cell? ⟨w.heap.size, 2, none⟩ = some (.slice (some ⟨gb, 0, none⟩) vs.length bc) := HC.out.src.box.cell 2 _ rfl
               have o2 : wN.cell? ⟨g, 2, none⟩ = some (.slice B1 vs'.length bc1) := HC.out.out.out.cell 2 _ rfl
               have hzl := HC.out.out.out.lt
               obtain ⟨AN, cN, rfl, _, _⟩ := own_form HoN.out
               clear hbl hownN hgN hatN)
            | (refine step_append_dstS 33 (by rfl) (by rfl) _ _ _ (by rfl) (w.heap.size + 2) 39 i3 _ 1 24 Try.underlying52 HJ3.out HY30.out HY31.out HY32.out rfl (by decide) _ vs'.length (vcs vs') (by rfl) ((HC.out.adv ((Below.refl _ _).alloc (Nat.le_refl _) _)).out.rep.bytes) (some ⟨_, 0, none⟩) 1 1 [.slice AN bs.length cN] (by rfl) (src_oneS (t := 39) (Blk.new _ _ _)) (by simp [Value.oneCell']) (by have := HWL.out; unfold maxLen; omega) (by have := HWL.out; omega) (by have := HC.out.src.size; simp; omega) ?_
               intro v3 w3 hown3 hg3 hat3
               have HO3 := Lib.hid hown3
               have HG3 := Lib.hid hg3
               have bo := ((HC.out.adv ((Below.refl _ _).alloc (Nat.le_refl _) _)).out.out).grown hg3 (fun e => by have := HC.out.out.off HC.out.out.rep.bytes (by decide); exact this e.symm)
               have o2 : w3.cell? ⟨g, 2, none⟩ = some (.slice B1 vs'.length bc1) := bo.cell 2 _ rfl
               have o4 := bo.frozen
               have hz4 := bo.lt
               obtain ⟨L3, lc3, rfl, _, _⟩ := own_form hown3
               clear bo hown3 hg3 hat3))
        all_goals
          go_wp2_with fail
          go_roundw
          case rel => exact ⟨vs'.length + 1, _, vs' ++ [(bs, .slice AN bs.length cN)], by omega, by go_num, (by rw [List.map_append, HAL.out, List.take_add_one]; simp [HR2.out]), RcInv.push HR.out (HC.out.adv ((Below.refl _ _).alloc (Nat.le_refl _) _)) ((Bts.of_own HoN.out 0).alloc _) (fun k hk => by have := (row_blockS HoN.out hk).1; omega) HG3.out HO3.out⟩
          case measure => simp [intOf]; omega
      · have hke : vs'.length = vs.length := by omega
        have hal2 : vs'.map Prod.fst = vs.map Prod.fst := by rw [HAL.out, hke, List.take_of_length_le (by simp)]
        have HAL2 := Lib.hid hal2
        have o0 : wr.cell? ⟨g, 0, none⟩ = some (.int .i64 most) := HC.out.out.out.cell 0 _ rfl
        have o1 : wr.cell? ⟨g, 1, none⟩ = some (.slice C2 ks.length cc2) := HC.out.out.out.cell 1 _ rfl
        have o3 : wr.cell? ⟨g, 3, none⟩ = some (.slice U2 us.length uc2) := HC.out.out.out.cell 3 _ rfl
        have o4 : wr.cell? ⟨g, 4, none⟩ = some (.slice F2 fr.length fc2) := HC.out.out.out.cell 4 _ rfl
        have r0 := HC.out.src.res.cell 0 _ rfl
        have r1 := HC.out.src.res.cell 1 _ rfl
        have r2 := HC.out.src.res.cell 2 _ rfl
        have r3 := HC.out.src.res.cell 3 _ rfl
        have r4 := HC.out.src.res.cell 4 _ rfl
        have rf := HC.out.src.res.frozen
        have rl := HC.out.src.res.lt
        have hnl : ¬ (vs'.length : Int) < (vs.length : Int) := by omega
        clear hke hal2
        go_wp2_with fail
        have HRS := HC.out.src.res
        have g5 := ((((HRS.set_ 0 (.int .i64 most)).set_ 1 (.slice C2 ks.length cc2)).set_ 2 (.slice B1 vs'.length bc1)).set_ 3 (.slice U2 us.length uc2)).set_ 4 (.slice F2 fr.length fc2)
        have q0 := g5.cell 0 _ rfl
        have q1 := g5.cell 1 _ rfl
        have q2 := g5.cell 2 _ rfl
        have q3 := g5.cell 3 _ rfl
        have q4 := g5.cell 4 _ rfl
        refine bodyPost_ret (v := .agg #[.int .i64 most, .slice C2 ks.length cc2, .slice B1 vs'.length bc1, .slice U2 us.length uc2, .slice F2 fr.length fc2]) (by simp [results, Try.results45, go_sem, q0, q1, q2, q3, q4]) rfl ⟨_, _, _, _, rfl, vs', ?_, HAL2.out, (fun a b hab => HC.out.fresh (a, b) hab), ?_⟩
        · exact (RRep.offbox HC.out.out.rep HRS (only5 _ _ _ _ _ _ _)).base (by omega)
        · exact HC.out.src.below.trans (below5 (by omega))

end Go.Proofs.Ytookfhmghchkjaa
