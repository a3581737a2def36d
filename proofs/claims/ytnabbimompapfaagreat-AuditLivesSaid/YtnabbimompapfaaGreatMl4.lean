/- AudRS, AudRT, AudRU -/
import Derived.Test.YtnabbimompapfaaGreatMl3
import Derived.RegionTactic
namespace Go.Proofs.YtnabbimompapfaaGreat
open Go Go.RowKit
def wantc (x : WantV) (V Ve : Value) : Array Value :=
 #[.int .i64 0, .int .u64 0, .string ⟨#[]⟩, .slice none 0 0, .int .u64 0, .int .i64 0, .int .i64 0, .int .i64 0, .int .u64 0, .int .u64 0, .int .i64 0, .bool x.hit, V, .string x.ent.key, Ve, .int .u64 x.ent.dl, .int .u64 x.ent.birth, .int .i64 x.cursor, .slice none 0 0, .int .i64 0, .int .i64 0]
def RdsE (B : Nat) (x : WantV) (w : World) (e : Ending) (w' : World) : Prop :=
 ∃ V Ve, e = .returned (.agg (wantc x V Ve)) ∧ Bts w' B 5 V x.val ∧ Bts w' B 5 Ve x.ent.val ∧ Below w.heap.size w w'
structure RdX (w W : World) (B g : Nat) (vL vU : Value) (pv : Nat → Int) (s : PJ) (ps : List (EntV × Value)) (o : OpV) (V : Value) (x : WantV) (V1 V2 : Value) : Prop where
 k : KRep W B g vL vU pv s ps
 box : Blk W w.heap.size 43 (opc o V)
 r : Blk W (w.heap.size + 1) 46 (wantc want0 (.slice none 0 0) (.slice none 0 0))
 x : Blk W (w.heap.size + 1 + 1) 46 (wantc x V1 V2)
 below : Below w.heap.size w W
theorem Only.setRow {S : Nat → Prop} {a w : World} (h : Only S a w) {g : Nat} (hg : S g ∨ a.heap.size ≤ g) (cs : Array Value) : Only S a (w.setRow g cs) :=
 ⟨h.os, h.tape, h.output, by rw [setRow_size]; exact h.size, fun i hi hn => (setRow_other w g i cs (by
  rintro rfl
  rcases hg with hg | hg
  ·exact hn hg
  ·omega)).trans (h.block i hi hn)⟩
theorem Blk.row {w : World} {g : Nat} {t : TypeId} {cs : Array Value} (h : Blk w g t cs) (cs' : Array Value) : Blk (w.setRow g cs') g t cs' := setRow_heap w g cs cs' t (0, 0) h
theorem rd_done {w W W9 : World} {B g : Nat} {vL vU : Value} {pv : Nat → Int} {s : PJ} {ps : List (EntV × Value)} {o : OpV} {V V1 V2 : Value} {x : WantV} {cs : Array Value} (h : RdX w W B g vL vU pv s ps o V x V1 V2) (hb : Blk W9 (w.heap.size + 1) 46 cs) (hon : Only (fun k => k = w.heap.size + 1) W W9) (hB : B ≤ w.heap.size) :
  (∀ p ∈ ps, Bts W9 B 5 p.2 p.1.val) ∧ Below w.heap.size w W9 := by
 have h9 : Below w.heap.size w W9 := h.below.trans (hon.below (fun i hi _ e => by omega) h.below.size)
 refine ⟨fun p hp => ?_, h9⟩
 exact (h.k.vals p hp).keep (KeepB.of_blk h.r (by decide) (by omega) hon)
theorem RdX.setX {w W : World} {B g : Nat} {vL vU : Value} {pv : Nat → Int} {s : PJ} {ps : List (EntV × Value)} {o : OpV} {V V1 V2 : Value} {x : WantV} (hw : KRep w B g vL vU pv s ps) (h : RdX w W B g vL vU pv s ps o V x V1 V2) (i : Nat) (u : Value) {cs : Array Value} (hc : (wantc x V1 V2).setIfInBounds i u = cs) :
  Below w.heap.size w (W.setCell ⟨w.heap.size + 1 + 1, i, none⟩ u) ∧ Blk (W.setCell ⟨w.heap.size + 1 + 1, i, none⟩ u) w.heap.size 43 (opc o V) ∧ Blk (W.setCell ⟨w.heap.size + 1 + 1, i, none⟩ u) (w.heap.size + 1) 46 (wantc want0 (.slice none 0 0) (.slice none 0 0)) ∧ Blk (W.setCell ⟨w.heap.size + 1 + 1, i, none⟩ u) (w.heap.size + 1 + 1) 46 cs :=
 ⟨h.below.setCell (p := ⟨w.heap.size + 1 + 1, i, none⟩) (by dsimp only; omega) _, h.box.far (p := ⟨w.heap.size + 1 + 1, i, none⟩) (by dsimp only; omega) _, h.r.far (p := ⟨w.heap.size + 1 + 1, i, none⟩) (by dsimp only; omega) _, hc ▸ h.x.set_ i u⟩
theorem RdX.set1 {w W : World} {B g : Nat} {vL vU : Value} {pv : Nat → Int} {s : PJ} {ps : List (EntV × Value)} {o : OpV} {V V1 V2 : Value} {x : WantV} (hw : KRep w B g vL vU pv s ps) (h : RdX w W B g vL vU pv s ps o V x V1 V2) (i : Nat) (u : Value) {x' : WantV} {V1' V2' : Value} (hc : (wantc x V1 V2).setIfInBounds i u = wantc x' V1' V2') :
  RdX w (W.setCell ⟨w.heap.size + 1 + 1, i, none⟩ u) B g vL vU pv s ps o V x' V1' V2' := by
 obtain ⟨h1, h2, h3, h4⟩ := h.setX hw i u hc
 exact ⟨hw.below h1, h2, h3, h4, h1⟩
theorem RdX.set4 {w W : World} {B g : Nat} {vL vU : Value} {pv : Nat → Int} {s : PJ} {ps : List (EntV × Value)} {o : OpV} {V V1 V2 : Value} {x : WantV} (hw : KRep w B g vL vU pv s ps) (h : RdX w W B g vL vU pv s ps o V x V1 V2) (ev : EntV) (U : Value) :
  RdX w ((((W.setCell ⟨w.heap.size + 1 + 1, 13, none⟩ (.string ev.key)).setCell ⟨w.heap.size + 1 + 1, 14, none⟩ U).setCell ⟨w.heap.size + 1 + 1, 15, none⟩ (.int .u64 ev.dl)).setCell ⟨w.heap.size + 1 + 1, 16, none⟩ (.int .u64 ev.birth)) B g vL vU pv s ps o V { x with ent := ev } V1 U := by
 have h1 := h.set1 hw 13 (.string ev.key) (x' := { x with ent := ⟨ev.key, x.ent.val, x.ent.dl, x.ent.birth⟩ }) (V1' := V1) (V2' := V2) rfl
 have h2 := h1.set1 hw 14 U (x' := { x with ent := ⟨ev.key, x.ent.val, x.ent.dl, x.ent.birth⟩ }) (V1' := V1) (V2' := U) rfl
 have h3 := h2.set1 hw 15 (.int .u64 ev.dl) (x' := { x with ent := ⟨ev.key, x.ent.val, ev.dl, x.ent.birth⟩ }) (V1' := V1) (V2' := U) rfl
 exact h3.set1 hw 16 (.int .u64 ev.birth) (x' := { x with ent := ev }) (V1' := V1) (V2' := U) rfl
theorem RdX.adv {w W W2 : World} {B g : Nat} {vL vU : Value} {pv : Nat → Int} {s : PJ} {ps : List (EntV × Value)} {o : OpV} {V V1 V2 : Value} {x : WantV} (h : RdX w W B g vL vU pv s ps o V x V1 V2) (hb : Below W.heap.size W W2) : RdX w W2 B g vL vU pv s ps o V x V1 V2 :=
 ⟨h.k.below hb, h.box.below hb, h.r.below hb, h.x.below hb, h.below.trans (hb.mono h.below.size)⟩
set_option maxHeartbeats 4000000 in
set_option maxRecDepth 100000 in
theorem kReads_any (B g : Nat) (vL vU : Value) (pv : Nat → Int) (s : PJ) (ps : List (EntV × Value)) (o : OpV) (A : Option Addr) (n c : Nat) (e : Int) (w : World) (h : KRep w B g vL vU pv s ps) (hn : ps.length ≤ 100000) (hB : B ≤ w.heap.size) (hp : s.pl.length = 64)
  (he : o.kind = 12 → e = 0 → ∃ b x, openP s.pl o.cursor = some b ∧ afterP s.L b s.now = some x) :
  Calls Tryz.prog 31 #[.pointer (some ⟨g, 0, none⟩), opv o (.slice A n c), .int .i64 e, .int .u64 s.now] w (RdsE B (readsP s o e) w) := by
 have HFi := zH (fun ob ob2 ob3 => kFind_any B g vL vU pv s ps o.key (((w.alloc ob).alloc ob2).alloc ob3) (h.below ((((zL _ _).alloc (zN _) _).alloc (by simp) _).alloc (by simp; omega) _)) hn)
 have HX : Hid (RdX w (((w.alloc (.cells (opc o (.slice A n c)) 43)).alloc (.cells (wantc want0 (.slice none 0 0) (.slice none 0 0)) 46)).alloc (.cells (wantc want0 (.slice none 0 0) (.slice none 0 0)) 46)) B g vL vU pv s ps o (.slice A n c) want0 (.slice none 0 0) (.slice none 0 0)) :=
  zH ⟨h.below ((((zL _ _).alloc (zN _) _).alloc (by simp) _).alloc (by simp; omega) _), ((Blk.new _ _ _).alloc _).alloc _, (Blk.new2 _ _ _ _).alloc _, Blk.new3 _ _ _ _ _, (((zL _ _).alloc (zN _) _).alloc (by simp) _).alloc (by simp; omega) _⟩
 have HIx := zH (idx_find h.map o.key)
 unfold opv
 unfold opc wantc want0 ent0 at HX
 unfold opc
 dsimp only at HX
 have HH := zH h
 have HBs := zH hB
 have hnI : (ps.length : Int) ≤ 100000 := by omega
 obtain ⟨LA, lc, rfl, hlc, _⟩ := own_form h.L
 have hlcI : (ps.length : Int) ≤ (lc : Int) := by omega
 have HN := zH hn
 clear h hB hn hlc
 obtain ⟨i, hi⟩ : ∃ i, idxI (fun p : EntV × Value => decide (p.1.key = o.key)) ps = i := ⟨_, rfl⟩
 rw [hi] at HFi HIx
 clear hi
 by_cases k3 : o.kind = 3 ∨ o.kind = 4 ∨ o.kind = 5 ∨ o.kind = 6
 ·have hS : readsP s o e = match findP s.L o.key with
    |none => want0
    |some x => { want0 with hit := true, val := if o.kind = 3 then x.val else [], ent := if o.kind = 4 then x else ent0 } := by unfold readsP; rw [if_pos k3]; rfl
  rcases HIx.out with ⟨h1, h2⟩ | ⟨j, ⟨ev, V⟩, hj, h1, h2, h3⟩
  ·subst h2
   have HS := zH (show readsP s o e = ⟨false, [], ent0, 0⟩ by rw [hS, h1]; rfl)
   clear h1 hS he hp
   rcases k3 with k | k | k | k
   ·have q3 : (o.kind == 3) = true := by simp [k]
    have q4 : (o.kind == 4) = false := by simp [k]
    have q5 : (o.kind == 5) = false := by simp [k]
    have q6 : (o.kind == 6) = false := by simp [k]
    have q11 : (o.kind == 11) = false := by simp [k]
    have q12 : (o.kind == 12) = false := by simp [k]
    clear k
    go_enter Tryz.func31, Tryz.ntmps31
    go_wp2_with fail
    refine (HFi.out _ _ _).mono ?_
    rintro e w1 ⟨rfl, hw⟩
    subst hw
    obtain ⟨W0, hW0⟩ : ∃ W0, ((w.alloc (.cells #[.int .i64 o.kind, .int .u64 o.ticks, .string o.key, .slice A n c, .int .u64 o.ttl, .int .i64 o.count, .int .i64 o.bytes, .int .i64 o.cursor, .int .u64 o.birth] 43)).alloc (.cells #[.int .i64 0, .int .u64 0, .string ⟨#[]⟩, .slice none 0 0, .int .u64 0, .int .i64 0, .int .i64 0, .int .i64 0, .int .u64 0, .int .u64 0, .int .i64 0, .bool false, .slice none 0 0, .string ⟨#[]⟩, .slice none 0 0, .int .u64 0, .int .u64 0, .int .i64 0, .slice none 0 0, .int .i64 0, .int .i64 0] 46)).alloc (.cells #[.int .i64 0, .int .u64 0, .string ⟨#[]⟩, .slice none 0 0, .int .u64 0, .int .i64 0, .int .i64 0, .int .i64 0, .int .u64 0, .int .u64 0, .int .i64 0, .bool false, .slice none 0 0, .string ⟨#[]⟩, .slice none 0 0, .int .u64 0, .int .u64 0, .int .i64 0, .slice none 0 0, .int .i64 0, .int .i64 0] 46) = W0 := ⟨_, rfl⟩
    rw [hW0] at HX ⊢
    clear hW0 HFi HIx
    obtain ⟨z0, z2, z3, z4, z7⟩ := op_cells' HX.out.box
    have c11 : W0.cell? ⟨w.heap.size + 1 + 1, 11, none⟩ = some (.bool false) := HX.out.x.cell 11 _ rfl
    have cf := HX.out.x.frozen
    go_upto_region 9 with fail
    have HX2 : Hid (RdX w (W0.setCell ⟨w.heap.size + 1 + 1, 11, none⟩ (.bool false)) B g _ vU pv s ps o _ ⟨false, [], ent0, 0⟩ (.slice none 0 0) (.slice none 0 0)) := zH (RdX.set1 HH.out HX.out 11 (.bool false) rfl)
    clear z0 z2 z3 z4 z7 c11 cf
    generalize World.setCell _ _ _ = W2 at HX2 ⊢
    obtain ⟨z0, z2, z3, z4, z7⟩ := op_cells' HX2.out.box
    go_upto_region 19 with fail
    have HXB : Hid (Blk _ _ _ #[.int .i64 0, .int .u64 0, .string ⟨#[]⟩, .slice none 0 0, .int .u64 0, .int .i64 0, .int .i64 0, .int .i64 0, .int .u64 0, .int .u64 0, .int .i64 0, .bool false, .slice none 0 0, .string ⟨#[]⟩, .slice none 0 0, .int .u64 0, .int .u64 0, .int .i64 0, .slice none 0 0, .int .i64 0, .int .i64 0]) := zH (HX2).out.x
    have HRB := zH (HX2).out.r
    go_wp2_with (first | (refine wpList_load_row rfl 46 _ rfl (w.heap.size + 1 + 1) rfl 46 _ (0, 0) _ HXB.out Tryz.underlying46 rfl (by kernel_rfl) ?_) | (refine wpList_store_row rfl 46 _ _ rfl (w.heap.size + 1) _ rfl rfl 46 _ HRB.out (by kernel_rfl) rfl (by simp [Value.oneCell']) ?_))
    have hb := HRB.out.row #[.int .i64 0, .int .u64 0, .string ⟨#[]⟩, .slice none 0 0, .int .u64 0, .int .i64 0, .int .i64 0, .int .i64 0, .int .u64 0, .int .u64 0, .int .i64 0, .bool false, .slice none 0 0, .string ⟨#[]⟩, .slice none 0 0, .int .u64 0, .int .u64 0, .int .i64 0, .slice none 0 0, .int .i64 0, .int .i64 0]
    have HRd := zH (rd_done (HX2).out hb ((Only.refl _ _).setRow (S := fun k => k = w.heap.size + 1) (.inl rfl) _) HBs.out)
    generalize World.setRow _ _ _ = W9 at hb HRd ⊢
    refine bodyPost_ret (v := .agg #[.int .i64 0, .int .u64 0, .string ⟨#[]⟩, .slice none 0 0, .int .u64 0, .int .i64 0, .int .i64 0, .int .i64 0, .int .u64 0, .int .u64 0, .int .i64 0, .bool false, .slice none 0 0, .string ⟨#[]⟩, .slice none 0 0, .int .u64 0, .int .u64 0, .int .i64 0, .slice none 0 0, .int .i64 0, .int .i64 0]) (results_cell_row rfl _ _ (w.heap.size + 1) 46 _ (0, 0) _ rfl hb Tryz.underlying46 rfl (by kernel_rfl)) rfl ?_
    exact ⟨.slice none 0 0, .slice none 0 0, by rw [HS.out]; rfl, by rw [HS.out]; exact Bts.nil _ _ _, by rw [HS.out]; exact Bts.nil _ _ _, HRd.out.2⟩
   ·have q3 : (o.kind == 3) = false := by simp [k]
    have q4 : (o.kind == 4) = true := by simp [k]
    have q5 : (o.kind == 5) = false := by simp [k]
    have q6 : (o.kind == 6) = false := by simp [k]
    have q11 : (o.kind == 11) = false := by simp [k]
    have q12 : (o.kind == 12) = false := by simp [k]
    clear k
    go_enter Tryz.func31, Tryz.ntmps31
    go_wp2_with fail
    refine (HFi.out _ _ _).mono ?_
    rintro e w1 ⟨rfl, hw⟩
    subst hw
    obtain ⟨W0, hW0⟩ : ∃ W0, ((w.alloc (.cells #[.int .i64 o.kind, .int .u64 o.ticks, .string o.key, .slice A n c, .int .u64 o.ttl, .int .i64 o.count, .int .i64 o.bytes, .int .i64 o.cursor, .int .u64 o.birth] 43)).alloc (.cells #[.int .i64 0, .int .u64 0, .string ⟨#[]⟩, .slice none 0 0, .int .u64 0, .int .i64 0, .int .i64 0, .int .i64 0, .int .u64 0, .int .u64 0, .int .i64 0, .bool false, .slice none 0 0, .string ⟨#[]⟩, .slice none 0 0, .int .u64 0, .int .u64 0, .int .i64 0, .slice none 0 0, .int .i64 0, .int .i64 0] 46)).alloc (.cells #[.int .i64 0, .int .u64 0, .string ⟨#[]⟩, .slice none 0 0, .int .u64 0, .int .i64 0, .int .i64 0, .int .i64 0, .int .u64 0, .int .u64 0, .int .i64 0, .bool false, .slice none 0 0, .string ⟨#[]⟩, .slice none 0 0, .int .u64 0, .int .u64 0, .int .i64 0, .slice none 0 0, .int .i64 0, .int .i64 0] 46) = W0 := ⟨_, rfl⟩
    rw [hW0] at HX ⊢
    clear hW0 HFi HIx
    obtain ⟨z0, z2, z3, z4, z7⟩ := op_cells' HX.out.box
    have c11 : W0.cell? ⟨w.heap.size + 1 + 1, 11, none⟩ = some (.bool false) := HX.out.x.cell 11 _ rfl
    have cf := HX.out.x.frozen
    go_upto_region 9 with fail
    have HX2 : Hid (RdX w (W0.setCell ⟨w.heap.size + 1 + 1, 11, none⟩ (.bool false)) B g _ vU pv s ps o _ ⟨false, [], ent0, 0⟩ (.slice none 0 0) (.slice none 0 0)) := zH (RdX.set1 HH.out HX.out 11 (.bool false) rfl)
    clear z0 z2 z3 z4 z7 c11 cf
    generalize World.setCell _ _ _ = W2 at HX2 ⊢
    obtain ⟨z0, z2, z3, z4, z7⟩ := op_cells' HX2.out.box
    go_upto_region 19 with fail
    have HXB : Hid (Blk _ _ _ #[.int .i64 0, .int .u64 0, .string ⟨#[]⟩, .slice none 0 0, .int .u64 0, .int .i64 0, .int .i64 0, .int .i64 0, .int .u64 0, .int .u64 0, .int .i64 0, .bool false, .slice none 0 0, .string ⟨#[]⟩, .slice none 0 0, .int .u64 0, .int .u64 0, .int .i64 0, .slice none 0 0, .int .i64 0, .int .i64 0]) := zH (HX2).out.x
    have HRB := zH (HX2).out.r
    go_wp2_with (first | (refine wpList_load_row rfl 46 _ rfl (w.heap.size + 1 + 1) rfl 46 _ (0, 0) _ HXB.out Tryz.underlying46 rfl (by kernel_rfl) ?_) | (refine wpList_store_row rfl 46 _ _ rfl (w.heap.size + 1) _ rfl rfl 46 _ HRB.out (by kernel_rfl) rfl (by simp [Value.oneCell']) ?_))
    have hb := HRB.out.row #[.int .i64 0, .int .u64 0, .string ⟨#[]⟩, .slice none 0 0, .int .u64 0, .int .i64 0, .int .i64 0, .int .i64 0, .int .u64 0, .int .u64 0, .int .i64 0, .bool false, .slice none 0 0, .string ⟨#[]⟩, .slice none 0 0, .int .u64 0, .int .u64 0, .int .i64 0, .slice none 0 0, .int .i64 0, .int .i64 0]
    have HRd := zH (rd_done (HX2).out hb ((Only.refl _ _).setRow (S := fun k => k = w.heap.size + 1) (.inl rfl) _) HBs.out)
    generalize World.setRow _ _ _ = W9 at hb HRd ⊢
    refine bodyPost_ret (v := .agg #[.int .i64 0, .int .u64 0, .string ⟨#[]⟩, .slice none 0 0, .int .u64 0, .int .i64 0, .int .i64 0, .int .i64 0, .int .u64 0, .int .u64 0, .int .i64 0, .bool false, .slice none 0 0, .string ⟨#[]⟩, .slice none 0 0, .int .u64 0, .int .u64 0, .int .i64 0, .slice none 0 0, .int .i64 0, .int .i64 0]) (results_cell_row rfl _ _ (w.heap.size + 1) 46 _ (0, 0) _ rfl hb Tryz.underlying46 rfl (by kernel_rfl)) rfl ?_
    exact ⟨.slice none 0 0, .slice none 0 0, by rw [HS.out]; rfl, by rw [HS.out]; exact Bts.nil _ _ _, by rw [HS.out]; exact Bts.nil _ _ _, HRd.out.2⟩
   ·have q3 : (o.kind == 3) = false := by simp [k]
    have q4 : (o.kind == 4) = false := by simp [k]
    have q5 : (o.kind == 5) = true := by simp [k]
    have q6 : (o.kind == 6) = false := by simp [k]
    have q11 : (o.kind == 11) = false := by simp [k]
    have q12 : (o.kind == 12) = false := by simp [k]
    clear k
    go_enter Tryz.func31, Tryz.ntmps31
    go_wp2_with fail
    refine (HFi.out _ _ _).mono ?_
    rintro e w1 ⟨rfl, hw⟩
    subst hw
    obtain ⟨W0, hW0⟩ : ∃ W0, ((w.alloc (.cells #[.int .i64 o.kind, .int .u64 o.ticks, .string o.key, .slice A n c, .int .u64 o.ttl, .int .i64 o.count, .int .i64 o.bytes, .int .i64 o.cursor, .int .u64 o.birth] 43)).alloc (.cells #[.int .i64 0, .int .u64 0, .string ⟨#[]⟩, .slice none 0 0, .int .u64 0, .int .i64 0, .int .i64 0, .int .i64 0, .int .u64 0, .int .u64 0, .int .i64 0, .bool false, .slice none 0 0, .string ⟨#[]⟩, .slice none 0 0, .int .u64 0, .int .u64 0, .int .i64 0, .slice none 0 0, .int .i64 0, .int .i64 0] 46)).alloc (.cells #[.int .i64 0, .int .u64 0, .string ⟨#[]⟩, .slice none 0 0, .int .u64 0, .int .i64 0, .int .i64 0, .int .i64 0, .int .u64 0, .int .u64 0, .int .i64 0, .bool false, .slice none 0 0, .string ⟨#[]⟩, .slice none 0 0, .int .u64 0, .int .u64 0, .int .i64 0, .slice none 0 0, .int .i64 0, .int .i64 0] 46) = W0 := ⟨_, rfl⟩
    rw [hW0] at HX ⊢
    clear hW0 HFi HIx
    obtain ⟨z0, z2, z3, z4, z7⟩ := op_cells' HX.out.box
    have c11 : W0.cell? ⟨w.heap.size + 1 + 1, 11, none⟩ = some (.bool false) := HX.out.x.cell 11 _ rfl
    have cf := HX.out.x.frozen
    go_upto_region 9 with fail
    have HX2 : Hid (RdX w (W0.setCell ⟨w.heap.size + 1 + 1, 11, none⟩ (.bool false)) B g _ vU pv s ps o _ ⟨false, [], ent0, 0⟩ (.slice none 0 0) (.slice none 0 0)) := zH (RdX.set1 HH.out HX.out 11 (.bool false) rfl)
    clear z0 z2 z3 z4 z7 c11 cf
    generalize World.setCell _ _ _ = W2 at HX2 ⊢
    obtain ⟨z0, z2, z3, z4, z7⟩ := op_cells' HX2.out.box
    go_upto_region 19 with fail
    have HXB : Hid (Blk _ _ _ #[.int .i64 0, .int .u64 0, .string ⟨#[]⟩, .slice none 0 0, .int .u64 0, .int .i64 0, .int .i64 0, .int .i64 0, .int .u64 0, .int .u64 0, .int .i64 0, .bool false, .slice none 0 0, .string ⟨#[]⟩, .slice none 0 0, .int .u64 0, .int .u64 0, .int .i64 0, .slice none 0 0, .int .i64 0, .int .i64 0]) := zH (HX2).out.x
    have HRB := zH (HX2).out.r
    go_wp2_with (first | (refine wpList_load_row rfl 46 _ rfl (w.heap.size + 1 + 1) rfl 46 _ (0, 0) _ HXB.out Tryz.underlying46 rfl (by kernel_rfl) ?_) | (refine wpList_store_row rfl 46 _ _ rfl (w.heap.size + 1) _ rfl rfl 46 _ HRB.out (by kernel_rfl) rfl (by simp [Value.oneCell']) ?_))
    have hb := HRB.out.row #[.int .i64 0, .int .u64 0, .string ⟨#[]⟩, .slice none 0 0, .int .u64 0, .int .i64 0, .int .i64 0, .int .i64 0, .int .u64 0, .int .u64 0, .int .i64 0, .bool false, .slice none 0 0, .string ⟨#[]⟩, .slice none 0 0, .int .u64 0, .int .u64 0, .int .i64 0, .slice none 0 0, .int .i64 0, .int .i64 0]
    have HRd := zH (rd_done (HX2).out hb ((Only.refl _ _).setRow (S := fun k => k = w.heap.size + 1) (.inl rfl) _) HBs.out)
    generalize World.setRow _ _ _ = W9 at hb HRd ⊢
    refine bodyPost_ret (v := .agg #[.int .i64 0, .int .u64 0, .string ⟨#[]⟩, .slice none 0 0, .int .u64 0, .int .i64 0, .int .i64 0, .int .i64 0, .int .u64 0, .int .u64 0, .int .i64 0, .bool false, .slice none 0 0, .string ⟨#[]⟩, .slice none 0 0, .int .u64 0, .int .u64 0, .int .i64 0, .slice none 0 0, .int .i64 0, .int .i64 0]) (results_cell_row rfl _ _ (w.heap.size + 1) 46 _ (0, 0) _ rfl hb Tryz.underlying46 rfl (by kernel_rfl)) rfl ?_
    exact ⟨.slice none 0 0, .slice none 0 0, by rw [HS.out]; rfl, by rw [HS.out]; exact Bts.nil _ _ _, by rw [HS.out]; exact Bts.nil _ _ _, HRd.out.2⟩
   ·have q3 : (o.kind == 3) = false := by simp [k]
    have q4 : (o.kind == 4) = false := by simp [k]
    have q5 : (o.kind == 5) = false := by simp [k]
    have q6 : (o.kind == 6) = true := by simp [k]
    have q11 : (o.kind == 11) = false := by simp [k]
    have q12 : (o.kind == 12) = false := by simp [k]
    clear k
    go_enter Tryz.func31, Tryz.ntmps31
    go_wp2_with fail
    refine (HFi.out _ _ _).mono ?_
    rintro e w1 ⟨rfl, hw⟩
    subst hw
    obtain ⟨W0, hW0⟩ : ∃ W0, ((w.alloc (.cells #[.int .i64 o.kind, .int .u64 o.ticks, .string o.key, .slice A n c, .int .u64 o.ttl, .int .i64 o.count, .int .i64 o.bytes, .int .i64 o.cursor, .int .u64 o.birth] 43)).alloc (.cells #[.int .i64 0, .int .u64 0, .string ⟨#[]⟩, .slice none 0 0, .int .u64 0, .int .i64 0, .int .i64 0, .int .i64 0, .int .u64 0, .int .u64 0, .int .i64 0, .bool false, .slice none 0 0, .string ⟨#[]⟩, .slice none 0 0, .int .u64 0, .int .u64 0, .int .i64 0, .slice none 0 0, .int .i64 0, .int .i64 0] 46)).alloc (.cells #[.int .i64 0, .int .u64 0, .string ⟨#[]⟩, .slice none 0 0, .int .u64 0, .int .i64 0, .int .i64 0, .int .i64 0, .int .u64 0, .int .u64 0, .int .i64 0, .bool false, .slice none 0 0, .string ⟨#[]⟩, .slice none 0 0, .int .u64 0, .int .u64 0, .int .i64 0, .slice none 0 0, .int .i64 0, .int .i64 0] 46) = W0 := ⟨_, rfl⟩
    rw [hW0] at HX ⊢
    clear hW0 HFi HIx
    obtain ⟨z0, z2, z3, z4, z7⟩ := op_cells' HX.out.box
    have c11 : W0.cell? ⟨w.heap.size + 1 + 1, 11, none⟩ = some (.bool false) := HX.out.x.cell 11 _ rfl
    have cf := HX.out.x.frozen
    go_upto_region 9 with fail
    have HX2 : Hid (RdX w (W0.setCell ⟨w.heap.size + 1 + 1, 11, none⟩ (.bool false)) B g _ vU pv s ps o _ ⟨false, [], ent0, 0⟩ (.slice none 0 0) (.slice none 0 0)) := zH (RdX.set1 HH.out HX.out 11 (.bool false) rfl)
    clear z0 z2 z3 z4 z7 c11 cf
    generalize World.setCell _ _ _ = W2 at HX2 ⊢
    obtain ⟨z0, z2, z3, z4, z7⟩ := op_cells' HX2.out.box
    go_upto_region 19 with fail
    have HXB : Hid (Blk _ _ _ #[.int .i64 0, .int .u64 0, .string ⟨#[]⟩, .slice none 0 0, .int .u64 0, .int .i64 0, .int .i64 0, .int .i64 0, .int .u64 0, .int .u64 0, .int .i64 0, .bool false, .slice none 0 0, .string ⟨#[]⟩, .slice none 0 0, .int .u64 0, .int .u64 0, .int .i64 0, .slice none 0 0, .int .i64 0, .int .i64 0]) := zH (HX2).out.x
    have HRB := zH (HX2).out.r
    go_wp2_with (first | (refine wpList_load_row rfl 46 _ rfl (w.heap.size + 1 + 1) rfl 46 _ (0, 0) _ HXB.out Tryz.underlying46 rfl (by kernel_rfl) ?_) | (refine wpList_store_row rfl 46 _ _ rfl (w.heap.size + 1) _ rfl rfl 46 _ HRB.out (by kernel_rfl) rfl (by simp [Value.oneCell']) ?_))
    have hb := HRB.out.row #[.int .i64 0, .int .u64 0, .string ⟨#[]⟩, .slice none 0 0, .int .u64 0, .int .i64 0, .int .i64 0, .int .i64 0, .int .u64 0, .int .u64 0, .int .i64 0, .bool false, .slice none 0 0, .string ⟨#[]⟩, .slice none 0 0, .int .u64 0, .int .u64 0, .int .i64 0, .slice none 0 0, .int .i64 0, .int .i64 0]
    have HRd := zH (rd_done (HX2).out hb ((Only.refl _ _).setRow (S := fun k => k = w.heap.size + 1) (.inl rfl) _) HBs.out)
    generalize World.setRow _ _ _ = W9 at hb HRd ⊢
    refine bodyPost_ret (v := .agg #[.int .i64 0, .int .u64 0, .string ⟨#[]⟩, .slice none 0 0, .int .u64 0, .int .i64 0, .int .i64 0, .int .i64 0, .int .u64 0, .int .u64 0, .int .i64 0, .bool false, .slice none 0 0, .string ⟨#[]⟩, .slice none 0 0, .int .u64 0, .int .u64 0, .int .i64 0, .slice none 0 0, .int .i64 0, .int .i64 0]) (results_cell_row rfl _ _ (w.heap.size + 1) 46 _ (0, 0) _ rfl hb Tryz.underlying46 rfl (by kernel_rfl)) rfl ?_
    exact ⟨.slice none 0 0, .slice none 0 0, by rw [HS.out]; rfl, by rw [HS.out]; exact Bts.nil _ _ _, by rw [HS.out]; exact Bts.nil _ _ _, HRd.out.2⟩
  ·subst h2
   rw [h1] at hS
   obtain ⟨VA, vc, hV⟩ := (HH.out.vals _ (List.mem_of_getElem? hj)).form
   dsimp only at hV
   subst hV
   have HJ := zH hj
   have hj0 : (0 : Int) ≤ (j : Int) := by omega
   have hjI : (j : Int) < (ps.length : Int) := by have := (List.getElem?_eq_some_iff.1 hj).1; omega
   obtain ⟨gL, rfl⟩ : ∃ gL, LA = some ⟨gL, 0, none⟩ := by
    rcases HH.out.L.2 with ⟨_, h0⟩ | ⟨q, c, cur, eq, _⟩
    ·omega
    ·injection eq with eq _ _
     exact ⟨q, eq⟩
   clear h1 h3 hj he hp
   rcases k3 with k | k | k | k
   ·have HS := zH (show readsP s o e = ⟨true, ev.val, ent0, 0⟩ by rw [hS]; simp [want0, k])
    have q3 : (o.kind == 3) = true := by simp [k]
    have q4 : (o.kind == 4) = false := by simp [k]
    have q5 : (o.kind == 5) = false := by simp [k]
    have q6 : (o.kind == 6) = false := by simp [k]
    have q11 : (o.kind == 11) = false := by simp [k]
    have q12 : (o.kind == 12) = false := by simp [k]
    clear k hS
    go_enter Tryz.func31, Tryz.ntmps31
    go_wp2_with fail
    refine (HFi.out _ _ _).mono ?_
    rintro e w1 ⟨rfl, hw⟩
    subst hw
    obtain ⟨W0, hW0⟩ : ∃ W0, ((w.alloc (.cells #[.int .i64 o.kind, .int .u64 o.ticks, .string o.key, .slice A n c, .int .u64 o.ttl, .int .i64 o.count, .int .i64 o.bytes, .int .i64 o.cursor, .int .u64 o.birth] 43)).alloc (.cells #[.int .i64 0, .int .u64 0, .string ⟨#[]⟩, .slice none 0 0, .int .u64 0, .int .i64 0, .int .i64 0, .int .i64 0, .int .u64 0, .int .u64 0, .int .i64 0, .bool false, .slice none 0 0, .string ⟨#[]⟩, .slice none 0 0, .int .u64 0, .int .u64 0, .int .i64 0, .slice none 0 0, .int .i64 0, .int .i64 0] 46)).alloc (.cells #[.int .i64 0, .int .u64 0, .string ⟨#[]⟩, .slice none 0 0, .int .u64 0, .int .i64 0, .int .i64 0, .int .i64 0, .int .u64 0, .int .u64 0, .int .i64 0, .bool false, .slice none 0 0, .string ⟨#[]⟩, .slice none 0 0, .int .u64 0, .int .u64 0, .int .i64 0, .slice none 0 0, .int .i64 0, .int .i64 0] 46) = W0 := ⟨_, rfl⟩
    rw [hW0] at HX ⊢
    clear hW0 HFi HIx
    obtain ⟨z0, z2, z3, z4, z7⟩ := op_cells' HX.out.box
    have c11 : W0.cell? ⟨w.heap.size + 1 + 1, 11, none⟩ = some (.bool false) := HX.out.x.cell 11 _ rfl
    have cf := HX.out.x.frozen
    go_upto_region 9 with fail
    have HX2 : Hid (RdX w (W0.setCell ⟨w.heap.size + 1 + 1, 11, none⟩ (.bool true)) B g _ vU pv s ps o _ ⟨true, [], ent0, 0⟩ (.slice none 0 0) (.slice none 0 0)) := zH (RdX.set1 HH.out HX.out 11 (.bool true) rfl)
    clear z0 z2 z3 z4 z7 c11 cf
    generalize World.setCell _ _ _ = W2 at HX2 ⊢
    obtain ⟨z0, z2, z3, z4, z7⟩ := op_cells' HX2.out.box
    have x7 : W2.cell? ⟨g, 7, none⟩ = some (.slice (some ⟨gL, 0, none⟩) ps.length lc) := HX2.out.k.cell 7 (by omega)
    obtain ⟨y0, y1, y2, y3⟩ := HX2.out.k.entAt HJ.out
    dsimp only at y0 y1 y2 y3
    have c12 : W2.cell? ⟨w.heap.size + 1 + 1, 12, none⟩ = some (.slice none 0 0) := HX2.out.x.cell 12 _ rfl
    have cf := HX2.out.x.frozen
    go_upto_region 19 with fail
    have HX3 : Hid (RdX w (W2.setCell ⟨w.heap.size + 1 + 1, 12, none⟩ (.slice VA ev.val.length vc)) B g _ vU pv s ps o _ ⟨true, [], ent0, 0⟩ (.slice VA ev.val.length vc) (.slice none 0 0)) := zH (RdX.set1 HH.out HX2.out 12 _ rfl)
    clear x7 y0 y1 y2 y3 c12 cf z0 z2 z3 z4 z7
    generalize World.setCell _ _ _ = W3 at HX3 ⊢
    have HXB : Hid (Blk _ _ _ #[.int .i64 0, .int .u64 0, .string ⟨#[]⟩, .slice none 0 0, .int .u64 0, .int .i64 0, .int .i64 0, .int .i64 0, .int .u64 0, .int .u64 0, .int .i64 0, .bool true, .slice VA ev.val.length vc, .string ⟨#[]⟩, .slice none 0 0, .int .u64 0, .int .u64 0, .int .i64 0, .slice none 0 0, .int .i64 0, .int .i64 0]) := zH (HX3).out.x
    have HRB := zH (HX3).out.r
    go_wp2_with (first | (refine wpList_load_row rfl 46 _ rfl (w.heap.size + 1 + 1) rfl 46 _ (0, 0) _ HXB.out Tryz.underlying46 rfl (by kernel_rfl) ?_) | (refine wpList_store_row rfl 46 _ _ rfl (w.heap.size + 1) _ rfl rfl 46 _ HRB.out (by kernel_rfl) rfl (by simp [Value.oneCell']) ?_))
    have hb := HRB.out.row #[.int .i64 0, .int .u64 0, .string ⟨#[]⟩, .slice none 0 0, .int .u64 0, .int .i64 0, .int .i64 0, .int .i64 0, .int .u64 0, .int .u64 0, .int .i64 0, .bool true, .slice VA ev.val.length vc, .string ⟨#[]⟩, .slice none 0 0, .int .u64 0, .int .u64 0, .int .i64 0, .slice none 0 0, .int .i64 0, .int .i64 0]
    have HRd := zH (rd_done (HX3).out hb ((Only.refl _ _).setRow (S := fun k => k = w.heap.size + 1) (.inl rfl) _) HBs.out)
    generalize World.setRow _ _ _ = W9 at hb HRd ⊢
    refine bodyPost_ret (v := .agg #[.int .i64 0, .int .u64 0, .string ⟨#[]⟩, .slice none 0 0, .int .u64 0, .int .i64 0, .int .i64 0, .int .i64 0, .int .u64 0, .int .u64 0, .int .i64 0, .bool true, .slice VA ev.val.length vc, .string ⟨#[]⟩, .slice none 0 0, .int .u64 0, .int .u64 0, .int .i64 0, .slice none 0 0, .int .i64 0, .int .i64 0]) (results_cell_row rfl _ _ (w.heap.size + 1) 46 _ (0, 0) _ rfl hb Tryz.underlying46 rfl (by kernel_rfl)) rfl ?_
    exact ⟨.slice VA ev.val.length vc, .slice none 0 0, by rw [HS.out]; rfl, by rw [HS.out]; exact HRd.out.1 _ (List.mem_of_getElem? HJ.out), by rw [HS.out]; exact Bts.nil _ _ _, HRd.out.2⟩
   ·have HS := zH (show readsP s o e = ⟨true, [], ev, 0⟩ by rw [hS]; simp [want0, k])
    have q3 : (o.kind == 3) = false := by simp [k]
    have q4 : (o.kind == 4) = true := by simp [k]
    have q5 : (o.kind == 5) = false := by simp [k]
    have q6 : (o.kind == 6) = false := by simp [k]
    have q11 : (o.kind == 11) = false := by simp [k]
    have q12 : (o.kind == 12) = false := by simp [k]
    clear k hS
    go_enter Tryz.func31, Tryz.ntmps31
    go_wp2_with fail
    refine (HFi.out _ _ _).mono ?_
    rintro e w1 ⟨rfl, hw⟩
    subst hw
    obtain ⟨W0, hW0⟩ : ∃ W0, ((w.alloc (.cells #[.int .i64 o.kind, .int .u64 o.ticks, .string o.key, .slice A n c, .int .u64 o.ttl, .int .i64 o.count, .int .i64 o.bytes, .int .i64 o.cursor, .int .u64 o.birth] 43)).alloc (.cells #[.int .i64 0, .int .u64 0, .string ⟨#[]⟩, .slice none 0 0, .int .u64 0, .int .i64 0, .int .i64 0, .int .i64 0, .int .u64 0, .int .u64 0, .int .i64 0, .bool false, .slice none 0 0, .string ⟨#[]⟩, .slice none 0 0, .int .u64 0, .int .u64 0, .int .i64 0, .slice none 0 0, .int .i64 0, .int .i64 0] 46)).alloc (.cells #[.int .i64 0, .int .u64 0, .string ⟨#[]⟩, .slice none 0 0, .int .u64 0, .int .i64 0, .int .i64 0, .int .i64 0, .int .u64 0, .int .u64 0, .int .i64 0, .bool false, .slice none 0 0, .string ⟨#[]⟩, .slice none 0 0, .int .u64 0, .int .u64 0, .int .i64 0, .slice none 0 0, .int .i64 0, .int .i64 0] 46) = W0 := ⟨_, rfl⟩
    rw [hW0] at HX ⊢
    clear hW0 HFi HIx
    obtain ⟨z0, z2, z3, z4, z7⟩ := op_cells' HX.out.box
    have c11 : W0.cell? ⟨w.heap.size + 1 + 1, 11, none⟩ = some (.bool false) := HX.out.x.cell 11 _ rfl
    have cf := HX.out.x.frozen
    go_upto_region 9 with fail
    have HX2 : Hid (RdX w (W0.setCell ⟨w.heap.size + 1 + 1, 11, none⟩ (.bool true)) B g _ vU pv s ps o _ ⟨true, [], ent0, 0⟩ (.slice none 0 0) (.slice none 0 0)) := zH (RdX.set1 HH.out HX.out 11 (.bool true) rfl)
    clear z0 z2 z3 z4 z7 c11 cf
    generalize World.setCell _ _ _ = W2 at HX2 ⊢
    obtain ⟨z0, z2, z3, z4, z7⟩ := op_cells' HX2.out.box
    have x7 : W2.cell? ⟨g, 7, none⟩ = some (.slice (some ⟨gL, 0, none⟩) ps.length lc) := HX2.out.k.cell 7 (by omega)
    obtain ⟨y0, y1, y2, y3⟩ := HX2.out.k.entAt HJ.out
    dsimp only at y0 y1 y2 y3
    have c13 : W2.cell? ⟨w.heap.size + 1 + 1, 13, none⟩ = some (.string ⟨#[]⟩) := HX2.out.x.cell 13 _ rfl
    have c14 : W2.cell? ⟨w.heap.size + 1 + 1, 14, none⟩ = some (.slice none 0 0) := HX2.out.x.cell 14 _ rfl
    have c15 : W2.cell? ⟨w.heap.size + 1 + 1, 15, none⟩ = some (.int .u64 0) := HX2.out.x.cell 15 _ rfl
    have c16 : W2.cell? ⟨w.heap.size + 1 + 1, 16, none⟩ = some (.int .u64 0) := HX2.out.x.cell 16 _ rfl
    have cf := HX2.out.x.frozen
    go_upto_region 19 with fail
    have HX3 := zH (RdX.set4 HH.out HX2.out ev (.slice VA ev.val.length vc))
    clear x7 y0 y1 y2 y3 c13 c14 c15 c16 cf z0 z2 z3 z4 z7
    generalize World.setCell _ _ _ = W3 at HX3 ⊢
    have HXB : Hid (Blk _ _ _ #[.int .i64 0, .int .u64 0, .string ⟨#[]⟩, .slice none 0 0, .int .u64 0, .int .i64 0, .int .i64 0, .int .i64 0, .int .u64 0, .int .u64 0, .int .i64 0, .bool true, .slice none 0 0, .string ev.key, .slice VA ev.val.length vc, .int .u64 ev.dl, .int .u64 ev.birth, .int .i64 0, .slice none 0 0, .int .i64 0, .int .i64 0]) := zH (HX3).out.x
    have HRB := zH (HX3).out.r
    go_wp2_with (first | (refine wpList_load_row rfl 46 _ rfl (w.heap.size + 1 + 1) rfl 46 _ (0, 0) _ HXB.out Tryz.underlying46 rfl (by kernel_rfl) ?_) | (refine wpList_store_row rfl 46 _ _ rfl (w.heap.size + 1) _ rfl rfl 46 _ HRB.out (by kernel_rfl) rfl (by simp [Value.oneCell']) ?_))
    have hb := HRB.out.row #[.int .i64 0, .int .u64 0, .string ⟨#[]⟩, .slice none 0 0, .int .u64 0, .int .i64 0, .int .i64 0, .int .i64 0, .int .u64 0, .int .u64 0, .int .i64 0, .bool true, .slice none 0 0, .string ev.key, .slice VA ev.val.length vc, .int .u64 ev.dl, .int .u64 ev.birth, .int .i64 0, .slice none 0 0, .int .i64 0, .int .i64 0]
    have HRd := zH (rd_done (HX3).out hb ((Only.refl _ _).setRow (S := fun k => k = w.heap.size + 1) (.inl rfl) _) HBs.out)
    generalize World.setRow _ _ _ = W9 at hb HRd ⊢
    refine bodyPost_ret (v := .agg #[.int .i64 0, .int .u64 0, .string ⟨#[]⟩, .slice none 0 0, .int .u64 0, .int .i64 0, .int .i64 0, .int .i64 0, .int .u64 0, .int .u64 0, .int .i64 0, .bool true, .slice none 0 0, .string ev.key, .slice VA ev.val.length vc, .int .u64 ev.dl, .int .u64 ev.birth, .int .i64 0, .slice none 0 0, .int .i64 0, .int .i64 0]) (results_cell_row rfl _ _ (w.heap.size + 1) 46 _ (0, 0) _ rfl hb Tryz.underlying46 rfl (by kernel_rfl)) rfl ?_
    exact ⟨.slice none 0 0, .slice VA ev.val.length vc, by rw [HS.out]; rfl, by rw [HS.out]; exact Bts.nil _ _ _, by rw [HS.out]; exact HRd.out.1 _ (List.mem_of_getElem? HJ.out), HRd.out.2⟩
   ·have HS := zH (show readsP s o e = ⟨true, [], ent0, 0⟩ by rw [hS]; simp [want0, k])
    have q3 : (o.kind == 3) = false := by simp [k]
    have q4 : (o.kind == 4) = false := by simp [k]
    have q5 : (o.kind == 5) = true := by simp [k]
    have q6 : (o.kind == 6) = false := by simp [k]
    have q11 : (o.kind == 11) = false := by simp [k]
    have q12 : (o.kind == 12) = false := by simp [k]
    clear k hS
    go_enter Tryz.func31, Tryz.ntmps31
    go_wp2_with fail
    refine (HFi.out _ _ _).mono ?_
    rintro e w1 ⟨rfl, hw⟩
    subst hw
    obtain ⟨W0, hW0⟩ : ∃ W0, ((w.alloc (.cells #[.int .i64 o.kind, .int .u64 o.ticks, .string o.key, .slice A n c, .int .u64 o.ttl, .int .i64 o.count, .int .i64 o.bytes, .int .i64 o.cursor, .int .u64 o.birth] 43)).alloc (.cells #[.int .i64 0, .int .u64 0, .string ⟨#[]⟩, .slice none 0 0, .int .u64 0, .int .i64 0, .int .i64 0, .int .i64 0, .int .u64 0, .int .u64 0, .int .i64 0, .bool false, .slice none 0 0, .string ⟨#[]⟩, .slice none 0 0, .int .u64 0, .int .u64 0, .int .i64 0, .slice none 0 0, .int .i64 0, .int .i64 0] 46)).alloc (.cells #[.int .i64 0, .int .u64 0, .string ⟨#[]⟩, .slice none 0 0, .int .u64 0, .int .i64 0, .int .i64 0, .int .i64 0, .int .u64 0, .int .u64 0, .int .i64 0, .bool false, .slice none 0 0, .string ⟨#[]⟩, .slice none 0 0, .int .u64 0, .int .u64 0, .int .i64 0, .slice none 0 0, .int .i64 0, .int .i64 0] 46) = W0 := ⟨_, rfl⟩
    rw [hW0] at HX ⊢
    clear hW0 HFi HIx
    obtain ⟨z0, z2, z3, z4, z7⟩ := op_cells' HX.out.box
    have c11 : W0.cell? ⟨w.heap.size + 1 + 1, 11, none⟩ = some (.bool false) := HX.out.x.cell 11 _ rfl
    have cf := HX.out.x.frozen
    go_upto_region 9 with fail
    have HX2 : Hid (RdX w (W0.setCell ⟨w.heap.size + 1 + 1, 11, none⟩ (.bool true)) B g _ vU pv s ps o _ ⟨true, [], ent0, 0⟩ (.slice none 0 0) (.slice none 0 0)) := zH (RdX.set1 HH.out HX.out 11 (.bool true) rfl)
    clear z0 z2 z3 z4 z7 c11 cf
    generalize World.setCell _ _ _ = W2 at HX2 ⊢
    obtain ⟨z0, z2, z3, z4, z7⟩ := op_cells' HX2.out.box
    go_upto_region 19 with fail
    have HXB : Hid (Blk _ _ _ #[.int .i64 0, .int .u64 0, .string ⟨#[]⟩, .slice none 0 0, .int .u64 0, .int .i64 0, .int .i64 0, .int .i64 0, .int .u64 0, .int .u64 0, .int .i64 0, .bool true, .slice none 0 0, .string ⟨#[]⟩, .slice none 0 0, .int .u64 0, .int .u64 0, .int .i64 0, .slice none 0 0, .int .i64 0, .int .i64 0]) := zH (HX2).out.x
    have HRB := zH (HX2).out.r
    go_wp2_with (first | (refine wpList_load_row rfl 46 _ rfl (w.heap.size + 1 + 1) rfl 46 _ (0, 0) _ HXB.out Tryz.underlying46 rfl (by kernel_rfl) ?_) | (refine wpList_store_row rfl 46 _ _ rfl (w.heap.size + 1) _ rfl rfl 46 _ HRB.out (by kernel_rfl) rfl (by simp [Value.oneCell']) ?_))
    have hb := HRB.out.row #[.int .i64 0, .int .u64 0, .string ⟨#[]⟩, .slice none 0 0, .int .u64 0, .int .i64 0, .int .i64 0, .int .i64 0, .int .u64 0, .int .u64 0, .int .i64 0, .bool true, .slice none 0 0, .string ⟨#[]⟩, .slice none 0 0, .int .u64 0, .int .u64 0, .int .i64 0, .slice none 0 0, .int .i64 0, .int .i64 0]
    have HRd := zH (rd_done (HX2).out hb ((Only.refl _ _).setRow (S := fun k => k = w.heap.size + 1) (.inl rfl) _) HBs.out)
    generalize World.setRow _ _ _ = W9 at hb HRd ⊢
    refine bodyPost_ret (v := .agg #[.int .i64 0, .int .u64 0, .string ⟨#[]⟩, .slice none 0 0, .int .u64 0, .int .i64 0, .int .i64 0, .int .i64 0, .int .u64 0, .int .u64 0, .int .i64 0, .bool true, .slice none 0 0, .string ⟨#[]⟩, .slice none 0 0, .int .u64 0, .int .u64 0, .int .i64 0, .slice none 0 0, .int .i64 0, .int .i64 0]) (results_cell_row rfl _ _ (w.heap.size + 1) 46 _ (0, 0) _ rfl hb Tryz.underlying46 rfl (by kernel_rfl)) rfl ?_
    exact ⟨.slice none 0 0, .slice none 0 0, by rw [HS.out]; rfl, by rw [HS.out]; exact Bts.nil _ _ _, by rw [HS.out]; exact Bts.nil _ _ _, HRd.out.2⟩
   ·have HS := zH (show readsP s o e = ⟨true, [], ent0, 0⟩ by rw [hS]; simp [want0, k])
    have q3 : (o.kind == 3) = false := by simp [k]
    have q4 : (o.kind == 4) = false := by simp [k]
    have q5 : (o.kind == 5) = false := by simp [k]
    have q6 : (o.kind == 6) = true := by simp [k]
    have q11 : (o.kind == 11) = false := by simp [k]
    have q12 : (o.kind == 12) = false := by simp [k]
    clear k hS
    go_enter Tryz.func31, Tryz.ntmps31
    go_wp2_with fail
    refine (HFi.out _ _ _).mono ?_
    rintro e w1 ⟨rfl, hw⟩
    subst hw
    obtain ⟨W0, hW0⟩ : ∃ W0, ((w.alloc (.cells #[.int .i64 o.kind, .int .u64 o.ticks, .string o.key, .slice A n c, .int .u64 o.ttl, .int .i64 o.count, .int .i64 o.bytes, .int .i64 o.cursor, .int .u64 o.birth] 43)).alloc (.cells #[.int .i64 0, .int .u64 0, .string ⟨#[]⟩, .slice none 0 0, .int .u64 0, .int .i64 0, .int .i64 0, .int .i64 0, .int .u64 0, .int .u64 0, .int .i64 0, .bool false, .slice none 0 0, .string ⟨#[]⟩, .slice none 0 0, .int .u64 0, .int .u64 0, .int .i64 0, .slice none 0 0, .int .i64 0, .int .i64 0] 46)).alloc (.cells #[.int .i64 0, .int .u64 0, .string ⟨#[]⟩, .slice none 0 0, .int .u64 0, .int .i64 0, .int .i64 0, .int .i64 0, .int .u64 0, .int .u64 0, .int .i64 0, .bool false, .slice none 0 0, .string ⟨#[]⟩, .slice none 0 0, .int .u64 0, .int .u64 0, .int .i64 0, .slice none 0 0, .int .i64 0, .int .i64 0] 46) = W0 := ⟨_, rfl⟩
    rw [hW0] at HX ⊢
    clear hW0 HFi HIx
    obtain ⟨z0, z2, z3, z4, z7⟩ := op_cells' HX.out.box
    have c11 : W0.cell? ⟨w.heap.size + 1 + 1, 11, none⟩ = some (.bool false) := HX.out.x.cell 11 _ rfl
    have cf := HX.out.x.frozen
    go_upto_region 9 with fail
    have HX2 : Hid (RdX w (W0.setCell ⟨w.heap.size + 1 + 1, 11, none⟩ (.bool true)) B g _ vU pv s ps o _ ⟨true, [], ent0, 0⟩ (.slice none 0 0) (.slice none 0 0)) := zH (RdX.set1 HH.out HX.out 11 (.bool true) rfl)
    clear z0 z2 z3 z4 z7 c11 cf
    generalize World.setCell _ _ _ = W2 at HX2 ⊢
    obtain ⟨z0, z2, z3, z4, z7⟩ := op_cells' HX2.out.box
    go_upto_region 19 with fail
    have HXB : Hid (Blk _ _ _ #[.int .i64 0, .int .u64 0, .string ⟨#[]⟩, .slice none 0 0, .int .u64 0, .int .i64 0, .int .i64 0, .int .i64 0, .int .u64 0, .int .u64 0, .int .i64 0, .bool true, .slice none 0 0, .string ⟨#[]⟩, .slice none 0 0, .int .u64 0, .int .u64 0, .int .i64 0, .slice none 0 0, .int .i64 0, .int .i64 0]) := zH (HX2).out.x
    have HRB := zH (HX2).out.r
    go_wp2_with (first | (refine wpList_load_row rfl 46 _ rfl (w.heap.size + 1 + 1) rfl 46 _ (0, 0) _ HXB.out Tryz.underlying46 rfl (by kernel_rfl) ?_) | (refine wpList_store_row rfl 46 _ _ rfl (w.heap.size + 1) _ rfl rfl 46 _ HRB.out (by kernel_rfl) rfl (by simp [Value.oneCell']) ?_))
    have hb := HRB.out.row #[.int .i64 0, .int .u64 0, .string ⟨#[]⟩, .slice none 0 0, .int .u64 0, .int .i64 0, .int .i64 0, .int .i64 0, .int .u64 0, .int .u64 0, .int .i64 0, .bool true, .slice none 0 0, .string ⟨#[]⟩, .slice none 0 0, .int .u64 0, .int .u64 0, .int .i64 0, .slice none 0 0, .int .i64 0, .int .i64 0]
    have HRd := zH (rd_done (HX2).out hb ((Only.refl _ _).setRow (S := fun k => k = w.heap.size + 1) (.inl rfl) _) HBs.out)
    generalize World.setRow _ _ _ = W9 at hb HRd ⊢
    refine bodyPost_ret (v := .agg #[.int .i64 0, .int .u64 0, .string ⟨#[]⟩, .slice none 0 0, .int .u64 0, .int .i64 0, .int .i64 0, .int .i64 0, .int .u64 0, .int .u64 0, .int .i64 0, .bool true, .slice none 0 0, .string ⟨#[]⟩, .slice none 0 0, .int .u64 0, .int .u64 0, .int .i64 0, .slice none 0 0, .int .i64 0, .int .i64 0]) (results_cell_row rfl _ _ (w.heap.size + 1) 46 _ (0, 0) _ rfl hb Tryz.underlying46 rfl (by kernel_rfl)) rfl ?_
    exact ⟨.slice none 0 0, .slice none 0 0, by rw [HS.out]; rfl, by rw [HS.out]; exact Bts.nil _ _ _, by rw [HS.out]; exact Bts.nil _ _ _, HRd.out.2⟩
 ·have q3 : (o.kind == 3) = false := by rw [beq_eq_false_iff_ne]; omega
  have q4 : (o.kind == 4) = false := by rw [beq_eq_false_iff_ne]; omega
  have q5 : (o.kind == 5) = false := by rw [beq_eq_false_iff_ne]; omega
  have q6 : (o.kind == 6) = false := by rw [beq_eq_false_iff_ne]; omega
  by_cases k11 : o.kind = 11
  ·have q11 : (o.kind == 11) = true := by simp [k11]
   have q12 : (o.kind == 12) = false := by simp [k11]
   by_cases he0 : e = 0
   ·subst he0
    have HS := zH (show readsP s o 0 = ⟨false, [], ent0, freeP s.pl⟩ by unfold readsP; rw [if_neg k3, if_pos ⟨k11, rfl⟩]; rfl)
    have HFr := zH (fun W hW => kFree_any B g (.slice LA ps.length lc) vU pv s ps W hW hp)
    clear k3 k11 he hp
    go_enter Tryz.func31, Tryz.ntmps31
    go_wp2_with fail
    refine (HFi.out _ _ _).mono ?_
    rintro e w1 ⟨rfl, hw⟩
    subst hw
    obtain ⟨W0, hW0⟩ : ∃ W0, ((w.alloc (.cells #[.int .i64 o.kind, .int .u64 o.ticks, .string o.key, .slice A n c, .int .u64 o.ttl, .int .i64 o.count, .int .i64 o.bytes, .int .i64 o.cursor, .int .u64 o.birth] 43)).alloc (.cells #[.int .i64 0, .int .u64 0, .string ⟨#[]⟩, .slice none 0 0, .int .u64 0, .int .i64 0, .int .i64 0, .int .i64 0, .int .u64 0, .int .u64 0, .int .i64 0, .bool false, .slice none 0 0, .string ⟨#[]⟩, .slice none 0 0, .int .u64 0, .int .u64 0, .int .i64 0, .slice none 0 0, .int .i64 0, .int .i64 0] 46)).alloc (.cells #[.int .i64 0, .int .u64 0, .string ⟨#[]⟩, .slice none 0 0, .int .u64 0, .int .i64 0, .int .i64 0, .int .i64 0, .int .u64 0, .int .u64 0, .int .i64 0, .bool false, .slice none 0 0, .string ⟨#[]⟩, .slice none 0 0, .int .u64 0, .int .u64 0, .int .i64 0, .slice none 0 0, .int .i64 0, .int .i64 0] 46) = W0 := ⟨_, rfl⟩
    rw [hW0] at HX ⊢
    clear hW0 HFi HIx
    obtain ⟨z0, z2, z3, z4, z7⟩ := op_cells' HX.out.box
    go_wp2_with fail
    refine (HFr.out _ HX.out.k).mono ?_
    rintro e2 w4 ⟨rfl, hw4⟩
    subst hw4
    have c17 : W0.cell? ⟨w.heap.size + 1 + 1, 17, none⟩ = some (.int .i64 0) := HX.out.x.cell 17 _ rfl
    have cf := HX.out.x.frozen
    go_upto_region 19 with fail
    have HX3 : Hid (RdX w (W0.setCell ⟨w.heap.size + 1 + 1, 17, none⟩ (.int .i64 (freeP s.pl : Int))) B g _ vU pv s ps o _ ⟨false, [], ent0, freeP s.pl⟩ (.slice none 0 0) (.slice none 0 0)) := zH (RdX.set1 HH.out HX.out 17 _ rfl)
    clear c17 cf z0 z2 z3 z4 z7
    generalize World.setCell _ _ _ = W3 at HX3 ⊢
    have HXB : Hid (Blk _ _ _ #[.int .i64 0, .int .u64 0, .string ⟨#[]⟩, .slice none 0 0, .int .u64 0, .int .i64 0, .int .i64 0, .int .i64 0, .int .u64 0, .int .u64 0, .int .i64 0, .bool false, .slice none 0 0, .string ⟨#[]⟩, .slice none 0 0, .int .u64 0, .int .u64 0, .int .i64 (freeP s.pl : Int), .slice none 0 0, .int .i64 0, .int .i64 0]) := zH (HX3).out.x
    have HRB := zH (HX3).out.r
    go_wp2_with (first | (refine wpList_load_row rfl 46 _ rfl (w.heap.size + 1 + 1) rfl 46 _ (0, 0) _ HXB.out Tryz.underlying46 rfl (by kernel_rfl) ?_) | (refine wpList_store_row rfl 46 _ _ rfl (w.heap.size + 1) _ rfl rfl 46 _ HRB.out (by kernel_rfl) rfl (by simp [Value.oneCell']) ?_))
    have hb := HRB.out.row #[.int .i64 0, .int .u64 0, .string ⟨#[]⟩, .slice none 0 0, .int .u64 0, .int .i64 0, .int .i64 0, .int .i64 0, .int .u64 0, .int .u64 0, .int .i64 0, .bool false, .slice none 0 0, .string ⟨#[]⟩, .slice none 0 0, .int .u64 0, .int .u64 0, .int .i64 (freeP s.pl : Int), .slice none 0 0, .int .i64 0, .int .i64 0]
    have HRd := zH (rd_done (HX3).out hb ((Only.refl _ _).setRow (S := fun k => k = w.heap.size + 1) (.inl rfl) _) HBs.out)
    generalize World.setRow _ _ _ = W9 at hb HRd ⊢
    refine bodyPost_ret (v := .agg #[.int .i64 0, .int .u64 0, .string ⟨#[]⟩, .slice none 0 0, .int .u64 0, .int .i64 0, .int .i64 0, .int .i64 0, .int .u64 0, .int .u64 0, .int .i64 0, .bool false, .slice none 0 0, .string ⟨#[]⟩, .slice none 0 0, .int .u64 0, .int .u64 0, .int .i64 (freeP s.pl : Int), .slice none 0 0, .int .i64 0, .int .i64 0]) (results_cell_row rfl _ _ (w.heap.size + 1) 46 _ (0, 0) _ rfl hb Tryz.underlying46 rfl (by kernel_rfl)) rfl ?_
    exact ⟨.slice none 0 0, .slice none 0 0, by rw [HS.out]; rfl, by rw [HS.out]; exact Bts.nil _ _ _, by rw [HS.out]; exact Bts.nil _ _ _, HRd.out.2⟩
   ·have HS := zH (show readsP s o e = ⟨false, [], ent0, 0⟩ by unfold readsP; rw [if_neg k3, if_neg (by omega), if_neg (by omega)]; rfl)
    have qe : (e == 0) = false := by simp [he0]
    clear k3 k11 he hp he0
    go_enter Tryz.func31, Tryz.ntmps31
    go_wp2_with fail
    refine (HFi.out _ _ _).mono ?_
    rintro e w1 ⟨rfl, hw⟩
    subst hw
    obtain ⟨W0, hW0⟩ : ∃ W0, ((w.alloc (.cells #[.int .i64 o.kind, .int .u64 o.ticks, .string o.key, .slice A n c, .int .u64 o.ttl, .int .i64 o.count, .int .i64 o.bytes, .int .i64 o.cursor, .int .u64 o.birth] 43)).alloc (.cells #[.int .i64 0, .int .u64 0, .string ⟨#[]⟩, .slice none 0 0, .int .u64 0, .int .i64 0, .int .i64 0, .int .i64 0, .int .u64 0, .int .u64 0, .int .i64 0, .bool false, .slice none 0 0, .string ⟨#[]⟩, .slice none 0 0, .int .u64 0, .int .u64 0, .int .i64 0, .slice none 0 0, .int .i64 0, .int .i64 0] 46)).alloc (.cells #[.int .i64 0, .int .u64 0, .string ⟨#[]⟩, .slice none 0 0, .int .u64 0, .int .i64 0, .int .i64 0, .int .i64 0, .int .u64 0, .int .u64 0, .int .i64 0, .bool false, .slice none 0 0, .string ⟨#[]⟩, .slice none 0 0, .int .u64 0, .int .u64 0, .int .i64 0, .slice none 0 0, .int .i64 0, .int .i64 0] 46) = W0 := ⟨_, rfl⟩
    rw [hW0] at HX ⊢
    clear hW0 HFi HIx
    obtain ⟨z0, z2, z3, z4, z7⟩ := op_cells' HX.out.box
    go_upto_region 19 with fail
    have HXB : Hid (Blk _ _ _ #[.int .i64 0, .int .u64 0, .string ⟨#[]⟩, .slice none 0 0, .int .u64 0, .int .i64 0, .int .i64 0, .int .i64 0, .int .u64 0, .int .u64 0, .int .i64 0, .bool false, .slice none 0 0, .string ⟨#[]⟩, .slice none 0 0, .int .u64 0, .int .u64 0, .int .i64 0, .slice none 0 0, .int .i64 0, .int .i64 0]) := zH (HX).out.x
    have HRB := zH (HX).out.r
    go_wp2_with (first | (refine wpList_load_row rfl 46 _ rfl (w.heap.size + 1 + 1) rfl 46 _ (0, 0) _ HXB.out Tryz.underlying46 rfl (by kernel_rfl) ?_) | (refine wpList_store_row rfl 46 _ _ rfl (w.heap.size + 1) _ rfl rfl 46 _ HRB.out (by kernel_rfl) rfl (by simp [Value.oneCell']) ?_))
    have hb := HRB.out.row #[.int .i64 0, .int .u64 0, .string ⟨#[]⟩, .slice none 0 0, .int .u64 0, .int .i64 0, .int .i64 0, .int .i64 0, .int .u64 0, .int .u64 0, .int .i64 0, .bool false, .slice none 0 0, .string ⟨#[]⟩, .slice none 0 0, .int .u64 0, .int .u64 0, .int .i64 0, .slice none 0 0, .int .i64 0, .int .i64 0]
    have HRd := zH (rd_done (HX).out hb ((Only.refl _ _).setRow (S := fun k => k = w.heap.size + 1) (.inl rfl) _) HBs.out)
    generalize World.setRow _ _ _ = W9 at hb HRd ⊢
    refine bodyPost_ret (v := .agg #[.int .i64 0, .int .u64 0, .string ⟨#[]⟩, .slice none 0 0, .int .u64 0, .int .i64 0, .int .i64 0, .int .i64 0, .int .u64 0, .int .u64 0, .int .i64 0, .bool false, .slice none 0 0, .string ⟨#[]⟩, .slice none 0 0, .int .u64 0, .int .u64 0, .int .i64 0, .slice none 0 0, .int .i64 0, .int .i64 0]) (results_cell_row rfl _ _ (w.heap.size + 1) 46 _ (0, 0) _ rfl hb Tryz.underlying46 rfl (by kernel_rfl)) rfl ?_
    exact ⟨.slice none 0 0, .slice none 0 0, by rw [HS.out]; rfl, by rw [HS.out]; exact Bts.nil _ _ _, by rw [HS.out]; exact Bts.nil _ _ _, HRd.out.2⟩
  ·by_cases k12 : o.kind = 12
   ·have q11 : (o.kind == 11) = false := by simp [k12]
    have q12 : (o.kind == 12) = true := by simp [k12]
    by_cases he0 : e = 0
    ·subst he0
     obtain ⟨b, x, ho, ha⟩ := he k12 rfl
     obtain ⟨ic, hic, hil, hpi⟩ := openP_idx ho
     have hpv := HH.out.place ic b hpi
     have HS := zH (show readsP s o 0 = ⟨false, [], x, 0⟩ by unfold readsP; rw [if_neg k3, if_neg (by omega), if_pos ⟨k12, rfl⟩, ho]; dsimp only; rw [ha]; rfl)
     have HPl : Hid (∀ W, KRep W B g (.slice LA ps.length lc) vU pv s ps → W.cell? ⟨g, 73 + ic, none⟩ = some (.int .u64 b)) := zH (fun W hW => by
      have := hW.cell (73 + ic) (by omega)
      rw [kcell_place, hpv] at this
      exact this)
     have hi64 : (ic : Int) < 64 := by omega
     rcases idx_after HH.out.map b s.now with ⟨h1, h2⟩ | ⟨j, ⟨ev, V⟩, hj, h1, h2⟩
     ·rw [ha] at h1; cases h1
     rw [ha] at h1
     obtain rfl : x = ev := Option.some.inj h1
     obtain ⟨VA, vc, hV⟩ := (HH.out.vals _ (List.mem_of_getElem? hj)).form
     dsimp only at hV
     subst hV
     have HJ := zH hj
     have hj0 : (0 : Int) ≤ (j : Int) := by omega
     have hjI : (j : Int) < (ps.length : Int) := by have := (List.getElem?_eq_some_iff.1 hj).1; omega
     have HAf := zH (fun W hW => h2 ▸ kAfter_any B g (.slice LA ps.length lc) vU pv s ps b s.now W hW HN.out)
     obtain ⟨gL, rfl⟩ : ∃ gL, LA = some ⟨gL, 0, none⟩ := by
      rcases HH.out.L.2 with ⟨_, h0⟩ | ⟨q, c, cur, eq, _⟩
      ·omega
      ·injection eq with eq _ _
       exact ⟨q, eq⟩
     have HCi := zH hic
     clear k3 k11 he hp k12 ho ha hic hil hpi hpv h1 h2 hj
     go_enter Tryz.func31, Tryz.ntmps31
     go_wp2_with fail
     refine (HFi.out _ _ _).mono ?_
     rintro e w1 ⟨rfl, hw⟩
     subst hw
     obtain ⟨W0, hW0⟩ : ∃ W0, ((w.alloc (.cells #[.int .i64 o.kind, .int .u64 o.ticks, .string o.key, .slice A n c, .int .u64 o.ttl, .int .i64 o.count, .int .i64 o.bytes, .int .i64 o.cursor, .int .u64 o.birth] 43)).alloc (.cells #[.int .i64 0, .int .u64 0, .string ⟨#[]⟩, .slice none 0 0, .int .u64 0, .int .i64 0, .int .i64 0, .int .i64 0, .int .u64 0, .int .u64 0, .int .i64 0, .bool false, .slice none 0 0, .string ⟨#[]⟩, .slice none 0 0, .int .u64 0, .int .u64 0, .int .i64 0, .slice none 0 0, .int .i64 0, .int .i64 0] 46)).alloc (.cells #[.int .i64 0, .int .u64 0, .string ⟨#[]⟩, .slice none 0 0, .int .u64 0, .int .i64 0, .int .i64 0, .int .i64 0, .int .u64 0, .int .u64 0, .int .i64 0, .bool false, .slice none 0 0, .string ⟨#[]⟩, .slice none 0 0, .int .u64 0, .int .u64 0, .int .i64 0, .slice none 0 0, .int .i64 0, .int .i64 0] 46) = W0 := ⟨_, rfl⟩
     rw [hW0] at HX ⊢
     clear hW0 HFi HIx
     obtain ⟨z0, z2, z3, z4, z7⟩ := op_cells' HX.out.box
     go_upto_region 18 with fail
     refine wp_region_noPanic ?_
     have HXd := zH (RdX.adv HX.out (zL _ _).drew)
     refine wp_region_till [17] (fun W => RdX w W B g (.slice (some ⟨gL, 0, none⟩) ps.length lc) vU pv s ps o (.slice A n c) want0 (.slice none 0 0) (.slice none 0 0)) (fun _ => True) (by kernel_rfl) trivial HXd.out (fun hTill => ?_)
     generalize W0.drew = W1 at HXd hTill ⊢
     refine Pl.go [0, 1, 2, 3, 4, 5, 6, 7, 8, 9, 10, 11, 12] ?_
     iterate 13
      refine ttl (v := ?_) ?_ ?_
      rotate_left 1
      ·intro W hSw
       obtain ⟨z0, z2, z3, z4, z7⟩ := op_cells' hSw.2.box; rw [HCi.out] at z7; have xp := HPl.out _ hSw.2.k; have x7 : W.cell? ⟨g, 7, none⟩ = some (.slice (some ⟨gL, 0, none⟩) ps.length lc) := hSw.2.k.cell 7 (by omega); obtain ⟨y0, y1, y2, y3⟩ := hSw.2.k.entAt HJ.out; dsimp only at y0 y1 y2 y3
       clear hSw
       go_simp
       try with_reducible rfl
      try dsimp only [zS, zB, zC]
      clear hTill
      intro hTill
     refine Pl.stop ?_
     refine wpTill.only (i := 13) (o := ⟨_, _, _, _, _, _⟩) (by kernel_rfl) rfl (fun F hF => ?_)
     go_simp
     refine (HAf.out _ HXd.out.k).mono ?_
     rintro e2 w4 ⟨rfl, hw4⟩
     subst hw4
     go_wp2_with fail
     refine hF.out _ _ (Till.of trivial HXd.out) (fun hTill => ?_)
     clear hF F
     try simp only [Act.put, zA, zB, zC]
     refine Pl.go [14, 15, 16] ?_
     iterate 3
      refine ttl (v := ?_) ?_ ?_
      rotate_left 1
      ·intro W hSw
       obtain ⟨z0, z2, z3, z4, z7⟩ := op_cells' hSw.2.box; rw [HCi.out] at z7; have xp := HPl.out _ hSw.2.k; have x7 : W.cell? ⟨g, 7, none⟩ = some (.slice (some ⟨gL, 0, none⟩) ps.length lc) := hSw.2.k.cell 7 (by omega); obtain ⟨y0, y1, y2, y3⟩ := hSw.2.k.entAt HJ.out; dsimp only at y0 y1 y2 y3
       clear hSw
       go_simp
       try with_reducible rfl
      try dsimp only [zS, zB, zC]
      clear hTill
      intro hTill
     refine Pl.stop ?_
     have c13 : W1.cell? ⟨w.heap.size + 1 + 1, 13, none⟩ = some (.string ⟨#[]⟩) := HXd.out.x.cell 13 _ rfl
     have c14 : W1.cell? ⟨w.heap.size + 1 + 1, 14, none⟩ = some (.slice none 0 0) := HXd.out.x.cell 14 _ rfl
     have c15 : W1.cell? ⟨w.heap.size + 1 + 1, 15, none⟩ = some (.int .u64 0) := HXd.out.x.cell 15 _ rfl
     have c16 : W1.cell? ⟨w.heap.size + 1 + 1, 16, none⟩ = some (.int .u64 0) := HXd.out.x.cell 16 _ rfl
     have cf := HXd.out.x.frozen
     refine wpTill.only (i := 17) (o := ⟨_, _, _, _, _, _⟩) (by kernel_rfl) rfl (fun F hF => ?_)
     go_simp
     refine hF.out _ _ (Till.stored trivial (by kernel_rfl)) (fun hTill => ?_)
     clear hF F
     try simp only [Act.put, zA, zB, zC]
     refine wpTill.done (by kernel_rfl) ?_
     try refine NoPanic.normal ?_
     have HX3 := zH (RdX.set4 HH.out HXd.out x (.slice VA x.val.length vc))
     clear hTill c13 c14 c15 c16 cf z0 z2 z3 z4 z7
     generalize World.setCell _ _ _ = W3 at HX3 ⊢
     have HXB : Hid (Blk _ _ _ #[.int .i64 0, .int .u64 0, .string ⟨#[]⟩, .slice none 0 0, .int .u64 0, .int .i64 0, .int .i64 0, .int .i64 0, .int .u64 0, .int .u64 0, .int .i64 0, .bool false, .slice none 0 0, .string x.key, .slice VA x.val.length vc, .int .u64 x.dl, .int .u64 x.birth, .int .i64 0, .slice none 0 0, .int .i64 0, .int .i64 0]) := zH (HX3).out.x
     have HRB := zH (HX3).out.r
     go_wp2_with (first | (refine wpList_load_row rfl 46 _ rfl (w.heap.size + 1 + 1) rfl 46 _ (0, 0) _ HXB.out Tryz.underlying46 rfl (by kernel_rfl) ?_) | (refine wpList_store_row rfl 46 _ _ rfl (w.heap.size + 1) _ rfl rfl 46 _ HRB.out (by kernel_rfl) rfl (by simp [Value.oneCell']) ?_))
     have hb := HRB.out.row #[.int .i64 0, .int .u64 0, .string ⟨#[]⟩, .slice none 0 0, .int .u64 0, .int .i64 0, .int .i64 0, .int .i64 0, .int .u64 0, .int .u64 0, .int .i64 0, .bool false, .slice none 0 0, .string x.key, .slice VA x.val.length vc, .int .u64 x.dl, .int .u64 x.birth, .int .i64 0, .slice none 0 0, .int .i64 0, .int .i64 0]
     have HRd := zH (rd_done (HX3).out hb ((Only.refl _ _).setRow (S := fun k => k = w.heap.size + 1) (.inl rfl) _) HBs.out)
     generalize World.setRow _ _ _ = W9 at hb HRd ⊢
     refine bodyPost_ret (v := .agg #[.int .i64 0, .int .u64 0, .string ⟨#[]⟩, .slice none 0 0, .int .u64 0, .int .i64 0, .int .i64 0, .int .i64 0, .int .u64 0, .int .u64 0, .int .i64 0, .bool false, .slice none 0 0, .string x.key, .slice VA x.val.length vc, .int .u64 x.dl, .int .u64 x.birth, .int .i64 0, .slice none 0 0, .int .i64 0, .int .i64 0]) (results_cell_row rfl _ _ (w.heap.size + 1) 46 _ (0, 0) _ rfl hb Tryz.underlying46 rfl (by kernel_rfl)) rfl ?_
     exact ⟨.slice none 0 0, .slice VA x.val.length vc, by rw [HS.out]; rfl, by rw [HS.out]; exact Bts.nil _ _ _, by rw [HS.out]; exact HRd.out.1 _ (List.mem_of_getElem? HJ.out), HRd.out.2⟩
    ·have HS := zH (show readsP s o e = ⟨false, [], ent0, 0⟩ by unfold readsP; rw [if_neg k3, if_neg (by omega), if_neg (by omega)]; rfl)
     have qe : (e == 0) = false := by simp [he0]
     clear k3 k11 he hp he0 k12
     go_enter Tryz.func31, Tryz.ntmps31
     go_wp2_with fail
     refine (HFi.out _ _ _).mono ?_
     rintro e w1 ⟨rfl, hw⟩
     subst hw
     obtain ⟨W0, hW0⟩ : ∃ W0, ((w.alloc (.cells #[.int .i64 o.kind, .int .u64 o.ticks, .string o.key, .slice A n c, .int .u64 o.ttl, .int .i64 o.count, .int .i64 o.bytes, .int .i64 o.cursor, .int .u64 o.birth] 43)).alloc (.cells #[.int .i64 0, .int .u64 0, .string ⟨#[]⟩, .slice none 0 0, .int .u64 0, .int .i64 0, .int .i64 0, .int .i64 0, .int .u64 0, .int .u64 0, .int .i64 0, .bool false, .slice none 0 0, .string ⟨#[]⟩, .slice none 0 0, .int .u64 0, .int .u64 0, .int .i64 0, .slice none 0 0, .int .i64 0, .int .i64 0] 46)).alloc (.cells #[.int .i64 0, .int .u64 0, .string ⟨#[]⟩, .slice none 0 0, .int .u64 0, .int .i64 0, .int .i64 0, .int .i64 0, .int .u64 0, .int .u64 0, .int .i64 0, .bool false, .slice none 0 0, .string ⟨#[]⟩, .slice none 0 0, .int .u64 0, .int .u64 0, .int .i64 0, .slice none 0 0, .int .i64 0, .int .i64 0] 46) = W0 := ⟨_, rfl⟩
     rw [hW0] at HX ⊢
     clear hW0 HFi HIx
     obtain ⟨z0, z2, z3, z4, z7⟩ := op_cells' HX.out.box
     go_upto_region 19 with fail
     have HXB : Hid (Blk _ _ _ #[.int .i64 0, .int .u64 0, .string ⟨#[]⟩, .slice none 0 0, .int .u64 0, .int .i64 0, .int .i64 0, .int .i64 0, .int .u64 0, .int .u64 0, .int .i64 0, .bool false, .slice none 0 0, .string ⟨#[]⟩, .slice none 0 0, .int .u64 0, .int .u64 0, .int .i64 0, .slice none 0 0, .int .i64 0, .int .i64 0]) := zH (HX).out.x
     have HRB := zH (HX).out.r
     go_wp2_with (first | (refine wpList_load_row rfl 46 _ rfl (w.heap.size + 1 + 1) rfl 46 _ (0, 0) _ HXB.out Tryz.underlying46 rfl (by kernel_rfl) ?_) | (refine wpList_store_row rfl 46 _ _ rfl (w.heap.size + 1) _ rfl rfl 46 _ HRB.out (by kernel_rfl) rfl (by simp [Value.oneCell']) ?_))
     have hb := HRB.out.row #[.int .i64 0, .int .u64 0, .string ⟨#[]⟩, .slice none 0 0, .int .u64 0, .int .i64 0, .int .i64 0, .int .i64 0, .int .u64 0, .int .u64 0, .int .i64 0, .bool false, .slice none 0 0, .string ⟨#[]⟩, .slice none 0 0, .int .u64 0, .int .u64 0, .int .i64 0, .slice none 0 0, .int .i64 0, .int .i64 0]
     have HRd := zH (rd_done (HX).out hb ((Only.refl _ _).setRow (S := fun k => k = w.heap.size + 1) (.inl rfl) _) HBs.out)
     generalize World.setRow _ _ _ = W9 at hb HRd ⊢
     refine bodyPost_ret (v := .agg #[.int .i64 0, .int .u64 0, .string ⟨#[]⟩, .slice none 0 0, .int .u64 0, .int .i64 0, .int .i64 0, .int .i64 0, .int .u64 0, .int .u64 0, .int .i64 0, .bool false, .slice none 0 0, .string ⟨#[]⟩, .slice none 0 0, .int .u64 0, .int .u64 0, .int .i64 0, .slice none 0 0, .int .i64 0, .int .i64 0]) (results_cell_row rfl _ _ (w.heap.size + 1) 46 _ (0, 0) _ rfl hb Tryz.underlying46 rfl (by kernel_rfl)) rfl ?_
     exact ⟨.slice none 0 0, .slice none 0 0, by rw [HS.out]; rfl, by rw [HS.out]; exact Bts.nil _ _ _, by rw [HS.out]; exact Bts.nil _ _ _, HRd.out.2⟩
   ·have q11 : (o.kind == 11) = false := by simp [k11]
    have q12 : (o.kind == 12) = false := by simp [k12]
    have HS := zH (show readsP s o e = ⟨false, [], ent0, 0⟩ by unfold readsP; rw [if_neg k3, if_neg (by omega), if_neg (by omega)]; rfl)
    clear k3 k11 k12 he hp
    go_enter Tryz.func31, Tryz.ntmps31
    go_wp2_with fail
    refine (HFi.out _ _ _).mono ?_
    rintro e w1 ⟨rfl, hw⟩
    subst hw
    obtain ⟨W0, hW0⟩ : ∃ W0, ((w.alloc (.cells #[.int .i64 o.kind, .int .u64 o.ticks, .string o.key, .slice A n c, .int .u64 o.ttl, .int .i64 o.count, .int .i64 o.bytes, .int .i64 o.cursor, .int .u64 o.birth] 43)).alloc (.cells #[.int .i64 0, .int .u64 0, .string ⟨#[]⟩, .slice none 0 0, .int .u64 0, .int .i64 0, .int .i64 0, .int .i64 0, .int .u64 0, .int .u64 0, .int .i64 0, .bool false, .slice none 0 0, .string ⟨#[]⟩, .slice none 0 0, .int .u64 0, .int .u64 0, .int .i64 0, .slice none 0 0, .int .i64 0, .int .i64 0] 46)).alloc (.cells #[.int .i64 0, .int .u64 0, .string ⟨#[]⟩, .slice none 0 0, .int .u64 0, .int .i64 0, .int .i64 0, .int .i64 0, .int .u64 0, .int .u64 0, .int .i64 0, .bool false, .slice none 0 0, .string ⟨#[]⟩, .slice none 0 0, .int .u64 0, .int .u64 0, .int .i64 0, .slice none 0 0, .int .i64 0, .int .i64 0] 46) = W0 := ⟨_, rfl⟩
    rw [hW0] at HX ⊢
    clear hW0 HFi HIx
    obtain ⟨z0, z2, z3, z4, z7⟩ := op_cells' HX.out.box
    go_upto_region 19 with fail
    have HXB : Hid (Blk _ _ _ #[.int .i64 0, .int .u64 0, .string ⟨#[]⟩, .slice none 0 0, .int .u64 0, .int .i64 0, .int .i64 0, .int .i64 0, .int .u64 0, .int .u64 0, .int .i64 0, .bool false, .slice none 0 0, .string ⟨#[]⟩, .slice none 0 0, .int .u64 0, .int .u64 0, .int .i64 0, .slice none 0 0, .int .i64 0, .int .i64 0]) := zH (HX).out.x
    have HRB := zH (HX).out.r
    go_wp2_with (first | (refine wpList_load_row rfl 46 _ rfl (w.heap.size + 1 + 1) rfl 46 _ (0, 0) _ HXB.out Tryz.underlying46 rfl (by kernel_rfl) ?_) | (refine wpList_store_row rfl 46 _ _ rfl (w.heap.size + 1) _ rfl rfl 46 _ HRB.out (by kernel_rfl) rfl (by simp [Value.oneCell']) ?_))
    have hb := HRB.out.row #[.int .i64 0, .int .u64 0, .string ⟨#[]⟩, .slice none 0 0, .int .u64 0, .int .i64 0, .int .i64 0, .int .i64 0, .int .u64 0, .int .u64 0, .int .i64 0, .bool false, .slice none 0 0, .string ⟨#[]⟩, .slice none 0 0, .int .u64 0, .int .u64 0, .int .i64 0, .slice none 0 0, .int .i64 0, .int .i64 0]
    have HRd := zH (rd_done (HX).out hb ((Only.refl _ _).setRow (S := fun k => k = w.heap.size + 1) (.inl rfl) _) HBs.out)
    generalize World.setRow _ _ _ = W9 at hb HRd ⊢
    refine bodyPost_ret (v := .agg #[.int .i64 0, .int .u64 0, .string ⟨#[]⟩, .slice none 0 0, .int .u64 0, .int .i64 0, .int .i64 0, .int .i64 0, .int .u64 0, .int .u64 0, .int .i64 0, .bool false, .slice none 0 0, .string ⟨#[]⟩, .slice none 0 0, .int .u64 0, .int .u64 0, .int .i64 0, .slice none 0 0, .int .i64 0, .int .i64 0]) (results_cell_row rfl _ _ (w.heap.size + 1) 46 _ (0, 0) _ rfl hb Tryz.underlying46 rfl (by kernel_rfl)) rfl ?_
    exact ⟨.slice none 0 0, .slice none 0 0, by rw [HS.out]; rfl, by rw [HS.out]; exact Bts.nil _ _ _, by rw [HS.out]; exact Bts.nil _ _ _, HRd.out.2⟩
end Go.Proofs.YtnabbimompapfaaGreat
namespace Go.Proofs.YtnabbimompapfaaGreat
open Go Go.RowKit
def KS (B : Nat) (w : World) (k : Nat) : Prop := B ≤ k ∧ ∃ cs t fr, w.heap[k]? = some (.cells cs t fr) ∧ (t = 61 ∨ t = 40)
theorem KS.trans {B : Nat} {w W W2 : World} (h : Only (KS B w) w W) (k : Only (KS B W) W W2) : Only (KS B w) w W2 := by
 refine h.trans k (fun i hi hs => ?_)
 by_cases hc : KS B w i
 ·exact hc
 ·have e := h.block i hi hc
  obtain ⟨h1, cs, t, fr, h2, h3⟩ := hs
  exact ⟨h1, cs, t, fr, by rw [← e]; exact h2, h3⟩
theorem KS.not_ {B : Nat} {w : World} {k t : Nat} {cs : Array Value} (h : Blk w k t cs) (h1 : t ≠ 61) (h2 : t ≠ 40) : ¬ KS B w k := by
 rintro ⟨_, cs', t', fr, e, ht⟩
 unfold Blk at h
 rw [h] at e
 injection e with e
 injection e with e1 e2 e3
 subst e2
 rcases ht with ht | ht
 ·exact h1 ht
 ·exact h2 ht
theorem KS.of_g {B g : Nat} {vL vU : Value} {pv : Nat → Int} {s : PJ} {ps : List (EntV × Value)} {W W2 : World} (hk : KRep W B g vL vU pv s ps) (h : Only (fun k => k = g) W W2) : Only (KS B W) W W2 := by
 obtain ⟨cs, hb, _⟩ := hk.blk
 exact h.mono (fun i _ e => by subst e; exact ⟨hk.base, cs, _, _, hb, .inl rfl⟩)
def EfRet (B g : Nat) (s : PJ) (w : World) (e : Ending) (w' : World) : Prop :=
 ∃ vL vU pv ps, e = .returned (.tuple #[]) ∧ KRep w' B g vL vU pv s ps ∧ Only (KS B w) w w'
structure EfP (w : World) (B g : Nat) (vL vU : Value) (pv : Nat → Int) (s : PJ) (ps : List (EntV × Value)) : Prop where
 k : KRep w B g vL vU pv s ps
 n : ps.length ≤ 90000
 u : s.U.length ≤ 90000
 hB : B ≤ w.heap.size
 asc : (s.L.map EntV.birth).Pairwise (· < ·)
 pl : s.pl.length = 64
structure EfX (w W : World) (B g : Nat) (vL vU : Value) (pv : Nat → Int) (s : PJ) (ps : List (EntV × Value)) (o : OpV) (V : Value) : Prop where
 k : KRep W B g vL vU pv s ps
 box : Blk W w.heap.size 43 (opc o V)
 only : Only (KS B w) w W
 lt : g < w.heap.size
section
variable {w W W2 : World} {B g : Nat} {vL vU : Value} {pv : Nat → Int} {s : PJ} {ps : List (EntV × Value)} {o : OpV} {V : Value}
theorem KRep.lt (h : KRep w B g vL vU pv s ps) : g < w.heap.size := by
 obtain ⟨cs, hb, _⟩ := h.blk
 exact hb.lt
theorem EfX.adv (h : EfX w W B g vL vU pv s ps o V) (hb : Below W.heap.size W W2) : EfX w W2 B g vL vU pv s ps o V :=
 ⟨h.k.below hb, h.box.below hb, h.only.trans (Only.of_below (S := fun _ => False) hb) (fun _ _ e => e.elim), h.lt⟩
theorem EfX.next (h : EfX w W B g vL vU pv s ps o V) {vL2 vU2 : Value} {pv2 : Nat → Int} {s2 : PJ} {ps2 : List (EntV × Value)} (hk : KRep W2 B g vL2 vU2 pv2 s2 ps2) (ho : Only (fun k => k = g) W W2) : EfX w W2 B g vL2 vU2 pv2 s2 ps2 o V :=
 ⟨hk, h.box.only ho (fun e => by have := h.lt; omega), KS.trans h.only (KS.of_g h.k ho), h.lt⟩
theorem EfX.nextK (h : EfX w W B g vL vU pv s ps o V) {vL2 vU2 : Value} {pv2 : Nat → Int} {s2 : PJ} {ps2 : List (EntV × Value)} (hk : KRep W2 B g vL2 vU2 pv2 s2 ps2) (ho : Only (KS B W) W W2) : EfX w W2 B g vL2 vU2 pv2 s2 ps2 o V :=
 ⟨hk, h.box.only ho (KS.not_ h.box (by decide) (by decide)), KS.trans h.only ho, h.lt⟩
theorem EfX.new (h : KRep w B g vL vU pv s ps) : EfX w (w.alloc (.cells (opc o V) 43)) B g vL vU pv s ps o V :=
 ⟨h.below ((zL _ _).alloc (zN _) _), Blk.new _ _ _, Only.of_below ((zL _ _).alloc (zN _) _), h.lt⟩
theorem KRep.set_ (h : KRep w B g vL vU pv s ps) (i : Nat) (u : Value) {vL2 vU2 : Value} {pv2 : Nat → Int} {s2 : PJ} {ps2 : List (EntV × Value)}
  (hc : ∀ j, j < 137 → kcell s2 vL2 vU2 pv2 j = if j = i then u else kcell s vL vU pv j) (hL : w.ownsRow B 40 4 vL2 ps2.length (ecs ps2)) (hU : w.ownsRow B 22 1 vU2 s2.U.length (ucs s2.U))
  (hm : ps2.map Prod.fst = s2.L) (hv : ∀ p ∈ ps2, Bts w B 5 p.2 p.1.val) (hp : ∀ i b, s2.pl[i]? = some (some b) → pv2 i = b) : KRep (w.setCell ⟨g, i, none⟩ u) B g vL2 vU2 pv2 s2 ps2 := by
 obtain ⟨cs, hb, hcs⟩ := h.blk
 have hon := Only.set1 w g i u
 have hkb := KeepB.of_blk (U := 5) hb (by decide) h.base hon
 refine ⟨⟨_, hb.set_ i u, fun j hj => ?_⟩, ownsRow_only hL hon (fun k hk e => by subst e; exact blk_differs hb hL (by decide) hk), ownsRow_only hU hon (fun k hk e => by subst e; exact blk_differs hb hU (by decide) hk), hm, fun p hp => (hv p hp).keep hkb, hp, h.base⟩
 have hci := hcs j hj
 have hsz := (Array.getElem?_eq_some_iff.1 hci).1
 rw [Array.getElem?_setIfInBounds, hc j hj]
 by_cases h8 : i = j
 ·subst h8
  rw [if_pos rfl, if_pos hsz, if_pos rfl]
 ·rw [if_neg h8, hci, if_neg (fun e => h8 e.symm)]
end
theorem effA_none {s : PJ} {o : OpV} (h : ¬ (o.kind = 1 ∨ o.kind = 2 ∨ o.kind = 3 ∨ o.kind = 5 ∨ o.kind = 6 ∨ o.kind = 7 ∨ o.kind = 8)) : effA s o = s := by
 unfold effA
 rw [if_neg (by omega), if_neg (by omega), if_neg (by omega), if_neg (by omega)]
 split
 ·rfl
 ·rw [if_neg (by omega), if_neg (by omega), if_neg (by omega)]
theorem effB_none {s : PJ} {o : OpV} (h : ¬ (o.kind = 11 ∨ o.kind = 12 ∨ o.kind = 13 ∨ o.kind = 14)) : effB s o = s := by
 unfold effB
 rw [if_neg (by omega), if_neg (by omega), if_neg (by omega), if_neg (by omega)]
set_option maxHeartbeats 4000000 in
set_option maxRecDepth 100000 in
theorem kEffect_none (B g : Nat) (vL vU : Value) (pv : Nat → Int) (s : PJ) (ps : List (EntV × Value)) (o : OpV) (A : Option Addr) (n c : Nat) (e : Int) (w : World) (P : EfP w B g vL vU pv s ps) (t : Int)
  (hk : ¬ (o.kind = 1 ∨ o.kind = 2 ∨ o.kind = 3 ∨ o.kind = 5 ∨ o.kind = 6 ∨ o.kind = 7 ∨ o.kind = 8)) (he : e ≠ 0 ∨ ¬ (o.kind = 11 ∨ o.kind = 12 ∨ o.kind = 13 ∨ o.kind = 14)) :
  Calls Tryz.prog 32 #[.pointer (some ⟨g, 0, none⟩), opv o (.slice A n c), .int .i64 e, .int .u64 t] w (EfRet B g (effP s o e) w) := by
 have HFi := zH (fun ob => kFind_any B g vL vU pv s ps o.key (w.alloc ob) (P.k.below ((zL _ _).alloc (zN _) _)) (by have := P.n; omega))
 have HX : Hid (EfX w (w.alloc (.cells (opc o (.slice A n c)) 43)) B g vL vU pv s ps o (.slice A n c)) := zH (EfX.new P.k)
 have HIx := zH (idx_find P.k.map o.key)
 unfold opv
 unfold opc at HX ⊢
 have HP := zH P
 have hnI : (ps.length : Int) ≤ 90000 := by have := P.n; omega
 obtain ⟨LA, lc, rfl, hlc, _⟩ := own_form P.k.L
 have hlcI : (ps.length : Int) ≤ (lc : Int) := by omega
 clear P hlc
 obtain ⟨i, hi⟩ : ∃ i, idxI (fun p : EntV × Value => decide (p.1.key = o.key)) ps = i := ⟨_, rfl⟩
 rw [hi] at HFi HIx
 clear hi
 have HS := zH (show effP s o e = s by
  unfold effP
  split
  ·rw [effA_none hk, effB_none (by omega)]
  ·exact effA_none hk)
 have q1 : (o.kind == 1) = false := by rw [beq_eq_false_iff_ne]; omega
 have q2 : (o.kind == 2) = false := by rw [beq_eq_false_iff_ne]; omega
 have q3 : (o.kind == 3) = false := by rw [beq_eq_false_iff_ne]; omega
 have q5 : (o.kind == 5) = false := by rw [beq_eq_false_iff_ne]; omega
 have q6 : (o.kind == 6) = false := by rw [beq_eq_false_iff_ne]; omega
 have q7 : (o.kind == 7) = false := by rw [beq_eq_false_iff_ne]; omega
 have q8 : (o.kind == 8) = false := by rw [beq_eq_false_iff_ne]; omega
 by_cases he0 : e = 0
 ·subst he0
  have q11 : (o.kind == 11) = false := by rw [beq_eq_false_iff_ne]; omega
  have q12 : (o.kind == 12) = false := by rw [beq_eq_false_iff_ne]; omega
  have q13 : (o.kind == 13) = false := by rw [beq_eq_false_iff_ne]; omega
  have q14 : (o.kind == 14) = false := by rw [beq_eq_false_iff_ne]; omega
  clear hk he
  go_enter Tryz.func32, Tryz.ntmps32
  go_wp2_with fail
  refine (HFi.out _).mono ?_
  rintro e w1 ⟨rfl, hw⟩
  subst hw
  obtain ⟨W0, hW0⟩ : ∃ W0, w.alloc (.cells #[.int .i64 o.kind, .int .u64 o.ticks, .string o.key, .slice A n c, .int .u64 o.ttl, .int .i64 o.count, .int .i64 o.bytes, .int .i64 o.cursor, .int .u64 o.birth] 43) = W0 := ⟨_, rfl⟩
  rw [hW0] at HX ⊢
  clear hW0 HFi HIx
  obtain ⟨z0, z2, z3, z4, z7⟩ := op_cells' HX.out.box
  go_wp2_with fail
  refine bodyPost_end (v := .tuple #[]) (results_none rfl _ _ _) rfl ?_
  rw [HS.out]
  exact ⟨_, _, _, _, rfl, (HX).out.k, (HX).out.only⟩
 ·have qe : (e != 0) = true := by simp [he0]
  have qe2 : (e == 0) = false := by simp [he0]
  clear hk he he0
  go_enter Tryz.func32, Tryz.ntmps32
  go_wp2_with fail
  refine (HFi.out _).mono ?_
  rintro e w1 ⟨rfl, hw⟩
  subst hw
  obtain ⟨W0, hW0⟩ : ∃ W0, w.alloc (.cells #[.int .i64 o.kind, .int .u64 o.ticks, .string o.key, .slice A n c, .int .u64 o.ttl, .int .i64 o.count, .int .i64 o.bytes, .int .i64 o.cursor, .int .u64 o.birth] 43) = W0 := ⟨_, rfl⟩
  rw [hW0] at HX ⊢
  clear hW0 HFi HIx
  obtain ⟨z0, z2, z3, z4, z7⟩ := op_cells' HX.out.box
  go_wp2_with fail
  refine bodyPost_end (v := .tuple #[]) (results_none rfl _ _ _) rfl ?_
  rw [HS.out]
  exact ⟨_, _, _, _, rfl, (HX).out.k, (HX).out.only⟩
set_option maxHeartbeats 4000000 in
set_option maxRecDepth 100000 in
theorem kEffect_k3 (B g : Nat) (vL vU : Value) (pv : Nat → Int) (s : PJ) (ps : List (EntV × Value)) (o : OpV) (A : Option Addr) (n c : Nat) (w : World) (P : EfP w B g vL vU pv s ps) (t : Int) (hk : o.kind = 3) :
  Calls Tryz.prog 32 #[.pointer (some ⟨g, 0, none⟩), opv o (.slice A n c), .int .i64 0, .int .u64 t] w (EfRet B g (effP s o 0) w) := by
 have HFi := zH (fun ob => kFind_any B g vL vU pv s ps o.key (w.alloc ob) (P.k.below ((zL _ _).alloc (zN _) _)) (by have := P.n; omega))
 have HX : Hid (EfX w (w.alloc (.cells (opc o (.slice A n c)) 43)) B g vL vU pv s ps o (.slice A n c)) := zH (EfX.new P.k)
 have HIx := zH (idx_find P.k.map o.key)
 unfold opv
 unfold opc at HX ⊢
 have HP := zH P
 have hnI : (ps.length : Int) ≤ 90000 := by have := P.n; omega
 obtain ⟨LA, lc, rfl, hlc, _⟩ := own_form P.k.L
 have hlcI : (ps.length : Int) ≤ (lc : Int) := by omega
 clear P hlc
 obtain ⟨i, hi⟩ : ∃ i, idxI (fun p : EntV × Value => decide (p.1.key = o.key)) ps = i := ⟨_, rfl⟩
 rw [hi] at HFi HIx
 clear hi
 have hS : effP s o 0 = match findP s.L o.key with | none => s | some x => useP s x.birth := by
  unfold effP
  rw [if_pos rfl, effB_none (by omega)]
  unfold effA
  rw [if_neg (by omega), if_neg (by omega), if_neg (by omega), if_neg (by omega)]
  cases findP s.L o.key with
  |none => rfl
  |some x => dsimp only; rw [if_pos hk]
 have q1 : (o.kind == 1) = false := by simp [hk]
 have q2 : (o.kind == 2) = false := by simp [hk]
 have q3 : (o.kind == 3) = true := by simp [hk]
 have q5 : (o.kind == 5) = false := by simp [hk]
 have q6 : (o.kind == 6) = false := by simp [hk]
 have q7 : (o.kind == 7) = false := by simp [hk]
 have q8 : (o.kind == 8) = false := by simp [hk]
 have q11 : (o.kind == 11) = false := by simp [hk]
 have q12 : (o.kind == 12) = false := by simp [hk]
 have q13 : (o.kind == 13) = false := by simp [hk]
 have q14 : (o.kind == 14) = false := by simp [hk]
 rcases HIx.out with ⟨h1, h2⟩ | ⟨j, ⟨ev, V⟩, hj, h1, h2, h3⟩
 ·subst h2
  rw [h1] at hS
  have HS := zH hS
  clear hS h1 hk
  go_enter Tryz.func32, Tryz.ntmps32
  go_wp2_with fail
  refine (HFi.out _).mono ?_
  rintro e w1 ⟨rfl, hw⟩
  subst hw
  obtain ⟨W0, hW0⟩ : ∃ W0, w.alloc (.cells #[.int .i64 o.kind, .int .u64 o.ticks, .string o.key, .slice A n c, .int .u64 o.ttl, .int .i64 o.count, .int .i64 o.bytes, .int .i64 o.cursor, .int .u64 o.birth] 43) = W0 := ⟨_, rfl⟩
  rw [hW0] at HX ⊢
  clear hW0 HFi HIx
  obtain ⟨z0, z2, z3, z4, z7⟩ := op_cells' HX.out.box
  go_wp2_with fail
  refine bodyPost_end (v := .tuple #[]) (results_none rfl _ _ _) rfl ?_
  rw [HS.out]
  exact ⟨_, _, _, _, rfl, (HX).out.k, (HX).out.only⟩
 ·subst h2
  rw [h1] at hS
  have HS := zH (hS.trans (show _ = useP s ev.birth from rfl))
  obtain ⟨VA, vc, hV⟩ := (HP.out.k.vals _ (List.mem_of_getElem? hj)).form
  dsimp only at hV
  subst hV
  have HJ := zH hj
  have hj0 : (0 : Int) ≤ (j : Int) := by omega
  have hjI : (j : Int) < (ps.length : Int) := by have := (List.getElem?_eq_some_iff.1 hj).1; omega
  obtain ⟨gL, rfl⟩ : ∃ gL, LA = some ⟨gL, 0, none⟩ := by
   rcases HP.out.k.L.2 with ⟨_, h0⟩ | ⟨q, c, cur, eq, _⟩
   ·omega
   ·injection eq with eq _ _
    exact ⟨q, eq⟩
  clear hS h1 h3 hk hj
  go_enter Tryz.func32, Tryz.ntmps32
  go_wp2_with fail
  refine (HFi.out _).mono ?_
  rintro e w1 ⟨rfl, hw⟩
  subst hw
  obtain ⟨W0, hW0⟩ : ∃ W0, w.alloc (.cells #[.int .i64 o.kind, .int .u64 o.ticks, .string o.key, .slice A n c, .int .u64 o.ttl, .int .i64 o.count, .int .i64 o.bytes, .int .i64 o.cursor, .int .u64 o.birth] 43) = W0 := ⟨_, rfl⟩
  rw [hW0] at HX ⊢
  clear hW0 HFi HIx
  obtain ⟨z0, z2, z3, z4, z7⟩ := op_cells' HX.out.box
  have x7 : W0.cell? ⟨g, 7, none⟩ = some (.slice (some ⟨gL, 0, none⟩) ps.length lc) := HX.out.k.cell 7 (by omega)
  obtain ⟨y0, y1, y2, y3⟩ := HX.out.k.entAt HJ.out
  dsimp only at y0 y1 y2 y3
  go_wp2_with fail
  refine (kUse_any B g _ _ pv s ps ev.birth W0 HX.out.k (by have := HP.out.u; omega) (Nat.le_trans HP.out.hB HX.out.only.size)).mono ?_
  rintro e w2 ⟨vU2, rfl, hk2, ho2⟩
  have HX2 := zH (HX.out.next hk2 ho2)
  clear hk2 ho2 x7 y0 y1 y2 y3 z0 z2 z3 z4 z7
  obtain ⟨z0, z2, z3, z4, z7⟩ := op_cells' HX2.out.box
  go_wp2_with fail
  refine bodyPost_end (v := .tuple #[]) (results_none rfl _ _ _) rfl ?_
  rw [HS.out]
  exact ⟨_, _, _, _, rfl, (HX2).out.k, (HX2).out.only⟩
set_option maxHeartbeats 4000000 in
set_option maxRecDepth 100000 in
theorem kEffect_k6 (B g : Nat) (vL vU : Value) (pv : Nat → Int) (s : PJ) (ps : List (EntV × Value)) (o : OpV) (A : Option Addr) (n c : Nat) (w : World) (P : EfP w B g vL vU pv s ps) (t : Int) (hk : o.kind = 6) :
  Calls Tryz.prog 32 #[.pointer (some ⟨g, 0, none⟩), opv o (.slice A n c), .int .i64 0, .int .u64 t] w (EfRet B g (effP s o 0) w) := by
 have HFi := zH (fun ob => kFind_any B g vL vU pv s ps o.key (w.alloc ob) (P.k.below ((zL _ _).alloc (zN _) _)) (by have := P.n; omega))
 have HX : Hid (EfX w (w.alloc (.cells (opc o (.slice A n c)) 43)) B g vL vU pv s ps o (.slice A n c)) := zH (EfX.new P.k)
 have HIx := zH (idx_find P.k.map o.key)
 unfold opv
 unfold opc at HX ⊢
 have HP := zH P
 have hnI : (ps.length : Int) ≤ 90000 := by have := P.n; omega
 obtain ⟨LA, lc, rfl, hlc, _⟩ := own_form P.k.L
 have hlcI : (ps.length : Int) ≤ (lc : Int) := by omega
 clear P hlc
 obtain ⟨i, hi⟩ : ∃ i, idxI (fun p : EntV × Value => decide (p.1.key = o.key)) ps = i := ⟨_, rfl⟩
 rw [hi] at HFi HIx
 clear hi
 have hS : effP s o 0 = match findP s.L o.key with | none => s | some x => goneP s x.birth := by
  unfold effP
  rw [if_pos rfl, effB_none (by omega)]
  unfold effA
  rw [if_neg (by omega), if_neg (by omega), if_neg (by omega), if_neg (by omega)]
  cases findP s.L o.key with
  |none => rfl
  |some x => dsimp only; rw [if_neg (by omega), if_neg (by omega), if_pos hk]
 have q1 : (o.kind == 1) = false := by simp [hk]
 have q2 : (o.kind == 2) = false := by simp [hk]
 have q3 : (o.kind == 3) = false := by simp [hk]
 have q5 : (o.kind == 5) = false := by simp [hk]
 have q6 : (o.kind == 6) = true := by simp [hk]
 have q7 : (o.kind == 7) = false := by simp [hk]
 have q8 : (o.kind == 8) = false := by simp [hk]
 have q11 : (o.kind == 11) = false := by simp [hk]
 have q12 : (o.kind == 12) = false := by simp [hk]
 have q13 : (o.kind == 13) = false := by simp [hk]
 have q14 : (o.kind == 14) = false := by simp [hk]
 rcases HIx.out with ⟨h1, h2⟩ | ⟨j, ⟨ev, V⟩, hj, h1, h2, h3⟩
 ·subst h2
  rw [h1] at hS
  have HS := zH hS
  clear hS h1 hk
  go_enter Tryz.func32, Tryz.ntmps32
  go_wp2_with fail
  refine (HFi.out _).mono ?_
  rintro e w1 ⟨rfl, hw⟩
  subst hw
  obtain ⟨W0, hW0⟩ : ∃ W0, w.alloc (.cells #[.int .i64 o.kind, .int .u64 o.ticks, .string o.key, .slice A n c, .int .u64 o.ttl, .int .i64 o.count, .int .i64 o.bytes, .int .i64 o.cursor, .int .u64 o.birth] 43) = W0 := ⟨_, rfl⟩
  rw [hW0] at HX ⊢
  clear hW0 HFi HIx
  obtain ⟨z0, z2, z3, z4, z7⟩ := op_cells' HX.out.box
  go_wp2_with fail
  refine bodyPost_end (v := .tuple #[]) (results_none rfl _ _ _) rfl ?_
  rw [HS.out]
  exact ⟨_, _, _, _, rfl, (HX).out.k, (HX).out.only⟩
 ·subst h2
  rw [h1] at hS
  have HS := zH (hS.trans (show _ = goneP s ev.birth from rfl))
  obtain ⟨VA, vc, hV⟩ := (HP.out.k.vals _ (List.mem_of_getElem? hj)).form
  dsimp only at hV
  subst hV
  have HJ := zH hj
  have hj0 : (0 : Int) ≤ (j : Int) := by omega
  have hjI : (j : Int) < (ps.length : Int) := by have := (List.getElem?_eq_some_iff.1 hj).1; omega
  obtain ⟨gL, rfl⟩ : ∃ gL, LA = some ⟨gL, 0, none⟩ := by
   rcases HP.out.k.L.2 with ⟨_, h0⟩ | ⟨q, c, cur, eq, _⟩
   ·omega
   ·injection eq with eq _ _
    exact ⟨q, eq⟩
  clear hS h1 h3 hk hj
  go_enter Tryz.func32, Tryz.ntmps32
  go_wp2_with fail
  refine (HFi.out _).mono ?_
  rintro e w1 ⟨rfl, hw⟩
  subst hw
  obtain ⟨W0, hW0⟩ : ∃ W0, w.alloc (.cells #[.int .i64 o.kind, .int .u64 o.ticks, .string o.key, .slice A n c, .int .u64 o.ttl, .int .i64 o.count, .int .i64 o.bytes, .int .i64 o.cursor, .int .u64 o.birth] 43) = W0 := ⟨_, rfl⟩
  rw [hW0] at HX ⊢
  clear hW0 HFi HIx
  obtain ⟨z0, z2, z3, z4, z7⟩ := op_cells' HX.out.box
  go_wp2_with fail
  refine (kGone_any B g _ _ pv s ps j _ W0 HX.out.k HJ.out (by have := HP.out.n; omega) (by have := HP.out.u; omega) (Nat.le_trans HP.out.hB HX.out.only.size) HP.out.asc).mono ?_
  rintro e w2 ⟨vL2, vU2, rfl, hk2, ho2⟩
  have HX2 := zH (HX.out.next hk2 ho2)
  clear hk2 ho2 z0 z2 z3 z4 z7
  obtain ⟨z0, z2, z3, z4, z7⟩ := op_cells' HX2.out.box
  go_wp2_with fail
  refine bodyPost_end (v := .tuple #[]) (results_none rfl _ _ _) rfl ?_
  rw [HS.out]
  exact ⟨_, _, _, _, rfl, (HX2).out.k, (HX2).out.only⟩
set_option maxHeartbeats 4000000 in
set_option maxRecDepth 100000 in
theorem kEffect_k7 (B g : Nat) (vL vU : Value) (pv : Nat → Int) (s : PJ) (ps : List (EntV × Value)) (o : OpV) (A : Option Addr) (n c : Nat) (w : World) (P : EfP w B g vL vU pv s ps) (t : Int) (hk : o.kind = 7) :
  Calls Tryz.prog 32 #[.pointer (some ⟨g, 0, none⟩), opv o (.slice A n c), .int .i64 0, .int .u64 t] w (EfRet B g (effP s o 0) w) := by
 have HFi := zH (fun ob => kFind_any B g vL vU pv s ps o.key (w.alloc ob) (P.k.below ((zL _ _).alloc (zN _) _)) (by have := P.n; omega))
 have HX : Hid (EfX w (w.alloc (.cells (opc o (.slice A n c)) 43)) B g vL vU pv s ps o (.slice A n c)) := zH (EfX.new P.k)
 have HIx := zH (idx_find P.k.map o.key)
 unfold opv
 unfold opc at HX ⊢
 have HP := zH P
 have hnI : (ps.length : Int) ≤ 90000 := by have := P.n; omega
 obtain ⟨LA, lc, rfl, hlc, _⟩ := own_form P.k.L
 have hlcI : (ps.length : Int) ≤ (lc : Int) := by omega
 clear P hlc
 obtain ⟨i, hi⟩ : ∃ i, idxI (fun p : EntV × Value => decide (p.1.key = o.key)) ps = i := ⟨_, rfl⟩
 rw [hi] at HFi HIx
 clear hi
 have HS := zH (show effP s o 0 = { s with L := [], U := [] } by
  unfold effP
  rw [if_pos rfl, effB_none (by omega)]
  unfold effA
  rw [if_neg (by omega), if_neg (by omega), if_pos hk])
 have q1 : (o.kind == 1) = false := by simp [hk]
 have q2 : (o.kind == 2) = false := by simp [hk]
 have q3 : (o.kind == 3) = false := by simp [hk]
 have q5 : (o.kind == 5) = false := by simp [hk]
 have q6 : (o.kind == 6) = false := by simp [hk]
 have q7 : (o.kind == 7) = true := by simp [hk]
 have q8 : (o.kind == 8) = false := by simp [hk]
 have q11 : (o.kind == 11) = false := by simp [hk]
 have q12 : (o.kind == 12) = false := by simp [hk]
 have q13 : (o.kind == 13) = false := by simp [hk]
 have q14 : (o.kind == 14) = false := by simp [hk]
 clear hk
 go_enter Tryz.func32, Tryz.ntmps32
 go_wp2_with fail
 refine (HFi.out _).mono ?_
 rintro e w1 ⟨rfl, hw⟩
 subst hw
 obtain ⟨W0, hW0⟩ : ∃ W0, w.alloc (.cells #[.int .i64 o.kind, .int .u64 o.ticks, .string o.key, .slice A n c, .int .u64 o.ttl, .int .i64 o.count, .int .i64 o.bytes, .int .i64 o.cursor, .int .u64 o.birth] 43) = W0 := ⟨_, rfl⟩
 rw [hW0] at HX ⊢
 clear hW0 HFi HIx
 obtain ⟨z0, z2, z3, z4, z7⟩ := op_cells' HX.out.box
 have x7 : W0.cell? ⟨g, 7, none⟩ = some (.slice LA ps.length lc) := HX.out.k.cell 7 (by omega)
 have x8 : W0.cell? ⟨g, 8, none⟩ = some vU := HX.out.k.cell 8 (by omega)
 have xf := HX.out.k.frozen
 go_upto_region 30 with fail
 have hk2 : KRep ((W0.setCell ⟨g, 7, none⟩ (.slice none 0 0)).setCell ⟨g, 8, none⟩ (.slice none 0 0)) B g (.slice none 0 0) (.slice none 0 0) pv { s with L := [], U := [] } [] :=
  (HX.out.k.setL (vL' := .slice none 0 0) (L' := []) (ps' := []) (World.ownsRow_nil _ _ _ _) rfl (by simp)).setU (World.ownsRow_nil _ _ _ _)
 have HX2 := zH (HX.out.next hk2 (((Only.refl _ _).setCell (S := fun k => k = g) (p := ⟨g, 7, none⟩) (.inl rfl) _).setCell (p := ⟨g, 8, none⟩) (.inl rfl) _))
 clear hk2 x7 x8 xf z0 z2 z3 z4 z7
 generalize World.setCell _ _ _ = W2 at HX2 ⊢
 obtain ⟨z0, z2, z3, z4, z7⟩ := op_cells' HX2.out.box
 go_wp2_with fail
 refine bodyPost_end (v := .tuple #[]) (results_none rfl _ _ _) rfl ?_
 rw [HS.out]
 exact ⟨_, _, _, _, rfl, (HX2).out.k, (HX2).out.only⟩
end Go.Proofs.YtnabbimompapfaaGreat
namespace Go.Proofs.YtnabbimompapfaaGreat
open Go Go.RowKit
section
variable {w W W2 : World} {B g : Nat} {vL vU : Value} {pv : Nat → Int} {s : PJ} {ps : List (EntV × Value)} {o : OpV} {V : Value}
theorem KRep.setCfg (h : KRep w B g vL vU pv s ps) (cn by_ : Int) : KRep ((w.setCell ⟨g, 0, none⟩ (.int .i64 cn)).setCell ⟨g, 1, none⟩ (.int .i64 by_)) B g vL vU pv { s with cfg := { s.cfg with count := cn, bytes := by_ } } ps := by
 have h1 : KRep (w.setCell ⟨g, 0, none⟩ (.int .i64 cn)) B g vL vU pv { s with cfg := { s.cfg with count := cn } } ps := by
  refine h.set_ 0 _ (fun j hj => ?_) h.L h.U h.map h.vals h.place
  unfold kcell
  by_cases e : j = 0
  ·subst e; rfl
  ·simp only [if_neg e]
 refine h1.set_ 1 _ (fun j hj => ?_) h1.L h1.U h1.map h1.vals h1.place
 unfold kcell
 by_cases e : j = 1
 ·subst e; rfl
 ·simp only [if_neg e]
theorem openAt_set {pl : List (Option Int)} {n : Nat} {x : Option Int} (hn : n < pl.length) (j : Nat) : openAt (pl.set n x) j = if j = n then x.isSome else openAt pl j := by
 unfold openAt
 by_cases e : j = n
 ·subst e
  rw [if_pos rfl, List.getElem?_set_self hn]; rfl
 ·rw [if_neg e, List.getElem?_set_ne (fun h => e h.symm)]
theorem KRep.setPlace (h : KRep w B g vL vU pv s ps) (hp : s.pl.length = 64) (n : Nat) (hn : n < 64) (b : Int) (ho : openAt s.pl n = true) : KRep (w.setCell ⟨g, 73 + n, none⟩ (.int .u64 b)) B g vL vU (fun j => if j = n then b else pv j) { s with pl := s.pl.set n (some b) } ps := by
 refine h.set_ (73 + n) _ (fun j hj => ?_) h.L h.U h.map h.vals (fun i b' hi => ?_)
 ·unfold kcell
  by_cases e : j = 73 + n
  ·subst e
   rw [if_pos rfl]
   simp only [show ¬ 73 + n = 0 by omega, show ¬ 73 + n = 1 by omega, show ¬ 73 + n = 2 by omega, show ¬ 73 + n = 3 by omega, show ¬ 73 + n = 4 by omega, show ¬ 73 + n = 5 by omega, show ¬ 73 + n = 6 by omega, show ¬ 73 + n = 7 by omega, show ¬ 73 + n = 8 by omega, show ¬ 73 + n < 73 by omega, if_false, show 73 + n - 73 = n by omega, if_true]
  ·rw [if_neg e]
   by_cases h73 : j < 73
   ·by_cases h9 : j < 9
    ·simp only [h73, if_true]
     have : openAt (s.pl.set n (some b)) (j - 9) = openAt s.pl (j - 9) := by
      rw [openAt_set (by omega)]
      split
      ·rename_i e2; rw [e2, ho]; rfl
      ·rfl
     rw [this]
    ·simp only [h73, if_true]
     have : openAt (s.pl.set n (some b)) (j - 9) = openAt s.pl (j - 9) := by
      rw [openAt_set (by omega)]
      split
      ·rename_i e2; rw [e2, ho]; rfl
      ·rfl
     rw [this]
   ·have e2 : ¬ j - 73 = n := by omega
    simp only [h73, if_false, e2]
 ·by_cases e : i = n
  ·subst e
   rw [List.getElem?_set_self (by omega)] at hi
   rw [if_pos rfl]; injection hi with hi; injection hi
  ·rw [List.getElem?_set_ne (fun h => e h.symm)] at hi
   rw [if_neg e]; exact h.place i b' hi
theorem KRep.setOpen (h : KRep w B g vL vU pv s ps) (hp : s.pl.length = 64) (n : Nat) (hn : n < 64) (x : Option Int) (hx : ∀ b, x = some b → pv n = b) : KRep (w.setCell ⟨g, 9 + n, none⟩ (.bool x.isSome)) B g vL vU pv { s with pl := s.pl.set n x } ps := by
 refine h.set_ (9 + n) _ (fun j hj => ?_) h.L h.U h.map h.vals (fun i b' hi => ?_)
 ·unfold kcell
  by_cases e : j = 9 + n
  ·subst e
   rw [if_pos rfl]
   simp only [show ¬ 9 + n = 0 by omega, show ¬ 9 + n = 1 by omega, show ¬ 9 + n = 2 by omega, show ¬ 9 + n = 3 by omega, show ¬ 9 + n = 4 by omega, show ¬ 9 + n = 5 by omega, show ¬ 9 + n = 6 by omega, show ¬ 9 + n = 7 by omega, show ¬ 9 + n = 8 by omega, show 9 + n < 73 by omega, if_false, show 9 + n - 9 = n by omega, if_true]
   rw [openAt_set (by omega), if_pos rfl]
  ·rw [if_neg e]
   by_cases h9 : j < 9
   ·by_cases h0 : j = 0
    ·subst h0; rfl
    ·by_cases h1 : j = 1
     ·subst h1; rfl
     ·by_cases h2 : j = 2
      ·subst h2; rfl
      ·by_cases h3 : j = 3
       ·subst h3; rfl
       ·by_cases h4 : j = 4
        ·subst h4; rfl
        ·by_cases h5 : j = 5
         ·subst h5; rfl
         ·by_cases h6 : j = 6
          ·subst h6; rfl
          ·by_cases h7 : j = 7
           ·subst h7; rfl
           ·obtain rfl : j = 8 := by omega
            rfl
   ·have : openAt (s.pl.set n x) (j - 9) = openAt s.pl (j - 9) := by rw [openAt_set (by omega), if_neg (by omega)]
    rw [this]
 ·by_cases e : i = n
  ·subst e
   rw [List.getElem?_set_self (by omega)] at hi
   injection hi with hi
   exact hx b' hi
  ·rw [List.getElem?_set_ne (fun h => e h.symm)] at hi
   exact h.place i b' hi
end
set_option maxHeartbeats 4000000 in
set_option maxRecDepth 100000 in
theorem kEffect_k8 (B g : Nat) (vL vU : Value) (pv : Nat → Int) (s : PJ) (ps : List (EntV × Value)) (o : OpV) (A : Option Addr) (n c : Nat) (w : World) (P : EfP w B g vL vU pv s ps) (t : Int) (hk : o.kind = 8) :
  Calls Tryz.prog 32 #[.pointer (some ⟨g, 0, none⟩), opv o (.slice A n c), .int .i64 0, .int .u64 t] w (EfRet B g (effP s o 0) w) := by
 have HFi := zH (fun ob => kFind_any B g vL vU pv s ps o.key (w.alloc ob) (P.k.below ((zL _ _).alloc (zN _) _)) (by have := P.n; omega))
 have HX : Hid (EfX w (w.alloc (.cells (opc o (.slice A n c)) 43)) B g vL vU pv s ps o (.slice A n c)) := zH (EfX.new P.k)
 have HIx := zH (idx_find P.k.map o.key)
 unfold opv
 unfold opc at HX ⊢
 have HP := zH P
 have hnI : (ps.length : Int) ≤ 90000 := by have := P.n; omega
 obtain ⟨LA, lc, rfl, hlc, _⟩ := own_form P.k.L
 have hlcI : (ps.length : Int) ≤ (lc : Int) := by omega
 clear P hlc
 obtain ⟨i, hi⟩ : ∃ i, idxI (fun p : EntV × Value => decide (p.1.key = o.key)) ps = i := ⟨_, rfl⟩
 rw [hi] at HFi HIx
 clear hi
 have HS := zH (show effP s o 0 = { s with cfg := { s.cfg with count := o.count, bytes := o.bytes } } by
  unfold effP
  rw [if_pos rfl, effB_none (by omega)]
  unfold effA
  rw [if_neg (by omega), if_neg (by omega), if_neg (by omega), if_pos hk])
 have q1 : (o.kind == 1) = false := by simp [hk]
 have q2 : (o.kind == 2) = false := by simp [hk]
 have q3 : (o.kind == 3) = false := by simp [hk]
 have q5 : (o.kind == 5) = false := by simp [hk]
 have q6 : (o.kind == 6) = false := by simp [hk]
 have q7 : (o.kind == 7) = false := by simp [hk]
 have q8 : (o.kind == 8) = true := by simp [hk]
 have q11 : (o.kind == 11) = false := by simp [hk]
 have q12 : (o.kind == 12) = false := by simp [hk]
 have q13 : (o.kind == 13) = false := by simp [hk]
 have q14 : (o.kind == 14) = false := by simp [hk]
 clear hk
 go_enter Tryz.func32, Tryz.ntmps32
 go_wp2_with fail
 refine (HFi.out _).mono ?_
 rintro e w1 ⟨rfl, hw⟩
 subst hw
 obtain ⟨W0, hW0⟩ : ∃ W0, w.alloc (.cells #[.int .i64 o.kind, .int .u64 o.ticks, .string o.key, .slice A n c, .int .u64 o.ttl, .int .i64 o.count, .int .i64 o.bytes, .int .i64 o.cursor, .int .u64 o.birth] 43) = W0 := ⟨_, rfl⟩
 rw [hW0] at HX ⊢
 clear hW0 HFi HIx
 obtain ⟨z0, z2, z3, z4, z7⟩ := op_cells' HX.out.box
 go_upto_region 29 with fail
 have x0 : W0.cell? ⟨g, 0, none⟩ = some (.int .i64 s.cfg.count) := HX.out.k.cell 0 (by omega)
 have x1 : W0.cell? ⟨g, 1, none⟩ = some (.int .i64 s.cfg.bytes) := HX.out.k.cell 1 (by omega)
 have z5 : W0.cell? ⟨w.heap.size, 5, none⟩ = some (.int .i64 o.count) := HX.out.box.cell 5 _ rfl
 have z6 : W0.cell? ⟨w.heap.size, 6, none⟩ = some (.int .i64 o.bytes) := HX.out.box.cell 6 _ rfl
 have xf := HX.out.k.frozen
 have hne : ¬ w.heap.size = g := by have := HX.out.lt; omega
 clear z0 z2 z3 z4 z7
 go_region
 have hk2 := (HX.out.k.setCfg o.count o.bytes).below (zL _ _).drew
 have HX2 := zH (HX.out.next hk2 (((Only.refl _ _).setCell (S := fun k => k = g) (p := ⟨g, 0, none⟩) (.inl rfl) _).setCell (p := ⟨g, 1, none⟩) (.inl rfl) _).drew)
 clear hk2 x0 x1 z5 z6 xf
 generalize World.drew _ = W2 at HX2 ⊢
 obtain ⟨z0, z2, z3, z4, z7⟩ := op_cells' HX2.out.box
 go_wp2_with fail
 refine bodyPost_end (v := .tuple #[]) (results_none rfl _ _ _) rfl ?_
 rw [HS.out]
 exact ⟨_, _, _, _, rfl, (HX2).out.k, (HX2).out.only⟩
set_option maxHeartbeats 4000000 in
set_option maxRecDepth 100000 in
theorem kEffect_k14 (B g : Nat) (vL vU : Value) (pv : Nat → Int) (s : PJ) (ps : List (EntV × Value)) (o : OpV) (A : Option Addr) (n c : Nat) (w : World) (P : EfP w B g vL vU pv s ps) (t : Int) (hk : o.kind = 14) (ho : (openP s.pl o.cursor).isSome = true) :
  Calls Tryz.prog 32 #[.pointer (some ⟨g, 0, none⟩), opv o (.slice A n c), .int .i64 0, .int .u64 t] w (EfRet B g (effP s o 0) w) := by
 obtain ⟨b, hb⟩ := Option.isSome_iff_exists.1 ho
 obtain ⟨ic, hic, hil, hpi⟩ := openP_idx hb
 have hic64 : ic < 64 := by have := P.pl; omega
 have HFi := zH (fun ob => kFind_any B g vL vU pv s ps o.key (w.alloc ob) (P.k.below ((zL _ _).alloc (zN _) _)) (by have := P.n; omega))
 have HX : Hid (EfX w (w.alloc (.cells (opc o (.slice A n c)) 43)) B g vL vU pv s ps o (.slice A n c)) := zH (EfX.new P.k)
 have HIx := zH (idx_find P.k.map o.key)
 unfold opv
 unfold opc at HX ⊢
 have HP := zH P
 have hnI : (ps.length : Int) ≤ 90000 := by have := P.n; omega
 obtain ⟨LA, lc, rfl, hlc, _⟩ := own_form P.k.L
 have hlcI : (ps.length : Int) ≤ (lc : Int) := by omega
 clear P hlc
 obtain ⟨i, hi⟩ : ∃ i, idxI (fun p : EntV × Value => decide (p.1.key = o.key)) ps = i := ⟨_, rfl⟩
 rw [hi] at HFi HIx
 clear hi
 have HS := zH (show effP s o 0 = { s with pl := s.pl.set ic none } by
  unfold effP
  rw [if_pos rfl, effA_none (by omega)]
  unfold effB
  rw [if_neg (by omega), if_neg (by omega), if_neg (by omega), if_pos hk, hic]; rfl)
 have q1 : (o.kind == 1) = false := by simp [hk]
 have q2 : (o.kind == 2) = false := by simp [hk]
 have q3 : (o.kind == 3) = false := by simp [hk]
 have q5 : (o.kind == 5) = false := by simp [hk]
 have q6 : (o.kind == 6) = false := by simp [hk]
 have q7 : (o.kind == 7) = false := by simp [hk]
 have q8 : (o.kind == 8) = false := by simp [hk]
 have q11 : (o.kind == 11) = false := by simp [hk]
 have q12 : (o.kind == 12) = false := by simp [hk]
 have q13 : (o.kind == 13) = false := by simp [hk]
 have q14 : (o.kind == 14) = true := by simp [hk]
 have HCi := zH hic
 have hi64 : (ic : Int) < 64 := by omega
 have HI64 := zH hic64
 clear hk ho hb hic hil hpi hic64
 go_enter Tryz.func32, Tryz.ntmps32
 go_wp2_with fail
 refine (HFi.out _).mono ?_
 rintro e w1 ⟨rfl, hw⟩
 subst hw
 obtain ⟨W0, hW0⟩ : ∃ W0, w.alloc (.cells #[.int .i64 o.kind, .int .u64 o.ticks, .string o.key, .slice A n c, .int .u64 o.ttl, .int .i64 o.count, .int .i64 o.bytes, .int .i64 o.cursor, .int .u64 o.birth] 43) = W0 := ⟨_, rfl⟩
 rw [hW0] at HX ⊢
 clear hW0 HFi HIx
 obtain ⟨z0, z2, z3, z4, z7⟩ := op_cells' HX.out.box
 go_upto_region 40 with fail
 have x0 : W0.cell? ⟨g, 9 + ic, none⟩ = some (.bool (openAt s.pl ic)) := by
  have := HX.out.k.cell (9 + ic) (by have := HI64.out; omega)
  rw [this, kcell_open _ _ _ _ _ HI64.out]
 rw [HCi.out] at z7
 have xf := HX.out.k.frozen
 have hne : ¬ w.heap.size = g := by have := HX.out.lt; omega
 clear z0 z2 z3 z4
 go_region
 have hk2 : KRep (W0.setCell ⟨g, 9 + ic, none⟩ (.bool false)).drew B g _ vU pv { s with pl := s.pl.set ic none } ps := (HX.out.k.setOpen HP.out.pl ic HI64.out none (fun b h => by cases h)).below (zL _ _).drew
 have HX2 := zH (HX.out.next hk2 (((Only.refl _ _).setCell (S := fun k => k = g) (p := ⟨g, 9 + ic, none⟩) (.inl rfl) _)).drew)
 clear hk2 x0 z7 xf
 generalize World.drew _ = W2 at HX2 ⊢
 go_wp2_with fail
 refine bodyPost_end (v := .tuple #[]) (results_none rfl _ _ _) rfl ?_
 rw [HS.out]
 exact ⟨_, _, _, _, rfl, (HX2).out.k, (HX2).out.only⟩
set_option maxHeartbeats 4000000 in
set_option maxRecDepth 100000 in
theorem kEffect_k13 (B g : Nat) (vL vU : Value) (pv : Nat → Int) (s : PJ) (ps : List (EntV × Value)) (o : OpV) (A : Option Addr) (n c : Nat) (w : World) (P : EfP w B g vL vU pv s ps) (t : Int) (hk : o.kind = 13) (ho : (openP s.pl o.cursor).isSome = true) :
  Calls Tryz.prog 32 #[.pointer (some ⟨g, 0, none⟩), opv o (.slice A n c), .int .i64 0, .int .u64 t] w (EfRet B g (effP s o 0) w) := by
 obtain ⟨b, hb⟩ := Option.isSome_iff_exists.1 ho
 obtain ⟨ic, hic, hil, hpi⟩ := openP_idx hb
 have hic64 : ic < 64 := by have := P.pl; omega
 have HOa := zH (show openAt s.pl ic = true by unfold openAt; rw [hpi]; rfl)
 have HFi := zH (fun ob => kFind_any B g vL vU pv s ps o.key (w.alloc ob) (P.k.below ((zL _ _).alloc (zN _) _)) (by have := P.n; omega))
 have HX : Hid (EfX w (w.alloc (.cells (opc o (.slice A n c)) 43)) B g vL vU pv s ps o (.slice A n c)) := zH (EfX.new P.k)
 have HIx := zH (idx_find P.k.map o.key)
 unfold opv
 unfold opc at HX ⊢
 have HP := zH P
 have hnI : (ps.length : Int) ≤ 90000 := by have := P.n; omega
 obtain ⟨LA, lc, rfl, hlc, _⟩ := own_form P.k.L
 have hlcI : (ps.length : Int) ≤ (lc : Int) := by omega
 clear P hlc
 obtain ⟨i, hi⟩ : ∃ i, idxI (fun p : EntV × Value => decide (p.1.key = o.key)) ps = i := ⟨_, rfl⟩
 rw [hi] at HFi HIx
 clear hi
 have HS := zH (show effP s o 0 = { s with pl := s.pl.set ic (some o.birth) } by
  unfold effP
  rw [if_pos rfl, effA_none (by omega)]
  unfold effB
  rw [if_neg (by omega), if_neg (by omega), if_pos hk, hic]; rfl)
 have q1 : (o.kind == 1) = false := by simp [hk]
 have q2 : (o.kind == 2) = false := by simp [hk]
 have q3 : (o.kind == 3) = false := by simp [hk]
 have q5 : (o.kind == 5) = false := by simp [hk]
 have q6 : (o.kind == 6) = false := by simp [hk]
 have q7 : (o.kind == 7) = false := by simp [hk]
 have q8 : (o.kind == 8) = false := by simp [hk]
 have q11 : (o.kind == 11) = false := by simp [hk]
 have q12 : (o.kind == 12) = false := by simp [hk]
 have q13 : (o.kind == 13) = true := by simp [hk]
 have q14 : (o.kind == 14) = false := by simp [hk]
 have HCi := zH hic
 have hi64 : (ic : Int) < 64 := by omega
 have HI64 := zH hic64
 clear hk ho hb hic hil hpi hic64
 go_enter Tryz.func32, Tryz.ntmps32
 go_wp2_with fail
 refine (HFi.out _).mono ?_
 rintro e w1 ⟨rfl, hw⟩
 subst hw
 obtain ⟨W0, hW0⟩ : ∃ W0, w.alloc (.cells #[.int .i64 o.kind, .int .u64 o.ticks, .string o.key, .slice A n c, .int .u64 o.ttl, .int .i64 o.count, .int .i64 o.bytes, .int .i64 o.cursor, .int .u64 o.birth] 43) = W0 := ⟨_, rfl⟩
 rw [hW0] at HX ⊢
 clear hW0 HFi HIx
 obtain ⟨z0, z2, z3, z4, z7⟩ := op_cells' HX.out.box
 go_upto_region 38 with fail
 have x0 : W0.cell? ⟨g, 73 + ic, none⟩ = some (.int .u64 (pv ic)) := by
  have := HX.out.k.cell (73 + ic) (by have := HI64.out; omega)
  rw [this, kcell_place]
 have z8 : W0.cell? ⟨w.heap.size, 8, none⟩ = some (.int .u64 o.birth) := HX.out.box.cell 8 _ rfl
 rw [HCi.out] at z7
 have xf := HX.out.k.frozen
 have hne : ¬ w.heap.size = g := by have := HX.out.lt; omega
 clear z0 z2 z3 z4
 go_region
 have hk2 : KRep (W0.setCell ⟨g, 73 + ic, none⟩ (.int .u64 o.birth)).drew B g _ vU _ { s with pl := s.pl.set ic (some o.birth) } ps := (HX.out.k.setPlace HP.out.pl ic HI64.out o.birth HOa.out).below (zL _ _).drew
 have HX2 := zH (HX.out.next hk2 (((Only.refl _ _).setCell (S := fun k => k = g) (p := ⟨g, 73 + ic, none⟩) (.inl rfl) _)).drew)
 clear hk2 x0 z7 z8 xf
 generalize World.drew _ = W2 at HX2 ⊢
 go_wp2_with fail
 refine bodyPost_end (v := .tuple #[]) (results_none rfl _ _ _) rfl ?_
 rw [HS.out]
 exact ⟨_, _, _, _, rfl, (HX2).out.k, (HX2).out.only⟩
set_option maxHeartbeats 4000000 in
set_option maxRecDepth 100000 in
theorem kEffect_k11 (B g : Nat) (vL vU : Value) (pv : Nat → Int) (s : PJ) (ps : List (EntV × Value)) (o : OpV) (A : Option Addr) (n c : Nat) (w : World) (P : EfP w B g vL vU pv s ps) (t : Int) (hk : o.kind = 11) (ho : freeP s.pl < 64) :
  Calls Tryz.prog 32 #[.pointer (some ⟨g, 0, none⟩), opv o (.slice A n c), .int .i64 0, .int .u64 t] w (EfRet B g (effP s o 0) w) := by
 have HFi := zH (fun ob => kFind_any B g vL vU pv s ps o.key (w.alloc ob) (P.k.below ((zL _ _).alloc (zN _) _)) (by have := P.n; omega))
 have HX : Hid (EfX w (w.alloc (.cells (opc o (.slice A n c)) 43)) B g vL vU pv s ps o (.slice A n c)) := zH (EfX.new P.k)
 have HIx := zH (idx_find P.k.map o.key)
 unfold opv
 unfold opc at HX ⊢
 have HP := zH P
 have hnI : (ps.length : Int) ≤ 90000 := by have := P.n; omega
 obtain ⟨LA, lc, rfl, hlc, _⟩ := own_form P.k.L
 have hlcI : (ps.length : Int) ≤ (lc : Int) := by omega
 clear P hlc
 obtain ⟨i, hi⟩ : ∃ i, idxI (fun p : EntV × Value => decide (p.1.key = o.key)) ps = i := ⟨_, rfl⟩
 rw [hi] at HFi HIx
 clear hi
 have hS : effP s o 0 = { s with pl := s.pl.set (freeP s.pl) (some 0) } := by
  unfold effP
  rw [if_pos rfl, effA_none (by omega)]
  unfold effB
  rw [if_pos hk]
 have HFr := zH (fun W hW => kFree_any B g (.slice LA ps.length lc) vU pv s ps W hW HP.out.pl)
 obtain ⟨ic, hic⟩ : ∃ ic, freeP s.pl = ic := ⟨_, rfl⟩
 rw [hic] at hS HFr ho
 have HS := zH hS
 have q1 : (o.kind == 1) = false := by simp [hk]
 have q2 : (o.kind == 2) = false := by simp [hk]
 have q3 : (o.kind == 3) = false := by simp [hk]
 have q5 : (o.kind == 5) = false := by simp [hk]
 have q6 : (o.kind == 6) = false := by simp [hk]
 have q7 : (o.kind == 7) = false := by simp [hk]
 have q8 : (o.kind == 8) = false := by simp [hk]
 have q11 : (o.kind == 11) = true := by simp [hk]
 have q12 : (o.kind == 12) = false := by simp [hk]
 have q13 : (o.kind == 13) = false := by simp [hk]
 have q14 : (o.kind == 14) = false := by simp [hk]
 have hi64 : (ic : Int) < 64 := by omega
 have HI64 := zH ho
 clear hk ho hic hS
 go_enter Tryz.func32, Tryz.ntmps32
 go_wp2_with fail
 refine (HFi.out _).mono ?_
 rintro e w1 ⟨rfl, hw⟩
 subst hw
 obtain ⟨W0, hW0⟩ : ∃ W0, w.alloc (.cells #[.int .i64 o.kind, .int .u64 o.ticks, .string o.key, .slice A n c, .int .u64 o.ttl, .int .i64 o.count, .int .i64 o.bytes, .int .i64 o.cursor, .int .u64 o.birth] 43) = W0 := ⟨_, rfl⟩
 rw [hW0] at HX ⊢
 clear hW0 HFi HIx
 obtain ⟨z0, z2, z3, z4, z7⟩ := op_cells' HX.out.box
 go_wp2_with fail
 refine (HFr.out _ HX.out.k).mono ?_
 rintro e2 w4 ⟨rfl, hw4⟩
 subst hw4
 go_upto_region 34 with fail
 have x1 : W0.cell? ⟨g, 9 + ic, none⟩ = some (.bool (openAt s.pl ic)) := by
  have := HX.out.k.cell (9 + ic) (by have := HI64.out; omega)
  rw [this, kcell_open _ _ _ _ _ HI64.out]
 have x0 : W0.cell? ⟨g, 73 + ic, none⟩ = some (.int .u64 (pv ic)) := by
  have := HX.out.k.cell (73 + ic) (by have := HI64.out; omega)
  rw [this, kcell_place]
 have xf := HX.out.k.frozen
 have hnn : ¬ 73 + ic = 9 + ic := by omega
 clear z0 z2 z3 z4 z7
 go_region
 have hk1 : KRep (W0.setCell ⟨g, 9 + ic, none⟩ (.bool true)) B g (.slice LA ps.length lc) vU pv { s with pl := s.pl.set ic (some (pv ic)) } ps := HX.out.k.setOpen HP.out.pl ic HI64.out (some (pv ic)) (fun b h => by injection h)
 have hk2 : KRep ((W0.setCell ⟨g, 9 + ic, none⟩ (.bool true)).setCell ⟨g, 73 + ic, none⟩ (.int .u64 0)).drew B g _ vU _ { s with pl := (s.pl.set ic (some (pv ic))).set ic (some 0) } ps := (hk1.setPlace (by show (s.pl.set ic _).length = 64; rw [List.length_set]; exact HP.out.pl) ic HI64.out 0 (by show openAt (s.pl.set ic _) ic = true; rw [openAt_set (by rw [HP.out.pl]; exact HI64.out), if_pos rfl]; rfl)).below (zL _ _).drew
 rw [List.set_set] at hk2
 have HX2 := zH (HX.out.next hk2 (((Only.refl _ _).setCell (S := fun k => k = g) (p := ⟨g, 9 + ic, none⟩) (.inl rfl) _).setCell (p := ⟨g, 73 + ic, none⟩) (.inl rfl) _).drew)
 clear hk1 hk2 x0 x1 xf
 generalize World.drew _ = W2 at HX2 ⊢
 go_wp2_with fail
 refine bodyPost_end (v := .tuple #[]) (results_none rfl _ _ _) rfl ?_
 rw [HS.out]
 exact ⟨_, _, _, _, rfl, (HX2).out.k, (HX2).out.only⟩
end Go.Proofs.YtnabbimompapfaaGreat
