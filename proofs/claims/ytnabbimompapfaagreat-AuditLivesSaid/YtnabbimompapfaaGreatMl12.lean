/- AudKC, AudKD, AudKE, AudKF -/
import Derived.Test.YtnabbimompapfaaGreatMl11
import Derived.Test.YtnabbimompapfaaGreatMl4
import Derived.Maps.RangeWalk
namespace Go.Proofs.YtnabbimompapfaaGreat
open Go Go.RowKit Go.MapKept Go.Maps
structure RdJ (w W : World) (B g gm gp : Nat) (us : Int) (s : PJ) (its : List It) (P : List (Int × Int)) (o : OpV) (V : Value) (x : WantV) (V1 V2 : Value) : Prop where
 rep : JRep W B g gm gp us s its P
 box : Blk W w.heap.size 43 (opc o V)
 x : Blk W (w.heap.size + 1) 46 (wantc x V1 V2)
 below : Below w.heap.size w W
section
variable {w W W2 : World} {B g gm gp : Nat} {us : Int} {s : PJ} {its : List It} {P : List (Int × Int)} {o : OpV} {V V1 V2 : Value} {x : WantV}
theorem RdJ.adv (h : RdJ w W B g gm gp us s its P o V x V1 V2) (hb : Below W.heap.size W W2) : RdJ w W2 B g gm gp us s its P o V x V1 V2 :=
 ⟨h.rep.below hb, h.box.below hb, h.x.below hb, h.below.trans (hb.mono h.below.size)⟩
theorem RdJ.set1 (hw : JRep w B g gm gp us s its P) (h : RdJ w W B g gm gp us s its P o V x V1 V2) (i : Nat) (u : Value) {x' : WantV} {V1' V2' : Value} (hc : (wantc x V1 V2).setIfInBounds i u = wantc x' V1' V2') :
  RdJ w (W.setCell ⟨w.heap.size + 1, i, none⟩ u) B g gm gp us s its P o V x' V1' V2' := by
 have hb : Below w.heap.size w (W.setCell ⟨w.heap.size + 1, i, none⟩ u) := h.below.setCell (p := ⟨w.heap.size + 1, i, none⟩) (by dsimp only; omega) _
 exact ⟨hw.below hb, h.box.far (p := ⟨w.heap.size + 1, i, none⟩) (by dsimp only; omega) _, hc ▸ h.x.set_ i u, hb⟩
theorem RdJ.set4 (hw : JRep w B g gm gp us s its P) (h : RdJ w W B g gm gp us s its P o V x V1 V2) (ev : EntV) (U : Value) :
  RdJ w ((((W.setCell ⟨w.heap.size + 1, 13, none⟩ (.string ev.key)).setCell ⟨w.heap.size + 1, 14, none⟩ U).setCell ⟨w.heap.size + 1, 15, none⟩ (.int .u64 ev.dl)).setCell ⟨w.heap.size + 1, 16, none⟩ (.int .u64 ev.birth)) B g gm gp us s its P o V { x with ent := ev } V1 U := by
 have h1 := h.set1 hw 13 (.string ev.key) (x' := { x with ent := ⟨ev.key, x.ent.val, x.ent.dl, x.ent.birth⟩ }) (V1' := V1) (V2' := V2) rfl
 have h2 := h1.set1 hw 14 U (x' := { x with ent := ⟨ev.key, x.ent.val, x.ent.dl, x.ent.birth⟩ }) (V1' := V1) (V2' := U) rfl
 have h3 := h2.set1 hw 15 (.int .u64 ev.dl) (x' := { x with ent := ⟨ev.key, x.ent.val, ev.dl, x.ent.birth⟩ }) (V1' := V1) (V2' := U) rfl
 exact h3.set1 hw 16 (.int .u64 ev.birth) (x' := { x with ent := ev }) (V1' := V1) (V2' := U) rfl
theorem rj_done (h : RdJ w W B g gm gp us s its P o V x V1 V2) (cs : Array Value) : Blk (W.setRow (w.heap.size + 1) cs) (w.heap.size + 1) 46 cs ∧ Below w.heap.size w (W.setRow (w.heap.size + 1) cs) :=
 ⟨h.x.row cs, h.below.trans (((Only.refl (fun k => k = w.heap.size + 1) W).setRow (.inl rfl) cs).below (fun i hi _ e => by omega) h.below.size)⟩
end
set_option maxHeartbeats 4000000 in
set_option maxRecDepth 100000 in
theorem reads_key (B Bv g gm gp : Nat) (us : Int) (s : PJ) (its : List It) (P : List (Int × Int)) (o : OpV) (V : Value) (e : Int) (w : World) (h : JRep w B g gm gp us s its P) (hv : Bts w Bv 5 V o.val) (hk : o.key.size ≤ maxLen) (hkn : (s.L.map EntV.key).Nodup)
  (k3 : o.kind = 3 ∨ o.kind = 4 ∨ o.kind = 5 ∨ o.kind = 6) :
  Calls Tryz.prog 71 #[.pointer (some ⟨g, 0, none⟩), opv o V, .int .i64 e] w (RdsE B (readsP s o e) w) := by
 have HH := zH h
 obtain ⟨A, n, c, rfl⟩ : ∃ A n c, V = .slice A n c := by obtain ⟨A, c, e⟩ := hv.form; exact ⟨A, _, c, e⟩
 have HX : Hid (RdJ w ((w.alloc (.cells (opc o (.slice A n c)) 43)).alloc (.cells (wantc want0 (.slice none 0 0) (.slice none 0 0)) 46)) B g gm gp us s its P o (.slice A n c) want0 (.slice none 0 0) (.slice none 0 0)) :=
  zH ⟨h.below (((zL _ _).alloc (zN _) _).alloc (by simp) _), (Blk.new _ _ _).alloc _, Blk.new2 _ _ _ _, ((zL _ _).alloc (zN _) _).alloc (by simp) _⟩
 unfold opv
 unfold opc wantc want0 ent0 at HX
 unfold opc
 dsimp only at HX
 have HK := zH hk
 have hS : readsP s o e = match findP s.L o.key with
   |none => want0
   |some x => { want0 with hit := true, val := if o.kind = 3 then x.val else [], ent := if o.kind = 4 then x else ent0 } := by unfold readsP; rw [if_pos k3]; rfl
 rcases h.find hkn o.key with ⟨h1, h2⟩ | ⟨x, hx, h1, -, h2⟩
 ·have HPx : Hid (((mget (its.map fun x => (x.e.key, x.b)) o.key).map fun b => (⟨b, 0, none⟩ : Addr)) = none) := zH (by rw [h2]; rfl)
  have HS := zH (show readsP s o e = ⟨false, [], ent0, 0⟩ by rw [hS, h1]; rfl)
  clear h1 h2 hS h hv hk hkn
  rcases k3 with k | k | k | k
  ·have q3 : (o.kind == 3) = true := by simp [k]
   have q4 : (o.kind == 4) = false := by simp [k]
   have q5 : (o.kind == 5) = false := by simp [k]
   have q6 : (o.kind == 6) = false := by simp [k]
   have q11 : (o.kind == 11) = false := by simp [k]
   have q12 : (o.kind == 12) = false := by simp [k]
   clear k
   go_enter Tryz.func71, Tryz.ntmps71
   go_upto_region 1 with fail
   generalize World.alloc _ _ = W0 at HX ⊢
   refine wp_region_noPanic ?_
   refine wp_region_held_drew (S := fun W => RdJ w W B g gm gp us s its P o (.slice A n c) want0 (.slice none 0 0) (.slice none 0 0)) (by kernel_rfl) (HX.out.adv (zL _ _).drew) (fun hHeld => ?_)
   generalize W0.drew = W1 at hHeld ⊢
   have HX1 := zH hHeld
   refine Pl.go [0, 1, 2, 3, 4, 5, 6, 7] ?_
   iterate 8
    refine tkl (v := ?_) ?_ ?_
    rotate_left 1
    ·intro W hSw
     obtain ⟨z0, z1, z2, z3, z4, z5, z6, z7, z8⟩ := op9 hSw.box; obtain ⟨d0, d1, d2, d3, d4, d5, d6, d7, d8, d9, d10⟩ := hSw.rep.cells; have hlk := hSw.rep.lookI HK.out; rw [HPx.out] at hlk
     clear hSw
     go_simp
     try with_reducible rfl
    try dsimp only [zS, zB, zC]
   refine Pl.stop ?_
   refine wpAnyH_done (by kernel_rfl) ?_ _
   refine NoPanic.normal ?_
   clear hHeld HX
   obtain ⟨z0, z1, z2, z3, z4, z5, z6, z7, z8⟩ := op9 HX1.out.box
   have c11 : W1.cell? ⟨w.heap.size + 1, 11, none⟩ = some (.bool false) := HX1.out.x.cell 11 _ rfl
   have cf := HX1.out.x.frozen
   go_upto_region 8 with fail
   have HX2 : Hid (RdJ w (W1.setCell ⟨w.heap.size + 1, 11, none⟩ (.bool false)) B g gm gp us s its P o _ ⟨false, [], ent0, 0⟩ (.slice none 0 0) (.slice none 0 0)) := zH (RdJ.set1 HH.out HX1.out 11 (.bool false) rfl)
   clear z0 z1 z2 z3 z4 z5 z6 z7 z8 c11 cf
   generalize World.setCell _ _ _ = W2 at HX2 ⊢
   obtain ⟨z0, z1, z2, z3, z4, z5, z6, z7, z8⟩ := op9 HX2.out.box
   go_upto_region 18 with fail
   have HXB : Hid (Blk _ _ _ #[.int .i64 0, .int .u64 0, .string ⟨#[]⟩, .slice none 0 0, .int .u64 0, .int .i64 0, .int .i64 0, .int .i64 0, .int .u64 0, .int .u64 0, .int .i64 0, .bool false, .slice none 0 0, .string ⟨#[]⟩, .slice none 0 0, .int .u64 0, .int .u64 0, .int .i64 0, .slice none 0 0, .int .i64 0, .int .i64 0]) := zH (HX2).out.x
   go_wp2_with (first | (refine wpList_load_row rfl 46 _ rfl (w.heap.size + 1) rfl 46 _ (0, 0) _ HXB.out Tryz.underlying46 rfl (by kernel_rfl) ?_) | (refine wpList_store_row rfl 46 _ _ rfl (w.heap.size + 1) _ rfl rfl 46 _ HXB.out (by kernel_rfl) rfl (by simp [Value.oneCell']) ?_))
   obtain ⟨hb, hbl⟩ := rj_done (HX2).out #[.int .i64 0, .int .u64 0, .string ⟨#[]⟩, .slice none 0 0, .int .u64 0, .int .i64 0, .int .i64 0, .int .i64 0, .int .u64 0, .int .u64 0, .int .i64 0, .bool false, .slice none 0 0, .string ⟨#[]⟩, .slice none 0 0, .int .u64 0, .int .u64 0, .int .i64 0, .slice none 0 0, .int .i64 0, .int .i64 0]
   have HRd := zH hbl
   clear hbl
   generalize World.setRow _ _ _ = W9 at hb HRd ⊢
   refine bodyPost_ret (v := .agg #[.int .i64 0, .int .u64 0, .string ⟨#[]⟩, .slice none 0 0, .int .u64 0, .int .i64 0, .int .i64 0, .int .i64 0, .int .u64 0, .int .u64 0, .int .i64 0, .bool false, .slice none 0 0, .string ⟨#[]⟩, .slice none 0 0, .int .u64 0, .int .u64 0, .int .i64 0, .slice none 0 0, .int .i64 0, .int .i64 0]) (results_cell_row rfl _ _ (w.heap.size + 1) 46 _ (0, 0) _ rfl hb Tryz.underlying46 rfl (by kernel_rfl)) rfl ?_
   exact ⟨.slice none 0 0, .slice none 0 0, by rw [HS.out]; rfl, by rw [HS.out]; exact Bts.nil _ _ _, by rw [HS.out]; exact Bts.nil _ _ _, HRd.out⟩
  ·have q3 : (o.kind == 3) = false := by simp [k]
   have q4 : (o.kind == 4) = true := by simp [k]
   have q5 : (o.kind == 5) = false := by simp [k]
   have q6 : (o.kind == 6) = false := by simp [k]
   have q11 : (o.kind == 11) = false := by simp [k]
   have q12 : (o.kind == 12) = false := by simp [k]
   clear k
   go_enter Tryz.func71, Tryz.ntmps71
   go_upto_region 1 with fail
   generalize World.alloc _ _ = W0 at HX ⊢
   refine wp_region_noPanic ?_
   refine wp_region_held_drew (S := fun W => RdJ w W B g gm gp us s its P o (.slice A n c) want0 (.slice none 0 0) (.slice none 0 0)) (by kernel_rfl) (HX.out.adv (zL _ _).drew) (fun hHeld => ?_)
   generalize W0.drew = W1 at hHeld ⊢
   have HX1 := zH hHeld
   refine Pl.go [0, 1, 2, 3, 4, 5, 6, 7] ?_
   iterate 8
    refine tkl (v := ?_) ?_ ?_
    rotate_left 1
    ·intro W hSw
     obtain ⟨z0, z1, z2, z3, z4, z5, z6, z7, z8⟩ := op9 hSw.box; obtain ⟨d0, d1, d2, d3, d4, d5, d6, d7, d8, d9, d10⟩ := hSw.rep.cells; have hlk := hSw.rep.lookI HK.out; rw [HPx.out] at hlk
     clear hSw
     go_simp
     try with_reducible rfl
    try dsimp only [zS, zB, zC]
   refine Pl.stop ?_
   refine wpAnyH_done (by kernel_rfl) ?_ _
   refine NoPanic.normal ?_
   clear hHeld HX
   obtain ⟨z0, z1, z2, z3, z4, z5, z6, z7, z8⟩ := op9 HX1.out.box
   have c11 : W1.cell? ⟨w.heap.size + 1, 11, none⟩ = some (.bool false) := HX1.out.x.cell 11 _ rfl
   have cf := HX1.out.x.frozen
   go_upto_region 8 with fail
   have HX2 : Hid (RdJ w (W1.setCell ⟨w.heap.size + 1, 11, none⟩ (.bool false)) B g gm gp us s its P o _ ⟨false, [], ent0, 0⟩ (.slice none 0 0) (.slice none 0 0)) := zH (RdJ.set1 HH.out HX1.out 11 (.bool false) rfl)
   clear z0 z1 z2 z3 z4 z5 z6 z7 z8 c11 cf
   generalize World.setCell _ _ _ = W2 at HX2 ⊢
   obtain ⟨z0, z1, z2, z3, z4, z5, z6, z7, z8⟩ := op9 HX2.out.box
   go_upto_region 18 with fail
   have HXB : Hid (Blk _ _ _ #[.int .i64 0, .int .u64 0, .string ⟨#[]⟩, .slice none 0 0, .int .u64 0, .int .i64 0, .int .i64 0, .int .i64 0, .int .u64 0, .int .u64 0, .int .i64 0, .bool false, .slice none 0 0, .string ⟨#[]⟩, .slice none 0 0, .int .u64 0, .int .u64 0, .int .i64 0, .slice none 0 0, .int .i64 0, .int .i64 0]) := zH (HX2).out.x
   go_wp2_with (first | (refine wpList_load_row rfl 46 _ rfl (w.heap.size + 1) rfl 46 _ (0, 0) _ HXB.out Tryz.underlying46 rfl (by kernel_rfl) ?_) | (refine wpList_store_row rfl 46 _ _ rfl (w.heap.size + 1) _ rfl rfl 46 _ HXB.out (by kernel_rfl) rfl (by simp [Value.oneCell']) ?_))
   obtain ⟨hb, hbl⟩ := rj_done (HX2).out #[.int .i64 0, .int .u64 0, .string ⟨#[]⟩, .slice none 0 0, .int .u64 0, .int .i64 0, .int .i64 0, .int .i64 0, .int .u64 0, .int .u64 0, .int .i64 0, .bool false, .slice none 0 0, .string ⟨#[]⟩, .slice none 0 0, .int .u64 0, .int .u64 0, .int .i64 0, .slice none 0 0, .int .i64 0, .int .i64 0]
   have HRd := zH hbl
   clear hbl
   generalize World.setRow _ _ _ = W9 at hb HRd ⊢
   refine bodyPost_ret (v := .agg #[.int .i64 0, .int .u64 0, .string ⟨#[]⟩, .slice none 0 0, .int .u64 0, .int .i64 0, .int .i64 0, .int .i64 0, .int .u64 0, .int .u64 0, .int .i64 0, .bool false, .slice none 0 0, .string ⟨#[]⟩, .slice none 0 0, .int .u64 0, .int .u64 0, .int .i64 0, .slice none 0 0, .int .i64 0, .int .i64 0]) (results_cell_row rfl _ _ (w.heap.size + 1) 46 _ (0, 0) _ rfl hb Tryz.underlying46 rfl (by kernel_rfl)) rfl ?_
   exact ⟨.slice none 0 0, .slice none 0 0, by rw [HS.out]; rfl, by rw [HS.out]; exact Bts.nil _ _ _, by rw [HS.out]; exact Bts.nil _ _ _, HRd.out⟩
  ·have q3 : (o.kind == 3) = false := by simp [k]
   have q4 : (o.kind == 4) = false := by simp [k]
   have q5 : (o.kind == 5) = true := by simp [k]
   have q6 : (o.kind == 6) = false := by simp [k]
   have q11 : (o.kind == 11) = false := by simp [k]
   have q12 : (o.kind == 12) = false := by simp [k]
   clear k
   go_enter Tryz.func71, Tryz.ntmps71
   go_upto_region 1 with fail
   generalize World.alloc _ _ = W0 at HX ⊢
   refine wp_region_noPanic ?_
   refine wp_region_held_drew (S := fun W => RdJ w W B g gm gp us s its P o (.slice A n c) want0 (.slice none 0 0) (.slice none 0 0)) (by kernel_rfl) (HX.out.adv (zL _ _).drew) (fun hHeld => ?_)
   generalize W0.drew = W1 at hHeld ⊢
   have HX1 := zH hHeld
   refine Pl.go [0, 1, 2, 3, 4, 5, 6, 7] ?_
   iterate 8
    refine tkl (v := ?_) ?_ ?_
    rotate_left 1
    ·intro W hSw
     obtain ⟨z0, z1, z2, z3, z4, z5, z6, z7, z8⟩ := op9 hSw.box; obtain ⟨d0, d1, d2, d3, d4, d5, d6, d7, d8, d9, d10⟩ := hSw.rep.cells; have hlk := hSw.rep.lookI HK.out; rw [HPx.out] at hlk
     clear hSw
     go_simp
     try with_reducible rfl
    try dsimp only [zS, zB, zC]
   refine Pl.stop ?_
   refine wpAnyH_done (by kernel_rfl) ?_ _
   refine NoPanic.normal ?_
   clear hHeld HX
   obtain ⟨z0, z1, z2, z3, z4, z5, z6, z7, z8⟩ := op9 HX1.out.box
   have c11 : W1.cell? ⟨w.heap.size + 1, 11, none⟩ = some (.bool false) := HX1.out.x.cell 11 _ rfl
   have cf := HX1.out.x.frozen
   go_upto_region 8 with fail
   have HX2 : Hid (RdJ w (W1.setCell ⟨w.heap.size + 1, 11, none⟩ (.bool false)) B g gm gp us s its P o _ ⟨false, [], ent0, 0⟩ (.slice none 0 0) (.slice none 0 0)) := zH (RdJ.set1 HH.out HX1.out 11 (.bool false) rfl)
   clear z0 z1 z2 z3 z4 z5 z6 z7 z8 c11 cf
   generalize World.setCell _ _ _ = W2 at HX2 ⊢
   obtain ⟨z0, z1, z2, z3, z4, z5, z6, z7, z8⟩ := op9 HX2.out.box
   go_upto_region 18 with fail
   have HXB : Hid (Blk _ _ _ #[.int .i64 0, .int .u64 0, .string ⟨#[]⟩, .slice none 0 0, .int .u64 0, .int .i64 0, .int .i64 0, .int .i64 0, .int .u64 0, .int .u64 0, .int .i64 0, .bool false, .slice none 0 0, .string ⟨#[]⟩, .slice none 0 0, .int .u64 0, .int .u64 0, .int .i64 0, .slice none 0 0, .int .i64 0, .int .i64 0]) := zH (HX2).out.x
   go_wp2_with (first | (refine wpList_load_row rfl 46 _ rfl (w.heap.size + 1) rfl 46 _ (0, 0) _ HXB.out Tryz.underlying46 rfl (by kernel_rfl) ?_) | (refine wpList_store_row rfl 46 _ _ rfl (w.heap.size + 1) _ rfl rfl 46 _ HXB.out (by kernel_rfl) rfl (by simp [Value.oneCell']) ?_))
   obtain ⟨hb, hbl⟩ := rj_done (HX2).out #[.int .i64 0, .int .u64 0, .string ⟨#[]⟩, .slice none 0 0, .int .u64 0, .int .i64 0, .int .i64 0, .int .i64 0, .int .u64 0, .int .u64 0, .int .i64 0, .bool false, .slice none 0 0, .string ⟨#[]⟩, .slice none 0 0, .int .u64 0, .int .u64 0, .int .i64 0, .slice none 0 0, .int .i64 0, .int .i64 0]
   have HRd := zH hbl
   clear hbl
   generalize World.setRow _ _ _ = W9 at hb HRd ⊢
   refine bodyPost_ret (v := .agg #[.int .i64 0, .int .u64 0, .string ⟨#[]⟩, .slice none 0 0, .int .u64 0, .int .i64 0, .int .i64 0, .int .i64 0, .int .u64 0, .int .u64 0, .int .i64 0, .bool false, .slice none 0 0, .string ⟨#[]⟩, .slice none 0 0, .int .u64 0, .int .u64 0, .int .i64 0, .slice none 0 0, .int .i64 0, .int .i64 0]) (results_cell_row rfl _ _ (w.heap.size + 1) 46 _ (0, 0) _ rfl hb Tryz.underlying46 rfl (by kernel_rfl)) rfl ?_
   exact ⟨.slice none 0 0, .slice none 0 0, by rw [HS.out]; rfl, by rw [HS.out]; exact Bts.nil _ _ _, by rw [HS.out]; exact Bts.nil _ _ _, HRd.out⟩
  ·have q3 : (o.kind == 3) = false := by simp [k]
   have q4 : (o.kind == 4) = false := by simp [k]
   have q5 : (o.kind == 5) = false := by simp [k]
   have q6 : (o.kind == 6) = true := by simp [k]
   have q11 : (o.kind == 11) = false := by simp [k]
   have q12 : (o.kind == 12) = false := by simp [k]
   clear k
   go_enter Tryz.func71, Tryz.ntmps71
   go_upto_region 1 with fail
   generalize World.alloc _ _ = W0 at HX ⊢
   refine wp_region_noPanic ?_
   refine wp_region_held_drew (S := fun W => RdJ w W B g gm gp us s its P o (.slice A n c) want0 (.slice none 0 0) (.slice none 0 0)) (by kernel_rfl) (HX.out.adv (zL _ _).drew) (fun hHeld => ?_)
   generalize W0.drew = W1 at hHeld ⊢
   have HX1 := zH hHeld
   refine Pl.go [0, 1, 2, 3, 4, 5, 6, 7] ?_
   iterate 8
    refine tkl (v := ?_) ?_ ?_
    rotate_left 1
    ·intro W hSw
     obtain ⟨z0, z1, z2, z3, z4, z5, z6, z7, z8⟩ := op9 hSw.box; obtain ⟨d0, d1, d2, d3, d4, d5, d6, d7, d8, d9, d10⟩ := hSw.rep.cells; have hlk := hSw.rep.lookI HK.out; rw [HPx.out] at hlk
     clear hSw
     go_simp
     try with_reducible rfl
    try dsimp only [zS, zB, zC]
   refine Pl.stop ?_
   refine wpAnyH_done (by kernel_rfl) ?_ _
   refine NoPanic.normal ?_
   clear hHeld HX
   obtain ⟨z0, z1, z2, z3, z4, z5, z6, z7, z8⟩ := op9 HX1.out.box
   have c11 : W1.cell? ⟨w.heap.size + 1, 11, none⟩ = some (.bool false) := HX1.out.x.cell 11 _ rfl
   have cf := HX1.out.x.frozen
   go_upto_region 8 with fail
   have HX2 : Hid (RdJ w (W1.setCell ⟨w.heap.size + 1, 11, none⟩ (.bool false)) B g gm gp us s its P o _ ⟨false, [], ent0, 0⟩ (.slice none 0 0) (.slice none 0 0)) := zH (RdJ.set1 HH.out HX1.out 11 (.bool false) rfl)
   clear z0 z1 z2 z3 z4 z5 z6 z7 z8 c11 cf
   generalize World.setCell _ _ _ = W2 at HX2 ⊢
   obtain ⟨z0, z1, z2, z3, z4, z5, z6, z7, z8⟩ := op9 HX2.out.box
   go_upto_region 18 with fail
   have HXB : Hid (Blk _ _ _ #[.int .i64 0, .int .u64 0, .string ⟨#[]⟩, .slice none 0 0, .int .u64 0, .int .i64 0, .int .i64 0, .int .i64 0, .int .u64 0, .int .u64 0, .int .i64 0, .bool false, .slice none 0 0, .string ⟨#[]⟩, .slice none 0 0, .int .u64 0, .int .u64 0, .int .i64 0, .slice none 0 0, .int .i64 0, .int .i64 0]) := zH (HX2).out.x
   go_wp2_with (first | (refine wpList_load_row rfl 46 _ rfl (w.heap.size + 1) rfl 46 _ (0, 0) _ HXB.out Tryz.underlying46 rfl (by kernel_rfl) ?_) | (refine wpList_store_row rfl 46 _ _ rfl (w.heap.size + 1) _ rfl rfl 46 _ HXB.out (by kernel_rfl) rfl (by simp [Value.oneCell']) ?_))
   obtain ⟨hb, hbl⟩ := rj_done (HX2).out #[.int .i64 0, .int .u64 0, .string ⟨#[]⟩, .slice none 0 0, .int .u64 0, .int .i64 0, .int .i64 0, .int .i64 0, .int .u64 0, .int .u64 0, .int .i64 0, .bool false, .slice none 0 0, .string ⟨#[]⟩, .slice none 0 0, .int .u64 0, .int .u64 0, .int .i64 0, .slice none 0 0, .int .i64 0, .int .i64 0]
   have HRd := zH hbl
   clear hbl
   generalize World.setRow _ _ _ = W9 at hb HRd ⊢
   refine bodyPost_ret (v := .agg #[.int .i64 0, .int .u64 0, .string ⟨#[]⟩, .slice none 0 0, .int .u64 0, .int .i64 0, .int .i64 0, .int .i64 0, .int .u64 0, .int .u64 0, .int .i64 0, .bool false, .slice none 0 0, .string ⟨#[]⟩, .slice none 0 0, .int .u64 0, .int .u64 0, .int .i64 0, .slice none 0 0, .int .i64 0, .int .i64 0]) (results_cell_row rfl _ _ (w.heap.size + 1) 46 _ (0, 0) _ rfl hb Tryz.underlying46 rfl (by kernel_rfl)) rfl ?_
   exact ⟨.slice none 0 0, .slice none 0 0, by rw [HS.out]; rfl, by rw [HS.out]; exact Bts.nil _ _ _, by rw [HS.out]; exact Bts.nil _ _ _, HRd.out⟩
 ·have HPx : Hid (((mget (its.map fun x => (x.e.key, x.b)) o.key).map fun b => (⟨b, 0, none⟩ : Addr)) = some ⟨x.b, 0, none⟩) := zH (by rw [h2]; rfl)
  rw [h1] at hS
  obtain ⟨VA, vc, hV⟩ := (h.vals x hx).form
  have HV := zH hV
  have HBv := zH (hV ▸ h.vals x hx)
  have HXm := zH hx
  clear h1 h2 h hv hk hkn hV hx
  rcases k3 with k | k | k | k
  ·have HS := zH (show readsP s o e = ⟨true, x.e.val, ent0, 0⟩ by rw [hS]; simp [want0, k])
   have q3 : (o.kind == 3) = true := by simp [k]
   have q4 : (o.kind == 4) = false := by simp [k]
   have q5 : (o.kind == 5) = false := by simp [k]
   have q6 : (o.kind == 6) = false := by simp [k]
   have q11 : (o.kind == 11) = false := by simp [k]
   have q12 : (o.kind == 12) = false := by simp [k]
   clear k hS
   go_enter Tryz.func71, Tryz.ntmps71
   go_upto_region 1 with fail
   generalize World.alloc _ _ = W0 at HX ⊢
   refine wp_region_noPanic ?_
   refine wp_region_held_drew (S := fun W => RdJ w W B g gm gp us s its P o (.slice A n c) want0 (.slice none 0 0) (.slice none 0 0)) (by kernel_rfl) (HX.out.adv (zL _ _).drew) (fun hHeld => ?_)
   generalize W0.drew = W1 at hHeld ⊢
   have HX1 := zH hHeld
   refine Pl.go [0, 1, 2, 3, 4, 5, 6, 7] ?_
   iterate 8
    refine tkl (v := ?_) ?_ ?_
    rotate_left 1
    ·intro W hSw
     obtain ⟨z0, z1, z2, z3, z4, z5, z6, z7, z8⟩ := op9 hSw.box; obtain ⟨d0, d1, d2, d3, d4, d5, d6, d7, d8, d9, d10⟩ := hSw.rep.cells; have hlk := hSw.rep.lookI HK.out; rw [HPx.out] at hlk
     clear hSw
     go_simp
     try with_reducible rfl
    try dsimp only [zS, zB, zC]
   refine Pl.stop ?_
   refine wpAnyH_done (by kernel_rfl) ?_ _
   refine NoPanic.normal ?_
   clear hHeld HX
   obtain ⟨z0, z1, z2, z3, z4, z5, z6, z7, z8⟩ := op9 HX1.out.box
   have c11 : W1.cell? ⟨w.heap.size + 1, 11, none⟩ = some (.bool false) := HX1.out.x.cell 11 _ rfl
   have cf := HX1.out.x.frozen
   go_upto_region 8 with fail
   have HX2 : Hid (RdJ w (W1.setCell ⟨w.heap.size + 1, 11, none⟩ (.bool true)) B g gm gp us s its P o _ ⟨true, [], ent0, 0⟩ (.slice none 0 0) (.slice none 0 0)) := zH (RdJ.set1 HH.out HX1.out 11 (.bool true) rfl)
   clear z0 z1 z2 z3 z4 z5 z6 z7 z8 c11 cf
   generalize World.setCell _ _ _ = W2 at HX2 ⊢
   obtain ⟨z0, z1, z2, z3, z4, z5, z6, z7, z8⟩ := op9 HX2.out.box
   have x1 := (HX2.out.rep.ib x HXm.out).cells.2.1
   rw [HV.out] at x1
   have c12 : W2.cell? ⟨w.heap.size + 1, 12, none⟩ = some (.slice none 0 0) := HX2.out.x.cell 12 _ rfl
   have cf := HX2.out.x.frozen
   go_upto_region 18 with fail
   have HX3 : Hid (RdJ w (W2.setCell ⟨w.heap.size + 1, 12, none⟩ (.slice VA x.e.val.length vc)) B g gm gp us s its P o _ ⟨true, [], ent0, 0⟩ (.slice VA x.e.val.length vc) (.slice none 0 0)) := zH (RdJ.set1 HH.out HX2.out 12 _ rfl)
   clear x1 c12 cf z0 z1 z2 z3 z4 z5 z6 z7 z8
   generalize World.setCell _ _ _ = W3 at HX3 ⊢
   have HXB : Hid (Blk _ _ _ #[.int .i64 0, .int .u64 0, .string ⟨#[]⟩, .slice none 0 0, .int .u64 0, .int .i64 0, .int .i64 0, .int .i64 0, .int .u64 0, .int .u64 0, .int .i64 0, .bool true, .slice VA x.e.val.length vc, .string ⟨#[]⟩, .slice none 0 0, .int .u64 0, .int .u64 0, .int .i64 0, .slice none 0 0, .int .i64 0, .int .i64 0]) := zH (HX3).out.x
   go_wp2_with (first | (refine wpList_load_row rfl 46 _ rfl (w.heap.size + 1) rfl 46 _ (0, 0) _ HXB.out Tryz.underlying46 rfl (by kernel_rfl) ?_) | (refine wpList_store_row rfl 46 _ _ rfl (w.heap.size + 1) _ rfl rfl 46 _ HXB.out (by kernel_rfl) rfl (by simp [Value.oneCell']) ?_))
   obtain ⟨hb, hbl⟩ := rj_done (HX3).out #[.int .i64 0, .int .u64 0, .string ⟨#[]⟩, .slice none 0 0, .int .u64 0, .int .i64 0, .int .i64 0, .int .i64 0, .int .u64 0, .int .u64 0, .int .i64 0, .bool true, .slice VA x.e.val.length vc, .string ⟨#[]⟩, .slice none 0 0, .int .u64 0, .int .u64 0, .int .i64 0, .slice none 0 0, .int .i64 0, .int .i64 0]
   have HRd := zH hbl
   clear hbl
   generalize World.setRow _ _ _ = W9 at hb HRd ⊢
   refine bodyPost_ret (v := .agg #[.int .i64 0, .int .u64 0, .string ⟨#[]⟩, .slice none 0 0, .int .u64 0, .int .i64 0, .int .i64 0, .int .i64 0, .int .u64 0, .int .u64 0, .int .i64 0, .bool true, .slice VA x.e.val.length vc, .string ⟨#[]⟩, .slice none 0 0, .int .u64 0, .int .u64 0, .int .i64 0, .slice none 0 0, .int .i64 0, .int .i64 0]) (results_cell_row rfl _ _ (w.heap.size + 1) 46 _ (0, 0) _ rfl hb Tryz.underlying46 rfl (by kernel_rfl)) rfl ?_
   exact ⟨.slice VA x.e.val.length vc, .slice none 0 0, by rw [HS.out]; rfl, by rw [HS.out]; exact (HBv.out.keep (KeepB.of_below HRd.out)), by rw [HS.out]; exact Bts.nil _ _ _, HRd.out⟩
  ·have HS := zH (show readsP s o e = ⟨true, [], x.e, 0⟩ by rw [hS]; simp [want0, k])
   have q3 : (o.kind == 3) = false := by simp [k]
   have q4 : (o.kind == 4) = true := by simp [k]
   have q5 : (o.kind == 5) = false := by simp [k]
   have q6 : (o.kind == 6) = false := by simp [k]
   have q11 : (o.kind == 11) = false := by simp [k]
   have q12 : (o.kind == 12) = false := by simp [k]
   clear k hS
   go_enter Tryz.func71, Tryz.ntmps71
   go_upto_region 1 with fail
   generalize World.alloc _ _ = W0 at HX ⊢
   refine wp_region_noPanic ?_
   refine wp_region_held_drew (S := fun W => RdJ w W B g gm gp us s its P o (.slice A n c) want0 (.slice none 0 0) (.slice none 0 0)) (by kernel_rfl) (HX.out.adv (zL _ _).drew) (fun hHeld => ?_)
   generalize W0.drew = W1 at hHeld ⊢
   have HX1 := zH hHeld
   refine Pl.go [0, 1, 2, 3, 4, 5, 6, 7] ?_
   iterate 8
    refine tkl (v := ?_) ?_ ?_
    rotate_left 1
    ·intro W hSw
     obtain ⟨z0, z1, z2, z3, z4, z5, z6, z7, z8⟩ := op9 hSw.box; obtain ⟨d0, d1, d2, d3, d4, d5, d6, d7, d8, d9, d10⟩ := hSw.rep.cells; have hlk := hSw.rep.lookI HK.out; rw [HPx.out] at hlk
     clear hSw
     go_simp
     try with_reducible rfl
    try dsimp only [zS, zB, zC]
   refine Pl.stop ?_
   refine wpAnyH_done (by kernel_rfl) ?_ _
   refine NoPanic.normal ?_
   clear hHeld HX
   obtain ⟨z0, z1, z2, z3, z4, z5, z6, z7, z8⟩ := op9 HX1.out.box
   have c11 : W1.cell? ⟨w.heap.size + 1, 11, none⟩ = some (.bool false) := HX1.out.x.cell 11 _ rfl
   have cf := HX1.out.x.frozen
   go_upto_region 8 with fail
   have HX2 : Hid (RdJ w (W1.setCell ⟨w.heap.size + 1, 11, none⟩ (.bool true)) B g gm gp us s its P o _ ⟨true, [], ent0, 0⟩ (.slice none 0 0) (.slice none 0 0)) := zH (RdJ.set1 HH.out HX1.out 11 (.bool true) rfl)
   clear z0 z1 z2 z3 z4 z5 z6 z7 z8 c11 cf
   generalize World.setCell _ _ _ = W2 at HX2 ⊢
   obtain ⟨z0, z1, z2, z3, z4, z5, z6, z7, z8⟩ := op9 HX2.out.box
   obtain ⟨x0, x1, x2, x3, -, -⟩ := (HX2.out.rep.ib x HXm.out).cells
   rw [HV.out] at x1
   have c13 : W2.cell? ⟨w.heap.size + 1, 13, none⟩ = some (.string ⟨#[]⟩) := HX2.out.x.cell 13 _ rfl
   have c14 : W2.cell? ⟨w.heap.size + 1, 14, none⟩ = some (.slice none 0 0) := HX2.out.x.cell 14 _ rfl
   have c15 : W2.cell? ⟨w.heap.size + 1, 15, none⟩ = some (.int .u64 0) := HX2.out.x.cell 15 _ rfl
   have c16 : W2.cell? ⟨w.heap.size + 1, 16, none⟩ = some (.int .u64 0) := HX2.out.x.cell 16 _ rfl
   have cf := HX2.out.x.frozen
   go_upto_region 18 with fail
   have HX3 := zH (RdJ.set4 HH.out HX2.out x.e (.slice VA x.e.val.length vc))
   clear x0 x1 x2 x3 c13 c14 c15 c16 cf z0 z1 z2 z3 z4 z5 z6 z7 z8
   generalize World.setCell _ _ _ = W3 at HX3 ⊢
   have HXB : Hid (Blk _ _ _ #[.int .i64 0, .int .u64 0, .string ⟨#[]⟩, .slice none 0 0, .int .u64 0, .int .i64 0, .int .i64 0, .int .i64 0, .int .u64 0, .int .u64 0, .int .i64 0, .bool true, .slice none 0 0, .string x.e.key, .slice VA x.e.val.length vc, .int .u64 x.e.dl, .int .u64 x.e.birth, .int .i64 0, .slice none 0 0, .int .i64 0, .int .i64 0]) := zH (HX3).out.x
   go_wp2_with (first | (refine wpList_load_row rfl 46 _ rfl (w.heap.size + 1) rfl 46 _ (0, 0) _ HXB.out Tryz.underlying46 rfl (by kernel_rfl) ?_) | (refine wpList_store_row rfl 46 _ _ rfl (w.heap.size + 1) _ rfl rfl 46 _ HXB.out (by kernel_rfl) rfl (by simp [Value.oneCell']) ?_))
   obtain ⟨hb, hbl⟩ := rj_done (HX3).out #[.int .i64 0, .int .u64 0, .string ⟨#[]⟩, .slice none 0 0, .int .u64 0, .int .i64 0, .int .i64 0, .int .i64 0, .int .u64 0, .int .u64 0, .int .i64 0, .bool true, .slice none 0 0, .string x.e.key, .slice VA x.e.val.length vc, .int .u64 x.e.dl, .int .u64 x.e.birth, .int .i64 0, .slice none 0 0, .int .i64 0, .int .i64 0]
   have HRd := zH hbl
   clear hbl
   generalize World.setRow _ _ _ = W9 at hb HRd ⊢
   refine bodyPost_ret (v := .agg #[.int .i64 0, .int .u64 0, .string ⟨#[]⟩, .slice none 0 0, .int .u64 0, .int .i64 0, .int .i64 0, .int .i64 0, .int .u64 0, .int .u64 0, .int .i64 0, .bool true, .slice none 0 0, .string x.e.key, .slice VA x.e.val.length vc, .int .u64 x.e.dl, .int .u64 x.e.birth, .int .i64 0, .slice none 0 0, .int .i64 0, .int .i64 0]) (results_cell_row rfl _ _ (w.heap.size + 1) 46 _ (0, 0) _ rfl hb Tryz.underlying46 rfl (by kernel_rfl)) rfl ?_
   exact ⟨.slice none 0 0, .slice VA x.e.val.length vc, by rw [HS.out]; rfl, by rw [HS.out]; exact Bts.nil _ _ _, by rw [HS.out]; exact (HBv.out.keep (KeepB.of_below HRd.out)), HRd.out⟩
  ·have HS := zH (show readsP s o e = ⟨true, [], ent0, 0⟩ by rw [hS]; simp [want0, k])
   have q3 : (o.kind == 3) = false := by simp [k]
   have q4 : (o.kind == 4) = false := by simp [k]
   have q5 : (o.kind == 5) = true := by simp [k]
   have q6 : (o.kind == 6) = false := by simp [k]
   have q11 : (o.kind == 11) = false := by simp [k]
   have q12 : (o.kind == 12) = false := by simp [k]
   clear k hS
   go_enter Tryz.func71, Tryz.ntmps71
   go_upto_region 1 with fail
   generalize World.alloc _ _ = W0 at HX ⊢
   refine wp_region_noPanic ?_
   refine wp_region_held_drew (S := fun W => RdJ w W B g gm gp us s its P o (.slice A n c) want0 (.slice none 0 0) (.slice none 0 0)) (by kernel_rfl) (HX.out.adv (zL _ _).drew) (fun hHeld => ?_)
   generalize W0.drew = W1 at hHeld ⊢
   have HX1 := zH hHeld
   refine Pl.go [0, 1, 2, 3, 4, 5, 6, 7] ?_
   iterate 8
    refine tkl (v := ?_) ?_ ?_
    rotate_left 1
    ·intro W hSw
     obtain ⟨z0, z1, z2, z3, z4, z5, z6, z7, z8⟩ := op9 hSw.box; obtain ⟨d0, d1, d2, d3, d4, d5, d6, d7, d8, d9, d10⟩ := hSw.rep.cells; have hlk := hSw.rep.lookI HK.out; rw [HPx.out] at hlk
     clear hSw
     go_simp
     try with_reducible rfl
    try dsimp only [zS, zB, zC]
   refine Pl.stop ?_
   refine wpAnyH_done (by kernel_rfl) ?_ _
   refine NoPanic.normal ?_
   clear hHeld HX
   obtain ⟨z0, z1, z2, z3, z4, z5, z6, z7, z8⟩ := op9 HX1.out.box
   have c11 : W1.cell? ⟨w.heap.size + 1, 11, none⟩ = some (.bool false) := HX1.out.x.cell 11 _ rfl
   have cf := HX1.out.x.frozen
   go_upto_region 8 with fail
   have HX2 : Hid (RdJ w (W1.setCell ⟨w.heap.size + 1, 11, none⟩ (.bool true)) B g gm gp us s its P o _ ⟨true, [], ent0, 0⟩ (.slice none 0 0) (.slice none 0 0)) := zH (RdJ.set1 HH.out HX1.out 11 (.bool true) rfl)
   clear z0 z1 z2 z3 z4 z5 z6 z7 z8 c11 cf
   generalize World.setCell _ _ _ = W2 at HX2 ⊢
   obtain ⟨z0, z1, z2, z3, z4, z5, z6, z7, z8⟩ := op9 HX2.out.box
   go_upto_region 18 with fail
   have HXB : Hid (Blk _ _ _ #[.int .i64 0, .int .u64 0, .string ⟨#[]⟩, .slice none 0 0, .int .u64 0, .int .i64 0, .int .i64 0, .int .i64 0, .int .u64 0, .int .u64 0, .int .i64 0, .bool true, .slice none 0 0, .string ⟨#[]⟩, .slice none 0 0, .int .u64 0, .int .u64 0, .int .i64 0, .slice none 0 0, .int .i64 0, .int .i64 0]) := zH (HX2).out.x
   go_wp2_with (first | (refine wpList_load_row rfl 46 _ rfl (w.heap.size + 1) rfl 46 _ (0, 0) _ HXB.out Tryz.underlying46 rfl (by kernel_rfl) ?_) | (refine wpList_store_row rfl 46 _ _ rfl (w.heap.size + 1) _ rfl rfl 46 _ HXB.out (by kernel_rfl) rfl (by simp [Value.oneCell']) ?_))
   obtain ⟨hb, hbl⟩ := rj_done (HX2).out #[.int .i64 0, .int .u64 0, .string ⟨#[]⟩, .slice none 0 0, .int .u64 0, .int .i64 0, .int .i64 0, .int .i64 0, .int .u64 0, .int .u64 0, .int .i64 0, .bool true, .slice none 0 0, .string ⟨#[]⟩, .slice none 0 0, .int .u64 0, .int .u64 0, .int .i64 0, .slice none 0 0, .int .i64 0, .int .i64 0]
   have HRd := zH hbl
   clear hbl
   generalize World.setRow _ _ _ = W9 at hb HRd ⊢
   refine bodyPost_ret (v := .agg #[.int .i64 0, .int .u64 0, .string ⟨#[]⟩, .slice none 0 0, .int .u64 0, .int .i64 0, .int .i64 0, .int .i64 0, .int .u64 0, .int .u64 0, .int .i64 0, .bool true, .slice none 0 0, .string ⟨#[]⟩, .slice none 0 0, .int .u64 0, .int .u64 0, .int .i64 0, .slice none 0 0, .int .i64 0, .int .i64 0]) (results_cell_row rfl _ _ (w.heap.size + 1) 46 _ (0, 0) _ rfl hb Tryz.underlying46 rfl (by kernel_rfl)) rfl ?_
   exact ⟨.slice none 0 0, .slice none 0 0, by rw [HS.out]; rfl, by rw [HS.out]; exact Bts.nil _ _ _, by rw [HS.out]; exact Bts.nil _ _ _, HRd.out⟩
  ·have HS := zH (show readsP s o e = ⟨true, [], ent0, 0⟩ by rw [hS]; simp [want0, k])
   have q3 : (o.kind == 3) = false := by simp [k]
   have q4 : (o.kind == 4) = false := by simp [k]
   have q5 : (o.kind == 5) = false := by simp [k]
   have q6 : (o.kind == 6) = true := by simp [k]
   have q11 : (o.kind == 11) = false := by simp [k]
   have q12 : (o.kind == 12) = false := by simp [k]
   clear k hS
   go_enter Tryz.func71, Tryz.ntmps71
   go_upto_region 1 with fail
   generalize World.alloc _ _ = W0 at HX ⊢
   refine wp_region_noPanic ?_
   refine wp_region_held_drew (S := fun W => RdJ w W B g gm gp us s its P o (.slice A n c) want0 (.slice none 0 0) (.slice none 0 0)) (by kernel_rfl) (HX.out.adv (zL _ _).drew) (fun hHeld => ?_)
   generalize W0.drew = W1 at hHeld ⊢
   have HX1 := zH hHeld
   refine Pl.go [0, 1, 2, 3, 4, 5, 6, 7] ?_
   iterate 8
    refine tkl (v := ?_) ?_ ?_
    rotate_left 1
    ·intro W hSw
     obtain ⟨z0, z1, z2, z3, z4, z5, z6, z7, z8⟩ := op9 hSw.box; obtain ⟨d0, d1, d2, d3, d4, d5, d6, d7, d8, d9, d10⟩ := hSw.rep.cells; have hlk := hSw.rep.lookI HK.out; rw [HPx.out] at hlk
     clear hSw
     go_simp
     try with_reducible rfl
    try dsimp only [zS, zB, zC]
   refine Pl.stop ?_
   refine wpAnyH_done (by kernel_rfl) ?_ _
   refine NoPanic.normal ?_
   clear hHeld HX
   obtain ⟨z0, z1, z2, z3, z4, z5, z6, z7, z8⟩ := op9 HX1.out.box
   have c11 : W1.cell? ⟨w.heap.size + 1, 11, none⟩ = some (.bool false) := HX1.out.x.cell 11 _ rfl
   have cf := HX1.out.x.frozen
   go_upto_region 8 with fail
   have HX2 : Hid (RdJ w (W1.setCell ⟨w.heap.size + 1, 11, none⟩ (.bool true)) B g gm gp us s its P o _ ⟨true, [], ent0, 0⟩ (.slice none 0 0) (.slice none 0 0)) := zH (RdJ.set1 HH.out HX1.out 11 (.bool true) rfl)
   clear z0 z1 z2 z3 z4 z5 z6 z7 z8 c11 cf
   generalize World.setCell _ _ _ = W2 at HX2 ⊢
   obtain ⟨z0, z1, z2, z3, z4, z5, z6, z7, z8⟩ := op9 HX2.out.box
   go_upto_region 18 with fail
   have HXB : Hid (Blk _ _ _ #[.int .i64 0, .int .u64 0, .string ⟨#[]⟩, .slice none 0 0, .int .u64 0, .int .i64 0, .int .i64 0, .int .i64 0, .int .u64 0, .int .u64 0, .int .i64 0, .bool true, .slice none 0 0, .string ⟨#[]⟩, .slice none 0 0, .int .u64 0, .int .u64 0, .int .i64 0, .slice none 0 0, .int .i64 0, .int .i64 0]) := zH (HX2).out.x
   go_wp2_with (first | (refine wpList_load_row rfl 46 _ rfl (w.heap.size + 1) rfl 46 _ (0, 0) _ HXB.out Tryz.underlying46 rfl (by kernel_rfl) ?_) | (refine wpList_store_row rfl 46 _ _ rfl (w.heap.size + 1) _ rfl rfl 46 _ HXB.out (by kernel_rfl) rfl (by simp [Value.oneCell']) ?_))
   obtain ⟨hb, hbl⟩ := rj_done (HX2).out #[.int .i64 0, .int .u64 0, .string ⟨#[]⟩, .slice none 0 0, .int .u64 0, .int .i64 0, .int .i64 0, .int .i64 0, .int .u64 0, .int .u64 0, .int .i64 0, .bool true, .slice none 0 0, .string ⟨#[]⟩, .slice none 0 0, .int .u64 0, .int .u64 0, .int .i64 0, .slice none 0 0, .int .i64 0, .int .i64 0]
   have HRd := zH hbl
   clear hbl
   generalize World.setRow _ _ _ = W9 at hb HRd ⊢
   refine bodyPost_ret (v := .agg #[.int .i64 0, .int .u64 0, .string ⟨#[]⟩, .slice none 0 0, .int .u64 0, .int .i64 0, .int .i64 0, .int .i64 0, .int .u64 0, .int .u64 0, .int .i64 0, .bool true, .slice none 0 0, .string ⟨#[]⟩, .slice none 0 0, .int .u64 0, .int .u64 0, .int .i64 0, .slice none 0 0, .int .i64 0, .int .i64 0]) (results_cell_row rfl _ _ (w.heap.size + 1) 46 _ (0, 0) _ rfl hb Tryz.underlying46 rfl (by kernel_rfl)) rfl ?_
   exact ⟨.slice none 0 0, .slice none 0 0, by rw [HS.out]; rfl, by rw [HS.out]; exact Bts.nil _ _ _, by rw [HS.out]; exact Bts.nil _ _ _, HRd.out⟩
end Go.Proofs.YtnabbimompapfaaGreat
namespace Go.Proofs.YtnabbimompapfaaGreat
open Go Go.RowKit Go.MapKept Go.Maps
set_option maxHeartbeats 4000000 in
set_option maxRecDepth 100000 in
theorem reads_none (B Bv g gm gp : Nat) (us : Int) (s : PJ) (its : List It) (P : List (Int × Int)) (o : OpV) (V : Value) (e : Int) (w : World) (h : JRep w B g gm gp us s its P) (hv : Bts w Bv 5 V o.val) (hk : o.key.size ≤ maxLen)
  (k3 : ¬(o.kind = 3 ∨ o.kind = 4 ∨ o.kind = 5 ∨ o.kind = 6)) (hn : ¬((o.kind = 11 ∨ o.kind = 12) ∧ e = 0)) :
  Calls Tryz.prog 71 #[.pointer (some ⟨g, 0, none⟩), opv o V, .int .i64 e] w (RdsE B (readsP s o e) w) := by
 have HH := zH h
 obtain ⟨A, n, c, rfl⟩ : ∃ A n c, V = .slice A n c := by obtain ⟨A, c, e⟩ := hv.form; exact ⟨A, _, c, e⟩
 have HX : Hid (RdJ w ((w.alloc (.cells (opc o (.slice A n c)) 43)).alloc (.cells (wantc want0 (.slice none 0 0) (.slice none 0 0)) 46)) B g gm gp us s its P o (.slice A n c) want0 (.slice none 0 0) (.slice none 0 0)) :=
  zH ⟨h.below (((zL _ _).alloc (zN _) _).alloc (by simp) _), (Blk.new _ _ _).alloc _, Blk.new2 _ _ _ _, ((zL _ _).alloc (zN _) _).alloc (by simp) _⟩
 unfold opv
 unfold opc wantc want0 ent0 at HX
 unfold opc
 dsimp only at HX
 have HK := zH hk
 obtain ⟨px, hpx⟩ : ∃ px, ((mget (its.map fun x => (x.e.key, x.b)) o.key).map fun b => (⟨b, 0, none⟩ : Addr)) = px := ⟨_, rfl⟩
 have HPx := zH hpx
 clear hpx
 have HS := zH (show readsP s o e = ⟨false, [], ent0, 0⟩ by unfold readsP; rw [if_neg k3, if_neg (by omega), if_neg (by omega)]; rfl)
 have q3 : (o.kind == 3) = false := by rw [beq_eq_false_iff_ne]; omega
 have q4 : (o.kind == 4) = false := by rw [beq_eq_false_iff_ne]; omega
 have q5 : (o.kind == 5) = false := by rw [beq_eq_false_iff_ne]; omega
 have q6 : (o.kind == 6) = false := by rw [beq_eq_false_iff_ne]; omega
 clear h hv hk
 by_cases k11 : o.kind = 11
 ·have q11 : (o.kind == 11) = true := by simp [k11]
  have q12 : (o.kind == 12) = false := by simp [k11]
  have qe : (e == 0) = false := by rw [beq_eq_false_iff_ne]; omega
  clear k3 hn k11
  go_enter Tryz.func71, Tryz.ntmps71
  go_upto_region 1 with fail
  generalize World.alloc _ _ = W0 at HX ⊢
  refine wp_region_noPanic ?_
  refine wp_region_held_drew (S := fun W => RdJ w W B g gm gp us s its P o (.slice A n c) want0 (.slice none 0 0) (.slice none 0 0)) (by kernel_rfl) (HX.out.adv (zL _ _).drew) (fun hHeld => ?_)
  generalize W0.drew = W1 at hHeld ⊢
  have HX1 := zH hHeld
  refine Pl.go [0, 1, 2, 3, 4, 5, 6, 7] ?_
  iterate 8
   refine tkl (v := ?_) ?_ ?_
   rotate_left 1
   ·intro W hSw
    obtain ⟨z0, z1, z2, z3, z4, z5, z6, z7, z8⟩ := op9 hSw.box; obtain ⟨d0, d1, d2, d3, d4, d5, d6, d7, d8, d9, d10⟩ := hSw.rep.cells; have hlk := hSw.rep.lookI HK.out; rw [HPx.out] at hlk
    clear hSw
    go_simp
    try with_reducible rfl
   try dsimp only [zS, zB, zC]
  refine Pl.stop ?_
  refine wpAnyH_done (by kernel_rfl) ?_ _
  refine NoPanic.normal ?_
  clear hHeld HX
  obtain ⟨z0, z1, z2, z3, z4, z5, z6, z7, z8⟩ := op9 HX1.out.box
  go_upto_region 18 with fail
  have HXB : Hid (Blk _ _ _ #[.int .i64 0, .int .u64 0, .string ⟨#[]⟩, .slice none 0 0, .int .u64 0, .int .i64 0, .int .i64 0, .int .i64 0, .int .u64 0, .int .u64 0, .int .i64 0, .bool false, .slice none 0 0, .string ⟨#[]⟩, .slice none 0 0, .int .u64 0, .int .u64 0, .int .i64 0, .slice none 0 0, .int .i64 0, .int .i64 0]) := zH (HX1).out.x
  go_wp2_with (first | (refine wpList_load_row rfl 46 _ rfl (w.heap.size + 1) rfl 46 _ (0, 0) _ HXB.out Tryz.underlying46 rfl (by kernel_rfl) ?_) | (refine wpList_store_row rfl 46 _ _ rfl (w.heap.size + 1) _ rfl rfl 46 _ HXB.out (by kernel_rfl) rfl (by simp [Value.oneCell']) ?_))
  obtain ⟨hb, hbl⟩ := rj_done (HX1).out #[.int .i64 0, .int .u64 0, .string ⟨#[]⟩, .slice none 0 0, .int .u64 0, .int .i64 0, .int .i64 0, .int .i64 0, .int .u64 0, .int .u64 0, .int .i64 0, .bool false, .slice none 0 0, .string ⟨#[]⟩, .slice none 0 0, .int .u64 0, .int .u64 0, .int .i64 0, .slice none 0 0, .int .i64 0, .int .i64 0]
  have HRd := zH hbl
  clear hbl
  generalize World.setRow _ _ _ = W9 at hb HRd ⊢
  refine bodyPost_ret (v := .agg #[.int .i64 0, .int .u64 0, .string ⟨#[]⟩, .slice none 0 0, .int .u64 0, .int .i64 0, .int .i64 0, .int .i64 0, .int .u64 0, .int .u64 0, .int .i64 0, .bool false, .slice none 0 0, .string ⟨#[]⟩, .slice none 0 0, .int .u64 0, .int .u64 0, .int .i64 0, .slice none 0 0, .int .i64 0, .int .i64 0]) (results_cell_row rfl _ _ (w.heap.size + 1) 46 _ (0, 0) _ rfl hb Tryz.underlying46 rfl (by kernel_rfl)) rfl ?_
  exact ⟨.slice none 0 0, .slice none 0 0, by rw [HS.out]; rfl, by rw [HS.out]; exact Bts.nil _ _ _, by rw [HS.out]; exact Bts.nil _ _ _, HRd.out⟩
 ·have q11 : (o.kind == 11) = false := by simp [k11]
  by_cases k12 : o.kind = 12
  ·have q12 : (o.kind == 12) = true := by simp [k12]
   have qe : (e == 0) = false := by rw [beq_eq_false_iff_ne]; omega
   clear k3 hn k11 k12
   go_enter Tryz.func71, Tryz.ntmps71
   go_upto_region 1 with fail
   generalize World.alloc _ _ = W0 at HX ⊢
   refine wp_region_noPanic ?_
   refine wp_region_held_drew (S := fun W => RdJ w W B g gm gp us s its P o (.slice A n c) want0 (.slice none 0 0) (.slice none 0 0)) (by kernel_rfl) (HX.out.adv (zL _ _).drew) (fun hHeld => ?_)
   generalize W0.drew = W1 at hHeld ⊢
   have HX1 := zH hHeld
   refine Pl.go [0, 1, 2, 3, 4, 5, 6, 7] ?_
   iterate 8
    refine tkl (v := ?_) ?_ ?_
    rotate_left 1
    ·intro W hSw
     obtain ⟨z0, z1, z2, z3, z4, z5, z6, z7, z8⟩ := op9 hSw.box; obtain ⟨d0, d1, d2, d3, d4, d5, d6, d7, d8, d9, d10⟩ := hSw.rep.cells; have hlk := hSw.rep.lookI HK.out; rw [HPx.out] at hlk
     clear hSw
     go_simp
     try with_reducible rfl
    try dsimp only [zS, zB, zC]
   refine Pl.stop ?_
   refine wpAnyH_done (by kernel_rfl) ?_ _
   refine NoPanic.normal ?_
   clear hHeld HX
   obtain ⟨z0, z1, z2, z3, z4, z5, z6, z7, z8⟩ := op9 HX1.out.box
   go_upto_region 18 with fail
   have HXB : Hid (Blk _ _ _ #[.int .i64 0, .int .u64 0, .string ⟨#[]⟩, .slice none 0 0, .int .u64 0, .int .i64 0, .int .i64 0, .int .i64 0, .int .u64 0, .int .u64 0, .int .i64 0, .bool false, .slice none 0 0, .string ⟨#[]⟩, .slice none 0 0, .int .u64 0, .int .u64 0, .int .i64 0, .slice none 0 0, .int .i64 0, .int .i64 0]) := zH (HX1).out.x
   go_wp2_with (first | (refine wpList_load_row rfl 46 _ rfl (w.heap.size + 1) rfl 46 _ (0, 0) _ HXB.out Tryz.underlying46 rfl (by kernel_rfl) ?_) | (refine wpList_store_row rfl 46 _ _ rfl (w.heap.size + 1) _ rfl rfl 46 _ HXB.out (by kernel_rfl) rfl (by simp [Value.oneCell']) ?_))
   obtain ⟨hb, hbl⟩ := rj_done (HX1).out #[.int .i64 0, .int .u64 0, .string ⟨#[]⟩, .slice none 0 0, .int .u64 0, .int .i64 0, .int .i64 0, .int .i64 0, .int .u64 0, .int .u64 0, .int .i64 0, .bool false, .slice none 0 0, .string ⟨#[]⟩, .slice none 0 0, .int .u64 0, .int .u64 0, .int .i64 0, .slice none 0 0, .int .i64 0, .int .i64 0]
   have HRd := zH hbl
   clear hbl
   generalize World.setRow _ _ _ = W9 at hb HRd ⊢
   refine bodyPost_ret (v := .agg #[.int .i64 0, .int .u64 0, .string ⟨#[]⟩, .slice none 0 0, .int .u64 0, .int .i64 0, .int .i64 0, .int .i64 0, .int .u64 0, .int .u64 0, .int .i64 0, .bool false, .slice none 0 0, .string ⟨#[]⟩, .slice none 0 0, .int .u64 0, .int .u64 0, .int .i64 0, .slice none 0 0, .int .i64 0, .int .i64 0]) (results_cell_row rfl _ _ (w.heap.size + 1) 46 _ (0, 0) _ rfl hb Tryz.underlying46 rfl (by kernel_rfl)) rfl ?_
   exact ⟨.slice none 0 0, .slice none 0 0, by rw [HS.out]; rfl, by rw [HS.out]; exact Bts.nil _ _ _, by rw [HS.out]; exact Bts.nil _ _ _, HRd.out⟩
  ·have q12 : (o.kind == 12) = false := by simp [k12]
   clear k3 hn k11 k12
   go_enter Tryz.func71, Tryz.ntmps71
   go_upto_region 1 with fail
   generalize World.alloc _ _ = W0 at HX ⊢
   refine wp_region_noPanic ?_
   refine wp_region_held_drew (S := fun W => RdJ w W B g gm gp us s its P o (.slice A n c) want0 (.slice none 0 0) (.slice none 0 0)) (by kernel_rfl) (HX.out.adv (zL _ _).drew) (fun hHeld => ?_)
   generalize W0.drew = W1 at hHeld ⊢
   have HX1 := zH hHeld
   refine Pl.go [0, 1, 2, 3, 4, 5, 6, 7] ?_
   iterate 8
    refine tkl (v := ?_) ?_ ?_
    rotate_left 1
    ·intro W hSw
     obtain ⟨z0, z1, z2, z3, z4, z5, z6, z7, z8⟩ := op9 hSw.box; obtain ⟨d0, d1, d2, d3, d4, d5, d6, d7, d8, d9, d10⟩ := hSw.rep.cells; have hlk := hSw.rep.lookI HK.out; rw [HPx.out] at hlk
     clear hSw
     go_simp
     try with_reducible rfl
    try dsimp only [zS, zB, zC]
   refine Pl.stop ?_
   refine wpAnyH_done (by kernel_rfl) ?_ _
   refine NoPanic.normal ?_
   clear hHeld HX
   obtain ⟨z0, z1, z2, z3, z4, z5, z6, z7, z8⟩ := op9 HX1.out.box
   go_upto_region 18 with fail
   have HXB : Hid (Blk _ _ _ #[.int .i64 0, .int .u64 0, .string ⟨#[]⟩, .slice none 0 0, .int .u64 0, .int .i64 0, .int .i64 0, .int .i64 0, .int .u64 0, .int .u64 0, .int .i64 0, .bool false, .slice none 0 0, .string ⟨#[]⟩, .slice none 0 0, .int .u64 0, .int .u64 0, .int .i64 0, .slice none 0 0, .int .i64 0, .int .i64 0]) := zH (HX1).out.x
   go_wp2_with (first | (refine wpList_load_row rfl 46 _ rfl (w.heap.size + 1) rfl 46 _ (0, 0) _ HXB.out Tryz.underlying46 rfl (by kernel_rfl) ?_) | (refine wpList_store_row rfl 46 _ _ rfl (w.heap.size + 1) _ rfl rfl 46 _ HXB.out (by kernel_rfl) rfl (by simp [Value.oneCell']) ?_))
   obtain ⟨hb, hbl⟩ := rj_done (HX1).out #[.int .i64 0, .int .u64 0, .string ⟨#[]⟩, .slice none 0 0, .int .u64 0, .int .i64 0, .int .i64 0, .int .i64 0, .int .u64 0, .int .u64 0, .int .i64 0, .bool false, .slice none 0 0, .string ⟨#[]⟩, .slice none 0 0, .int .u64 0, .int .u64 0, .int .i64 0, .slice none 0 0, .int .i64 0, .int .i64 0]
   have HRd := zH hbl
   clear hbl
   generalize World.setRow _ _ _ = W9 at hb HRd ⊢
   refine bodyPost_ret (v := .agg #[.int .i64 0, .int .u64 0, .string ⟨#[]⟩, .slice none 0 0, .int .u64 0, .int .i64 0, .int .i64 0, .int .i64 0, .int .u64 0, .int .u64 0, .int .i64 0, .bool false, .slice none 0 0, .string ⟨#[]⟩, .slice none 0 0, .int .u64 0, .int .u64 0, .int .i64 0, .slice none 0 0, .int .i64 0, .int .i64 0]) (results_cell_row rfl _ _ (w.heap.size + 1) 46 _ (0, 0) _ rfl hb Tryz.underlying46 rfl (by kernel_rfl)) rfl ?_
   exact ⟨.slice none 0 0, .slice none 0 0, by rw [HS.out]; rfl, by rw [HS.out]; exact Bts.nil _ _ _, by rw [HS.out]; exact Bts.nil _ _ _, HRd.out⟩
set_option maxHeartbeats 4000000 in
set_option maxRecDepth 100000 in
theorem reads_open (B Bv g gm gp : Nat) (us : Int) (s : PJ) (its : List It) (P : List (Int × Int)) (o : OpV) (V : Value) (w : World) (h : JRep w B g gm gp us s its P) (hv : Bts w Bv 5 V o.val) (hk : o.key.size ≤ maxLen)
  (hkd : o.kind = 11) (hp : s.pl.length = 64) :
  Calls Tryz.prog 71 #[.pointer (some ⟨g, 0, none⟩), opv o V, .int .i64 0] w (RdsE B (readsP s o 0) w) := by
 have HH := zH h
 obtain ⟨A, n, c, rfl⟩ : ∃ A n c, V = .slice A n c := by obtain ⟨A, c, e⟩ := hv.form; exact ⟨A, _, c, e⟩
 have HX : Hid (RdJ w ((w.alloc (.cells (opc o (.slice A n c)) 43)).alloc (.cells (wantc want0 (.slice none 0 0) (.slice none 0 0)) 46)) B g gm gp us s its P o (.slice A n c) want0 (.slice none 0 0) (.slice none 0 0)) :=
  zH ⟨h.below (((zL _ _).alloc (zN _) _).alloc (by simp) _), (Blk.new _ _ _).alloc _, Blk.new2 _ _ _ _, ((zL _ _).alloc (zN _) _).alloc (by simp) _⟩
 unfold opv
 unfold opc wantc want0 ent0 at HX
 unfold opc
 dsimp only at HX
 have HK := zH hk
 obtain ⟨px, hpx⟩ : ∃ px, ((mget (its.map fun x => (x.e.key, x.b)) o.key).map fun b => (⟨b, 0, none⟩ : Addr)) = px := ⟨_, rfl⟩
 have HPx := zH hpx
 clear hpx
 have HS := zH (show readsP s o 0 = ⟨false, [], ent0, freeP s.pl⟩ by unfold readsP; rw [if_neg (by omega), if_pos ⟨hkd, rfl⟩]; rfl)
 have q3 : (o.kind == 3) = false := by simp [hkd]
 have q4 : (o.kind == 4) = false := by simp [hkd]
 have q5 : (o.kind == 5) = false := by simp [hkd]
 have q6 : (o.kind == 6) = false := by simp [hkd]
 have q11 : (o.kind == 11) = true := by simp [hkd]
 have q12 : (o.kind == 12) = false := by simp [hkd]
 have HP := zH hp
 clear h hv hk hkd hp
 go_enter Tryz.func71, Tryz.ntmps71
 go_upto_region 1 with fail
 generalize World.alloc _ _ = W0 at HX ⊢
 refine wp_region_noPanic ?_
 refine wp_region_held_drew (S := fun W => RdJ w W B g gm gp us s its P o (.slice A n c) want0 (.slice none 0 0) (.slice none 0 0)) (by kernel_rfl) (HX.out.adv (zL _ _).drew) (fun hHeld => ?_)
 generalize W0.drew = W1 at hHeld ⊢
 have HX1 := zH hHeld
 refine Pl.go [0, 1, 2, 3, 4, 5, 6, 7] ?_
 iterate 8
  refine tkl (v := ?_) ?_ ?_
  rotate_left 1
  ·intro W hSw
   obtain ⟨z0, z1, z2, z3, z4, z5, z6, z7, z8⟩ := op9 hSw.box; obtain ⟨d0, d1, d2, d3, d4, d5, d6, d7, d8, d9, d10⟩ := hSw.rep.cells; have hlk := hSw.rep.lookI HK.out; rw [HPx.out] at hlk
   clear hSw
   go_simp
   try with_reducible rfl
  try dsimp only [zS, zB, zC]
 refine Pl.stop ?_
 refine wpAnyH_done (by kernel_rfl) ?_ _
 refine NoPanic.normal ?_
 clear hHeld HX
 obtain ⟨z0, z1, z2, z3, z4, z5, z6, z7, z8⟩ := op9 HX1.out.box
 go_wp2_with fail
 refine (free_any B g gm gp us s its P W1 HX1.out.rep HP.out).mono ?_
 rintro e2 w4 ⟨rfl, hw4⟩
 subst hw4
 have c17 : W1.cell? ⟨w.heap.size + 1, 17, none⟩ = some (.int .i64 0) := HX1.out.x.cell 17 _ rfl
 have cf := HX1.out.x.frozen
 go_upto_region 18 with fail
 have HX3 : Hid (RdJ w (W1.setCell ⟨w.heap.size + 1, 17, none⟩ (.int .i64 (freeP s.pl : Int))) B g gm gp us s its P o _ ⟨false, [], ent0, freeP s.pl⟩ (.slice none 0 0) (.slice none 0 0)) := zH (RdJ.set1 HH.out HX1.out 17 _ rfl)
 clear c17 cf z0 z1 z2 z3 z4 z5 z6 z7 z8
 generalize World.setCell _ _ _ = W3 at HX3 ⊢
 have HXB : Hid (Blk _ _ _ #[.int .i64 0, .int .u64 0, .string ⟨#[]⟩, .slice none 0 0, .int .u64 0, .int .i64 0, .int .i64 0, .int .i64 0, .int .u64 0, .int .u64 0, .int .i64 0, .bool false, .slice none 0 0, .string ⟨#[]⟩, .slice none 0 0, .int .u64 0, .int .u64 0, .int .i64 (freeP s.pl : Int), .slice none 0 0, .int .i64 0, .int .i64 0]) := zH (HX3).out.x
 go_wp2_with (first | (refine wpList_load_row rfl 46 _ rfl (w.heap.size + 1) rfl 46 _ (0, 0) _ HXB.out Tryz.underlying46 rfl (by kernel_rfl) ?_) | (refine wpList_store_row rfl 46 _ _ rfl (w.heap.size + 1) _ rfl rfl 46 _ HXB.out (by kernel_rfl) rfl (by simp [Value.oneCell']) ?_))
 obtain ⟨hb, hbl⟩ := rj_done (HX3).out #[.int .i64 0, .int .u64 0, .string ⟨#[]⟩, .slice none 0 0, .int .u64 0, .int .i64 0, .int .i64 0, .int .i64 0, .int .u64 0, .int .u64 0, .int .i64 0, .bool false, .slice none 0 0, .string ⟨#[]⟩, .slice none 0 0, .int .u64 0, .int .u64 0, .int .i64 (freeP s.pl : Int), .slice none 0 0, .int .i64 0, .int .i64 0]
 have HRd := zH hbl
 clear hbl
 generalize World.setRow _ _ _ = W9 at hb HRd ⊢
 refine bodyPost_ret (v := .agg #[.int .i64 0, .int .u64 0, .string ⟨#[]⟩, .slice none 0 0, .int .u64 0, .int .i64 0, .int .i64 0, .int .i64 0, .int .u64 0, .int .u64 0, .int .i64 0, .bool false, .slice none 0 0, .string ⟨#[]⟩, .slice none 0 0, .int .u64 0, .int .u64 0, .int .i64 (freeP s.pl : Int), .slice none 0 0, .int .i64 0, .int .i64 0]) (results_cell_row rfl _ _ (w.heap.size + 1) 46 _ (0, 0) _ rfl hb Tryz.underlying46 rfl (by kernel_rfl)) rfl ?_
 exact ⟨.slice none 0 0, .slice none 0 0, by rw [HS.out]; rfl, by rw [HS.out]; exact Bts.nil _ _ _, by rw [HS.out]; exact Bts.nil _ _ _, HRd.out⟩
set_option maxHeartbeats 4000000 in
set_option maxRecDepth 100000 in
theorem reads_next (B Bv g gm gp : Nat) (us : Int) (s : PJ) (its : List It) (P : List (Int × Int)) (o : OpV) (V : Value) (b : Int) (y : EntV) (w : World) (h : JRep w B g gm gp us s its P) (hv : Bts w Bv 5 V o.val) (hk : o.key.size ≤ maxLen)
  (hkd : o.kind = 12) (hc : -9223372036854775808 ≤ o.cursor ∧ o.cursor ≤ 9223372036854775807) (hop : openP s.pl o.cursor = some b) (hy : afterP s.L b s.now = some y) (hlen : its.length ≤ 1000000) (hasc : (s.L.map EntV.birth).Pairwise (· < ·)) :
  Calls Tryz.prog 71 #[.pointer (some ⟨g, 0, none⟩), opv o V, .int .i64 0] w (RdsE B (readsP s o 0) w) := by
 have HH := zH h
 obtain ⟨A, n, c, rfl⟩ : ∃ A n c, V = .slice A n c := by obtain ⟨A, c, e⟩ := hv.form; exact ⟨A, _, c, e⟩
 have HX : Hid (RdJ w ((w.alloc (.cells (opc o (.slice A n c)) 43)).alloc (.cells (wantc want0 (.slice none 0 0) (.slice none 0 0)) 46)) B g gm gp us s its P o (.slice A n c) want0 (.slice none 0 0) (.slice none 0 0)) :=
  zH ⟨h.below (((zL _ _).alloc (zN _) _).alloc (by simp) _), (Blk.new _ _ _).alloc _, Blk.new2 _ _ _ _, ((zL _ _).alloc (zN _) _).alloc (by simp) _⟩
 unfold opv
 unfold opc wantc want0 ent0 at HX
 unfold opc
 dsimp only at HX
 have HK := zH hk
 obtain ⟨px, hpx⟩ : ∃ px, ((mget (its.map fun x => (x.e.key, x.b)) o.key).map fun b => (⟨b, 0, none⟩ : Addr)) = px := ⟨_, rfl⟩
 have HPx := zH hpx
 clear hpx
 have HS := zH (show readsP s o 0 = ⟨false, [], y, 0⟩ by unfold readsP; rw [if_neg (by omega), if_neg (by omega), if_pos ⟨hkd, rfl⟩, hop]; dsimp only; rw [hy]; rfl)
 have q3 : (o.kind == 3) = false := by simp [hkd]
 have q4 : (o.kind == 4) = false := by simp [hkd]
 have q5 : (o.kind == 5) = false := by simp [hkd]
 have q6 : (o.kind == 6) = false := by simp [hkd]
 have q11 : (o.kind == 11) = false := by simp [hkd]
 have q12 : (o.kind == 12) = true := by simp [hkd]
 have HC := zH hc
 have HOp := zH hop
 have HY := zH hy
 have HLe := zH hlen
 have HA := zH hasc
 clear h hv hk hkd hc hop hy hlen hasc
 go_enter Tryz.func71, Tryz.ntmps71
 go_upto_region 1 with fail
 generalize World.alloc _ _ = W0 at HX ⊢
 refine wp_region_noPanic ?_
 refine wp_region_held_drew (S := fun W => RdJ w W B g gm gp us s its P o (.slice A n c) want0 (.slice none 0 0) (.slice none 0 0)) (by kernel_rfl) (HX.out.adv (zL _ _).drew) (fun hHeld => ?_)
 generalize W0.drew = W1 at hHeld ⊢
 have HX1 := zH hHeld
 refine Pl.go [0, 1, 2, 3, 4, 5, 6, 7] ?_
 iterate 8
  refine tkl (v := ?_) ?_ ?_
  rotate_left 1
  ·intro W hSw
   obtain ⟨z0, z1, z2, z3, z4, z5, z6, z7, z8⟩ := op9 hSw.box; obtain ⟨d0, d1, d2, d3, d4, d5, d6, d7, d8, d9, d10⟩ := hSw.rep.cells; have hlk := hSw.rep.lookI HK.out; rw [HPx.out] at hlk
   clear hSw
   go_simp
   try with_reducible rfl
  try dsimp only [zS, zB, zC]
 refine Pl.stop ?_
 refine wpAnyH_done (by kernel_rfl) ?_ _
 refine NoPanic.normal ?_
 clear hHeld HX
 obtain ⟨z0, z1, z2, z3, z4, z5, z6, z7, z8⟩ := op9 HX1.out.box
 go_upto_region 17 with fail
 clear z0 z1 z2 z3 z4 z5 z6 z7 z8
 refine wp_region_noPanic ?_
 have HXd := zH (RdJ.adv HX1.out (zL W1.heap.size W1).drew)
 refine wp_region_till [17] (fun W => RdJ w W B g gm gp us s its P o (.slice A n c) want0 (.slice none 0 0) (.slice none 0 0)) (fun _ => True) (by kernel_rfl) trivial HXd.out (fun hTill => ?_)
 generalize W1.drew = W2 at HXd hTill ⊢
 refine Pl.go [0, 1, 2, 3, 4, 5, 6] ?_
 iterate 7
  refine ttl (v := ?_) ?_ ?_
  rotate_left 1
  ·intro W hSw
   obtain ⟨z0, z1, z2, z3, z4, z5, z6, z7, z8⟩ := op9 hSw.2.box; obtain ⟨-, -, -, -, -, d5, -, -, -, -, d10⟩ := hSw.2.rep.cells; skip
   clear hSw
   go_simp
   try with_reducible rfl
  try dsimp only [zS, zB, zC]
  clear hTill
  intro hTill
 refine Pl.stop ?_
 refine tt 7 (v := ?_) ?_ ?_
 rotate_left 1
 ·intro W hSw
  obtain ⟨z0, z1, z2, z3, z4, z5, z6, z7, z8⟩ := op9 hSw.2.box; obtain ⟨-, -, -, -, -, d5, -, -, -, -, d10⟩ := hSw.2.rep.cells; have hlk := hSw.2.rep.lookPl1 HC.out HOp.out
  clear hSw
  go_simp
  try with_reducible rfl
 try dsimp only [zS, zB, zC]
 clear hTill
 intro hTill
 refine Pl.go [8, 9, 10, 11] ?_
 iterate 4
  refine ttl (v := ?_) ?_ ?_
  rotate_left 1
  ·intro W hSw
   obtain ⟨z0, z1, z2, z3, z4, z5, z6, z7, z8⟩ := op9 hSw.2.box; obtain ⟨-, -, -, -, -, d5, -, -, -, -, d10⟩ := hSw.2.rep.cells; skip
   clear hSw
   go_simp
   try with_reducible rfl
  try dsimp only [zS, zB, zC]
  clear hTill
  intro hTill
 refine Pl.stop ?_
 refine wpTill.only (i := 12) (o := ⟨_, _, _, _, _, _⟩) (by kernel_rfl) rfl (fun F hF => ?_)
 go_simp
 refine (after_any B g gm gp us s its P b s.now W2 HXd.out.rep HLe.out HA.out).mono ?_
 rintro e w3 ⟨hb3, ⟨hno, _⟩ | ⟨x, hx, hsome, rfl⟩⟩
 ·rw [HY.out] at hno
  cases hno
 ·have hxy : y = x.e := by rw [HY.out] at hsome; injection hsome
  subst hxy
  have HX3 := zH (HXd.out.adv hb3)
  have HXm := zH hx
  obtain ⟨VA, vc, hV⟩ := (HX3.out.rep.vals x hx).form
  have HV := zH hV
  have HBv := zH (hV ▸ HX3.out.rep.vals x hx)
  clear hb3 hsome hx hV
  go_wp2_with fail
  refine hF.out _ _ (Till.of trivial HX3.out) (fun hTill => ?_)
  clear hF F HXd
  try simp only [Act.put, zA, zB, zC]
  refine Pl.go [13, 14] ?_
  iterate 2
   refine ttl (v := ?_) ?_ ?_
   rotate_left 1
   ·intro W hSw
    obtain ⟨z0, z1, z2, z3, z4, z5, z6, z7, z8⟩ := op9 hSw.2.box; obtain ⟨-, -, -, -, -, d5, -, -, -, -, d10⟩ := hSw.2.rep.cells; skip
    clear hSw
    go_simp
    try with_reducible rfl
   try dsimp only [zS, zB, zC]
   clear hTill
   intro hTill
  refine Pl.stop ?_
  refine tt 15 (v := ?_) ?_ ?_
  rotate_left 1
  ·intro W hSw
   obtain ⟨z0, z1, z2, z3, z4, z5, z6, z7, z8⟩ := op9 hSw.2.box; obtain ⟨-, -, -, -, -, d5, -, -, -, -, d10⟩ := hSw.2.rep.cells; obtain ⟨x0, x1, x2, x3, -, -⟩ := (hSw.2.rep.ib x HXm.out).cells; rw [HV.out] at x1
   clear hSw
   go_simp
   try with_reducible rfl
  try dsimp only [zS, zB, zC]
  clear hTill
  intro hTill
  refine tt 16 (v := ?_) ?_ ?_
  rotate_left 1
  ·intro W hSw
   obtain ⟨z0, z1, z2, z3, z4, z5, z6, z7, z8⟩ := op9 hSw.2.box; obtain ⟨-, -, -, -, -, d5, -, -, -, -, d10⟩ := hSw.2.rep.cells; skip
   clear hSw
   go_simp
   try with_reducible rfl
  try dsimp only [zS, zB, zC]
  clear hTill
  intro hTill
  have c13 : w3.cell? ⟨w.heap.size + 1, 13, none⟩ = some (.string ⟨#[]⟩) := HX3.out.x.cell 13 _ rfl
  have c14 : w3.cell? ⟨w.heap.size + 1, 14, none⟩ = some (.slice none 0 0) := HX3.out.x.cell 14 _ rfl
  have c15 : w3.cell? ⟨w.heap.size + 1, 15, none⟩ = some (.int .u64 0) := HX3.out.x.cell 15 _ rfl
  have c16 : w3.cell? ⟨w.heap.size + 1, 16, none⟩ = some (.int .u64 0) := HX3.out.x.cell 16 _ rfl
  have cf := HX3.out.x.frozen
  refine wpTill.only (i := 17) (o := ⟨_, _, _, _, _, _⟩) (by kernel_rfl) rfl (fun F hF => ?_)
  go_simp
  refine hF.out _ _ (Till.stored trivial (by kernel_rfl)) (fun hTill => ?_)
  clear hF F
  try simp only [Act.put, zA, zB, zC]
  refine wpTill.done (by kernel_rfl) ?_
  try refine NoPanic.normal ?_
  have HX4 := zH (RdJ.set4 HH.out HX3.out x.e (.slice VA x.e.val.length vc))
  have HBw : Hid (Bts w B 5 (.slice VA x.e.val.length vc) x.e.val) := zH (HV.out ▸ HH.out.vals x HXm.out)
  clear hTill c13 c14 c15 c16 cf
  generalize World.setCell _ _ _ = W3 at HX4 ⊢
  have HXB : Hid (Blk _ _ _ #[.int .i64 0, .int .u64 0, .string ⟨#[]⟩, .slice none 0 0, .int .u64 0, .int .i64 0, .int .i64 0, .int .i64 0, .int .u64 0, .int .u64 0, .int .i64 0, .bool false, .slice none 0 0, .string x.e.key, .slice VA x.e.val.length vc, .int .u64 x.e.dl, .int .u64 x.e.birth, .int .i64 0, .slice none 0 0, .int .i64 0, .int .i64 0]) := zH (HX4).out.x
  go_wp2_with (first | (refine wpList_load_row rfl 46 _ rfl (w.heap.size + 1) rfl 46 _ (0, 0) _ HXB.out Tryz.underlying46 rfl (by kernel_rfl) ?_) | (refine wpList_store_row rfl 46 _ _ rfl (w.heap.size + 1) _ rfl rfl 46 _ HXB.out (by kernel_rfl) rfl (by simp [Value.oneCell']) ?_))
  obtain ⟨hb, hbl⟩ := rj_done (HX4).out #[.int .i64 0, .int .u64 0, .string ⟨#[]⟩, .slice none 0 0, .int .u64 0, .int .i64 0, .int .i64 0, .int .i64 0, .int .u64 0, .int .u64 0, .int .i64 0, .bool false, .slice none 0 0, .string x.e.key, .slice VA x.e.val.length vc, .int .u64 x.e.dl, .int .u64 x.e.birth, .int .i64 0, .slice none 0 0, .int .i64 0, .int .i64 0]
  have HRd := zH hbl
  clear hbl
  generalize World.setRow _ _ _ = W9 at hb HRd ⊢
  refine bodyPost_ret (v := .agg #[.int .i64 0, .int .u64 0, .string ⟨#[]⟩, .slice none 0 0, .int .u64 0, .int .i64 0, .int .i64 0, .int .i64 0, .int .u64 0, .int .u64 0, .int .i64 0, .bool false, .slice none 0 0, .string x.e.key, .slice VA x.e.val.length vc, .int .u64 x.e.dl, .int .u64 x.e.birth, .int .i64 0, .slice none 0 0, .int .i64 0, .int .i64 0]) (results_cell_row rfl _ _ (w.heap.size + 1) 46 _ (0, 0) _ rfl hb Tryz.underlying46 rfl (by kernel_rfl)) rfl ?_
  exact ⟨.slice none 0 0, .slice VA x.e.val.length vc, by rw [HS.out]; rfl, by rw [HS.out]; exact Bts.nil _ _ _, by rw [HS.out]; exact (HBw.out.keep (KeepB.of_below HRd.out)), HRd.out⟩
theorem reads_any (N B Bv g gm gp : Nat) (us : Int) (s : PJ) (its : List It) (P : List (Int × Int)) (o : OpV) (V : Value) (e : Int) (w : World) (h : JRep w B g gm gp us s its P) (hv : Bts w Bv 5 V o.val) (hk : o.key.size ≤ maxLen) (hi : PInv N s) (hn : N ≤ 90000)
  (hc : -9223372036854775808 ≤ o.cursor ∧ o.cursor ≤ 9223372036854775807) (he : o.kind = 12 → e = 0 → ∃ b x, openP s.pl o.cursor = some b ∧ afterP s.L b s.now = some x) :
  Calls Tryz.prog 71 #[.pointer (some ⟨g, 0, none⟩), opv o V, .int .i64 e] w (RdsE B (readsP s o e) w) := by
 have hlen : its.length ≤ 1000000 := by have := h.lenI; have := hi.lenL; omega
 by_cases k3 : o.kind = 3 ∨ o.kind = 4 ∨ o.kind = 5 ∨ o.kind = 6
 ·exact reads_key B Bv g gm gp us s its P o V e w h hv hk hi.keys k3
 ·by_cases hnn : (o.kind = 11 ∨ o.kind = 12) ∧ e = 0
  ·obtain ⟨h1, rfl⟩ := hnn
   rcases h1 with h1 | h1
   ·exact reads_open B Bv g gm gp us s its P o V w h hv hk h1 hi.pls
   ·obtain ⟨b, x, h2, h3⟩ := he h1 rfl
    exact reads_next B Bv g gm gp us s its P o V b x w h hv hk h1 hc h2 h3 hlen hi.asc
  ·exact reads_none B Bv g gm gp us s its P o V e w h hv hk k3 hnn
end Go.Proofs.YtnabbimompapfaaGreat
namespace Go.Proofs.YtnabbimompapfaaGreat
open Go Go.RowKit Go.MapKept Go.Maps
structure EvJ (w W : World) (B Bv g gm gp : Nat) (us : Int) (s : PJ) (its : List It) (P : List (Int × Int)) (o : OpV) (V lv : Value) (xs : List (EvV × Value)) : Prop where
 rep : JRep W B g gm gp us s its P
 box : Blk W w.heap.size 43 (opc o V)
 ev : EvsAt W Bv lv xs
 only : Only (KJ B w) w W
section
variable {w W W2 : World} {B Bv g gm gp : Nat} {us us2 : Int} {s s2 : PJ} {its its2 : List It} {P P2 : List (Int × Int)} {o : OpV} {V lv : Value} {xs : List (EvV × Value)}
theorem EvJ.adv (h : EvJ w W B Bv g gm gp us s its P o V lv xs) (hb : Below W.heap.size W W2) : EvJ w W2 B Bv g gm gp us s its P o V lv xs :=
 ⟨h.rep.below hb, h.box.below hb, h.ev.below hb, KJ.trans h.only (KJ.of_below hb)⟩
theorem EvJ.next (h : EvJ w W B Bv g gm gp us s its P o V lv xs) (hj : JRep W2 B g gm gp us2 s2 its2 P2) (ho : Only (KJ B W) W W2) (hBv : Bv ≤ B) : EvJ w W2 B Bv g gm gp us2 s2 its2 P2 o V lv xs :=
 ⟨hj, h.box.only ho (KJ.not_ h.box (by decide) (by decide)), h.ev.keep (KJ.keepB ho hBv), KJ.trans h.only ho⟩
theorem JRep.head_min {n : Nat} (h : JRep W B g gm gp us s its P) (hi : PInv n s) {x : It} (hx : x ∈ its) (hh : s.U.head? = some x.e.birth) : ∀ y ∈ its, ¬ y.u < x.u := by
 intro y hy
 have hyU : y.e.birth ∈ s.U := (hi.mem _).2 ⟨y.e, h.perm.mem_iff.1 (List.mem_map_of_mem hy), rfl⟩
 cases hU : s.U with
 |nil => rw [hU] at hyU; cases hyU
 |cons b l =>
  rw [hU] at hh hyU
  have hb : b = x.e.birth := by simpa using hh
  rcases List.mem_cons.1 hyU with e | e
  ·have := h.birth_inj hi.asc hy hx (e.trans hb)
   subst this
   omega
  ·have ho := h.ord
   rw [hU, List.pairwise_cons] at ho
   have := ho.1 y.e.birth e x hx y hy hb.symm rfl
   omega
theorem JRep.head_less {n : Nat} (h : JRep W B g gm gp us s its P) (hi : PInv n s) {x : It} (hx : x ∈ its) (hh : s.U.head? ≠ some x.e.birth) : ∃ y ∈ its, y.u < x.u := by
 have hxU : x.e.birth ∈ s.U := (hi.mem _).2 ⟨x.e, h.perm.mem_iff.1 (List.mem_map_of_mem hx), rfl⟩
 cases hU : s.U with
 |nil => rw [hU] at hxU; cases hxU
 |cons b l =>
  rw [hU] at hh hxU
  have hb : b ≠ x.e.birth := fun e => hh (by rw [List.head?_cons, e])
  rcases List.mem_cons.1 hxU with e | e
  ·exact absurd e.symm hb
  ·obtain ⟨e1, he1, hb1⟩ := (hi.mem b).1 (by rw [hU]; exact List.mem_cons_self ..)
   obtain ⟨y, hy, hye⟩ := List.mem_map.1 (h.perm.mem_iff.2 he1)
   have ho := h.ord
   rw [hU, List.pairwise_cons] at ho
   exact ⟨y, hy, ho.1 x.e.birth e y hy x hx (by rw [hye, hb1]) rfl⟩
end
def EvRetJ (B g gm gp : Nat) (us : Int) (r : Except Int PJ) (w : World) (e : Ending) (w' : World) : Prop :=
 Only (KJ B w) w w' ∧ (∀ x, r = .error x → e = .returned (.int .i64 x)) ∧ ∀ s2, r = .ok s2 → e = .returned (.int .i64 0) ∧ ∃ its' P', JRep w' B g gm gp us s2 its' P'
theorem EvRetJ.err {B g gm gp : Nat} {us : Int} {r : Except Int PJ} {w w' : World} {x : Int} (h : r = .error x) (ho : Only (KJ B w) w w') : EvRetJ B g gm gp us r w (.returned (.int .i64 x)) w' :=
 ⟨ho, fun y hy => by rw [h] at hy; injection hy with hy; rw [hy], fun s2 h2 => by rw [h] at h2; cases h2⟩
theorem EvRetJ.ok {B g gm gp : Nat} {us : Int} {r : Except Int PJ} {w w' : World} {s2 : PJ} (h : r = .ok s2) {its : List It} {P : List (Int × Int)} (hk : JRep w' B g gm gp us s2 its P) (ho : Only (KJ B w) w w') : EvRetJ B g gm gp us r w (.returned (.int .i64 0)) w' :=
 ⟨ho, fun y hy => (by rw [h] at hy; cases hy), fun s3 h3 => (by rw [h] at h3; injection h3 with h3; subst h3; exact ⟨rfl, _, _, hk⟩)⟩
end Go.Proofs.YtnabbimompapfaaGreat
namespace Go.Proofs.YtnabbimompapfaaGreat
open Go Go.RowKit Go.MapKept Go.Maps
set_option maxRecDepth 100000 in
set_option maxHeartbeats 16000000 in
theorem evict_k0 (N B Bv g gm gp : Nat) (us : Int) (s : PJ) (its : List It) (P : List (Int × Int)) (o : OpV) (V : Value) (lv : Value) (xs : List (EvV × Value)) (w : World) (h : JRep w B g gm gp us s its P) (hv : Bts w Bv 5 V o.val) (hi : PInv N s) (hn : N ≤ 90000) (hl : EvsAt w Bv lv xs) (hBv : Bv ≤ B) (hks : ∀ p ∈ xs, p.1.key.size ≤ maxLen)
  (hkd : ¬(o.kind = 1 ∨ o.kind = 2)) :
  Calls Tryz.prog 74 #[.pointer (some ⟨g, 0, none⟩), opv o V, lv] w (EvRetJ B g gm gp us (evictP o (xs.map Prod.fst) s) w) := by
 have HKd := zH hkd
 have q1 : (o.kind == 1) = false := by rw [beq_eq_false_iff_ne]; omega
 have q2 : (o.kind == 2) = false := by rw [beq_eq_false_iff_ne]; omega
 clear hkd
 obtain ⟨A, c, rfl⟩ := hv.form
 have hb0 : Below w.heap.size w (w.alloc (.cells (opc o (.slice A o.val.length c)) 43)) := (zL _ _).alloc (zN _) _
 have HI0 : Hid (EvJ w (w.alloc (.cells (opc o (.slice A o.val.length c)) 43)) B Bv g gm gp us s its P o (.slice A o.val.length c) lv xs) := zH ⟨h.below hb0, Blk.new _ _ _, hl.below hb0, KJ.of_below hb0⟩
 obtain ⟨LA, lc0, rfl, hlc0, hlm⟩ := hl.cap
 have HBv := zH hBv
 have HP0 := zH hi
 have HN := zH hn
 have HKs := zH hks
 unfold maxLen at hlm
 have hxI : (xs.length : Int) ≤ 9223372036854775807 := by omega
 have hxc : (xs.length : Int) ≤ (lc0 : Int) := by omega
 obtain ⟨nx, hnx⟩ : ∃ nx, xs.length = nx := ⟨_, rfl⟩
 have HNx := zH hnx
 rw [hnx] at hxI hxc HI0 ⊢
 unfold opv
 unfold opc at HI0 ⊢
 clear h hi hb0 hl hBv hn hlm hlc0 hv hks hnx
 go_enter Tryz.func74, Tryz.ntmps74
 go_upto_region 1 with fail
 generalize World.alloc _ _ = W0 at HI0 ⊢
 obtain ⟨z0, z1, z2, z3, z4, z5, z6, z7, z8⟩ := op9 HI0.out.box
 go_wp2_with fail
 go_loopw [23] (fun i wr => ∃ (m : Nat) (s1 : PJ) (its1 : List It), m ≤ nx ∧ i = .int .i64 m ∧ evictP o (xs.map Prod.fst) s = evictP o ((xs.drop m).map Prod.fst) s1 ∧ PInv N s1 ∧ s1.now = s.now ∧ EvJ w wr B Bv g gm gp us s1 its1 P o (.slice A o.val.length c) (.slice LA nx lc0) xs) (fun i _ => nx - (intOf i).toNat)
 case atStart => exact ⟨0, s, its, Nat.zero_le _, rfl, rfl, HP0.out, rfl, HI0.out⟩
 case round =>
  clear z0 z1 z2 z3 z4 z5 z6 z7 z8
  obtain ⟨m, s1, its1, hm, rfl, hst, hpi, hnow, hj⟩ := hrel
  have HPi := zH hpi
  have HNw := zH hnow
  have HJ := zH hj
  have HSt := zH hst
  clear hpi hnow hj hst HI0 HP0
  by_cases hlt : m < nx
  ·have hltz : (m : Int) < (nx : Int) := by omega
   obtain ⟨⟨v, V⟩, hp⟩ : ∃ p, xs[m]? = some p := ⟨_, List.getElem?_eq_getElem (by rw [HNx.out]; exact hlt)⟩
   obtain ⟨q, off, rfl, -, y0, y1, y2, y3, y4, y5⟩ := HJ.out.ev.at_ hp
   obtain ⟨VA, vc, hV⟩ := (HJ.out.ev.vals _ (List.mem_of_getElem? hp)).form
   dsimp only at y0 y1 y2 y3 y4 y5 hV
   subst hV
   have HPx := zH hp
   have HVk : Hid (v.key.size ≤ maxLen) := zH (HKs.out _ (List.mem_of_getElem? hp))
   have hdr : xs.drop m = (v, .slice VA v.val.length vc) :: xs.drop (m + 1) := by
    have hx2 := (List.getElem?_eq_some_iff.1 hp).2
    rw [← hx2, List.getElem_cons_drop]
   have HSt2 : Hid (evictP o (xs.map Prod.fst) s = evictP o (v :: (xs.drop (m + 1)).map Prod.fst) s1) := zH (by rw [HSt.out, hdr]; rfl)
   clear hp hdr HSt
   go_upto_region 5 with fail
   have hb5 : Below wr.heap.size wr (wr.alloc (.cells #[.int .i64 v.kind, .string v.key, .slice VA v.val.length vc, .int .u64 v.birth, .int .u64 v.dl, .int .u64 v.at_] 49)) := (zL _ _).alloc (zN _) _
   have H5 := zH (HJ.out.adv hb5)
   have HEb : Hid (Blk (wr.alloc (.cells #[.int .i64 v.kind, .string v.key, .slice VA v.val.length vc, .int .u64 v.birth, .int .u64 v.dl, .int .u64 v.at_] 49)) wr.heap.size 49 (evc v (.slice VA v.val.length vc))) := zH (Blk.new _ _ _)
   clear hb5 y0 y1 y2 y3 y4 y5 HJ
   generalize wr.heap.size = gE at HEb ⊢
   generalize World.alloc _ _ = W5 at H5 HEb ⊢
   refine wp_region_noPanic ?_
   refine wp_region_held_drew (S := fun W => EvJ w W B Bv g gm gp us s1 its1 P o (.slice A o.val.length c) (.slice (some ⟨q, off, none⟩) nx lc0) xs ∧ Blk W gE 49 (evc v (.slice VA v.val.length vc))) (by kernel_rfl) ⟨H5.out.adv (zL _ _).drew, HEb.out.drew⟩ (fun hHeld => ?_)
   have H6 := zH (H5.out.adv (zL W5.heap.size W5).drew)
   have HEb6 := zH HEb.out.drew
   clear H5 HEb
   generalize W5.drew = W6 at H6 HEb6 hHeld ⊢
   rcases H6.out.rep.find HPi.out.keys v.key with ⟨hf, hmg⟩ | ⟨x, hx, hf, -, hmg⟩
   ·have HMg := zH hmg
    have HS : Hid (evictP o (xs.map Prod.fst) s = .error 2) := zH (by rw [HSt2.out, evictP, hf])
    clear hf hmg
    refine Pl.go [0, 1, 2, 3, 4, 5, 6, 7] ?_
    iterate 8
     refine tkl (v := ?_) ?_ ?_
     rotate_left 1
     ·intro W hSw
      obtain ⟨-, -, -, -, -, -, -, -, d8, -, -⟩ := hSw.1.rep.cells; obtain ⟨e0, e1, e2, e3, e4, e5⟩ := ev6 hSw.2; have hlk := hSw.1.rep.lookI_none HVk.out HMg.out
      clear hSw
      go_simp
      try with_reducible rfl
     try dsimp only [zS, zB, zC]
    refine Pl.stop ?_
    refine wpAnyH_done (by kernel_rfl) ?_ _
    refine NoPanic.normal ?_
    clear hHeld
    go_wp2_with fail
    go_ret
    exact EvRetJ.err HS.out (H6).out.only
   ·have HMg := zH hmg
    have HF := zH hf
    have HXm := zH hx
    clear hf hmg hx
    refine Pl.go [0, 1, 2, 3, 4, 5, 6, 7] ?_
    iterate 8
     refine tkl (v := ?_) ?_ ?_
     rotate_left 1
     ·intro W hSw
      obtain ⟨-, -, -, -, -, -, -, -, d8, -, -⟩ := hSw.1.rep.cells; obtain ⟨e0, e1, e2, e3, e4, e5⟩ := ev6 hSw.2; have hlk := hSw.1.rep.lookI_some HVk.out HMg.out
      clear hSw
      go_simp
      try with_reducible rfl
     try dsimp only [zS, zB, zC]
    refine Pl.stop ?_
    refine wpAnyH_done (by kernel_rfl) ?_ _
    refine NoPanic.normal ?_
    clear hHeld
    obtain ⟨e0, e1, e2, e3, e4, e5⟩ := ev6 HEb6.out
    have HT := zH (told_any B Bv g gm gp us s1 its1 P x v (.slice VA v.val.length vc) 2 W6 H6.out.rep HXm.out (H6.out.ev.vals _ (List.mem_of_getElem? HPx.out)))
    unfold evv evc at HT
    by_cases hveq : v = eventP 2 x.e s1.now
    ·rw [decide_eq_true hveq] at HT
     have hcons := evict_cons (o := o) (l := (xs.drop (m + 1)).map Prod.fst) HF.out hveq
     rw [← HSt2.out] at hcons
     have HCs := zH hcons
     clear hveq hcons
     go_wp2_with fail
     refine HT.out.mono ?_
     rintro e w7 ⟨rfl, hb7⟩
     have H7 := zH (H6.out.adv hb7)
     clear hb7 H6 HEb6 HT e0 e1 e2 e3 e4 e5
     go_upto_region 8 with fail
     refine wp_region_noPanic ?_
     refine wp_region_held_drew (S := fun W => EvJ w W B Bv g gm gp us s1 its1 P o (.slice A o.val.length c) (.slice (some ⟨q, off, none⟩) nx lc0) xs) (by kernel_rfl) (H7.out.adv (zL _ _).drew) (fun hHeld => ?_)
     have H8 := zH (H7.out.adv (zL w7.heap.size w7).drew)
     clear H7
     generalize w7.drew = W8 at H8 hHeld ⊢
     refine tk 0 (v := ?_) ?_ ?_
     rotate_left 1
     ·intro W hSw
      skip
      clear hSw
      go_simp
      try with_reducible rfl
     try dsimp only [zS, zB, zC]
     refine wpAnyH_ready (rs := [1]) (by kernel_rfl) (by simp) ?_
     refine AllReadyH.cons (o := ⟨_, _, _, _, _, _⟩) rfl (fun F hF => ?_) AllReadyH.nil
     go_simp
     refine (within_any B g gm gp us s1 its1 P W8 H8.out.rep).mono ?_
     rintro e w9 ⟨rfl, hb9⟩
     have H9 := zH (H8.out.adv hb9)
     clear hb9 H8 hHeld
     by_cases hw : withinP s1
     ·have HS : Hid (evictP o (xs.map Prod.fst) s = .error 4) := zH (by rw [HCs.out, if_pos (.inl hw)])
      rw [decide_eq_true hw]
      clear hw
      go_wp2_with fail
      refine hF.out _ _ H9.out (fun hHeld => ?_)
      clear hF F
      try simp only [Act.put, zA, zB, zC]
      refine tk 2 (v := ?_) ?_ ?_
      rotate_left 1
      ·intro W hSw
       skip
       clear hSw
       go_simp
       try with_reducible rfl
      try dsimp only [zS, zB, zC]
      refine Pl.go [3, 4, 5, 6, 7, 8, 9, 10, 11, 12, 13] ?_
      iterate 11
       refine skl ?_
       try dsimp only [zS, zB, zC]
      refine Pl.stop ?_
      refine tk 14 (v := ?_) ?_ ?_
      rotate_left 1
      ·intro W hSw
       skip
       clear hSw
       go_simp
       try with_reducible rfl
      try dsimp only [zS, zB, zC]
      refine wpAnyH_done (by kernel_rfl) ?_ _
      refine NoPanic.normal ?_
      clear hHeld
      go_wp2_with fail
      go_ret
      exact EvRetJ.err HS.out (H9).out.only
     ·have HC2 : Hid (evictP o (xs.map Prod.fst) s = if (o.kind = 1 ∨ o.kind = 2) ∧ x.e.key = o.key then .error 4 else if s1.cfg.prot = 0 ∧ s1.U.head? ≠ some x.e.birth then .error 4 else evictP o ((xs.drop (m + 1)).map Prod.fst) (goneP s1 x.e.birth)) := zH (by
       rw [HCs.out]
       by_cases hk : (o.kind = 1 ∨ o.kind = 2) ∧ x.e.key = o.key
       ·rw [if_pos (.inr hk), if_pos hk]
       ·rw [if_neg (fun e => by rcases e with e | e; exact hw e; exact hk e), if_neg hk])
      rw [decide_eq_false hw]
      clear hw HCs
      go_wp2_with fail
      refine hF.out _ _ H9.out (fun hHeld => ?_)
      clear hF F
      try simp only [Act.put, zA, zB, zC]
      generalize w9 = W9 at H9 hHeld ⊢
      refine tk 2 (v := ?_) ?_ ?_
      rotate_left 1
      ·intro W hSw
       skip
       clear hSw
       go_simp
       try with_reducible rfl
      try dsimp only [zS, zB, zC]
      refine tk 3 (v := ?_) ?_ ?_
      rotate_left 1
      ·intro W hSw
       skip
       clear hSw
       go_simp
       try with_reducible rfl
      try dsimp only [zS, zB, zC]
      refine tk 4 (v := ?_) ?_ ?_
      rotate_left 1
      ·intro W hSw
       skip
       clear hSw
       go_simp
       try with_reducible rfl
      try dsimp only [zS, zB, zC]
      have HC3 : Hid (evictP o (xs.map Prod.fst) s = if s1.cfg.prot = 0 ∧ s1.U.head? ≠ some x.e.birth then .error 4 else evictP o ((xs.drop (m + 1)).map Prod.fst) (goneP s1 x.e.birth)) := zH (by rw [HC2.out, if_neg (fun e => HKd.out e.1)])
      refine Pl.go [5, 6, 7, 8, 9, 10, 11, 12] ?_
      iterate 8
       refine skl ?_
       try dsimp only [zS, zB, zC]
      refine Pl.stop ?_
      refine Pl.go [13, 14] ?_
      iterate 2
       refine tkl (v := ?_) ?_ ?_
       rotate_left 1
       ·intro W hSw
        skip
        clear hSw
        go_simp
        try with_reducible rfl
       try dsimp only [zS, zB, zC]
      refine Pl.stop ?_
      refine wpAnyH_done (by kernel_rfl) ?_ _
      refine NoPanic.normal ?_
      clear hHeld
      go_upto_region 10 with fail
      obtain ⟨-, -, d2, -, -, -, -, -, -, -, -⟩ := H9.out.rep.cells
      by_cases hp : s1.cfg.prot = 0
      ·have hpb : (s1.cfg.prot == 0) = true := by simp [hp]
       by_cases hh : s1.U.head? = some x.e.birth
       ·have HS : Hid (evictP o (xs.map Prod.fst) s = evictP o ((xs.drop (m + 1)).map Prod.fst) (goneP s1 x.e.birth)) := zH (by rw [HC3.out, if_neg (fun e => e.2 hh)])
        have HMin := zH (H9.out.rep.head_min HPi.out HXm.out hh)
        clear hp hh
        go_upto_region 11 with fail
        obtain ⟨-, -, -, -, -, -, -, -, d8, -, -⟩ := H9.out.rep.cells
        go_wp2_with (first | (at_range; refine wpList_mrange (K := KI) _ rfl _ rfl rfl H9.out.rep.items ?_; intro w0 ob hw0 hob hrg0; have hb10 : Below W9.heap.size W9 w0 := hw0 ▸ (zL _ _).alloc (zN _) _; clear hw0 hob) | fail)
        have HB10 := zH hb10
        have HRg0 := zH hrg0
        clear hrg0 hb10 d8
        try go_frame
        go_loopw [12] (fun _ wr => ∃ todo : List (ByteArray × Nat), MRange KI wr gm W9.heap.size (its1.map fun x => (x.e.key, x.b)) todo ∧ (∀ z ∈ todo, z ∈ its1.map fun x => (x.e.key, x.b)) ∧ Below W9.heap.size W9 wr ∧ True) (fun _ wr => wr.rangeLeft gm W9.heap.size)
        case atStart => exact ⟨_, HRg0.out, fun z hz => hz, HB10.out, trivial⟩
        case round =>
         clear HRg0 HB10
         obtain ⟨todo, hrg, hsub, hbw, hless⟩ := hrel
         have HRg := zH hrg
         have HSub := zH hsub
         have HBw := zH hbw
         have HLess := zH hless
         clear hrg hsub hbw hless
         go_wp2_with (first | (at_next; refine wpList_mnext (K := KI) _ rfl _ rfl rfl HRg.out ?_ ?_) | fail)
         ·intro ht
          clear ht
          have H10 := zH (H9.out.adv HBw.out)
          clear HRg HSub HBw HLess
          obtain ⟨t1, t2, t3, t4⟩ := (LOk.of HPi.out (Nat.le_trans HN.out (by omega))).costs ((H10).out.rep.perm.mem_iff.1 (List.mem_map_of_mem HXm.out))
          have HTk := zH (take_any B g gm gp us s1 its1 P x _ (H10).out.rep HXm.out HPi.out.asc t1 t2 t3 t4)
          clear t1 t2 t3 t4
          go_wp2_with fail
          refine HTk.out.mono ?_
          rintro e w12 ⟨rfl, hj12, ho12⟩
          have H12 := zH ((H10).out.next hj12 ho12 HBv.out)
          clear hj12 ho12 HTk
          go_wp2_with fail
          go_roundw
          case rel => exact ⟨m + 1, _, _, by omega, by go_num, HS.out, HPi.out.gone _, HNw.out, H12.out⟩
          case measure => simp [intOf]; omega
         ·intro i xk xb w2 hi hrg2 hb2 ho2 hs2 ob2 hob1 hob2 hen
          obtain ⟨y, hy, hye⟩ := List.mem_map.1 (HSub.out _ (List.mem_of_getElem? hi))
          injection hye with hye1 hye2
          subst hye2
          clear hye1
          have HRg2 := zH hrg2
          have HI2 := zH hi
          have HBw2 := zH (HBw.out.trans hb2)
          have HYm := zH hy
          have H2 := zH (H9.out.adv HBw2.out)
          have yu := (H2.out.rep.ib y hy).cells.2.2.2.2.1
          have xu := (H2.out.rep.ib x HXm.out).cells.2.2.2.2.1
          clear hi hrg2 hb2 ho2 hs2 hob1 hob2 hy
          go_upto_region 14 with fail
          clear hen
          have hd : decide (y.u < x.u) = false := decide_eq_false (by have := HMin.out y HYm.out; omega)
          go_quiet (fail)
          have HBq : Hid (Below w2.heap.size w2 (w2.drewN nq)) := zH ⟨rfl, rfl, rfl, zN _, fun _ _ => rfl⟩
          clear yu xu
          generalize w2.drewN nq = w3 at HBq ⊢
          go_wp2_with fail
          go_roundw
          case rel => exact ⟨_, HRg2.out.below HBq.out, fun z hz => HSub.out z (List.mem_of_mem_eraseIdx hz), HBw2.out.trans (HBq.out.mono HBw2.out.size), trivial⟩
          case measure =>
           have := len_next HI2.out
           rw [(HRg2.out.below HBq.out).left_eq, HRg.out.left_eq]; omega
       ·have HS : Hid (evictP o (xs.map Prod.fst) s = .error 4) := zH (by rw [HC3.out, if_pos ⟨hp, hh⟩])
        have HLs := zH (H9.out.rep.head_less HPi.out HXm.out hh)
        clear hp hh
        go_upto_region 11 with fail
        obtain ⟨-, -, -, -, -, -, -, -, d8, -, -⟩ := H9.out.rep.cells
        go_wp2_with (first | (at_range; refine wpList_mrange (K := KI) _ rfl _ rfl rfl H9.out.rep.items ?_; intro w0 ob hw0 hob hrg0; have hb10 : Below W9.heap.size W9 w0 := hw0 ▸ (zL _ _).alloc (zN _) _; clear hw0 hob) | fail)
        have HB10 := zH hb10
        have HRg0 := zH hrg0
        clear hrg0 hb10 d8
        try go_frame
        go_loopw [12] (fun _ wr => ∃ todo : List (ByteArray × Nat), MRange KI wr gm W9.heap.size (its1.map fun x => (x.e.key, x.b)) todo ∧ (∀ z ∈ todo, z ∈ its1.map fun x => (x.e.key, x.b)) ∧ Below W9.heap.size W9 wr ∧ ∃ y ∈ its1, (y.e.key, y.b) ∈ todo ∧ y.u < x.u) (fun _ wr => wr.rangeLeft gm W9.heap.size)
        case atStart =>
         obtain ⟨y, hy, hyu⟩ := HLs.out
         exact ⟨_, HRg0.out, fun z hz => hz, HB10.out, y, hy, List.mem_map.2 ⟨y, hy, rfl⟩, hyu⟩
        case round =>
         clear HRg0 HB10
         obtain ⟨todo, hrg, hsub, hbw, hless⟩ := hrel
         have HRg := zH hrg
         have HSub := zH hsub
         have HBw := zH hbw
         have HLess := zH hless
         clear hrg hsub hbw hless
         go_wp2_with (first | (at_next; refine wpList_mnext (K := KI) _ rfl _ rfl rfl HRg.out ?_ ?_) | fail)
         ·intro ht
          obtain ⟨y, _, hyt, _⟩ := HLess.out
          rw [ht] at hyt
          cases hyt
         ·intro i xk xb w2 hi hrg2 hb2 ho2 hs2 ob2 hob1 hob2 hen
          obtain ⟨y, hy, hye⟩ := List.mem_map.1 (HSub.out _ (List.mem_of_getElem? hi))
          injection hye with hye1 hye2
          subst hye2
          clear hye1
          have HRg2 := zH hrg2
          have HI2 := zH hi
          have HBw2 := zH (HBw.out.trans hb2)
          have HYm := zH hy
          have H2 := zH (H9.out.adv HBw2.out)
          have yu := (H2.out.rep.ib y hy).cells.2.2.2.2.1
          have xu := (H2.out.rep.ib x HXm.out).cells.2.2.2.2.1
          clear hi hrg2 hb2 ho2 hs2 hob1 hob2 hy
          go_upto_region 14 with fail
          clear hen
          by_cases hyu : y.u < x.u
          ·have hd : decide (y.u < x.u) = true := decide_eq_true hyu
           clear hyu
           go_quiet (fail)
           have HBq : Hid (Below w2.heap.size w2 (w2.drewN nq)) := zH ⟨rfl, rfl, rfl, zN _, fun _ _ => rfl⟩
           have H3 := zH (H2.out.adv HBq.out)
           clear yu xu
           generalize w2.drewN nq = w3 at H3 ⊢
           go_wp2_with fail
           go_ret
           exact EvRetJ.err HS.out (H3).out.only
          ·have hd : decide (y.u < x.u) = false := decide_eq_false hyu
           have HYu := zH hyu
           clear hyu
           go_quiet (fail)
           have HBq : Hid (Below w2.heap.size w2 (w2.drewN nq)) := zH ⟨rfl, rfl, rfl, zN _, fun _ _ => rfl⟩
           clear yu xu
           generalize w2.drewN nq = w3 at HBq ⊢
           go_wp2_with fail
           go_roundw
           case rel =>
            refine ⟨_, HRg2.out.below HBq.out, fun z hz => HSub.out z (List.mem_of_mem_eraseIdx hz), HBw2.out.trans (HBq.out.mono HBw2.out.size), ?_⟩
            obtain ⟨y', hy', hyt, hyu'⟩ := HLess.out
            refine ⟨y', hy', ?_, hyu'⟩
            rcases List.mem_cons.1 ((perm_eraseIdx _ _ _ HI2.out).mem_iff.2 hyt) with e | e
            ·injection e with _ e
             have := H2.out.rep.b_inj hy' HYm.out e
             rw [this] at hyu'
             exact absurd hyu' HYu.out
            ·exact e
           case measure =>
            have := len_next HI2.out
            rw [(HRg2.out.below HBq.out).left_eq, HRg.out.left_eq]; omega
      ·have HS : Hid (evictP o (xs.map Prod.fst) s = evictP o ((xs.drop (m + 1)).map Prod.fst) (goneP s1 x.e.birth)) := zH (by rw [HC3.out, if_neg (fun e => hp e.1)])
       have hpb : (s1.cfg.prot == 0) = false := by simp [hp]
       clear hp
       obtain ⟨t1, t2, t3, t4⟩ := (LOk.of HPi.out (Nat.le_trans HN.out (by omega))).costs ((H9).out.rep.perm.mem_iff.1 (List.mem_map_of_mem HXm.out))
       have HTk := zH (take_any B g gm gp us s1 its1 P x _ (H9).out.rep HXm.out HPi.out.asc t1 t2 t3 t4)
       clear t1 t2 t3 t4
       go_wp2_with fail
       refine HTk.out.mono ?_
       rintro e w12 ⟨rfl, hj12, ho12⟩
       have H12 := zH ((H9).out.next hj12 ho12 HBv.out)
       clear hj12 ho12 HTk
       go_wp2_with fail
       go_roundw
       case rel => exact ⟨m + 1, _, _, by omega, by go_num, HS.out, HPi.out.gone _, HNw.out, H12.out⟩
       case measure => simp [intOf]; omega
    ·rw [decide_eq_false hveq] at HT
     have HS : Hid (evictP o (xs.map Prod.fst) s = .error 2) := zH (by
      rw [HSt2.out, evictP, HF.out]
      dsimp only
      rw [if_pos hveq])
     clear hveq
     go_wp2_with fail
     refine HT.out.mono ?_
     rintro e w7 ⟨rfl, hb7⟩
     have H7 := zH (H6.out.adv hb7)
     clear hb7
     go_wp2_with fail
     go_ret
     exact EvRetJ.err HS.out (H7).out.only
  ·obtain rfl : m = nx := by omega
   have HS : Hid (evictP o (xs.map Prod.fst) s = .ok s1) := zH (by rw [HSt.out, List.drop_eq_nil_of_le (by rw [HNx.out]; exact zN _)]; rfl)
   go_wp2_with fail
   go_ret
   exact EvRetJ.ok HS.out HJ.out.rep HJ.out.only
end Go.Proofs.YtnabbimompapfaaGreat
