/- AudKC, AudKD, AudKE -/
import Derived.Test.YtnabbimompapfaaMf9
import Derived.Test.YtnabbimompapfaaMf3
namespace Go.Proofs.Ytnabbimompapfaa
open Go Go.RowKit Go.MapKept Go.Maps
structure RdJ (w W : World) (B g gm gp : Nat) (us : Int) (s : PJ) (its : List It) (P : List (Int × Int)) (o : OpV) (V : Value) (x : WantV) (V1 V2 : Value) : Prop where
 rep : JRep W B g gm gp us s its P
 box : Blk W w.heap.size 29 (opc o V)
 x : Blk W (w.heap.size + 1) 35 (wantc x V1 V2)
 below : Below w.heap.size w W
section
variable {w W W2 : World} {B g gm gp : Nat} {us : Int} {s : PJ} {its : List It} {P : List (Int × Int)} {o : OpV} {V V1 V2 : Value} {x : WantV}
theorem RdJ.adv (h : RdJ w W B g gm gp us s its P o V x V1 V2) (hb : Below W.heap.size W W2) : RdJ w W2 B g gm gp us s its P o V x V1 V2 :=
 ⟨h.rep.below hb, h.box.below hb, h.x.below hb, h.below.trans (hb.mono h.below.size)⟩
theorem RdJ.set1 (hw : JRep w B g gm gp us s its P) (h : RdJ w W B g gm gp us s its P o V x V1 V2) (i : Nat) (u : Value) {x' : WantV} {V1' V2' : Value} (hc : (wantc x V1 V2).setIfInBounds i u = wantc x' V1' V2') :
  RdJ w (W.setCell ⟨w.heap.size + 1, i, none⟩ u) B g gm gp us s its P o V x' V1' V2' := by
 have hb : Below w.heap.size w (W.setCell ⟨w.heap.size + 1, i, none⟩ u) := h.below.setCell (p := ⟨w.heap.size + 1, i, none⟩) (by dsimp only; omega) _
 exact ⟨hw.below hb, h.box.far (p := ⟨w.heap.size + 1, i, none⟩) (by dsimp only; omega) _, hc ▸ h.x.set_ i u, hb⟩
theorem RdJ.set4 (hw : JRep w B g gm gp us s its P) (h : RdJ w W B g gm gp us s its P o V x V1 V2) (ev : EntV) (U : Value) :
  RdJ w ((((W.setCell ⟨w.heap.size + 1, 13, none⟩ (.string ev.key)).setCell ⟨w.heap.size + 1, 14, none⟩ U).setCell ⟨w.heap.size + 1, 15, none⟩ (.int .u64 ev.dl)).setCell ⟨w.heap.size + 1, 16, none⟩ (.int .u64 ev.birth)) B g gm gp us s its P o V { x with ent := ev } V1 U := by
 have h1 := h.set1 hw 13 (.string ev.key) (x' := { x with ent := ⟨ev.key, x.ent.val, x.ent.dl, x.ent.birth⟩ }) (V1' := V1) (V2' := V2) rfl
 have h2 := h1.set1 hw 14 U (x' := { x with ent := ⟨ev.key, x.ent.val, x.ent.dl, x.ent.birth⟩ }) (V1' := V1) (V2' := U) rfl
 have h3 := h2.set1 hw 15 (.int .u64 ev.dl) (x' := { x with ent := ⟨ev.key, x.ent.val, ev.dl, x.ent.birth⟩ }) (V1' := V1) (V2' := U) rfl
 exact h3.set1 hw 16 (.int .u64 ev.birth) (x' := { x with ent := ev }) (V1' := V1) (V2' := U) rfl
theorem rj_done (h : RdJ w W B g gm gp us s its P o V x V1 V2) (cs : Array Value) : Blk (W.setRow (w.heap.size + 1) cs) (w.heap.size + 1) 35 cs ∧ Below w.heap.size w (W.setRow (w.heap.size + 1) cs) :=
 ⟨h.x.row cs, h.below.trans (((Only.refl (fun k => k = w.heap.size + 1) W).setRow (.inl rfl) cs).below (fun i hi _ e => by omega) h.below.size)⟩
end
set_option maxHeartbeats 4000000 in
set_option maxRecDepth 100000 in
theorem reads_key (B Bv g gm gp : Nat) (us : Int) (s : PJ) (its : List It) (P : List (Int × Int)) (o : OpV) (V : Value) (e : Int) (w : World) (h : JRep w B g gm gp us s its P) (hv : Bts w Bv 5 V o.val) (hk : o.key.size ≤ maxLen) (hkn : (s.L.map EntV.key).Nodup)
  (k3 : o.kind = 3 ∨ o.kind = 4 ∨ o.kind = 5 ∨ o.kind = 6) :
  Calls Try.prog 44 #[.pointer (some ⟨g, 0, none⟩), opv o V, .int .i64 e] w (RdsE B (readsP s o e) w) := by
 have HH := zH h
 obtain ⟨A, n, c, rfl⟩ : ∃ A n c, V = .slice A n c := by obtain ⟨A, c, e⟩ := hv.form; exact ⟨A, _, c, e⟩
 have HX : Hid (RdJ w ((w.alloc (.cells (opc o (.slice A n c)) 29)).alloc (.cells (wantc want0 (.slice none 0 0) (.slice none 0 0)) 35)) B g gm gp us s its P o (.slice A n c) want0 (.slice none 0 0) (.slice none 0 0)) :=
  zH ⟨h.below (((zL _ _).alloc (zN _) _).alloc (by simp) _), (Blk.new _ _ _).alloc _, Blk.new2 _ _ _ _, ((zL _ _).alloc (zN _) _).alloc (by simp) _⟩
 unfold opv
 unfold opc wantc want0 ent0 at HX
 unfold opc
 dsimp only at HX
 have HK := zH hk
 have hS : readsP s o e = match findP s.L o.key with
   |none => want0
   |some x => { want0 with hit := true, val := if o.kind = 3 then x.val else [], ent := if o.kind = 4 then x else ent0 } := by unfold readsP; rw [if_pos k3]; rfl
 rcases h.find hkn o.key with ⟨h1, h2⟩ | ⟨x, hx, h1, -, h2⟩
 ·have HPx : Hid (((mget (its.map fun x => (x.e.key, x.b)) o.key).map fun b => (⟨b, 0, none⟩ : Addr)) = none) := zH (by rw [h2]; rfl)
  have HS := zH (show readsP s o e = ⟨false, [], ent0, 0⟩ by rw [hS, h1]; rfl)
  clear h1 h2 hS h hv hk hkn
  rcases k3 with k | k | k | k
  ·have q3 : (o.kind == 3) = true := by simp [k]
   have q4 : (o.kind == 4) = false := by simp [k]
   have q5 : (o.kind == 5) = false := by simp [k]
   have q6 : (o.kind == 6) = false := by simp [k]
   have q11 : (o.kind == 11) = false := by simp [k]
   have q12 : (o.kind == 12) = false := by simp [k]
   clear k
   go_enter Try.func44, Try.ntmps44
   go_upto_region 1 with fail
   generalize World.alloc _ _ = W0 at HX ⊢
   refine wp_region_noPanic ?_
   refine wp_region_held_drew (S := fun W => RdJ w W B g gm gp us s its P o (.slice A n c) want0 (.slice none 0 0) (.slice none 0 0)) (by kernel_rfl) (HX.out.adv (zL _ _).drew) (fun hHeld => ?_)
   generalize W0.drew = W1 at hHeld ⊢
   have HX1 := zH hHeld
   refine Pl.go [0, 1, 2, 3, 4, 5, 6, 7] ?_
   iterate 8
    refine tkl (v := ?_) ?_ ?_
    rotate_left 1
    ·intro W hSw
     obtain ⟨z0, z1, z2, z3, z4, z5, z6, z7, z8⟩ := op9 hSw.box; obtain ⟨d0, d1, d2, d3, d4, d5, d6, d7, d8, d9, d10⟩ := hSw.rep.cells; have hlk := hSw.rep.lookI HK.out; rw [HPx.out] at hlk
     clear hSw
     go_simp
     try with_reducible rfl
    try dsimp only [zS, zB, zC]
   refine Pl.stop ?_
   refine wpAnyH_done (by kernel_rfl) ?_ _
   refine NoPanic.normal ?_
   clear hHeld HX
   obtain ⟨z0, z1, z2, z3, z4, z5, z6, z7, z8⟩ := op9 HX1.out.box
   have c11 : W1.cell? ⟨w.heap.size + 1, 11, none⟩ = some (.bool false) := HX1.out.x.cell 11 _ rfl
   have cf := HX1.out.x.frozen
   go_upto_region 8 with fail
   have HX2 : Hid (RdJ w (W1.setCell ⟨w.heap.size + 1, 11, none⟩ (.bool false)) B g gm gp us s its P o _ ⟨false, [], ent0, 0⟩ (.slice none 0 0) (.slice none 0 0)) := zH (RdJ.set1 HH.out HX1.out 11 (.bool false) rfl)
   clear z0 z1 z2 z3 z4 z5 z6 z7 z8 c11 cf
   generalize World.setCell _ _ _ = W2 at HX2 ⊢
   obtain ⟨z0, z1, z2, z3, z4, z5, z6, z7, z8⟩ := op9 HX2.out.box
   go_upto_region 18 with fail
   have HXB : Hid (Blk _ _ _ #[.int .i64 0, .int .u64 0, .string ⟨#[]⟩, .slice none 0 0, .int .u64 0, .int .i64 0, .int .i64 0, .int .i64 0, .int .u64 0, .int .u64 0, .int .i64 0, .bool false, .slice none 0 0, .string ⟨#[]⟩, .slice none 0 0, .int .u64 0, .int .u64 0, .int .i64 0, .slice none 0 0, .int .i64 0, .int .i64 0]) := zH (HX2).out.x
   go_wp2_with (first | (refine wpList_load_row rfl 35 _ rfl (w.heap.size + 1) rfl 35 _ (0, 0) _ HXB.out Try.underlying35 rfl (by kernel_rfl) ?_) | (refine wpList_store_row rfl 35 _ _ rfl (w.heap.size + 1) _ rfl rfl 35 _ HXB.out (by kernel_rfl) rfl (by simp [Value.oneCell']) ?_))
   obtain ⟨hb, hbl⟩ := rj_done (HX2).out #[.int .i64 0, .int .u64 0, .string ⟨#[]⟩, .slice none 0 0, .int .u64 0, .int .i64 0, .int .i64 0, .int .i64 0, .int .u64 0, .int .u64 0, .int .i64 0, .bool false, .slice none 0 0, .string ⟨#[]⟩, .slice none 0 0, .int .u64 0, .int .u64 0, .int .i64 0, .slice none 0 0, .int .i64 0, .int .i64 0]
   have HRd := zH hbl
   clear hbl
   generalize World.setRow _ _ _ = W9 at hb HRd ⊢
   refine bodyPost_ret (v := .agg #[.int .i64 0, .int .u64 0, .string ⟨#[]⟩, .slice none 0 0, .int .u64 0, .int .i64 0, .int .i64 0, .int .i64 0, .int .u64 0, .int .u64 0, .int .i64 0, .bool false, .slice none 0 0, .string ⟨#[]⟩, .slice none 0 0, .int .u64 0, .int .u64 0, .int .i64 0, .slice none 0 0, .int .i64 0, .int .i64 0]) (results_cell_row rfl _ _ (w.heap.size + 1) 35 _ (0, 0) _ rfl hb Try.underlying35 rfl (by kernel_rfl)) rfl ?_
   exact ⟨.slice none 0 0, .slice none 0 0, by rw [HS.out]; rfl, by rw [HS.out]; exact Bts.nil _ _ _, by rw [HS.out]; exact Bts.nil _ _ _, HRd.out⟩
  ·have q3 : (o.kind == 3) = false := by simp [k]
   have q4 : (o.kind == 4) = true := by simp [k]
   have q5 : (o.kind == 5) = false := by simp [k]
   have q6 : (o.kind == 6) = false := by simp [k]
   have q11 : (o.kind == 11) = false := by simp [k]
   have q12 : (o.kind == 12) = false := by simp [k]
   clear k
   go_enter Try.func44, Try.ntmps44
   go_upto_region 1 with fail
   generalize World.alloc _ _ = W0 at HX ⊢
   refine wp_region_noPanic ?_
   refine wp_region_held_drew (S := fun W => RdJ w W B g gm gp us s its P o (.slice A n c) want0 (.slice none 0 0) (.slice none 0 0)) (by kernel_rfl) (HX.out.adv (zL _ _).drew) (fun hHeld => ?_)
   generalize W0.drew = W1 at hHeld ⊢
   have HX1 := zH hHeld
   refine Pl.go [0, 1, 2, 3, 4, 5, 6, 7] ?_
   iterate 8
    refine tkl (v := ?_) ?_ ?_
    rotate_left 1
    ·intro W hSw
     obtain ⟨z0, z1, z2, z3, z4, z5, z6, z7, z8⟩ := op9 hSw.box; obtain ⟨d0, d1, d2, d3, d4, d5, d6, d7, d8, d9, d10⟩ := hSw.rep.cells; have hlk := hSw.rep.lookI HK.out; rw [HPx.out] at hlk
     clear hSw
     go_simp
     try with_reducible rfl
    try dsimp only [zS, zB, zC]
   refine Pl.stop ?_
   refine wpAnyH_done (by kernel_rfl) ?_ _
   refine NoPanic.normal ?_
   clear hHeld HX
   obtain ⟨z0, z1, z2, z3, z4, z5, z6, z7, z8⟩ := op9 HX1.out.box
   have c11 : W1.cell? ⟨w.heap.size + 1, 11, none⟩ = some (.bool false) := HX1.out.x.cell 11 _ rfl
   have cf := HX1.out.x.frozen
   go_upto_region 8 with fail
   have HX2 : Hid (RdJ w (W1.setCell ⟨w.heap.size + 1, 11, none⟩ (.bool false)) B g gm gp us s its P o _ ⟨false, [], ent0, 0⟩ (.slice none 0 0) (.slice none 0 0)) := zH (RdJ.set1 HH.out HX1.out 11 (.bool false) rfl)
   clear z0 z1 z2 z3 z4 z5 z6 z7 z8 c11 cf
   generalize World.setCell _ _ _ = W2 at HX2 ⊢
   obtain ⟨z0, z1, z2, z3, z4, z5, z6, z7, z8⟩ := op9 HX2.out.box
   go_upto_region 18 with fail
   have HXB : Hid (Blk _ _ _ #[.int .i64 0, .int .u64 0, .string ⟨#[]⟩, .slice none 0 0, .int .u64 0, .int .i64 0, .int .i64 0, .int .i64 0, .int .u64 0, .int .u64 0, .int .i64 0, .bool false, .slice none 0 0, .string ⟨#[]⟩, .slice none 0 0, .int .u64 0, .int .u64 0, .int .i64 0, .slice none 0 0, .int .i64 0, .int .i64 0]) := zH (HX2).out.x
   go_wp2_with (first | (refine wpList_load_row rfl 35 _ rfl (w.heap.size + 1) rfl 35 _ (0, 0) _ HXB.out Try.underlying35 rfl (by kernel_rfl) ?_) | (refine wpList_store_row rfl 35 _ _ rfl (w.heap.size + 1) _ rfl rfl 35 _ HXB.out (by kernel_rfl) rfl (by simp [Value.oneCell']) ?_))
   obtain ⟨hb, hbl⟩ := rj_done (HX2).out #[.int .i64 0, .int .u64 0, .string ⟨#[]⟩, .slice none 0 0, .int .u64 0, .int .i64 0, .int .i64 0, .int .i64 0, .int .u64 0, .int .u64 0, .int .i64 0, .bool false, .slice none 0 0, .string ⟨#[]⟩, .slice none 0 0, .int .u64 0, .int .u64 0, .int .i64 0, .slice none 0 0, .int .i64 0, .int .i64 0]
   have HRd := zH hbl
   clear hbl
   generalize World.setRow _ _ _ = W9 at hb HRd ⊢
   refine bodyPost_ret (v := .agg #[.int .i64 0, .int .u64 0, .string ⟨#[]⟩, .slice none 0 0, .int .u64 0, .int .i64 0, .int .i64 0, .int .i64 0, .int .u64 0, .int .u64 0, .int .i64 0, .bool false, .slice none 0 0, .string ⟨#[]⟩, .slice none 0 0, .int .u64 0, .int .u64 0, .int .i64 0, .slice none 0 0, .int .i64 0, .int .i64 0]) (results_cell_row rfl _ _ (w.heap.size + 1) 35 _ (0, 0) _ rfl hb Try.underlying35 rfl (by kernel_rfl)) rfl ?_
   exact ⟨.slice none 0 0, .slice none 0 0, by rw [HS.out]; rfl, by rw [HS.out]; exact Bts.nil _ _ _, by rw [HS.out]; exact Bts.nil _ _ _, HRd.out⟩
  ·have q3 : (o.kind == 3) = false := by simp [k]
   have q4 : (o.kind == 4) = false := by simp [k]
   have q5 : (o.kind == 5) = true := by simp [k]
   have q6 : (o.kind == 6) = false := by simp [k]
   have q11 : (o.kind == 11) = false := by simp [k]
   have q12 : (o.kind == 12) = false := by simp [k]
   clear k
   go_enter Try.func44, Try.ntmps44
   go_upto_region 1 with fail
   generalize World.alloc _ _ = W0 at HX ⊢
   refine wp_region_noPanic ?_
   refine wp_region_held_drew (S := fun W => RdJ w W B g gm gp us s its P o (.slice A n c) want0 (.slice none 0 0) (.slice none 0 0)) (by kernel_rfl) (HX.out.adv (zL _ _).drew) (fun hHeld => ?_)
   generalize W0.drew = W1 at hHeld ⊢
   have HX1 := zH hHeld
   refine Pl.go [0, 1, 2, 3, 4, 5, 6, 7] ?_
   iterate 8
    refine tkl (v := ?_) ?_ ?_
    rotate_left 1
    ·intro W hSw
     obtain ⟨z0, z1, z2, z3, z4, z5, z6, z7, z8⟩ := op9 hSw.box; obtain ⟨d0, d1, d2, d3, d4, d5, d6, d7, d8, d9, d10⟩ := hSw.rep.cells; have hlk := hSw.rep.lookI HK.out; rw [HPx.out] at hlk
     clear hSw
     go_simp
     try with_reducible rfl
    try dsimp only [zS, zB, zC]
   refine Pl.stop ?_
   refine wpAnyH_done (by kernel_rfl) ?_ _
   refine NoPanic.normal ?_
   clear hHeld HX
   obtain ⟨z0, z1, z2, z3, z4, z5, z6, z7, z8⟩ := op9 HX1.out.box
   have c11 : W1.cell? ⟨w.heap.size + 1, 11, none⟩ = some (.bool false) := HX1.out.x.cell 11 _ rfl
   have cf := HX1.out.x.frozen
   go_upto_region 8 with fail
   have HX2 : Hid (RdJ w (W1.setCell ⟨w.heap.size + 1, 11, none⟩ (.bool false)) B g gm gp us s its P o _ ⟨false, [], ent0, 0⟩ (.slice none 0 0) (.slice none 0 0)) := zH (RdJ.set1 HH.out HX1.out 11 (.bool false) rfl)
   clear z0 z1 z2 z3 z4 z5 z6 z7 z8 c11 cf
   generalize World.setCell _ _ _ = W2 at HX2 ⊢
   obtain ⟨z0, z1, z2, z3, z4, z5, z6, z7, z8⟩ := op9 HX2.out.box
   go_upto_region 18 with fail
   have HXB : Hid (Blk _ _ _ #[.int .i64 0, .int .u64 0, .string ⟨#[]⟩, .slice none 0 0, .int .u64 0, .int .i64 0, .int .i64 0, .int .i64 0, .int .u64 0, .int .u64 0, .int .i64 0, .bool false, .slice none 0 0, .string ⟨#[]⟩, .slice none 0 0, .int .u64 0, .int .u64 0, .int .i64 0, .slice none 0 0, .int .i64 0, .int .i64 0]) := zH (HX2).out.x
   go_wp2_with (first | (refine wpList_load_row rfl 35 _ rfl (w.heap.size + 1) rfl 35 _ (0, 0) _ HXB.out Try.underlying35 rfl (by kernel_rfl) ?_) | (refine wpList_store_row rfl 35 _ _ rfl (w.heap.size + 1) _ rfl rfl 35 _ HXB.out (by kernel_rfl) rfl (by simp [Value.oneCell']) ?_))
   obtain ⟨hb, hbl⟩ := rj_done (HX2).out #[.int .i64 0, .int .u64 0, .string ⟨#[]⟩, .slice none 0 0, .int .u64 0, .int .i64 0, .int .i64 0, .int .i64 0, .int .u64 0, .int .u64 0, .int .i64 0, .bool false, .slice none 0 0, .string ⟨#[]⟩, .slice none 0 0, .int .u64 0, .int .u64 0, .int .i64 0, .slice none 0 0, .int .i64 0, .int .i64 0]
   have HRd := zH hbl
   clear hbl
   generalize World.setRow _ _ _ = W9 at hb HRd ⊢
   refine bodyPost_ret (v := .agg #[.int .i64 0, .int .u64 0, .string ⟨#[]⟩, .slice none 0 0, .int .u64 0, .int .i64 0, .int .i64 0, .int .i64 0, .int .u64 0, .int .u64 0, .int .i64 0, .bool false, .slice none 0 0, .string ⟨#[]⟩, .slice none 0 0, .int .u64 0, .int .u64 0, .int .i64 0, .slice none 0 0, .int .i64 0, .int .i64 0]) (results_cell_row rfl _ _ (w.heap.size + 1) 35 _ (0, 0) _ rfl hb Try.underlying35 rfl (by kernel_rfl)) rfl ?_
   exact ⟨.slice none 0 0, .slice none 0 0, by rw [HS.out]; rfl, by rw [HS.out]; exact Bts.nil _ _ _, by rw [HS.out]; exact Bts.nil _ _ _, HRd.out⟩
  ·have q3 : (o.kind == 3) = false := by simp [k]
   have q4 : (o.kind == 4) = false := by simp [k]
   have q5 : (o.kind == 5) = false := by simp [k]
   have q6 : (o.kind == 6) = true := by simp [k]
   have q11 : (o.kind == 11) = false := by simp [k]
   have q12 : (o.kind == 12) = false := by simp [k]
   clear k
   go_enter Try.func44, Try.ntmps44
   go_upto_region 1 with fail
   generalize World.alloc _ _ = W0 at HX ⊢
   refine wp_region_noPanic ?_
   refine wp_region_held_drew (S := fun W => RdJ w W B g gm gp us s its P o (.slice A n c) want0 (.slice none 0 0) (.slice none 0 0)) (by kernel_rfl) (HX.out.adv (zL _ _).drew) (fun hHeld => ?_)
   generalize W0.drew = W1 at hHeld ⊢
   have HX1 := zH hHeld
   refine Pl.go [0, 1, 2, 3, 4, 5, 6, 7] ?_
   iterate 8
    refine tkl (v := ?_) ?_ ?_
    rotate_left 1
    ·intro W hSw
     obtain ⟨z0, z1, z2, z3, z4, z5, z6, z7, z8⟩ := op9 hSw.box; obtain ⟨d0, d1, d2, d3, d4, d5, d6, d7, d8, d9, d10⟩ := hSw.rep.cells; have hlk := hSw.rep.lookI HK.out; rw [HPx.out] at hlk
     clear hSw
     go_simp
     try with_reducible rfl
    try dsimp only [zS, zB, zC]
   refine Pl.stop ?_
   refine wpAnyH_done (by kernel_rfl) ?_ _
   refine NoPanic.normal ?_
   clear hHeld HX
   obtain ⟨z0, z1, z2, z3, z4, z5, z6, z7, z8⟩ := op9 HX1.out.box
   have c11 : W1.cell? ⟨w.heap.size + 1, 11, none⟩ = some (.bool false) := HX1.out.x.cell 11 _ rfl
   have cf := HX1.out.x.frozen
   go_upto_region 8 with fail
   have HX2 : Hid (RdJ w (W1.setCell ⟨w.heap.size + 1, 11, none⟩ (.bool false)) B g gm gp us s its P o _ ⟨false, [], ent0, 0⟩ (.slice none 0 0) (.slice none 0 0)) := zH (RdJ.set1 HH.out HX1.out 11 (.bool false) rfl)
   clear z0 z1 z2 z3 z4 z5 z6 z7 z8 c11 cf
   generalize World.setCell _ _ _ = W2 at HX2 ⊢
   obtain ⟨z0, z1, z2, z3, z4, z5, z6, z7, z8⟩ := op9 HX2.out.box
   go_upto_region 18 with fail
   have HXB : Hid (Blk _ _ _ #[.int .i64 0, .int .u64 0, .string ⟨#[]⟩, .slice none 0 0, .int .u64 0, .int .i64 0, .int .i64 0, .int .i64 0, .int .u64 0, .int .u64 0, .int .i64 0, .bool false, .slice none 0 0, .string ⟨#[]⟩, .slice none 0 0, .int .u64 0, .int .u64 0, .int .i64 0, .slice none 0 0, .int .i64 0, .int .i64 0]) := zH (HX2).out.x
   go_wp2_with (first | (refine wpList_load_row rfl 35 _ rfl (w.heap.size + 1) rfl 35 _ (0, 0) _ HXB.out Try.underlying35 rfl (by kernel_rfl) ?_) | (refine wpList_store_row rfl 35 _ _ rfl (w.heap.size + 1) _ rfl rfl 35 _ HXB.out (by kernel_rfl) rfl (by simp [Value.oneCell']) ?_))
   obtain ⟨hb, hbl⟩ := rj_done (HX2).out #[.int .i64 0, .int .u64 0, .string ⟨#[]⟩, .slice none 0 0, .int .u64 0, .int .i64 0, .int .i64 0, .int .i64 0, .int .u64 0, .int .u64 0, .int .i64 0, .bool false, .slice none 0 0, .string ⟨#[]⟩, .slice none 0 0, .int .u64 0, .int .u64 0, .int .i64 0, .slice none 0 0, .int .i64 0, .int .i64 0]
   have HRd := zH hbl
   clear hbl
   generalize World.setRow _ _ _ = W9 at hb HRd ⊢
   refine bodyPost_ret (v := .agg #[.int .i64 0, .int .u64 0, .string ⟨#[]⟩, .slice none 0 0, .int .u64 0, .int .i64 0, .int .i64 0, .int .i64 0, .int .u64 0, .int .u64 0, .int .i64 0, .bool false, .slice none 0 0, .string ⟨#[]⟩, .slice none 0 0, .int .u64 0, .int .u64 0, .int .i64 0, .slice none 0 0, .int .i64 0, .int .i64 0]) (results_cell_row rfl _ _ (w.heap.size + 1) 35 _ (0, 0) _ rfl hb Try.underlying35 rfl (by kernel_rfl)) rfl ?_
   exact ⟨.slice none 0 0, .slice none 0 0, by rw [HS.out]; rfl, by rw [HS.out]; exact Bts.nil _ _ _, by rw [HS.out]; exact Bts.nil _ _ _, HRd.out⟩
 ·have HPx : Hid (((mget (its.map fun x => (x.e.key, x.b)) o.key).map fun b => (⟨b, 0, none⟩ : Addr)) = some ⟨x.b, 0, none⟩) := zH (by rw [h2]; rfl)
  rw [h1] at hS
  obtain ⟨VA, vc, hV⟩ := (h.vals x hx).form
  have HV := zH hV
  have HBv := zH (hV ▸ h.vals x hx)
  have HXm := zH hx
  clear h1 h2 h hv hk hkn hV hx
  rcases k3 with k | k | k | k
  ·have HS := zH (show readsP s o e = ⟨true, x.e.val, ent0, 0⟩ by rw [hS]; simp [want0, k])
   have q3 : (o.kind == 3) = true := by simp [k]
   have q4 : (o.kind == 4) = false := by simp [k]
   have q5 : (o.kind == 5) = false := by simp [k]
   have q6 : (o.kind == 6) = false := by simp [k]
   have q11 : (o.kind == 11) = false := by simp [k]
   have q12 : (o.kind == 12) = false := by simp [k]
   clear k hS
   go_enter Try.func44, Try.ntmps44
   go_upto_region 1 with fail
   generalize World.alloc _ _ = W0 at HX ⊢
   refine wp_region_noPanic ?_
   refine wp_region_held_drew (S := fun W => RdJ w W B g gm gp us s its P o (.slice A n c) want0 (.slice none 0 0) (.slice none 0 0)) (by kernel_rfl) (HX.out.adv (zL _ _).drew) (fun hHeld => ?_)
   generalize W0.drew = W1 at hHeld ⊢
   have HX1 := zH hHeld
   refine Pl.go [0, 1, 2, 3, 4, 5, 6, 7] ?_
   iterate 8
    refine tkl (v := ?_) ?_ ?_
    rotate_left 1
    ·intro W hSw
     obtain ⟨z0, z1, z2, z3, z4, z5, z6, z7, z8⟩ := op9 hSw.box; obtain ⟨d0, d1, d2, d3, d4, d5, d6, d7, d8, d9, d10⟩ := hSw.rep.cells; have hlk := hSw.rep.lookI HK.out; rw [HPx.out] at hlk
     clear hSw
     go_simp
     try with_reducible rfl
    try dsimp only [zS, zB, zC]
   refine Pl.stop ?_
   refine wpAnyH_done (by kernel_rfl) ?_ _
   refine NoPanic.normal ?_
   clear hHeld HX
   obtain ⟨z0, z1, z2, z3, z4, z5, z6, z7, z8⟩ := op9 HX1.out.box
   have c11 : W1.cell? ⟨w.heap.size + 1, 11, none⟩ = some (.bool false) := HX1.out.x.cell 11 _ rfl
   have cf := HX1.out.x.frozen
   go_upto_region 8 with fail
   have HX2 : Hid (RdJ w (W1.setCell ⟨w.heap.size + 1, 11, none⟩ (.bool true)) B g gm gp us s its P o _ ⟨true, [], ent0, 0⟩ (.slice none 0 0) (.slice none 0 0)) := zH (RdJ.set1 HH.out HX1.out 11 (.bool true) rfl)
   clear z0 z1 z2 z3 z4 z5 z6 z7 z8 c11 cf
   generalize World.setCell _ _ _ = W2 at HX2 ⊢
   obtain ⟨z0, z1, z2, z3, z4, z5, z6, z7, z8⟩ := op9 HX2.out.box
   have x1 := (HX2.out.rep.ib x HXm.out).cells.2.1
   rw [HV.out] at x1
   have c12 : W2.cell? ⟨w.heap.size + 1, 12, none⟩ = some (.slice none 0 0) := HX2.out.x.cell 12 _ rfl
   have cf := HX2.out.x.frozen
   go_upto_region 18 with fail
   have HX3 : Hid (RdJ w (W2.setCell ⟨w.heap.size + 1, 12, none⟩ (.slice VA x.e.val.length vc)) B g gm gp us s its P o _ ⟨true, [], ent0, 0⟩ (.slice VA x.e.val.length vc) (.slice none 0 0)) := zH (RdJ.set1 HH.out HX2.out 12 _ rfl)
   clear x1 c12 cf z0 z1 z2 z3 z4 z5 z6 z7 z8
   generalize World.setCell _ _ _ = W3 at HX3 ⊢
   have HXB : Hid (Blk _ _ _ #[.int .i64 0, .int .u64 0, .string ⟨#[]⟩, .slice none 0 0, .int .u64 0, .int .i64 0, .int .i64 0, .int .i64 0, .int .u64 0, .int .u64 0, .int .i64 0, .bool true, .slice VA x.e.val.length vc, .string ⟨#[]⟩, .slice none 0 0, .int .u64 0, .int .u64 0, .int .i64 0, .slice none 0 0, .int .i64 0, .int .i64 0]) := zH (HX3).out.x
   go_wp2_with (first | (refine wpList_load_row rfl 35 _ rfl (w.heap.size + 1) rfl 35 _ (0, 0) _ HXB.out Try.underlying35 rfl (by kernel_rfl) ?_) | (refine wpList_store_row rfl 35 _ _ rfl (w.heap.size + 1) _ rfl rfl 35 _ HXB.out (by kernel_rfl) rfl (by simp [Value.oneCell']) ?_))
   obtain ⟨hb, hbl⟩ := rj_done (HX3).out #[.int .i64 0, .int .u64 0, .string ⟨#[]⟩, .slice none 0 0, .int .u64 0, .int .i64 0, .int .i64 0, .int .i64 0, .int .u64 0, .int .u64 0, .int .i64 0, .bool true, .slice VA x.e.val.length vc, .string ⟨#[]⟩, .slice none 0 0, .int .u64 0, .int .u64 0, .int .i64 0, .slice none 0 0, .int .i64 0, .int .i64 0]
   have HRd := zH hbl
   clear hbl
   generalize World.setRow _ _ _ = W9 at hb HRd ⊢
   refine bodyPost_ret (v := .agg #[.int .i64 0, .int .u64 0, .string ⟨#[]⟩, .slice none 0 0, .int .u64 0, .int .i64 0, .int .i64 0, .int .i64 0, .int .u64 0, .int .u64 0, .int .i64 0, .bool true, .slice VA x.e.val.length vc, .string ⟨#[]⟩, .slice none 0 0, .int .u64 0, .int .u64 0, .int .i64 0, .slice none 0 0, .int .i64 0, .int .i64 0]) (results_cell_row rfl _ _ (w.heap.size + 1) 35 _ (0, 0) _ rfl hb Try.underlying35 rfl (by kernel_rfl)) rfl ?_
   exact ⟨.slice VA x.e.val.length vc, .slice none 0 0, by rw [HS.out]; rfl, by rw [HS.out]; exact (HBv.out.keep (KeepB.of_below HRd.out)), by rw [HS.out]; exact Bts.nil _ _ _, HRd.out⟩
  ·have HS := zH (show readsP s o e = ⟨true, [], x.e, 0⟩ by rw [hS]; simp [want0, k])
   have q3 : (o.kind == 3) = false := by simp [k]
   have q4 : (o.kind == 4) = true := by simp [k]
   have q5 : (o.kind == 5) = false := by simp [k]
   have q6 : (o.kind == 6) = false := by simp [k]
   have q11 : (o.kind == 11) = false := by simp [k]
   have q12 : (o.kind == 12) = false := by simp [k]
   clear k hS
   go_enter Try.func44, Try.ntmps44
   go_upto_region 1 with fail
   generalize World.alloc _ _ = W0 at HX ⊢
   refine wp_region_noPanic ?_
   refine wp_region_held_drew (S := fun W => RdJ w W B g gm gp us s its P o (.slice A n c) want0 (.slice none 0 0) (.slice none 0 0)) (by kernel_rfl) (HX.out.adv (zL _ _).drew) (fun hHeld => ?_)
   generalize W0.drew = W1 at hHeld ⊢
   have HX1 := zH hHeld
   refine Pl.go [0, 1, 2, 3, 4, 5, 6, 7] ?_
   iterate 8
    refine tkl (v := ?_) ?_ ?_
    rotate_left 1
    ·intro W hSw
     obtain ⟨z0, z1, z2, z3, z4, z5, z6, z7, z8⟩ := op9 hSw.box; obtain ⟨d0, d1, d2, d3, d4, d5, d6, d7, d8, d9, d10⟩ := hSw.rep.cells; have hlk := hSw.rep.lookI HK.out; rw [HPx.out] at hlk
     clear hSw
     go_simp
     try with_reducible rfl
    try dsimp only [zS, zB, zC]
   refine Pl.stop ?_
   refine wpAnyH_done (by kernel_rfl) ?_ _
   refine NoPanic.normal ?_
   clear hHeld HX
   obtain ⟨z0, z1, z2, z3, z4, z5, z6, z7, z8⟩ := op9 HX1.out.box
   have c11 : W1.cell? ⟨w.heap.size + 1, 11, none⟩ = some (.bool false) := HX1.out.x.cell 11 _ rfl
   have cf := HX1.out.x.frozen
   go_upto_region 8 with fail
   have HX2 : Hid (RdJ w (W1.setCell ⟨w.heap.size + 1, 11, none⟩ (.bool true)) B g gm gp us s its P o _ ⟨true, [], ent0, 0⟩ (.slice none 0 0) (.slice none 0 0)) := zH (RdJ.set1 HH.out HX1.out 11 (.bool true) rfl)
   clear z0 z1 z2 z3 z4 z5 z6 z7 z8 c11 cf
   generalize World.setCell _ _ _ = W2 at HX2 ⊢
   obtain ⟨z0, z1, z2, z3, z4, z5, z6, z7, z8⟩ := op9 HX2.out.box
   obtain ⟨x0, x1, x2, x3, -, -⟩ := (HX2.out.rep.ib x HXm.out).cells
   rw [HV.out] at x1
   have c13 : W2.cell? ⟨w.heap.size + 1, 13, none⟩ = some (.string ⟨#[]⟩) := HX2.out.x.cell 13 _ rfl
   have c14 : W2.cell? ⟨w.heap.size + 1, 14, none⟩ = some (.slice none 0 0) := HX2.out.x.cell 14 _ rfl
   have c15 : W2.cell? ⟨w.heap.size + 1, 15, none⟩ = some (.int .u64 0) := HX2.out.x.cell 15 _ rfl
   have c16 : W2.cell? ⟨w.heap.size + 1, 16, none⟩ = some (.int .u64 0) := HX2.out.x.cell 16 _ rfl
   have cf := HX2.out.x.frozen
   go_upto_region 18 with fail
   have HX3 := zH (RdJ.set4 HH.out HX2.out x.e (.slice VA x.e.val.length vc))
   clear x0 x1 x2 x3 c13 c14 c15 c16 cf z0 z1 z2 z3 z4 z5 z6 z7 z8
   generalize World.setCell _ _ _ = W3 at HX3 ⊢
   have HXB : Hid (Blk _ _ _ #[.int .i64 0, .int .u64 0, .string ⟨#[]⟩, .slice none 0 0, .int .u64 0, .int .i64 0, .int .i64 0, .int .i64 0, .int .u64 0, .int .u64 0, .int .i64 0, .bool true, .slice none 0 0, .string x.e.key, .slice VA x.e.val.length vc, .int .u64 x.e.dl, .int .u64 x.e.birth, .int .i64 0, .slice none 0 0, .int .i64 0, .int .i64 0]) := zH (HX3).out.x
   go_wp2_with (first | (refine wpList_load_row rfl 35 _ rfl (w.heap.size + 1) rfl 35 _ (0, 0) _ HXB.out Try.underlying35 rfl (by kernel_rfl) ?_) | (refine wpList_store_row rfl 35 _ _ rfl (w.heap.size + 1) _ rfl rfl 35 _ HXB.out (by kernel_rfl) rfl (by simp [Value.oneCell']) ?_))
   obtain ⟨hb, hbl⟩ := rj_done (HX3).out #[.int .i64 0, .int .u64 0, .string ⟨#[]⟩, .slice none 0 0, .int .u64 0, .int .i64 0, .int .i64 0, .int .i64 0, .int .u64 0, .int .u64 0, .int .i64 0, .bool true, .slice none 0 0, .string x.e.key, .slice VA x.e.val.length vc, .int .u64 x.e.dl, .int .u64 x.e.birth, .int .i64 0, .slice none 0 0, .int .i64 0, .int .i64 0]
   have HRd := zH hbl
   clear hbl
   generalize World.setRow _ _ _ = W9 at hb HRd ⊢
   refine bodyPost_ret (v := .agg #[.int .i64 0, .int .u64 0, .string ⟨#[]⟩, .slice none 0 0, .int .u64 0, .int .i64 0, .int .i64 0, .int .i64 0, .int .u64 0, .int .u64 0, .int .i64 0, .bool true, .slice none 0 0, .string x.e.key, .slice VA x.e.val.length vc, .int .u64 x.e.dl, .int .u64 x.e.birth, .int .i64 0, .slice none 0 0, .int .i64 0, .int .i64 0]) (results_cell_row rfl _ _ (w.heap.size + 1) 35 _ (0, 0) _ rfl hb Try.underlying35 rfl (by kernel_rfl)) rfl ?_
   exact ⟨.slice none 0 0, .slice VA x.e.val.length vc, by rw [HS.out]; rfl, by rw [HS.out]; exact Bts.nil _ _ _, by rw [HS.out]; exact (HBv.out.keep (KeepB.of_below HRd.out)), HRd.out⟩
  ·have HS := zH (show readsP s o e = ⟨true, [], ent0, 0⟩ by rw [hS]; simp [want0, k])
   have q3 : (o.kind == 3) = false := by simp [k]
   have q4 : (o.kind == 4) = false := by simp [k]
   have q5 : (o.kind == 5) = true := by simp [k]
   have q6 : (o.kind == 6) = false := by simp [k]
   have q11 : (o.kind == 11) = false := by simp [k]
   have q12 : (o.kind == 12) = false := by simp [k]
   clear k hS
   go_enter Try.func44, Try.ntmps44
   go_upto_region 1 with fail
   generalize World.alloc _ _ = W0 at HX ⊢
   refine wp_region_noPanic ?_
   refine wp_region_held_drew (S := fun W => RdJ w W B g gm gp us s its P o (.slice A n c) want0 (.slice none 0 0) (.slice none 0 0)) (by kernel_rfl) (HX.out.adv (zL _ _).drew) (fun hHeld => ?_)
   generalize W0.drew = W1 at hHeld ⊢
   have HX1 := zH hHeld
   refine Pl.go [0, 1, 2, 3, 4, 5, 6, 7] ?_
   iterate 8
    refine tkl (v := ?_) ?_ ?_
    rotate_left 1
    ·intro W hSw
     obtain ⟨z0, z1, z2, z3, z4, z5, z6, z7, z8⟩ := op9 hSw.box; obtain ⟨d0, d1, d2, d3, d4, d5, d6, d7, d8, d9, d10⟩ := hSw.rep.cells; have hlk := hSw.rep.lookI HK.out; rw [HPx.out] at hlk
     clear hSw
     go_simp
     try with_reducible rfl
    try dsimp only [zS, zB, zC]
   refine Pl.stop ?_
   refine wpAnyH_done (by kernel_rfl) ?_ _
   refine NoPanic.normal ?_
   clear hHeld HX
   obtain ⟨z0, z1, z2, z3, z4, z5, z6, z7, z8⟩ := op9 HX1.out.box
   have c11 : W1.cell? ⟨w.heap.size + 1, 11, none⟩ = some (.bool false) := HX1.out.x.cell 11 _ rfl
   have cf := HX1.out.x.frozen
   go_upto_region 8 with fail
   have HX2 : Hid (RdJ w (W1.setCell ⟨w.heap.size + 1, 11, none⟩ (.bool true)) B g gm gp us s its P o _ ⟨true, [], ent0, 0⟩ (.slice none 0 0) (.slice none 0 0)) := zH (RdJ.set1 HH.out HX1.out 11 (.bool true) rfl)
   clear z0 z1 z2 z3 z4 z5 z6 z7 z8 c11 cf
   generalize World.setCell _ _ _ = W2 at HX2 ⊢
   obtain ⟨z0, z1, z2, z3, z4, z5, z6, z7, z8⟩ := op9 HX2.out.box
   go_upto_region 18 with fail
   have HXB : Hid (Blk _ _ _ #[.int .i64 0, .int .u64 0, .string ⟨#[]⟩, .slice none 0 0, .int .u64 0, .int .i64 0, .int .i64 0, .int .i64 0, .int .u64 0, .int .u64 0, .int .i64 0, .bool true, .slice none 0 0, .string ⟨#[]⟩, .slice none 0 0, .int .u64 0, .int .u64 0, .int .i64 0, .slice none 0 0, .int .i64 0, .int .i64 0]) := zH (HX2).out.x
   go_wp2_with (first | (refine wpList_load_row rfl 35 _ rfl (w.heap.size + 1) rfl 35 _ (0, 0) _ HXB.out Try.underlying35 rfl (by kernel_rfl) ?_) | (refine wpList_store_row rfl 35 _ _ rfl (w.heap.size + 1) _ rfl rfl 35 _ HXB.out (by kernel_rfl) rfl (by simp [Value.oneCell']) ?_))
   obtain ⟨hb, hbl⟩ := rj_done (HX2).out #[.int .i64 0, .int .u64 0, .string ⟨#[]⟩, .slice none 0 0, .int .u64 0, .int .i64 0, .int .i64 0, .int .i64 0, .int .u64 0, .int .u64 0, .int .i64 0, .bool true, .slice none 0 0, .string ⟨#[]⟩, .slice none 0 0, .int .u64 0, .int .u64 0, .int .i64 0, .slice none 0 0, .int .i64 0, .int .i64 0]
   have HRd := zH hbl
   clear hbl
   generalize World.setRow _ _ _ = W9 at hb HRd ⊢
   refine bodyPost_ret (v := .agg #[.int .i64 0, .int .u64 0, .string ⟨#[]⟩, .slice none 0 0, .int .u64 0, .int .i64 0, .int .i64 0, .int .i64 0, .int .u64 0, .int .u64 0, .int .i64 0, .bool true, .slice none 0 0, .string ⟨#[]⟩, .slice none 0 0, .int .u64 0, .int .u64 0, .int .i64 0, .slice none 0 0, .int .i64 0, .int .i64 0]) (results_cell_row rfl _ _ (w.heap.size + 1) 35 _ (0, 0) _ rfl hb Try.underlying35 rfl (by kernel_rfl)) rfl ?_
   exact ⟨.slice none 0 0, .slice none 0 0, by rw [HS.out]; rfl, by rw [HS.out]; exact Bts.nil _ _ _, by rw [HS.out]; exact Bts.nil _ _ _, HRd.out⟩
  ·have HS := zH (show readsP s o e = ⟨true, [], ent0, 0⟩ by rw [hS]; simp [want0, k])
   have q3 : (o.kind == 3) = false := by simp [k]
   have q4 : (o.kind == 4) = false := by simp [k]
   have q5 : (o.kind == 5) = false := by simp [k]
   have q6 : (o.kind == 6) = true := by simp [k]
   have q11 : (o.kind == 11) = false := by simp [k]
   have q12 : (o.kind == 12) = false := by simp [k]
   clear k hS
   go_enter Try.func44, Try.ntmps44
   go_upto_region 1 with fail
   generalize World.alloc _ _ = W0 at HX ⊢
   refine wp_region_noPanic ?_
   refine wp_region_held_drew (S := fun W => RdJ w W B g gm gp us s its P o (.slice A n c) want0 (.slice none 0 0) (.slice none 0 0)) (by kernel_rfl) (HX.out.adv (zL _ _).drew) (fun hHeld => ?_)
   generalize W0.drew = W1 at hHeld ⊢
   have HX1 := zH hHeld
   refine Pl.go [0, 1, 2, 3, 4, 5, 6, 7] ?_
   iterate 8
    refine tkl (v := ?_) ?_ ?_
    rotate_left 1
    ·intro W hSw
     obtain ⟨z0, z1, z2, z3, z4, z5, z6, z7, z8⟩ := op9 hSw.box; obtain ⟨d0, d1, d2, d3, d4, d5, d6, d7, d8, d9, d10⟩ := hSw.rep.cells; have hlk := hSw.rep.lookI HK.out; rw [HPx.out] at hlk
     clear hSw
     go_simp
     try with_reducible rfl
    try dsimp only [zS, zB, zC]
   refine Pl.stop ?_
   refine wpAnyH_done (by kernel_rfl) ?_ _
   refine NoPanic.normal ?_
   clear hHeld HX
   obtain ⟨z0, z1, z2, z3, z4, z5, z6, z7, z8⟩ := op9 HX1.out.box
   have c11 : W1.cell? ⟨w.heap.size + 1, 11, none⟩ = some (.bool false) := HX1.out.x.cell 11 _ rfl
   have cf := HX1.out.x.frozen
   go_upto_region 8 with fail
   have HX2 : Hid (RdJ w (W1.setCell ⟨w.heap.size + 1, 11, none⟩ (.bool true)) B g gm gp us s its P o _ ⟨true, [], ent0, 0⟩ (.slice none 0 0) (.slice none 0 0)) := zH (RdJ.set1 HH.out HX1.out 11 (.bool true) rfl)
   clear z0 z1 z2 z3 z4 z5 z6 z7 z8 c11 cf
   generalize World.setCell _ _ _ = W2 at HX2 ⊢
   obtain ⟨z0, z1, z2, z3, z4, z5, z6, z7, z8⟩ := op9 HX2.out.box
   go_upto_region 18 with fail
   have HXB : Hid (Blk _ _ _ #[.int .i64 0, .int .u64 0, .string ⟨#[]⟩, .slice none 0 0, .int .u64 0, .int .i64 0, .int .i64 0, .int .i64 0, .int .u64 0, .int .u64 0, .int .i64 0, .bool true, .slice none 0 0, .string ⟨#[]⟩, .slice none 0 0, .int .u64 0, .int .u64 0, .int .i64 0, .slice none 0 0, .int .i64 0, .int .i64 0]) := zH (HX2).out.x
   go_wp2_with (first | (refine wpList_load_row rfl 35 _ rfl (w.heap.size + 1) rfl 35 _ (0, 0) _ HXB.out Try.underlying35 rfl (by kernel_rfl) ?_) | (refine wpList_store_row rfl 35 _ _ rfl (w.heap.size + 1) _ rfl rfl 35 _ HXB.out (by kernel_rfl) rfl (by simp [Value.oneCell']) ?_))
   obtain ⟨hb, hbl⟩ := rj_done (HX2).out #[.int .i64 0, .int .u64 0, .string ⟨#[]⟩, .slice none 0 0, .int .u64 0, .int .i64 0, .int .i64 0, .int .i64 0, .int .u64 0, .int .u64 0, .int .i64 0, .bool true, .slice none 0 0, .string ⟨#[]⟩, .slice none 0 0, .int .u64 0, .int .u64 0, .int .i64 0, .slice none 0 0, .int .i64 0, .int .i64 0]
   have HRd := zH hbl
   clear hbl
   generalize World.setRow _ _ _ = W9 at hb HRd ⊢
   refine bodyPost_ret (v := .agg #[.int .i64 0, .int .u64 0, .string ⟨#[]⟩, .slice none 0 0, .int .u64 0, .int .i64 0, .int .i64 0, .int .i64 0, .int .u64 0, .int .u64 0, .int .i64 0, .bool true, .slice none 0 0, .string ⟨#[]⟩, .slice none 0 0, .int .u64 0, .int .u64 0, .int .i64 0, .slice none 0 0, .int .i64 0, .int .i64 0]) (results_cell_row rfl _ _ (w.heap.size + 1) 35 _ (0, 0) _ rfl hb Try.underlying35 rfl (by kernel_rfl)) rfl ?_
   exact ⟨.slice none 0 0, .slice none 0 0, by rw [HS.out]; rfl, by rw [HS.out]; exact Bts.nil _ _ _, by rw [HS.out]; exact Bts.nil _ _ _, HRd.out⟩
end Go.Proofs.Ytnabbimompapfaa
namespace Go.Proofs.Ytnabbimompapfaa
open Go Go.RowKit Go.MapKept Go.Maps
set_option maxHeartbeats 4000000 in
set_option maxRecDepth 100000 in
theorem reads_none (B Bv g gm gp : Nat) (us : Int) (s : PJ) (its : List It) (P : List (Int × Int)) (o : OpV) (V : Value) (e : Int) (w : World) (h : JRep w B g gm gp us s its P) (hv : Bts w Bv 5 V o.val) (hk : o.key.size ≤ maxLen)
  (k3 : ¬(o.kind = 3 ∨ o.kind = 4 ∨ o.kind = 5 ∨ o.kind = 6)) (hn : ¬((o.kind = 11 ∨ o.kind = 12) ∧ e = 0)) :
  Calls Try.prog 44 #[.pointer (some ⟨g, 0, none⟩), opv o V, .int .i64 e] w (RdsE B (readsP s o e) w) := by
 have HH := zH h
 obtain ⟨A, n, c, rfl⟩ : ∃ A n c, V = .slice A n c := by obtain ⟨A, c, e⟩ := hv.form; exact ⟨A, _, c, e⟩
 have HX : Hid (RdJ w ((w.alloc (.cells (opc o (.slice A n c)) 29)).alloc (.cells (wantc want0 (.slice none 0 0) (.slice none 0 0)) 35)) B g gm gp us s its P o (.slice A n c) want0 (.slice none 0 0) (.slice none 0 0)) :=
  zH ⟨h.below (((zL _ _).alloc (zN _) _).alloc (by simp) _), (Blk.new _ _ _).alloc _, Blk.new2 _ _ _ _, ((zL _ _).alloc (zN _) _).alloc (by simp) _⟩
 unfold opv
 unfold opc wantc want0 ent0 at HX
 unfold opc
 dsimp only at HX
 have HK := zH hk
 obtain ⟨px, hpx⟩ : ∃ px, ((mget (its.map fun x => (x.e.key, x.b)) o.key).map fun b => (⟨b, 0, none⟩ : Addr)) = px := ⟨_, rfl⟩
 have HPx := zH hpx
 clear hpx
 have HS := zH (show readsP s o e = ⟨false, [], ent0, 0⟩ by unfold readsP; rw [if_neg k3, if_neg (by omega), if_neg (by omega)]; rfl)
 have q3 : (o.kind == 3) = false := by rw [beq_eq_false_iff_ne]; omega
 have q4 : (o.kind == 4) = false := by rw [beq_eq_false_iff_ne]; omega
 have q5 : (o.kind == 5) = false := by rw [beq_eq_false_iff_ne]; omega
 have q6 : (o.kind == 6) = false := by rw [beq_eq_false_iff_ne]; omega
 clear h hv hk
 by_cases k11 : o.kind = 11
 ·have q11 : (o.kind == 11) = true := by simp [k11]
  have q12 : (o.kind == 12) = false := by simp [k11]
  have qe : (e == 0) = false := by rw [beq_eq_false_iff_ne]; omega
  clear k3 hn k11
  go_enter Try.func44, Try.ntmps44
  go_upto_region 1 with fail
  generalize World.alloc _ _ = W0 at HX ⊢
  refine wp_region_noPanic ?_
  refine wp_region_held_drew (S := fun W => RdJ w W B g gm gp us s its P o (.slice A n c) want0 (.slice none 0 0) (.slice none 0 0)) (by kernel_rfl) (HX.out.adv (zL _ _).drew) (fun hHeld => ?_)
  generalize W0.drew = W1 at hHeld ⊢
  have HX1 := zH hHeld
  refine Pl.go [0, 1, 2, 3, 4, 5, 6, 7] ?_
  iterate 8
   refine tkl (v := ?_) ?_ ?_
   rotate_left 1
   ·intro W hSw
    obtain ⟨z0, z1, z2, z3, z4, z5, z6, z7, z8⟩ := op9 hSw.box; obtain ⟨d0, d1, d2, d3, d4, d5, d6, d7, d8, d9, d10⟩ := hSw.rep.cells; have hlk := hSw.rep.lookI HK.out; rw [HPx.out] at hlk
    clear hSw
    go_simp
    try with_reducible rfl
   try dsimp only [zS, zB, zC]
  refine Pl.stop ?_
  refine wpAnyH_done (by kernel_rfl) ?_ _
  refine NoPanic.normal ?_
  clear hHeld HX
  obtain ⟨z0, z1, z2, z3, z4, z5, z6, z7, z8⟩ := op9 HX1.out.box
  go_upto_region 18 with fail
  have HXB : Hid (Blk _ _ _ #[.int .i64 0, .int .u64 0, .string ⟨#[]⟩, .slice none 0 0, .int .u64 0, .int .i64 0, .int .i64 0, .int .i64 0, .int .u64 0, .int .u64 0, .int .i64 0, .bool false, .slice none 0 0, .string ⟨#[]⟩, .slice none 0 0, .int .u64 0, .int .u64 0, .int .i64 0, .slice none 0 0, .int .i64 0, .int .i64 0]) := zH (HX1).out.x
  go_wp2_with (first | (refine wpList_load_row rfl 35 _ rfl (w.heap.size + 1) rfl 35 _ (0, 0) _ HXB.out Try.underlying35 rfl (by kernel_rfl) ?_) | (refine wpList_store_row rfl 35 _ _ rfl (w.heap.size + 1) _ rfl rfl 35 _ HXB.out (by kernel_rfl) rfl (by simp [Value.oneCell']) ?_))
  obtain ⟨hb, hbl⟩ := rj_done (HX1).out #[.int .i64 0, .int .u64 0, .string ⟨#[]⟩, .slice none 0 0, .int .u64 0, .int .i64 0, .int .i64 0, .int .i64 0, .int .u64 0, .int .u64 0, .int .i64 0, .bool false, .slice none 0 0, .string ⟨#[]⟩, .slice none 0 0, .int .u64 0, .int .u64 0, .int .i64 0, .slice none 0 0, .int .i64 0, .int .i64 0]
  have HRd := zH hbl
  clear hbl
  generalize World.setRow _ _ _ = W9 at hb HRd ⊢
  refine bodyPost_ret (v := .agg #[.int .i64 0, .int .u64 0, .string ⟨#[]⟩, .slice none 0 0, .int .u64 0, .int .i64 0, .int .i64 0, .int .i64 0, .int .u64 0, .int .u64 0, .int .i64 0, .bool false, .slice none 0 0, .string ⟨#[]⟩, .slice none 0 0, .int .u64 0, .int .u64 0, .int .i64 0, .slice none 0 0, .int .i64 0, .int .i64 0]) (results_cell_row rfl _ _ (w.heap.size + 1) 35 _ (0, 0) _ rfl hb Try.underlying35 rfl (by kernel_rfl)) rfl ?_
  exact ⟨.slice none 0 0, .slice none 0 0, by rw [HS.out]; rfl, by rw [HS.out]; exact Bts.nil _ _ _, by rw [HS.out]; exact Bts.nil _ _ _, HRd.out⟩
 ·have q11 : (o.kind == 11) = false := by simp [k11]
  by_cases k12 : o.kind = 12
  ·have q12 : (o.kind == 12) = true := by simp [k12]
   have qe : (e == 0) = false := by rw [beq_eq_false_iff_ne]; omega
   clear k3 hn k11 k12
   go_enter Try.func44, Try.ntmps44
   go_upto_region 1 with fail
   generalize World.alloc _ _ = W0 at HX ⊢
   refine wp_region_noPanic ?_
   refine wp_region_held_drew (S := fun W => RdJ w W B g gm gp us s its P o (.slice A n c) want0 (.slice none 0 0) (.slice none 0 0)) (by kernel_rfl) (HX.out.adv (zL _ _).drew) (fun hHeld => ?_)
   generalize W0.drew = W1 at hHeld ⊢
   have HX1 := zH hHeld
   refine Pl.go [0, 1, 2, 3, 4, 5, 6, 7] ?_
   iterate 8
    refine tkl (v := ?_) ?_ ?_
    rotate_left 1
    ·intro W hSw
     obtain ⟨z0, z1, z2, z3, z4, z5, z6, z7, z8⟩ := op9 hSw.box; obtain ⟨d0, d1, d2, d3, d4, d5, d6, d7, d8, d9, d10⟩ := hSw.rep.cells; have hlk := hSw.rep.lookI HK.out; rw [HPx.out] at hlk
     clear hSw
     go_simp
     try with_reducible rfl
    try dsimp only [zS, zB, zC]
   refine Pl.stop ?_
   refine wpAnyH_done (by kernel_rfl) ?_ _
   refine NoPanic.normal ?_
   clear hHeld HX
   obtain ⟨z0, z1, z2, z3, z4, z5, z6, z7, z8⟩ := op9 HX1.out.box
   go_upto_region 18 with fail
   have HXB : Hid (Blk _ _ _ #[.int .i64 0, .int .u64 0, .string ⟨#[]⟩, .slice none 0 0, .int .u64 0, .int .i64 0, .int .i64 0, .int .i64 0, .int .u64 0, .int .u64 0, .int .i64 0, .bool false, .slice none 0 0, .string ⟨#[]⟩, .slice none 0 0, .int .u64 0, .int .u64 0, .int .i64 0, .slice none 0 0, .int .i64 0, .int .i64 0]) := zH (HX1).out.x
   go_wp2_with (first | (refine wpList_load_row rfl 35 _ rfl (w.heap.size + 1) rfl 35 _ (0, 0) _ HXB.out Try.underlying35 rfl (by kernel_rfl) ?_) | (refine wpList_store_row rfl 35 _ _ rfl (w.heap.size + 1) _ rfl rfl 35 _ HXB.out (by kernel_rfl) rfl (by simp [Value.oneCell']) ?_))
   obtain ⟨hb, hbl⟩ := rj_done (HX1).out #[.int .i64 0, .int .u64 0, .string ⟨#[]⟩, .slice none 0 0, .int .u64 0, .int .i64 0, .int .i64 0, .int .i64 0, .int .u64 0, .int .u64 0, .int .i64 0, .bool false, .slice none 0 0, .string ⟨#[]⟩, .slice none 0 0, .int .u64 0, .int .u64 0, .int .i64 0, .slice none 0 0, .int .i64 0, .int .i64 0]
   have HRd := zH hbl
   clear hbl
   generalize World.setRow _ _ _ = W9 at hb HRd ⊢
   refine bodyPost_ret (v := .agg #[.int .i64 0, .int .u64 0, .string ⟨#[]⟩, .slice none 0 0, .int .u64 0, .int .i64 0, .int .i64 0, .int .i64 0, .int .u64 0, .int .u64 0, .int .i64 0, .bool false, .slice none 0 0, .string ⟨#[]⟩, .slice none 0 0, .int .u64 0, .int .u64 0, .int .i64 0, .slice none 0 0, .int .i64 0, .int .i64 0]) (results_cell_row rfl _ _ (w.heap.size + 1) 35 _ (0, 0) _ rfl hb Try.underlying35 rfl (by kernel_rfl)) rfl ?_
   exact ⟨.slice none 0 0, .slice none 0 0, by rw [HS.out]; rfl, by rw [HS.out]; exact Bts.nil _ _ _, by rw [HS.out]; exact Bts.nil _ _ _, HRd.out⟩
  ·have q12 : (o.kind == 12) = false := by simp [k12]
   clear k3 hn k11 k12
   go_enter Try.func44, Try.ntmps44
   go_upto_region 1 with fail
   generalize World.alloc _ _ = W0 at HX ⊢
   refine wp_region_noPanic ?_
   refine wp_region_held_drew (S := fun W => RdJ w W B g gm gp us s its P o (.slice A n c) want0 (.slice none 0 0) (.slice none 0 0)) (by kernel_rfl) (HX.out.adv (zL _ _).drew) (fun hHeld => ?_)
   generalize W0.drew = W1 at hHeld ⊢
   have HX1 := zH hHeld
   refine Pl.go [0, 1, 2, 3, 4, 5, 6, 7] ?_
   iterate 8
    refine tkl (v := ?_) ?_ ?_
    rotate_left 1
    ·intro W hSw
     obtain ⟨z0, z1, z2, z3, z4, z5, z6, z7, z8⟩ := op9 hSw.box; obtain ⟨d0, d1, d2, d3, d4, d5, d6, d7, d8, d9, d10⟩ := hSw.rep.cells; have hlk := hSw.rep.lookI HK.out; rw [HPx.out] at hlk
     clear hSw
     go_simp
     try with_reducible rfl
    try dsimp only [zS, zB, zC]
   refine Pl.stop ?_
   refine wpAnyH_done (by kernel_rfl) ?_ _
   refine NoPanic.normal ?_
   clear hHeld HX
   obtain ⟨z0, z1, z2, z3, z4, z5, z6, z7, z8⟩ := op9 HX1.out.box
   go_upto_region 18 with fail
   have HXB : Hid (Blk _ _ _ #[.int .i64 0, .int .u64 0, .string ⟨#[]⟩, .slice none 0 0, .int .u64 0, .int .i64 0, .int .i64 0, .int .i64 0, .int .u64 0, .int .u64 0, .int .i64 0, .bool false, .slice none 0 0, .string ⟨#[]⟩, .slice none 0 0, .int .u64 0, .int .u64 0, .int .i64 0, .slice none 0 0, .int .i64 0, .int .i64 0]) := zH (HX1).out.x
   go_wp2_with (first | (refine wpList_load_row rfl 35 _ rfl (w.heap.size + 1) rfl 35 _ (0, 0) _ HXB.out Try.underlying35 rfl (by kernel_rfl) ?_) | (refine wpList_store_row rfl 35 _ _ rfl (w.heap.size + 1) _ rfl rfl 35 _ HXB.out (by kernel_rfl) rfl (by simp [Value.oneCell']) ?_))
   obtain ⟨hb, hbl⟩ := rj_done (HX1).out #[.int .i64 0, .int .u64 0, .string ⟨#[]⟩, .slice none 0 0, .int .u64 0, .int .i64 0, .int .i64 0, .int .i64 0, .int .u64 0, .int .u64 0, .int .i64 0, .bool false, .slice none 0 0, .string ⟨#[]⟩, .slice none 0 0, .int .u64 0, .int .u64 0, .int .i64 0, .slice none 0 0, .int .i64 0, .int .i64 0]
   have HRd := zH hbl
   clear hbl
   generalize World.setRow _ _ _ = W9 at hb HRd ⊢
   refine bodyPost_ret (v := .agg #[.int .i64 0, .int .u64 0, .string ⟨#[]⟩, .slice none 0 0, .int .u64 0, .int .i64 0, .int .i64 0, .int .i64 0, .int .u64 0, .int .u64 0, .int .i64 0, .bool false, .slice none 0 0, .string ⟨#[]⟩, .slice none 0 0, .int .u64 0, .int .u64 0, .int .i64 0, .slice none 0 0, .int .i64 0, .int .i64 0]) (results_cell_row rfl _ _ (w.heap.size + 1) 35 _ (0, 0) _ rfl hb Try.underlying35 rfl (by kernel_rfl)) rfl ?_
   exact ⟨.slice none 0 0, .slice none 0 0, by rw [HS.out]; rfl, by rw [HS.out]; exact Bts.nil _ _ _, by rw [HS.out]; exact Bts.nil _ _ _, HRd.out⟩
set_option maxHeartbeats 4000000 in
set_option maxRecDepth 100000 in
theorem reads_open (B Bv g gm gp : Nat) (us : Int) (s : PJ) (its : List It) (P : List (Int × Int)) (o : OpV) (V : Value) (w : World) (h : JRep w B g gm gp us s its P) (hv : Bts w Bv 5 V o.val) (hk : o.key.size ≤ maxLen)
  (hkd : o.kind = 11) (hp : s.pl.length = 64) :
  Calls Try.prog 44 #[.pointer (some ⟨g, 0, none⟩), opv o V, .int .i64 0] w (RdsE B (readsP s o 0) w) := by
 have HH := zH h
 obtain ⟨A, n, c, rfl⟩ : ∃ A n c, V = .slice A n c := by obtain ⟨A, c, e⟩ := hv.form; exact ⟨A, _, c, e⟩
 have HX : Hid (RdJ w ((w.alloc (.cells (opc o (.slice A n c)) 29)).alloc (.cells (wantc want0 (.slice none 0 0) (.slice none 0 0)) 35)) B g gm gp us s its P o (.slice A n c) want0 (.slice none 0 0) (.slice none 0 0)) :=
  zH ⟨h.below (((zL _ _).alloc (zN _) _).alloc (by simp) _), (Blk.new _ _ _).alloc _, Blk.new2 _ _ _ _, ((zL _ _).alloc (zN _) _).alloc (by simp) _⟩
 unfold opv
 unfold opc wantc want0 ent0 at HX
 unfold opc
 dsimp only at HX
 have HK := zH hk
 obtain ⟨px, hpx⟩ : ∃ px, ((mget (its.map fun x => (x.e.key, x.b)) o.key).map fun b => (⟨b, 0, none⟩ : Addr)) = px := ⟨_, rfl⟩
 have HPx := zH hpx
 clear hpx
 have HS := zH (show readsP s o 0 = ⟨false, [], ent0, freeP s.pl⟩ by unfold readsP; rw [if_neg (by omega), if_pos ⟨hkd, rfl⟩]; rfl)
 have q3 : (o.kind == 3) = false := by simp [hkd]
 have q4 : (o.kind == 4) = false := by simp [hkd]
 have q5 : (o.kind == 5) = false := by simp [hkd]
 have q6 : (o.kind == 6) = false := by simp [hkd]
 have q11 : (o.kind == 11) = true := by simp [hkd]
 have q12 : (o.kind == 12) = false := by simp [hkd]
 have HP := zH hp
 clear h hv hk hkd hp
 go_enter Try.func44, Try.ntmps44
 go_upto_region 1 with fail
 generalize World.alloc _ _ = W0 at HX ⊢
 refine wp_region_noPanic ?_
 refine wp_region_held_drew (S := fun W => RdJ w W B g gm gp us s its P o (.slice A n c) want0 (.slice none 0 0) (.slice none 0 0)) (by kernel_rfl) (HX.out.adv (zL _ _).drew) (fun hHeld => ?_)
 generalize W0.drew = W1 at hHeld ⊢
 have HX1 := zH hHeld
 refine Pl.go [0, 1, 2, 3, 4, 5, 6, 7] ?_
 iterate 8
  refine tkl (v := ?_) ?_ ?_
  rotate_left 1
  ·intro W hSw
   obtain ⟨z0, z1, z2, z3, z4, z5, z6, z7, z8⟩ := op9 hSw.box; obtain ⟨d0, d1, d2, d3, d4, d5, d6, d7, d8, d9, d10⟩ := hSw.rep.cells; have hlk := hSw.rep.lookI HK.out; rw [HPx.out] at hlk
   clear hSw
   go_simp
   try with_reducible rfl
  try dsimp only [zS, zB, zC]
 refine Pl.stop ?_
 refine wpAnyH_done (by kernel_rfl) ?_ _
 refine NoPanic.normal ?_
 clear hHeld HX
 obtain ⟨z0, z1, z2, z3, z4, z5, z6, z7, z8⟩ := op9 HX1.out.box
 go_wp2_with fail
 refine (free_any B g gm gp us s its P W1 HX1.out.rep HP.out).mono ?_
 rintro e2 w4 ⟨rfl, hw4⟩
 subst hw4
 have c17 : W1.cell? ⟨w.heap.size + 1, 17, none⟩ = some (.int .i64 0) := HX1.out.x.cell 17 _ rfl
 have cf := HX1.out.x.frozen
 go_upto_region 18 with fail
 have HX3 : Hid (RdJ w (W1.setCell ⟨w.heap.size + 1, 17, none⟩ (.int .i64 (freeP s.pl : Int))) B g gm gp us s its P o _ ⟨false, [], ent0, freeP s.pl⟩ (.slice none 0 0) (.slice none 0 0)) := zH (RdJ.set1 HH.out HX1.out 17 _ rfl)
 clear c17 cf z0 z1 z2 z3 z4 z5 z6 z7 z8
 generalize World.setCell _ _ _ = W3 at HX3 ⊢
 have HXB : Hid (Blk _ _ _ #[.int .i64 0, .int .u64 0, .string ⟨#[]⟩, .slice none 0 0, .int .u64 0, .int .i64 0, .int .i64 0, .int .i64 0, .int .u64 0, .int .u64 0, .int .i64 0, .bool false, .slice none 0 0, .string ⟨#[]⟩, .slice none 0 0, .int .u64 0, .int .u64 0, .int .i64 (freeP s.pl : Int), .slice none 0 0, .int .i64 0, .int .i64 0]) := zH (HX3).out.x
 go_wp2_with (first | (refine wpList_load_row rfl 35 _ rfl (w.heap.size + 1) rfl 35 _ (0, 0) _ HXB.out Try.underlying35 rfl (by kernel_rfl) ?_) | (refine wpList_store_row rfl 35 _ _ rfl (w.heap.size + 1) _ rfl rfl 35 _ HXB.out (by kernel_rfl) rfl (by simp [Value.oneCell']) ?_))
 obtain ⟨hb, hbl⟩ := rj_done (HX3).out #[.int .i64 0, .int .u64 0, .string ⟨#[]⟩, .slice none 0 0, .int .u64 0, .int .i64 0, .int .i64 0, .int .i64 0, .int .u64 0, .int .u64 0, .int .i64 0, .bool false, .slice none 0 0, .string ⟨#[]⟩, .slice none 0 0, .int .u64 0, .int .u64 0, .int .i64 (freeP s.pl : Int), .slice none 0 0, .int .i64 0, .int .i64 0]
 have HRd := zH hbl
 clear hbl
 generalize World.setRow _ _ _ = W9 at hb HRd ⊢
 refine bodyPost_ret (v := .agg #[.int .i64 0, .int .u64 0, .string ⟨#[]⟩, .slice none 0 0, .int .u64 0, .int .i64 0, .int .i64 0, .int .i64 0, .int .u64 0, .int .u64 0, .int .i64 0, .bool false, .slice none 0 0, .string ⟨#[]⟩, .slice none 0 0, .int .u64 0, .int .u64 0, .int .i64 (freeP s.pl : Int), .slice none 0 0, .int .i64 0, .int .i64 0]) (results_cell_row rfl _ _ (w.heap.size + 1) 35 _ (0, 0) _ rfl hb Try.underlying35 rfl (by kernel_rfl)) rfl ?_
 exact ⟨.slice none 0 0, .slice none 0 0, by rw [HS.out]; rfl, by rw [HS.out]; exact Bts.nil _ _ _, by rw [HS.out]; exact Bts.nil _ _ _, HRd.out⟩
set_option maxHeartbeats 4000000 in
set_option maxRecDepth 100000 in
theorem reads_next (B Bv g gm gp : Nat) (us : Int) (s : PJ) (its : List It) (P : List (Int × Int)) (o : OpV) (V : Value) (b : Int) (y : EntV) (w : World) (h : JRep w B g gm gp us s its P) (hv : Bts w Bv 5 V o.val) (hk : o.key.size ≤ maxLen)
  (hkd : o.kind = 12) (hc : -9223372036854775808 ≤ o.cursor ∧ o.cursor ≤ 9223372036854775807) (hop : openP s.pl o.cursor = some b) (hy : afterP s.L b s.now = some y) (hlen : its.length ≤ 1000000) (hasc : (s.L.map EntV.birth).Pairwise (· < ·)) :
  Calls Try.prog 44 #[.pointer (some ⟨g, 0, none⟩), opv o V, .int .i64 0] w (RdsE B (readsP s o 0) w) := by
 have HH := zH h
 obtain ⟨A, n, c, rfl⟩ : ∃ A n c, V = .slice A n c := by obtain ⟨A, c, e⟩ := hv.form; exact ⟨A, _, c, e⟩
 have HX : Hid (RdJ w ((w.alloc (.cells (opc o (.slice A n c)) 29)).alloc (.cells (wantc want0 (.slice none 0 0) (.slice none 0 0)) 35)) B g gm gp us s its P o (.slice A n c) want0 (.slice none 0 0) (.slice none 0 0)) :=
  zH ⟨h.below (((zL _ _).alloc (zN _) _).alloc (by simp) _), (Blk.new _ _ _).alloc _, Blk.new2 _ _ _ _, ((zL _ _).alloc (zN _) _).alloc (by simp) _⟩
 unfold opv
 unfold opc wantc want0 ent0 at HX
 unfold opc
 dsimp only at HX
 have HK := zH hk
 obtain ⟨px, hpx⟩ : ∃ px, ((mget (its.map fun x => (x.e.key, x.b)) o.key).map fun b => (⟨b, 0, none⟩ : Addr)) = px := ⟨_, rfl⟩
 have HPx := zH hpx
 clear hpx
 have HS := zH (show readsP s o 0 = ⟨false, [], y, 0⟩ by unfold readsP; rw [if_neg (by omega), if_neg (by omega), if_pos ⟨hkd, rfl⟩, hop]; dsimp only; rw [hy]; rfl)
 have q3 : (o.kind == 3) = false := by simp [hkd]
 have q4 : (o.kind == 4) = false := by simp [hkd]
 have q5 : (o.kind == 5) = false := by simp [hkd]
 have q6 : (o.kind == 6) = false := by simp [hkd]
 have q11 : (o.kind == 11) = false := by simp [hkd]
 have q12 : (o.kind == 12) = true := by simp [hkd]
 have HC := zH hc
 have HOp := zH hop
 have HY := zH hy
 have HLe := zH hlen
 have HA := zH hasc
 clear h hv hk hkd hc hop hy hlen hasc
 go_enter Try.func44, Try.ntmps44
 go_upto_region 1 with fail
 generalize World.alloc _ _ = W0 at HX ⊢
 refine wp_region_noPanic ?_
 refine wp_region_held_drew (S := fun W => RdJ w W B g gm gp us s its P o (.slice A n c) want0 (.slice none 0 0) (.slice none 0 0)) (by kernel_rfl) (HX.out.adv (zL _ _).drew) (fun hHeld => ?_)
 generalize W0.drew = W1 at hHeld ⊢
 have HX1 := zH hHeld
 refine Pl.go [0, 1, 2, 3, 4, 5, 6, 7] ?_
 iterate 8
  refine tkl (v := ?_) ?_ ?_
  rotate_left 1
  ·intro W hSw
   obtain ⟨z0, z1, z2, z3, z4, z5, z6, z7, z8⟩ := op9 hSw.box; obtain ⟨d0, d1, d2, d3, d4, d5, d6, d7, d8, d9, d10⟩ := hSw.rep.cells; have hlk := hSw.rep.lookI HK.out; rw [HPx.out] at hlk
   clear hSw
   go_simp
   try with_reducible rfl
  try dsimp only [zS, zB, zC]
 refine Pl.stop ?_
 refine wpAnyH_done (by kernel_rfl) ?_ _
 refine NoPanic.normal ?_
 clear hHeld HX
 obtain ⟨z0, z1, z2, z3, z4, z5, z6, z7, z8⟩ := op9 HX1.out.box
 go_upto_region 17 with fail
 clear z0 z1 z2 z3 z4 z5 z6 z7 z8
 refine wp_region_noPanic ?_
 have HXd := zH (RdJ.adv HX1.out (zL W1.heap.size W1).drew)
 refine wp_region_till [17] (fun W => RdJ w W B g gm gp us s its P o (.slice A n c) want0 (.slice none 0 0) (.slice none 0 0)) (fun _ => True) (by kernel_rfl) trivial HXd.out (fun hTill => ?_)
 generalize W1.drew = W2 at HXd hTill ⊢
 refine Pl.go [0, 1, 2, 3, 4, 5, 6] ?_
 iterate 7
  refine ttl (v := ?_) ?_ ?_
  rotate_left 1
  ·intro W hSw
   obtain ⟨z0, z1, z2, z3, z4, z5, z6, z7, z8⟩ := op9 hSw.2.box; obtain ⟨-, -, -, -, -, d5, -, -, -, -, d10⟩ := hSw.2.rep.cells; skip
   clear hSw
   go_simp
   try with_reducible rfl
  try dsimp only [zS, zB, zC]
  clear hTill
  intro hTill
 refine Pl.stop ?_
 refine tt 7 (v := ?_) ?_ ?_
 rotate_left 1
 ·intro W hSw
  obtain ⟨z0, z1, z2, z3, z4, z5, z6, z7, z8⟩ := op9 hSw.2.box; obtain ⟨-, -, -, -, -, d5, -, -, -, -, d10⟩ := hSw.2.rep.cells; have hlk := hSw.2.rep.lookPl1 HC.out HOp.out
  clear hSw
  go_simp
  try with_reducible rfl
 try dsimp only [zS, zB, zC]
 clear hTill
 intro hTill
 refine Pl.go [8, 9, 10, 11] ?_
 iterate 4
  refine ttl (v := ?_) ?_ ?_
  rotate_left 1
  ·intro W hSw
   obtain ⟨z0, z1, z2, z3, z4, z5, z6, z7, z8⟩ := op9 hSw.2.box; obtain ⟨-, -, -, -, -, d5, -, -, -, -, d10⟩ := hSw.2.rep.cells; skip
   clear hSw
   go_simp
   try with_reducible rfl
  try dsimp only [zS, zB, zC]
  clear hTill
  intro hTill
 refine Pl.stop ?_
 refine wpTill.only (i := 12) (o := ⟨_, _, _, _, _, _⟩) (by kernel_rfl) rfl (fun F hF => ?_)
 go_simp
 refine (after_any B g gm gp us s its P b s.now W2 HXd.out.rep HLe.out HA.out).mono ?_
 rintro e w3 ⟨hb3, ⟨hno, _⟩ | ⟨x, hx, hsome, rfl⟩⟩
 ·rw [HY.out] at hno
  cases hno
 ·have hxy : y = x.e := by rw [HY.out] at hsome; injection hsome
  subst hxy
  have HX3 := zH (HXd.out.adv hb3)
  have HXm := zH hx
  obtain ⟨VA, vc, hV⟩ := (HX3.out.rep.vals x hx).form
  have HV := zH hV
  have HBv := zH (hV ▸ HX3.out.rep.vals x hx)
  clear hb3 hsome hx hV
  go_wp2_with fail
  refine hF.out _ _ (Till.of trivial HX3.out) (fun hTill => ?_)
  clear hF F HXd
  try simp only [Act.put, zA, zB, zC]
  refine Pl.go [13, 14] ?_
  iterate 2
   refine ttl (v := ?_) ?_ ?_
   rotate_left 1
   ·intro W hSw
    obtain ⟨z0, z1, z2, z3, z4, z5, z6, z7, z8⟩ := op9 hSw.2.box; obtain ⟨-, -, -, -, -, d5, -, -, -, -, d10⟩ := hSw.2.rep.cells; skip
    clear hSw
    go_simp
    try with_reducible rfl
   try dsimp only [zS, zB, zC]
   clear hTill
   intro hTill
  refine Pl.stop ?_
  refine tt 15 (v := ?_) ?_ ?_
  rotate_left 1
  ·intro W hSw
   obtain ⟨z0, z1, z2, z3, z4, z5, z6, z7, z8⟩ := op9 hSw.2.box; obtain ⟨-, -, -, -, -, d5, -, -, -, -, d10⟩ := hSw.2.rep.cells; obtain ⟨x0, x1, x2, x3, -, -⟩ := (hSw.2.rep.ib x HXm.out).cells; rw [HV.out] at x1
   clear hSw
   go_simp
   try with_reducible rfl
  try dsimp only [zS, zB, zC]
  clear hTill
  intro hTill
  refine tt 16 (v := ?_) ?_ ?_
  rotate_left 1
  ·intro W hSw
   obtain ⟨z0, z1, z2, z3, z4, z5, z6, z7, z8⟩ := op9 hSw.2.box; obtain ⟨-, -, -, -, -, d5, -, -, -, -, d10⟩ := hSw.2.rep.cells; skip
   clear hSw
   go_simp
   try with_reducible rfl
  try dsimp only [zS, zB, zC]
  clear hTill
  intro hTill
  have c13 : w3.cell? ⟨w.heap.size + 1, 13, none⟩ = some (.string ⟨#[]⟩) := HX3.out.x.cell 13 _ rfl
  have c14 : w3.cell? ⟨w.heap.size + 1, 14, none⟩ = some (.slice none 0 0) := HX3.out.x.cell 14 _ rfl
  have c15 : w3.cell? ⟨w.heap.size + 1, 15, none⟩ = some (.int .u64 0) := HX3.out.x.cell 15 _ rfl
  have c16 : w3.cell? ⟨w.heap.size + 1, 16, none⟩ = some (.int .u64 0) := HX3.out.x.cell 16 _ rfl
  have cf := HX3.out.x.frozen
  refine wpTill.only (i := 17) (o := ⟨_, _, _, _, _, _⟩) (by kernel_rfl) rfl (fun F hF => ?_)
  go_simp
  refine hF.out _ _ (Till.stored trivial (by kernel_rfl)) (fun hTill => ?_)
  clear hF F
  try simp only [Act.put, zA, zB, zC]
  refine wpTill.done (by kernel_rfl) ?_
  try refine NoPanic.normal ?_
  have HX4 := zH (RdJ.set4 HH.out HX3.out x.e (.slice VA x.e.val.length vc))
  have HBw : Hid (Bts w B 5 (.slice VA x.e.val.length vc) x.e.val) := zH (HV.out ▸ HH.out.vals x HXm.out)
  clear hTill c13 c14 c15 c16 cf
  generalize World.setCell _ _ _ = W3 at HX4 ⊢
  have HXB : Hid (Blk _ _ _ #[.int .i64 0, .int .u64 0, .string ⟨#[]⟩, .slice none 0 0, .int .u64 0, .int .i64 0, .int .i64 0, .int .i64 0, .int .u64 0, .int .u64 0, .int .i64 0, .bool false, .slice none 0 0, .string x.e.key, .slice VA x.e.val.length vc, .int .u64 x.e.dl, .int .u64 x.e.birth, .int .i64 0, .slice none 0 0, .int .i64 0, .int .i64 0]) := zH (HX4).out.x
  go_wp2_with (first | (refine wpList_load_row rfl 35 _ rfl (w.heap.size + 1) rfl 35 _ (0, 0) _ HXB.out Try.underlying35 rfl (by kernel_rfl) ?_) | (refine wpList_store_row rfl 35 _ _ rfl (w.heap.size + 1) _ rfl rfl 35 _ HXB.out (by kernel_rfl) rfl (by simp [Value.oneCell']) ?_))
  obtain ⟨hb, hbl⟩ := rj_done (HX4).out #[.int .i64 0, .int .u64 0, .string ⟨#[]⟩, .slice none 0 0, .int .u64 0, .int .i64 0, .int .i64 0, .int .i64 0, .int .u64 0, .int .u64 0, .int .i64 0, .bool false, .slice none 0 0, .string x.e.key, .slice VA x.e.val.length vc, .int .u64 x.e.dl, .int .u64 x.e.birth, .int .i64 0, .slice none 0 0, .int .i64 0, .int .i64 0]
  have HRd := zH hbl
  clear hbl
  generalize World.setRow _ _ _ = W9 at hb HRd ⊢
  refine bodyPost_ret (v := .agg #[.int .i64 0, .int .u64 0, .string ⟨#[]⟩, .slice none 0 0, .int .u64 0, .int .i64 0, .int .i64 0, .int .i64 0, .int .u64 0, .int .u64 0, .int .i64 0, .bool false, .slice none 0 0, .string x.e.key, .slice VA x.e.val.length vc, .int .u64 x.e.dl, .int .u64 x.e.birth, .int .i64 0, .slice none 0 0, .int .i64 0, .int .i64 0]) (results_cell_row rfl _ _ (w.heap.size + 1) 35 _ (0, 0) _ rfl hb Try.underlying35 rfl (by kernel_rfl)) rfl ?_
  exact ⟨.slice none 0 0, .slice VA x.e.val.length vc, by rw [HS.out]; rfl, by rw [HS.out]; exact Bts.nil _ _ _, by rw [HS.out]; exact (HBw.out.keep (KeepB.of_below HRd.out)), HRd.out⟩
theorem reads_any (N B Bv g gm gp : Nat) (us : Int) (s : PJ) (its : List It) (P : List (Int × Int)) (o : OpV) (V : Value) (e : Int) (w : World) (h : JRep w B g gm gp us s its P) (hv : Bts w Bv 5 V o.val) (hk : o.key.size ≤ maxLen) (hi : PInv N s) (hn : N ≤ 90000)
  (hc : -9223372036854775808 ≤ o.cursor ∧ o.cursor ≤ 9223372036854775807) (he : o.kind = 12 → e = 0 → ∃ b x, openP s.pl o.cursor = some b ∧ afterP s.L b s.now = some x) :
  Calls Try.prog 44 #[.pointer (some ⟨g, 0, none⟩), opv o V, .int .i64 e] w (RdsE B (readsP s o e) w) := by
 have hlen : its.length ≤ 1000000 := by have := h.lenI; have := hi.lenL; omega
 by_cases k3 : o.kind = 3 ∨ o.kind = 4 ∨ o.kind = 5 ∨ o.kind = 6
 ·exact reads_key B Bv g gm gp us s its P o V e w h hv hk hi.keys k3
 ·by_cases hnn : (o.kind = 11 ∨ o.kind = 12) ∧ e = 0
  ·obtain ⟨h1, rfl⟩ := hnn
   rcases h1 with h1 | h1
   ·exact reads_open B Bv g gm gp us s its P o V w h hv hk h1 hi.pls
   ·obtain ⟨b, x, h2, h3⟩ := he h1 rfl
    exact reads_next B Bv g gm gp us s its P o V b x w h hv hk h1 hc h2 h3 hlen hi.asc
  ·exact reads_none B Bv g gm gp us s its P o V e w h hv hk k3 hnn
end Go.Proofs.Ytnabbimompapfaa
namespace Go.Proofs.Ytnabbimompapfaa
open Go Go.RowKit Go.MapKept Go.Maps
structure EvJ (w W : World) (B Bv g gm gp : Nat) (us : Int) (s : PJ) (its : List It) (P : List (Int × Int)) (o : OpV) (V lv : Value) (xs : List (EvV × Value)) : Prop where
 rep : JRep W B g gm gp us s its P
 box : Blk W w.heap.size 29 (opc o V)
 ev : EvsAt W Bv lv xs
 only : Only (KJ B w) w W
section
variable {w W W2 : World} {B Bv g gm gp : Nat} {us us2 : Int} {s s2 : PJ} {its its2 : List It} {P P2 : List (Int × Int)} {o : OpV} {V lv : Value} {xs : List (EvV × Value)}
theorem EvJ.adv (h : EvJ w W B Bv g gm gp us s its P o V lv xs) (hb : Below W.heap.size W W2) : EvJ w W2 B Bv g gm gp us s its P o V lv xs :=
 ⟨h.rep.below hb, h.box.below hb, h.ev.below hb, KJ.trans h.only (KJ.of_below hb)⟩
theorem EvJ.next (h : EvJ w W B Bv g gm gp us s its P o V lv xs) (hj : JRep W2 B g gm gp us2 s2 its2 P2) (ho : Only (KJ B W) W W2) (hBv : Bv ≤ B) : EvJ w W2 B Bv g gm gp us2 s2 its2 P2 o V lv xs :=
 ⟨hj, h.box.only ho (KJ.not_ h.box (by decide) (by decide)), h.ev.keep (KJ.keepB ho hBv), KJ.trans h.only ho⟩
theorem JRep.head_min {n : Nat} (h : JRep W B g gm gp us s its P) (hi : PInv n s) {x : It} (hx : x ∈ its) (hh : s.U.head? = some x.e.birth) : ∀ y ∈ its, ¬ y.u < x.u := by
 intro y hy
 have hyU : y.e.birth ∈ s.U := (hi.mem _).2 ⟨y.e, h.perm.mem_iff.1 (List.mem_map_of_mem hy), rfl⟩
 cases hU : s.U with
 |nil => rw [hU] at hyU; cases hyU
 |cons b l =>
  rw [hU] at hh hyU
  have hb : b = x.e.birth := by simpa using hh
  rcases List.mem_cons.1 hyU with e | e
  ·have := h.birth_inj hi.asc hy hx (e.trans hb)
   subst this
   omega
  ·have ho := h.ord
   rw [hU, List.pairwise_cons] at ho
   have := ho.1 y.e.birth e x hx y hy hb.symm rfl
   omega
theorem JRep.head_less {n : Nat} (h : JRep W B g gm gp us s its P) (hi : PInv n s) {x : It} (hx : x ∈ its) (hh : s.U.head? ≠ some x.e.birth) : ∃ y ∈ its, y.u < x.u := by
 have hxU : x.e.birth ∈ s.U := (hi.mem _).2 ⟨x.e, h.perm.mem_iff.1 (List.mem_map_of_mem hx), rfl⟩
 cases hU : s.U with
 |nil => rw [hU] at hxU; cases hxU
 |cons b l =>
  rw [hU] at hh hxU
  have hb : b ≠ x.e.birth := fun e => hh (by rw [List.head?_cons, e])
  rcases List.mem_cons.1 hxU with e | e
  ·exact absurd e.symm hb
  ·obtain ⟨e1, he1, hb1⟩ := (hi.mem b).1 (by rw [hU]; exact List.mem_cons_self ..)
   obtain ⟨y, hy, hye⟩ := List.mem_map.1 (h.perm.mem_iff.2 he1)
   have ho := h.ord
   rw [hU, List.pairwise_cons] at ho
   exact ⟨y, hy, ho.1 x.e.birth e y hy x hx (by rw [hye, hb1]) rfl⟩
end
def EvRetJ (B g gm gp : Nat) (us : Int) (r : Except Int PJ) (w : World) (e : Ending) (w' : World) : Prop :=
 Only (KJ B w) w w' ∧ (∀ x, r = .error x → e = .returned (.int .i64 x)) ∧ ∀ s2, r = .ok s2 → e = .returned (.int .i64 0) ∧ ∃ its' P', JRep w' B g gm gp us s2 its' P'
theorem EvRetJ.err {B g gm gp : Nat} {us : Int} {r : Except Int PJ} {w w' : World} {x : Int} (h : r = .error x) (ho : Only (KJ B w) w w') : EvRetJ B g gm gp us r w (.returned (.int .i64 x)) w' :=
 ⟨ho, fun y hy => by rw [h] at hy; injection hy with hy; rw [hy], fun s2 h2 => by rw [h] at h2; cases h2⟩
theorem EvRetJ.ok {B g gm gp : Nat} {us : Int} {r : Except Int PJ} {w w' : World} {s2 : PJ} (h : r = .ok s2) {its : List It} {P : List (Int × Int)} (hk : JRep w' B g gm gp us s2 its P) (ho : Only (KJ B w) w w') : EvRetJ B g gm gp us r w (.returned (.int .i64 0)) w' :=
 ⟨ho, fun y hy => (by rw [h] at hy; cases hy), fun s3 h3 => (by rw [h] at h3; injection h3 with h3; subst h3; exact ⟨rfl, _, _, hk⟩)⟩
end Go.Proofs.Ytnabbimompapfaa
