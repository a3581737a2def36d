/- AudJX, AudJY, AudJZ -/
import Derived.Test.YtnabbimompapfaaMf7
import Derived.Test.YtnabbimompapfaaMf3
namespace Go.Proofs.Ytnabbimompapfaa
open Go Go.RowKit Go.MapKept Go.Maps
theorem gones_eq : ∀ (bs : List Int) (s : PJ), bs.foldl goneP s = { s with L := s.L.filter (fun e => decide (e.birth ∉ bs)), U := s.U.filter (fun u => decide (u ∉ bs)) }
 |[], s => by
  rw [List.filter_eq_self.2 (fun e _ => by simp), List.filter_eq_self.2 (fun e _ => by simp)]
  rfl
 |b :: bs, s => by
  rw [List.foldl_cons, gones_eq bs]
  unfold goneP
  dsimp only
  rw [List.filter_filter, List.filter_filter]
  congr 1
  ·refine List.filter_congr (fun e _ => ?_)
   rw [Bool.eq_iff_iff, Bool.and_eq_true, decide_eq_true_eq, decide_eq_true_eq, decide_eq_true_eq, List.mem_cons, not_or]
   exact And.comm
  ·refine List.filter_congr (fun e _ => ?_)
   rw [Bool.eq_iff_iff, Bool.and_eq_true, decide_eq_true_eq, decide_eq_true_eq, decide_eq_true_eq, List.mem_cons, not_or]
   exact And.comm
theorem leftS_gones {k : Int} (hk : k ≠ 3) (s : PJ) (xs : List It) : leftS k s xs = ((xs.map It.e).map EntV.birth).foldl goneP s := by
 unfold leftS
 rw [if_neg hk, List.map_map, List.foldl_map]
 rfl
theorem leftS_all {n : Nat} {k : Int} (hk : k ≠ 3) {s : PJ} (hi : PInv n s) {xs : List It} (hx : xs.map It.e = s.L) : leftS k s xs = { s with L := [], U := [] } := by
 rw [leftS_gones hk, hx, gones_eq]
 congr 1
 ·refine List.filter_eq_nil_iff.2 (fun e he => ?_)
  rw [decide_eq_true_eq]
  exact fun h => h (List.mem_map_of_mem he)
 ·refine List.filter_eq_nil_iff.2 (fun u hu => ?_)
  rw [decide_eq_true_eq]
  obtain ⟨e, he, rfl⟩ := (hi.mem u).1 hu
  exact fun h => h (List.mem_map_of_mem he)
theorem leftS_due {n : Nat} {s : PJ} (hi : PInv n s) {xs : List It} (hx : xs.map It.e = dueL s.L s.now) : leftS 1 s xs = expireP s s.now := by
 rw [leftS_gones (by decide), hx, gones_eq]
 unfold expireP
 have key : ∀ b : Int, b ∈ (dueL s.L s.now).map EntV.birth ↔ ∃ e ∈ s.L, e.birth = b ∧ dueP e.dl s.now = true := fun b => by
  rw [List.mem_map]
  constructor
  ·rintro ⟨e, he, rfl⟩
   obtain ⟨h1, h2⟩ := dueL_mem.1 he
   exact ⟨e, h1, rfl, h2⟩
  ·rintro ⟨e, he, rfl, hd⟩
   exact ⟨e, dueL_mem.2 ⟨he, hd⟩, rfl⟩
 congr 1
 ·refine List.filter_congr (fun e he => ?_)
  rw [Bool.eq_iff_iff, decide_eq_true_eq, key, Bool.not_eq_true']
  constructor
  ·intro h
   cases hd : dueP e.dl s.now with
   |false => rfl
   |true => exact absurd ⟨e, he, rfl, hd⟩ h
  ·rintro hd ⟨e2, he2, hb, hd2⟩
   rw [pair_inj hi.asc e2 he2 e he hb, hd] at hd2
   cases hd2
 ·refine List.filter_congr (fun u _ => ?_)
  rw [Bool.eq_iff_iff, decide_eq_true_eq, key, Bool.not_eq_true', List.any_eq_false]
  constructor
  ·intro h e he hh
   rw [Bool.and_eq_true, decide_eq_true_eq] at hh
   exact h ⟨e, he, hh.1, hh.2⟩
  ·rintro h ⟨e, he, hb, hd⟩
   exact h e he (by rw [hd, decide_eq_true hb]; rfl)
def ownS (s : PJ) (o : OpV) : PJ :=
 if o.kind = 7 then { s with L := [], U := [] } else if o.kind = 6 then (match findP s.L o.key with | some x => goneP s x.birth | none => s) else s
def OwnRet2 (s : PJ) (its : List It) (o : OpV) (w : World) (e : Ending) (w' : World) : Prop :=
 ∃ (k : Int) (A : Option Addr) (n c : Nat) (xs : List It), e = .returned (.tuple #[.int .i64 k, .slice A n c]) ∧ PRow w' w.heap.size A n c (xs.map It.b) ∧ (∀ x ∈ xs, x ∈ its) ∧ (xs.map fun x => x.e.key).Nodup ∧
  (xs.map fun x => eventP k x.e s.now) = ownE s o ∧ leftS k s xs = ownS s o ∧ Below w.heap.size w w'
set_option maxHeartbeats 1000000 in
theorem own1_any (w : World) (its : List It) : PredIs w 68 #[] its (fun _ => true) := by
 refine ⟨enters_of Try.func68 (by kernel_rfl) rfl, fun x hx W hW => ?_⟩
 clear hx hW
 show Calls Try.prog _ #[ptrI x.b] W _
 unfold ptrI
 go_enter Try.func68, Try.ntmps68
 go_wp2_with fail
 go_ret
 exact ⟨rfl, Gr.refl _⟩
set_option maxRecDepth 100000 in
set_option maxHeartbeats 4000000 in
theorem own_none (N B Bv g gm gp : Nat) (us : Int) (s : PJ) (its : List It) (P : List (Int × Int)) (o : OpV) (V : Value) (w : World) (h : JRep w B g gm gp us s its P) (hv : Bts w Bv 5 V o.val) (hk : o.key.size ≤ maxLen) (hi : PInv N s)
  (h7 : o.kind ≠ 7) (hf : findP s.L o.key = none) (hm : mget (its.map fun x => (x.e.key, x.b)) o.key = none) :
  Calls Try.prog 45 #[.pointer (some ⟨g, 0, none⟩), opv o V] w (OwnRet2 s its o w) := by
 have HM := zH hm
 have HOe : Hid (ownE s o = []) := zH (by unfold ownE; rw [if_neg h7, hf])
 have HSs : Hid (ownS s o = leftS 0 s []) := zH (by rw [leftS_nil]; unfold ownS; rw [if_neg h7, hf]; dsimp only; split <;> rfl)
 have q7 : (o.kind == 7) = false := by simp [h7]
 clear hm hf h7
 obtain ⟨A, c, rfl⟩ := hv.form
 have HK := zH hk
 have hbl : Below w.heap.size w (w.alloc (.cells (opc o (.slice A o.val.length c)) 29)) := (zL _ _).alloc (zN _) _
 have HX : Hid (JRX w (w.alloc (.cells (opc o (.slice A o.val.length c)) 29)) B Bv g gm gp us s its P o A c) := zH ⟨h.below hbl, Blk.new _ _ _, hbl, hv.below hbl⟩
 have HI := zH hi
 clear h hv hbl hk hi
 unfold opv
 unfold opc at HX ⊢
 go_enter Try.func45, Try.ntmps45
 go_upto_region 1 with fail
 generalize World.alloc _ _ = W0 at HX ⊢
 refine wp_region_noPanic ?_
 refine wp_region_held_drew (S := fun W => JRX w W B Bv g gm gp us s its P o A c) (by kernel_rfl) (HX.out.adv (zL _ _).drew) (fun hHeld => ?_)
 generalize W0.drew = W1 at hHeld ⊢
 have HX1 := zH hHeld
 refine Pl.go [0, 1, 2, 3, 4, 5, 6, 7] ?_
 iterate 8
  refine tkl (v := ?_) ?_ ?_
  rotate_left 1
  ·intro W hSw
   obtain ⟨z0, z1, z2, z3, z4, z5, z6, z7, z8⟩ := op9 hSw.box; obtain ⟨d0, d1, d2, d3, d4, d5, d6, d7, d8, d9, d10⟩ := hSw.rep.cells; have hlk := hSw.rep.lookI_none HK.out HM.out
   clear hSw
   go_simp
   try with_reducible rfl
  try dsimp only [zS, zB, zC]
 refine Pl.stop ?_
 refine wpAnyH_done (by kernel_rfl) ?_ _
 refine NoPanic.normal ?_
 clear hHeld HX
 obtain ⟨z0, z1, z2, z3, z4, z5, z6, z7, z8⟩ := op9 HX1.out.box
 go_wp2_with fail
 go_ret2
 exact ⟨0, none, 0, 0, [], rfl, ⟨rfl, zN _, by omega, .inl rfl⟩, (fun y hy => by cases hy), List.nodup_nil, HOe.out.symm, HSs.out.symm, HX1.out.bel⟩
set_option maxRecDepth 100000 in
set_option maxHeartbeats 4000000 in
theorem own_some (N B Bv g gm gp : Nat) (us : Int) (s : PJ) (its : List It) (P : List (Int × Int)) (o : OpV) (V : Value) (x : It) (w : World) (h : JRep w B g gm gp us s its P) (hv : Bts w Bv 5 V o.val) (hk : o.key.size ≤ maxLen) (hi : PInv N s)
  (h7 : o.kind ≠ 7) (hx : x ∈ its) (hf : findP s.L o.key = some x.e) (hm : mget (its.map fun x => (x.e.key, x.b)) o.key = some x.b) :
  Calls Try.prog 45 #[.pointer (some ⟨g, 0, none⟩), opv o V] w (OwnRet2 s its o w) := by
 have HM := zH hm
 have HXm := zH hx
 have q7 : (o.kind == 7) = false := by simp [h7]
 by_cases k1 : o.kind = 1
 ·have HOe : Hid (ownE s o = [eventP 3 x.e s.now]) := zH (by unfold ownE; rw [if_neg h7, hf]; dsimp only; rw [if_pos (.inl k1)])
  have HSs : Hid (ownS s o = leftS 3 s [x]) := zH (by unfold ownS leftS; rw [if_neg h7, if_neg (by omega), if_pos rfl])
  have q1 : (o.kind == 1) = true := by simp [k1]
  clear hm hx hf h7 k1
  obtain ⟨A, c, rfl⟩ := hv.form
  have HK := zH hk
  have hbl : Below w.heap.size w (w.alloc (.cells (opc o (.slice A o.val.length c)) 29)) := (zL _ _).alloc (zN _) _
  have HX : Hid (JRX w (w.alloc (.cells (opc o (.slice A o.val.length c)) 29)) B Bv g gm gp us s its P o A c) := zH ⟨h.below hbl, Blk.new _ _ _, hbl, hv.below hbl⟩
  have HI := zH hi
  clear h hv hbl hk hi
  unfold opv
  unfold opc at HX ⊢
  go_enter Try.func45, Try.ntmps45
  go_upto_region 1 with fail
  generalize World.alloc _ _ = W0 at HX ⊢
  refine wp_region_noPanic ?_
  refine wp_region_held_drew (S := fun W => JRX w W B Bv g gm gp us s its P o A c) (by kernel_rfl) (HX.out.adv (zL _ _).drew) (fun hHeld => ?_)
  generalize W0.drew = W1 at hHeld ⊢
  have HX1 := zH hHeld
  refine Pl.go [0, 1, 2, 3, 4, 5, 6, 7] ?_
  iterate 8
   refine tkl (v := ?_) ?_ ?_
   rotate_left 1
   ·intro W hSw
    obtain ⟨z0, z1, z2, z3, z4, z5, z6, z7, z8⟩ := op9 hSw.box; obtain ⟨d0, d1, d2, d3, d4, d5, d6, d7, d8, d9, d10⟩ := hSw.rep.cells; have hlk := hSw.rep.lookI_some HK.out HM.out
    clear hSw
    go_simp
    try with_reducible rfl
   try dsimp only [zS, zB, zC]
  refine Pl.stop ?_
  refine wpAnyH_done (by kernel_rfl) ?_ _
  refine NoPanic.normal ?_
  clear hHeld HX
  obtain ⟨z0, z1, z2, z3, z4, z5, z6, z7, z8⟩ := op9 HX1.out.box
  have hb2 : Below W1.heap.size W1 (W1.alloc (.cells #[.pointer (some ⟨x.b, 0, none⟩)] 56)) := (zL _ _).alloc (zN _) _
  have HB2 := zH (HX1.out.bel.trans (hb2.mono HX1.out.bel.size))
  have HRw : Hid (PRow (W1.alloc (.cells #[.pointer (some ⟨x.b, 0, none⟩)] 56)) w.heap.size (some ⟨W1.heap.size, 0, none⟩) 1 1 [x.b]) := zH ⟨rfl, zN _, by omega, .inr ⟨_, rfl, HX1.out.bel.size, ⟨_, Blk.new _ _ _⟩, fun i b hi => by
   have : i = 0 := by have := (List.getElem?_eq_some_iff.1 hi).1; simp at this; exact this
   subst this
   have : b = x.b := by simpa using hi.symm
   subst this
   have hn := Blk.new W1 56 #[.pointer (some ⟨x.b, 0, none⟩)]
   exact ⟨hn.cell 0 _ rfl, hn.frozen 0⟩⟩⟩
  clear hb2
  go_wp2_with fail
  go_ret2
  exact ⟨3, _, 1, 1, [x], rfl, HRw.out, fun y hy => by rw [List.mem_singleton.1 hy]; exact HXm.out, by simp, HOe.out.symm, HSs.out.symm, HB2.out⟩
 ·have q1 : (o.kind == 1) = false := by simp [k1]
  by_cases k2 : o.kind = 2
  ·have HOe : Hid (ownE s o = [eventP 3 x.e s.now]) := zH (by unfold ownE; rw [if_neg h7, hf]; dsimp only; rw [if_pos (.inr k2)])
   have HSs : Hid (ownS s o = leftS 3 s [x]) := zH (by unfold ownS leftS; rw [if_neg h7, if_neg (by omega), if_pos rfl])
   have q2 : (o.kind == 2) = true := by simp [k2]
   clear hm hx hf h7 k1 k2
   obtain ⟨A, c, rfl⟩ := hv.form
   have HK := zH hk
   have hbl : Below w.heap.size w (w.alloc (.cells (opc o (.slice A o.val.length c)) 29)) := (zL _ _).alloc (zN _) _
   have HX : Hid (JRX w (w.alloc (.cells (opc o (.slice A o.val.length c)) 29)) B Bv g gm gp us s its P o A c) := zH ⟨h.below hbl, Blk.new _ _ _, hbl, hv.below hbl⟩
   have HI := zH hi
   clear h hv hbl hk hi
   unfold opv
   unfold opc at HX ⊢
   go_enter Try.func45, Try.ntmps45
   go_upto_region 1 with fail
   generalize World.alloc _ _ = W0 at HX ⊢
   refine wp_region_noPanic ?_
   refine wp_region_held_drew (S := fun W => JRX w W B Bv g gm gp us s its P o A c) (by kernel_rfl) (HX.out.adv (zL _ _).drew) (fun hHeld => ?_)
   generalize W0.drew = W1 at hHeld ⊢
   have HX1 := zH hHeld
   refine Pl.go [0, 1, 2, 3, 4, 5, 6, 7] ?_
   iterate 8
    refine tkl (v := ?_) ?_ ?_
    rotate_left 1
    ·intro W hSw
     obtain ⟨z0, z1, z2, z3, z4, z5, z6, z7, z8⟩ := op9 hSw.box; obtain ⟨d0, d1, d2, d3, d4, d5, d6, d7, d8, d9, d10⟩ := hSw.rep.cells; have hlk := hSw.rep.lookI_some HK.out HM.out
     clear hSw
     go_simp
     try with_reducible rfl
    try dsimp only [zS, zB, zC]
   refine Pl.stop ?_
   refine wpAnyH_done (by kernel_rfl) ?_ _
   refine NoPanic.normal ?_
   clear hHeld HX
   obtain ⟨z0, z1, z2, z3, z4, z5, z6, z7, z8⟩ := op9 HX1.out.box
   have hb2 : Below W1.heap.size W1 (W1.alloc (.cells #[.pointer (some ⟨x.b, 0, none⟩)] 56)) := (zL _ _).alloc (zN _) _
   have HB2 := zH (HX1.out.bel.trans (hb2.mono HX1.out.bel.size))
   have HRw : Hid (PRow (W1.alloc (.cells #[.pointer (some ⟨x.b, 0, none⟩)] 56)) w.heap.size (some ⟨W1.heap.size, 0, none⟩) 1 1 [x.b]) := zH ⟨rfl, zN _, by omega, .inr ⟨_, rfl, HX1.out.bel.size, ⟨_, Blk.new _ _ _⟩, fun i b hi => by
    have : i = 0 := by have := (List.getElem?_eq_some_iff.1 hi).1; simp at this; exact this
    subst this
    have : b = x.b := by simpa using hi.symm
    subst this
    have hn := Blk.new W1 56 #[.pointer (some ⟨x.b, 0, none⟩)]
    exact ⟨hn.cell 0 _ rfl, hn.frozen 0⟩⟩⟩
   clear hb2
   go_wp2_with fail
   go_ret2
   exact ⟨3, _, 1, 1, [x], rfl, HRw.out, fun y hy => by rw [List.mem_singleton.1 hy]; exact HXm.out, by simp, HOe.out.symm, HSs.out.symm, HB2.out⟩
  ·have q2 : (o.kind == 2) = false := by simp [k2]
   by_cases k6 : o.kind = 6
   ·have HOe : Hid (ownE s o = [eventP 4 x.e s.now]) := zH (by unfold ownE; rw [if_neg h7, hf]; dsimp only; rw [if_neg (by omega), if_pos k6])
    have HSs : Hid (ownS s o = leftS 4 s [x]) := zH (by unfold ownS leftS; rw [if_neg h7, if_pos k6, if_neg (by decide), hf]; rfl)
    have q6 : (o.kind == 6) = true := by simp [k6]
    clear hm hx hf h7 k1 k2 k6
    obtain ⟨A, c, rfl⟩ := hv.form
    have HK := zH hk
    have hbl : Below w.heap.size w (w.alloc (.cells (opc o (.slice A o.val.length c)) 29)) := (zL _ _).alloc (zN _) _
    have HX : Hid (JRX w (w.alloc (.cells (opc o (.slice A o.val.length c)) 29)) B Bv g gm gp us s its P o A c) := zH ⟨h.below hbl, Blk.new _ _ _, hbl, hv.below hbl⟩
    have HI := zH hi
    clear h hv hbl hk hi
    unfold opv
    unfold opc at HX ⊢
    go_enter Try.func45, Try.ntmps45
    go_upto_region 1 with fail
    generalize World.alloc _ _ = W0 at HX ⊢
    refine wp_region_noPanic ?_
    refine wp_region_held_drew (S := fun W => JRX w W B Bv g gm gp us s its P o A c) (by kernel_rfl) (HX.out.adv (zL _ _).drew) (fun hHeld => ?_)
    generalize W0.drew = W1 at hHeld ⊢
    have HX1 := zH hHeld
    refine Pl.go [0, 1, 2, 3, 4, 5, 6, 7] ?_
    iterate 8
     refine tkl (v := ?_) ?_ ?_
     rotate_left 1
     ·intro W hSw
      obtain ⟨z0, z1, z2, z3, z4, z5, z6, z7, z8⟩ := op9 hSw.box; obtain ⟨d0, d1, d2, d3, d4, d5, d6, d7, d8, d9, d10⟩ := hSw.rep.cells; have hlk := hSw.rep.lookI_some HK.out HM.out
      clear hSw
      go_simp
      try with_reducible rfl
     try dsimp only [zS, zB, zC]
    refine Pl.stop ?_
    refine wpAnyH_done (by kernel_rfl) ?_ _
    refine NoPanic.normal ?_
    clear hHeld HX
    obtain ⟨z0, z1, z2, z3, z4, z5, z6, z7, z8⟩ := op9 HX1.out.box
    have hb2 : Below W1.heap.size W1 (W1.alloc (.cells #[.pointer (some ⟨x.b, 0, none⟩)] 56)) := (zL _ _).alloc (zN _) _
    have HB2 := zH (HX1.out.bel.trans (hb2.mono HX1.out.bel.size))
    have HRw : Hid (PRow (W1.alloc (.cells #[.pointer (some ⟨x.b, 0, none⟩)] 56)) w.heap.size (some ⟨W1.heap.size, 0, none⟩) 1 1 [x.b]) := zH ⟨rfl, zN _, by omega, .inr ⟨_, rfl, HX1.out.bel.size, ⟨_, Blk.new _ _ _⟩, fun i b hi => by
     have : i = 0 := by have := (List.getElem?_eq_some_iff.1 hi).1; simp at this; exact this
     subst this
     have : b = x.b := by simpa using hi.symm
     subst this
     have hn := Blk.new W1 56 #[.pointer (some ⟨x.b, 0, none⟩)]
     exact ⟨hn.cell 0 _ rfl, hn.frozen 0⟩⟩⟩
    clear hb2
    go_wp2_with fail
    go_ret2
    exact ⟨4, _, 1, 1, [x], rfl, HRw.out, fun y hy => by rw [List.mem_singleton.1 hy]; exact HXm.out, by simp, HOe.out.symm, HSs.out.symm, HB2.out⟩
   ·have HOe : Hid (ownE s o = []) := zH (by unfold ownE; rw [if_neg h7, hf]; dsimp only; rw [if_neg (by omega), if_neg k6])
    have HSs : Hid (ownS s o = leftS 0 s []) := zH (by rw [leftS_nil]; unfold ownS; rw [if_neg h7, if_neg k6])
    have q6 : (o.kind == 6) = false := by simp [k6]
    clear hm hx hf h7 k1 k2 k6
    obtain ⟨A, c, rfl⟩ := hv.form
    have HK := zH hk
    have hbl : Below w.heap.size w (w.alloc (.cells (opc o (.slice A o.val.length c)) 29)) := (zL _ _).alloc (zN _) _
    have HX : Hid (JRX w (w.alloc (.cells (opc o (.slice A o.val.length c)) 29)) B Bv g gm gp us s its P o A c) := zH ⟨h.below hbl, Blk.new _ _ _, hbl, hv.below hbl⟩
    have HI := zH hi
    clear h hv hbl hk hi
    unfold opv
    unfold opc at HX ⊢
    go_enter Try.func45, Try.ntmps45
    go_upto_region 1 with fail
    generalize World.alloc _ _ = W0 at HX ⊢
    refine wp_region_noPanic ?_
    refine wp_region_held_drew (S := fun W => JRX w W B Bv g gm gp us s its P o A c) (by kernel_rfl) (HX.out.adv (zL _ _).drew) (fun hHeld => ?_)
    generalize W0.drew = W1 at hHeld ⊢
    have HX1 := zH hHeld
    refine Pl.go [0, 1, 2, 3, 4, 5, 6, 7] ?_
    iterate 8
     refine tkl (v := ?_) ?_ ?_
     rotate_left 1
     ·intro W hSw
      obtain ⟨z0, z1, z2, z3, z4, z5, z6, z7, z8⟩ := op9 hSw.box; obtain ⟨d0, d1, d2, d3, d4, d5, d6, d7, d8, d9, d10⟩ := hSw.rep.cells; have hlk := hSw.rep.lookI_some HK.out HM.out
      clear hSw
      go_simp
      try with_reducible rfl
     try dsimp only [zS, zB, zC]
    refine Pl.stop ?_
    refine wpAnyH_done (by kernel_rfl) ?_ _
    refine NoPanic.normal ?_
    clear hHeld HX
    obtain ⟨z0, z1, z2, z3, z4, z5, z6, z7, z8⟩ := op9 HX1.out.box
    go_wp2_with fail
    go_ret2
    exact ⟨0, none, 0, 0, [], rfl, ⟨rfl, zN _, by omega, .inl rfl⟩, (fun y hy => by cases hy), List.nodup_nil, HOe.out.symm, HSs.out.symm, HX1.out.bel⟩
set_option maxRecDepth 100000 in
set_option maxHeartbeats 4000000 in
theorem own_clear (N B Bv g gm gp : Nat) (us : Int) (s : PJ) (its : List It) (P : List (Int × Int)) (o : OpV) (V : Value) (w : World) (h : JRep w B g gm gp us s its P) (hv : Bts w Bv 5 V o.val) (hk : o.key.size ≤ maxLen) (hi : PInv N s) (hn : N ≤ 100000)
  (h7 : o.kind = 7) :
  Calls Try.prog 45 #[.pointer (some ⟨g, 0, none⟩), opv o V] w (OwnRet2 s its o w) := by
 have hlen : its.length ≤ 1000000 := by have := h.lenI; have := hi.lenL; omega
 have HLe := zH hlen
 have HOe : Hid (ownE s o = s.L.map fun e => eventP 5 e s.now) := zH (by unfold ownE; rw [if_pos h7])
 have HSs : Hid (ownS s o = { s with L := [], U := [] }) := zH (by unfold ownS; rw [if_pos h7])
 have q7 : (o.kind == 7) = true := by simp [h7]
 have hfin : ∀ ys : List It, ys.Perm (its.filter fun _ => true) → ys.Pairwise (fun a b => ¬ cmpB b.e a.e < 0) → (∀ x ∈ ys, x ∈ its) ∧ (ys.map fun x => x.e.key).Nodup ∧ (ys.map fun x => eventP 5 x.e s.now) = ownE s o ∧ leftS 5 s ys = ownS s o := fun ys hp ho => by
  have he := sortB_eq (q := fun _ => true) hi.asc h.perm (fun _ => rfl) hp ho
  have hft : s.L.filter (fun _ => true) = s.L := List.filter_eq_self.2 (fun _ _ => rfl)
  rw [hft] at he
  have hfi : its.filter (fun _ => true) = its := List.filter_eq_self.2 (fun _ _ => rfl)
  rw [hfi] at hp
  refine ⟨fun x hx => hp.mem_iff.1 hx, (hp.map _).nodup_iff.2 h.keysN, ?_, ?_⟩
  ·rw [HOe.out, ← he, List.map_map]; rfl
  ·rw [leftS_all (by decide) hi he, HSs.out]
 have HFin := zH hfin
 clear h7 hlen hfin
 cases hm : mget (its.map fun x => (x.e.key, x.b)) o.key with
 |none =>
  have HM := zH hm
  clear hm
  obtain ⟨A, c, rfl⟩ := hv.form
  have HK := zH hk
  have hbl : Below w.heap.size w (w.alloc (.cells (opc o (.slice A o.val.length c)) 29)) := (zL _ _).alloc (zN _) _
  have HX : Hid (JRX w (w.alloc (.cells (opc o (.slice A o.val.length c)) 29)) B Bv g gm gp us s its P o A c) := zH ⟨h.below hbl, Blk.new _ _ _, hbl, hv.below hbl⟩
  have HI := zH hi
  clear h hv hbl hk hi
  unfold opv
  unfold opc at HX ⊢
  go_enter Try.func45, Try.ntmps45
  go_upto_region 1 with fail
  generalize World.alloc _ _ = W0 at HX ⊢
  refine wp_region_noPanic ?_
  refine wp_region_held_drew (S := fun W => JRX w W B Bv g gm gp us s its P o A c) (by kernel_rfl) (HX.out.adv (zL _ _).drew) (fun hHeld => ?_)
  generalize W0.drew = W1 at hHeld ⊢
  have HX1 := zH hHeld
  refine Pl.go [0, 1, 2, 3, 4, 5, 6, 7] ?_
  iterate 8
   refine tkl (v := ?_) ?_ ?_
   rotate_left 1
   ·intro W hSw
    obtain ⟨z0, z1, z2, z3, z4, z5, z6, z7, z8⟩ := op9 hSw.box; obtain ⟨d0, d1, d2, d3, d4, d5, d6, d7, d8, d9, d10⟩ := hSw.rep.cells; have hlk := hSw.rep.lookI_none HK.out HM.out
    clear hSw
    go_simp
    try with_reducible rfl
   try dsimp only [zS, zB, zC]
  refine Pl.stop ?_
  refine wpAnyH_done (by kernel_rfl) ?_ _
  refine NoPanic.normal ?_
  clear hHeld HX
  obtain ⟨z0, z1, z2, z3, z4, z5, z6, z7, z8⟩ := op9 HX1.out.box
  have HS := zH (sorted_any B g gm gp us s its P W1 HX1.out.rep HLe.out _ _ _ (own1_any W1 its) _ _ cmpIs_birth)
  go_wp2_with fail
  refine HS.out.mono ?_
  rintro e w2 ⟨A2, n2, c2, ys, rfl, hrow, hperm, hord, hb2⟩
  obtain ⟨f1, f2, f3, f4⟩ := HFin.out ys hperm (hord.imp (fun h => by omega))
  have HF1 := zH f1
  have HF2 := zH f2
  have HF3 := zH f3
  have HF4 := zH f4
  have HB2 := zH (HX1.out.bel.trans (hb2.mono HX1.out.bel.size))
  have hr2 : PRow w2 w.heap.size A2 n2 c2 (ys.map It.b) := ⟨hrow.len, hrow.cap, hrow.small, by
   rcases hrow.row with e | ⟨gr, q1, q2, q3⟩
   ·exact .inl e
   ·exact .inr ⟨gr, q1, Nat.le_trans HX1.out.bel.size q2, q3⟩⟩
  have HR2 := zH hr2
  clear hrow hr2 hperm hord hb2 f1 f2 f3 f4 HS
  go_wp2_with fail
  go_ret2
  exact ⟨5, A2, n2, c2, ys, rfl, HR2.out, HF1.out, HF2.out, HF3.out, HF4.out, HB2.out⟩
 |some bx =>
  have HM := zH hm
  clear hm
  obtain ⟨A, c, rfl⟩ := hv.form
  have HK := zH hk
  have hbl : Below w.heap.size w (w.alloc (.cells (opc o (.slice A o.val.length c)) 29)) := (zL _ _).alloc (zN _) _
  have HX : Hid (JRX w (w.alloc (.cells (opc o (.slice A o.val.length c)) 29)) B Bv g gm gp us s its P o A c) := zH ⟨h.below hbl, Blk.new _ _ _, hbl, hv.below hbl⟩
  have HI := zH hi
  clear h hv hbl hk hi
  unfold opv
  unfold opc at HX ⊢
  go_enter Try.func45, Try.ntmps45
  go_upto_region 1 with fail
  generalize World.alloc _ _ = W0 at HX ⊢
  refine wp_region_noPanic ?_
  refine wp_region_held_drew (S := fun W => JRX w W B Bv g gm gp us s its P o A c) (by kernel_rfl) (HX.out.adv (zL _ _).drew) (fun hHeld => ?_)
  generalize W0.drew = W1 at hHeld ⊢
  have HX1 := zH hHeld
  refine Pl.go [0, 1, 2, 3, 4, 5, 6, 7] ?_
  iterate 8
   refine tkl (v := ?_) ?_ ?_
   rotate_left 1
   ·intro W hSw
    obtain ⟨z0, z1, z2, z3, z4, z5, z6, z7, z8⟩ := op9 hSw.box; obtain ⟨d0, d1, d2, d3, d4, d5, d6, d7, d8, d9, d10⟩ := hSw.rep.cells; have hlk := hSw.rep.lookI_some HK.out HM.out
    clear hSw
    go_simp
    try with_reducible rfl
   try dsimp only [zS, zB, zC]
  refine Pl.stop ?_
  refine wpAnyH_done (by kernel_rfl) ?_ _
  refine NoPanic.normal ?_
  clear hHeld HX
  obtain ⟨z0, z1, z2, z3, z4, z5, z6, z7, z8⟩ := op9 HX1.out.box
  have HS := zH (sorted_any B g gm gp us s its P W1 HX1.out.rep HLe.out _ _ _ (own1_any W1 its) _ _ cmpIs_birth)
  go_wp2_with fail
  refine HS.out.mono ?_
  rintro e w2 ⟨A2, n2, c2, ys, rfl, hrow, hperm, hord, hb2⟩
  obtain ⟨f1, f2, f3, f4⟩ := HFin.out ys hperm (hord.imp (fun h => by omega))
  have HF1 := zH f1
  have HF2 := zH f2
  have HF3 := zH f3
  have HF4 := zH f4
  have HB2 := zH (HX1.out.bel.trans (hb2.mono HX1.out.bel.size))
  have hr2 : PRow w2 w.heap.size A2 n2 c2 (ys.map It.b) := ⟨hrow.len, hrow.cap, hrow.small, by
   rcases hrow.row with e | ⟨gr, q1, q2, q3⟩
   ·exact .inl e
   ·exact .inr ⟨gr, q1, Nat.le_trans HX1.out.bel.size q2, q3⟩⟩
  have HR2 := zH hr2
  clear hrow hr2 hperm hord hb2 f1 f2 f3 f4 HS
  go_wp2_with fail
  go_ret2
  exact ⟨5, A2, n2, c2, ys, rfl, HR2.out, HF1.out, HF2.out, HF3.out, HF4.out, HB2.out⟩
theorem own_any (N B Bv g gm gp : Nat) (us : Int) (s : PJ) (its : List It) (P : List (Int × Int)) (o : OpV) (V : Value) (w : World) (h : JRep w B g gm gp us s its P) (hv : Bts w Bv 5 V o.val) (hk : o.key.size ≤ maxLen) (hi : PInv N s) (hn : N ≤ 100000) :
  Calls Try.prog 45 #[.pointer (some ⟨g, 0, none⟩), opv o V] w (OwnRet2 s its o w) := by
 by_cases h7 : o.kind = 7
 ·exact own_clear N B Bv g gm gp us s its P o V w h hv hk hi hn h7
 ·rcases h.find hi.keys o.key with ⟨h1, h2⟩ | ⟨x, hx, h1, _, h2⟩
  ·exact own_none N B Bv g gm gp us s its P o V w h hv hk hi h7 h1 h2
  ·exact own_some N B Bv g gm gp us s its P o V x w h hv hk hi h7 hx h1 h2
end Go.Proofs.Ytnabbimompapfaa
namespace Go.Proofs.Ytnabbimompapfaa
open Go Go.RowKit Go.MapKept Go.Maps
theorem JRep.lookI {w : World} {B g gm gp : Nat} {us : Int} {s : PJ} {its : List It} {P : List (Int × Int)} (h : JRep w B g gm gp us s its P) {k : ByteArray} (hk : k.size ≤ maxLen) :
  (Instr.lookup 70 (.map (some gm)) (.string k) false).run Try.prog w = .ok (.pointer ((mget (its.map fun x => (x.e.key, x.b)) k).map fun b => ⟨b, 0, none⟩)) w := by
 have := h.items.look1 (P := Try.prog) (k := k) hk
 rw [this]
 cases mget (its.map fun x => (x.e.key, x.b)) k <;> rfl
def effD (s : PJ) (o : OpV) : PJ := if o.kind = 6 ∨ o.kind = 7 then s else effA s o
def effC (s : PJ) (o : OpV) (e : Int) : PJ := if e = 0 then effB (effD s o) o else effD s o
theorem effC_own (s : PJ) (o : OpV) (e : Int) : effC (ownS s o) o e = effP s o e := by
 unfold effC effP
 have : effD (ownS s o) o = effA s o := by
  unfold effD ownS effA
  by_cases h7 : o.kind = 7
  ·rw [if_pos (.inr h7), if_pos h7, if_neg (by omega), if_neg (by omega), if_pos h7]
  ·by_cases h6 : o.kind = 6
   ·rw [if_pos (.inl h6), if_neg h7, if_pos h6, if_neg (by omega), if_neg (by omega), if_neg h7, if_neg (by omega)]
    cases findP s.L o.key with
    |none => rfl
    |some x => dsimp only; rw [if_neg (by omega), if_neg (by omega), if_pos h6]
   ·rw [if_neg (by omega), if_neg h7, if_neg h6]
 rw [this]
def EffRetJ (B g gm gp : Nat) (us : Int) (s : PJ) (w : World) (e : Ending) (w' : World) : Prop :=
 e = .returned (.tuple #[]) ∧ ∃ (us' : Int) (its' : List It) (P' : List (Int × Int)), (us ≤ us' ∧ us' ≤ us + 1) ∧ JRep w' B g gm gp us' s its' P' ∧ Only (KJ B w) w w'
set_option maxRecDepth 100000 in
set_option maxHeartbeats 4000000 in
theorem eff_plain (B Bv g gm gp : Nat) (us : Int) (s : PJ) (its : List It) (P : List (Int × Int)) (o : OpV) (V : Value) (w : World) (h : JRep w B g gm gp us s its P) (hv : Bts w Bv 5 V o.val) (hk : o.key.size ≤ maxLen)
  (hkd : o.kind = 4 ∨ o.kind = 6 ∨ o.kind = 7 ∨ o.kind = 9 ∨ o.kind = 10) :
  Calls Try.prog 46 #[.pointer (some ⟨g, 0, none⟩), opv o V, .int .i64 0] w (EffRetJ B g gm gp us (effC s o 0) w) := by
 have HS : Hid (s = effC s o 0) := zH (by
  unfold effC effD
  rw [if_pos rfl]
  have hB : effB s o = s := by unfold effB; rw [if_neg (by omega), if_neg (by omega), if_neg (by omega), if_neg (by omega)]
  by_cases h67 : o.kind = 6 ∨ o.kind = 7
  ·rw [if_pos h67, hB]
  ·rw [if_neg h67]
   have : effA s o = s := by
    unfold effA
    rw [if_neg (by omega), if_neg (by omega), if_neg (by omega), if_neg (by omega)]
    cases findP s.L o.key with
    |none => rfl
    |some x => dsimp only; rw [if_neg (by omega), if_neg (by omega), if_neg (by omega)]
   rw [this, hB])
 have q1 : (o.kind == 1) = false := by rw [beq_eq_false_iff_ne]; omega
 have q2 : (o.kind == 2) = false := by rw [beq_eq_false_iff_ne]; omega
 have q3 : (o.kind == 3) = false := by rw [beq_eq_false_iff_ne]; omega
 have q5 : (o.kind == 5) = false := by rw [beq_eq_false_iff_ne]; omega
 have q8 : (o.kind == 8) = false := by rw [beq_eq_false_iff_ne]; omega
 have q11 : (o.kind == 11) = false := by rw [beq_eq_false_iff_ne]; omega
 have q12 : (o.kind == 12) = false := by rw [beq_eq_false_iff_ne]; omega
 have q13 : (o.kind == 13) = false := by rw [beq_eq_false_iff_ne]; omega
 have q14 : (o.kind == 14) = false := by rw [beq_eq_false_iff_ne]; omega
 clear hkd
 obtain ⟨px, hpx⟩ : ∃ px, ((mget (its.map fun x => (x.e.key, x.b)) o.key).map fun b => (⟨b, 0, none⟩ : Addr)) = px := ⟨_, rfl⟩
 have HPx := zH hpx
 clear hpx
 obtain ⟨A, c, rfl⟩ := hv.form
 have HK := zH hk
 have hbl : Below w.heap.size w (w.alloc (.cells (opc o (.slice A o.val.length c)) 29)) := (zL _ _).alloc (zN _) _
 have HX : Hid (JRX w (w.alloc (.cells (opc o (.slice A o.val.length c)) 29)) B Bv g gm gp us s its P o A c) := zH ⟨h.below hbl, Blk.new _ _ _, hbl, hv.below hbl⟩
 clear h hv hbl hk
 unfold opv
 unfold opc at HX ⊢
 go_enter Try.func46, Try.ntmps46
 go_upto_region 1 with fail
 generalize World.alloc _ _ = W0 at HX ⊢
 refine wp_region_noPanic ?_
 refine wp_region_held_drew (S := fun W => JRX w W B Bv g gm gp us s its P o A c) (by kernel_rfl) (HX.out.adv (zL _ _).drew) (fun hHeld => ?_)
 generalize W0.drew = W1 at hHeld ⊢
 have HX1 := zH hHeld
 refine Pl.go [0, 1, 2, 3, 4, 5, 6, 7] ?_
 iterate 8
  refine tkl (v := ?_) ?_ ?_
  rotate_left 1
  ·intro W hSw
   obtain ⟨z0, z1, z2, z3, z4, z5, z6, z7, z8⟩ := op9 hSw.box; obtain ⟨d0, d1, d2, d3, d4, d5, d6, d7, d8, d9, d10⟩ := hSw.rep.cells; have hlk := hSw.rep.lookI HK.out; rw [HPx.out] at hlk
   clear hSw
   go_simp
   try with_reducible rfl
  try dsimp only [zS, zB, zC]
 refine Pl.stop ?_
 refine wpAnyH_done (by kernel_rfl) ?_ _
 refine NoPanic.normal ?_
 clear hHeld HX
 obtain ⟨z0, z1, z2, z3, z4, z5, z6, z7, z8⟩ := op9 HX1.out.box
 go_wp2_with fail
 go_end0
 exact ⟨rfl, us, its, P, ⟨Int.le_refl _, by omega⟩, HS.out ▸ HX1.out.rep, KJ.of_below HX1.out.bel⟩
set_option maxRecDepth 100000 in
set_option maxHeartbeats 4000000 in
theorem eff_err (B Bv g gm gp : Nat) (us : Int) (s : PJ) (its : List It) (P : List (Int × Int)) (o : OpV) (V : Value) (e0 : Int) (w : World) (h : JRep w B g gm gp us s its P) (hv : Bts w Bv 5 V o.val) (hk : o.key.size ≤ maxLen)
  (hkd : 11 ≤ o.kind ∧ o.kind ≤ 14) (he : e0 ≠ 0) :
  Calls Try.prog 46 #[.pointer (some ⟨g, 0, none⟩), opv o V, .int .i64 e0] w (EffRetJ B g gm gp us (effC s o e0) w) := by
 have HS : Hid (s = effC s o e0) := zH (by
  unfold effC effD
  rw [if_neg he, if_neg (by omega)]
  unfold effA
  rw [if_neg (by omega), if_neg (by omega), if_neg (by omega), if_neg (by omega)]
  cases findP s.L o.key with
  |none => rfl
  |some x => dsimp only; rw [if_neg (by omega), if_neg (by omega), if_neg (by omega)])
 have qe : (e0 != 0) = true := by simp [he]
 have q1 : (o.kind == 1) = false := by rw [beq_eq_false_iff_ne]; omega
 have q2 : (o.kind == 2) = false := by rw [beq_eq_false_iff_ne]; omega
 have q3 : (o.kind == 3) = false := by rw [beq_eq_false_iff_ne]; omega
 have q5 : (o.kind == 5) = false := by rw [beq_eq_false_iff_ne]; omega
 have q8 : (o.kind == 8) = false := by rw [beq_eq_false_iff_ne]; omega
 clear hkd he
 obtain ⟨px, hpx⟩ : ∃ px, ((mget (its.map fun x => (x.e.key, x.b)) o.key).map fun b => (⟨b, 0, none⟩ : Addr)) = px := ⟨_, rfl⟩
 have HPx := zH hpx
 clear hpx
 obtain ⟨A, c, rfl⟩ := hv.form
 have HK := zH hk
 have hbl : Below w.heap.size w (w.alloc (.cells (opc o (.slice A o.val.length c)) 29)) := (zL _ _).alloc (zN _) _
 have HX : Hid (JRX w (w.alloc (.cells (opc o (.slice A o.val.length c)) 29)) B Bv g gm gp us s its P o A c) := zH ⟨h.below hbl, Blk.new _ _ _, hbl, hv.below hbl⟩
 clear h hv hbl hk
 unfold opv
 unfold opc at HX ⊢
 go_enter Try.func46, Try.ntmps46
 go_upto_region 1 with fail
 generalize World.alloc _ _ = W0 at HX ⊢
 refine wp_region_noPanic ?_
 refine wp_region_held_drew (S := fun W => JRX w W B Bv g gm gp us s its P o A c) (by kernel_rfl) (HX.out.adv (zL _ _).drew) (fun hHeld => ?_)
 generalize W0.drew = W1 at hHeld ⊢
 have HX1 := zH hHeld
 refine Pl.go [0, 1, 2, 3, 4, 5, 6, 7] ?_
 iterate 8
  refine tkl (v := ?_) ?_ ?_
  rotate_left 1
  ·intro W hSw
   obtain ⟨z0, z1, z2, z3, z4, z5, z6, z7, z8⟩ := op9 hSw.box; obtain ⟨d0, d1, d2, d3, d4, d5, d6, d7, d8, d9, d10⟩ := hSw.rep.cells; have hlk := hSw.rep.lookI HK.out; rw [HPx.out] at hlk
   clear hSw
   go_simp
   try with_reducible rfl
  try dsimp only [zS, zB, zC]
 refine Pl.stop ?_
 refine wpAnyH_done (by kernel_rfl) ?_ _
 refine NoPanic.normal ?_
 clear hHeld HX
 obtain ⟨z0, z1, z2, z3, z4, z5, z6, z7, z8⟩ := op9 HX1.out.box
 go_wp2_with fail
 go_end0
 exact ⟨rfl, us, its, P, ⟨Int.le_refl _, by omega⟩, HS.out ▸ HX1.out.rep, KJ.of_below HX1.out.bel⟩
set_option maxRecDepth 100000 in
set_option maxHeartbeats 4000000 in
theorem eff_set (N B Bv g gm gp : Nat) (us : Int) (s : PJ) (its : List It) (P : List (Int × Int)) (o : OpV) (V : Value) (w : World) (h : JRep w B g gm gp us s its P) (hv : Bts w Bv 5 V o.val) (hk : o.key.size ≤ maxLen) (hi : PInv N s) (hn : N ≤ 90000) (hB : Bv ≤ B ∧ B ≤ w.heap.size)
  (hko : keyOK o.key = true) (hvl : o.val.length ≤ 65536) (hus : 0 ≤ us ∧ us ≤ 1000000000000) (hkd : o.kind = 1) :
  Calls Try.prog 46 #[.pointer (some ⟨g, 0, none⟩), opv o V, .int .i64 0] w (EffRetJ B g gm gp us (effC s o 0) w) := by
 have HS : Hid (setP s o neverT = effC s o 0) := zH (by
  unfold effC effD
  rw [if_pos rfl, if_neg (by omega)]
  have : effA s o = setP s o neverT := by unfold effA; rw [if_pos hkd]
  rw [this]
  unfold effB
  rw [if_neg (by omega), if_neg (by omega), if_neg (by omega), if_neg (by omega)])
 have q1 : (o.kind == 1) = true := by simp [hkd]
 have q11 : (o.kind == 11) = false := by rw [beq_eq_false_iff_ne]; omega
 have q12 : (o.kind == 12) = false := by rw [beq_eq_false_iff_ne]; omega
 have q13 : (o.kind == 13) = false := by rw [beq_eq_false_iff_ne]; omega
 have q14 : (o.kind == 14) = false := by rw [beq_eq_false_iff_ne]; omega
 have HI := zH hi
 have HN := zH hn
 have HBB := zH hB
 have HKo := zH hko
 have HVl := zH hvl
 have HU := zH hus
 clear hkd hi hn hB hko hvl hus
 obtain ⟨px, hpx⟩ : ∃ px, ((mget (its.map fun x => (x.e.key, x.b)) o.key).map fun b => (⟨b, 0, none⟩ : Addr)) = px := ⟨_, rfl⟩
 have HPx := zH hpx
 clear hpx
 obtain ⟨A, c, rfl⟩ := hv.form
 have HK := zH hk
 have hbl : Below w.heap.size w (w.alloc (.cells (opc o (.slice A o.val.length c)) 29)) := (zL _ _).alloc (zN _) _
 have HX : Hid (JRX w (w.alloc (.cells (opc o (.slice A o.val.length c)) 29)) B Bv g gm gp us s its P o A c) := zH ⟨h.below hbl, Blk.new _ _ _, hbl, hv.below hbl⟩
 clear h hv hbl hk
 unfold opv
 unfold opc at HX ⊢
 go_enter Try.func46, Try.ntmps46
 go_upto_region 1 with fail
 generalize World.alloc _ _ = W0 at HX ⊢
 refine wp_region_noPanic ?_
 refine wp_region_held_drew (S := fun W => JRX w W B Bv g gm gp us s its P o A c) (by kernel_rfl) (HX.out.adv (zL _ _).drew) (fun hHeld => ?_)
 generalize W0.drew = W1 at hHeld ⊢
 have HX1 := zH hHeld
 refine Pl.go [0, 1, 2, 3, 4, 5, 6, 7] ?_
 iterate 8
  refine tkl (v := ?_) ?_ ?_
  rotate_left 1
  ·intro W hSw
   obtain ⟨z0, z1, z2, z3, z4, z5, z6, z7, z8⟩ := op9 hSw.box; obtain ⟨d0, d1, d2, d3, d4, d5, d6, d7, d8, d9, d10⟩ := hSw.rep.cells; have hlk := hSw.rep.lookI HK.out; rw [HPx.out] at hlk
   clear hSw
   go_simp
   try with_reducible rfl
  try dsimp only [zS, zB, zC]
 refine Pl.stop ?_
 refine wpAnyH_done (by kernel_rfl) ?_ _
 refine NoPanic.normal ?_
 clear hHeld HX
 obtain ⟨z0, z1, z2, z3, z4, z5, z6, z7, z8⟩ := op9 HX1.out.box
 have HSt := zH (set_any N B Bv g gm gp us s its P o (.slice A o.val.length c) neverT W1 HX1.out.rep HX1.out.val HI.out HN.out ⟨HBB.out.1, Nat.le_trans HBB.out.2 HX1.out.bel.size⟩ HKo.out HVl.out HU.out (by unfold neverT; omega))
 unfold opv opc neverT at HSt
 go_wp2_with fail
 refine HSt.out.mono ?_
 rintro e w2 ⟨its2, rfl, hj2, ho2⟩
 have HJ2 := zH hj2
 have HO2 := zH ho2
 have hbx2 := HX1.out.box.only ho2 (KJ.not_ HX1.out.box (by decide) (by decide))
 clear hj2 ho2 z0 z1 z2 z3 z4 z5 z6 z7 z8
 obtain ⟨z0, z1, z2, z3, z4, z5, z6, z7, z8⟩ := op9 hbx2
 clear hbx2
 go_wp2_with fail
 go_end0
 exact ⟨rfl, us + 1, its2, P, ⟨by omega, by omega⟩, HS.out ▸ HJ2.out, KJ.trans (KJ.of_below HX1.out.bel) HO2.out⟩
end Go.Proofs.Ytnabbimompapfaa
namespace Go.Proofs.Ytnabbimompapfaa
open Go Go.RowKit Go.MapKept Go.Maps
structure EfS (w W : World) (g : Nat) (now : Int) (o : OpV) (A : Option Addr) (c : Nat) : Prop where
 box : Blk W w.heap.size 29 (opc o (.slice A o.val.length c))
 now : W.cell? ⟨g, 5, none⟩ = some (.int .u64 now)
theorem EfS.of {w W : World} {B Bv g gm gp : Nat} {us : Int} {s : PJ} {its : List It} {P : List (Int × Int)} {o : OpV} {A : Option Addr} {c : Nat} (h : JRX w W B Bv g gm gp us s its P o A c) : EfS w W g s.now o A c :=
 ⟨h.box, by obtain ⟨-, -, -, -, -, c5, -⟩ := h.rep.cells; exact c5⟩
set_option maxRecDepth 100000 in
set_option maxHeartbeats 4000000 in
theorem eff_setttl (N B Bv g gm gp : Nat) (us : Int) (s : PJ) (its : List It) (P : List (Int × Int)) (o : OpV) (V : Value) (w : World) (h : JRep w B g gm gp us s its P) (hv : Bts w Bv 5 V o.val) (hk : o.key.size ≤ maxLen) (hi : PInv N s) (hn : N ≤ 90000) (hB : Bv ≤ B ∧ B ≤ w.heap.size)
  (hko : keyOK o.key = true) (hvl : o.val.length ≤ 65536) (hus : 0 ≤ us ∧ us ≤ 1000000000000) (htt : 0 ≤ o.ttl) (hkd : o.kind = 2) :
  Calls Try.prog 46 #[.pointer (some ⟨g, 0, none⟩), opv o V, .int .i64 0] w (EffRetJ B g gm gp us (effC s o 0) w) := by
 have HS : Hid (setP s o (addP s.now o.ttl) = effC s o 0) := zH (by
  unfold effC effD
  rw [if_pos rfl, if_neg (by omega)]
  have : effA s o = setP s o (addP s.now o.ttl) := by unfold effA; rw [if_neg (by omega), if_pos hkd]
  rw [this]
  unfold effB
  rw [if_neg (by omega), if_neg (by omega), if_neg (by omega), if_neg (by omega)])
 have q1 : (o.kind == 1) = false := by simp [hkd]
 have q2 : (o.kind == 2) = true := by simp [hkd]
 have q11 : (o.kind == 11) = false := by rw [beq_eq_false_iff_ne]; omega
 have q12 : (o.kind == 12) = false := by rw [beq_eq_false_iff_ne]; omega
 have q13 : (o.kind == 13) = false := by rw [beq_eq_false_iff_ne]; omega
 have q14 : (o.kind == 14) = false := by rw [beq_eq_false_iff_ne]; omega
 have HI := zH hi
 have HN := zH hn
 have HBB := zH hB
 have HKo := zH hko
 have HVl := zH hvl
 have HU := zH hus
 have HTt := zH htt
 have HNw : Hid (s.now = s.now ∧ (setP s o (addP s.now o.ttl)).now = s.now) := zH ⟨rfl, setP_now _ _ _⟩
 clear hkd hi hn hB hko hvl hus htt
 obtain ⟨px, hpx⟩ : ∃ px, ((mget (its.map fun x => (x.e.key, x.b)) o.key).map fun b => (⟨b, 0, none⟩ : Addr)) = px := ⟨_, rfl⟩
 have HPx := zH hpx
 clear hpx
 obtain ⟨A, c, rfl⟩ := hv.form
 have HK := zH hk
 have hbl : Below w.heap.size w (w.alloc (.cells (opc o (.slice A o.val.length c)) 29)) := (zL _ _).alloc (zN _) _
 have HX : Hid (JRX w (w.alloc (.cells (opc o (.slice A o.val.length c)) 29)) B Bv g gm gp us s its P o A c) := zH ⟨h.below hbl, Blk.new _ _ _, hbl, hv.below hbl⟩
 clear h hv hbl hk
 unfold opv
 unfold opc at HX ⊢
 go_enter Try.func46, Try.ntmps46
 go_upto_region 1 with fail
 generalize World.alloc _ _ = W0 at HX ⊢
 refine wp_region_noPanic ?_
 refine wp_region_held_drew (S := fun W => JRX w W B Bv g gm gp us s its P o A c) (by kernel_rfl) (HX.out.adv (zL _ _).drew) (fun hHeld => ?_)
 generalize W0.drew = W1 at hHeld ⊢
 have HX1 := zH hHeld
 refine Pl.go [0, 1, 2, 3, 4, 5, 6, 7] ?_
 iterate 8
  refine tkl (v := ?_) ?_ ?_
  rotate_left 1
  ·intro W hSw
   obtain ⟨z0, z1, z2, z3, z4, z5, z6, z7, z8⟩ := op9 hSw.box; obtain ⟨d0, d1, d2, d3, d4, d5, d6, d7, d8, d9, d10⟩ := hSw.rep.cells; have hlk := hSw.rep.lookI HK.out; rw [HPx.out] at hlk
   clear hSw
   go_simp
   try with_reducible rfl
  try dsimp only [zS, zB, zC]
 refine Pl.stop ?_
 refine wpAnyH_done (by kernel_rfl) ?_ _
 refine NoPanic.normal ?_
 clear hHeld HX
 obtain ⟨z0, z1, z2, z3, z4, z5, z6, z7, z8⟩ := op9 HX1.out.box
 go_upto_region 6 with fail
 clear z0 z1 z2 z3 z4 z5 z6 z7 z8
 refine wp_region_noPanic ?_
 refine wp_region_held_drew (S := fun W => EfS w W g s.now o A c) (by kernel_rfl) (EfS.of (HX1.out.adv (zL _ _).drew)) (fun hHeld => ?_)
 have HX2 := zH (HX1.out.adv (zL W1.heap.size W1).drew)
 generalize W1.drew = W2 at HX2 hHeld ⊢
 refine Pl.go [0, 1, 2, 3, 4, 5, 6, 7] ?_
 iterate 8
  refine tkl (v := ?_) ?_ ?_
  rotate_left 1
  ·intro W hSw
   obtain ⟨z0, z1, z2, z3, z4, z5, z6, z7, z8⟩ := op9 hSw.box; have d5 := hSw.now
   clear hSw
   go_simp
   try with_reducible rfl
  try dsimp only [zS, zB, zC]
 refine Pl.stop ?_
 refine wpAnyH_ready (rs := [8]) (by kernel_rfl) (by simp) ?_
 refine AllReadyH.cons (o := ⟨_, _, _, _, _, _⟩) rfl (fun F hF => ?_) AllReadyH.nil
 go_simp
 refine (tickAdd_any s.now o.ttl _ HI.out.now.1 HI.out.now.2 HTt.out).mono ?_
 rintro e w' ⟨rfl, hww⟩
 subst hww
 go_wp2_with fail
 refine hF.out _ _ (EfS.of HX2.out) (fun hHeld => ?_)
 clear hF F
 try simp only [Act.put, zA, zB, zC]
 have HSt := zH (set_any N B Bv g gm gp us s its P o (.slice A o.val.length c) (addP s.now o.ttl) W2 HX2.out.rep HX2.out.val HI.out HN.out ⟨HBB.out.1, Nat.le_trans HBB.out.2 HX2.out.bel.size⟩ HKo.out HVl.out HU.out (addP_range HI.out.now.1 HTt.out))
 unfold opv opc at HSt
 refine wpAnyH_ready (rs := [9]) (by kernel_rfl) (by simp) ?_
 refine AllReadyH.cons (o := ⟨_, _, _, _, _, _⟩) rfl (fun F hF => ?_) AllReadyH.nil
 go_simp
 refine HSt.out.mono ?_
 rintro e w2 ⟨its2, rfl, hj2, ho2⟩
 have HJ2 := zH hj2
 have HO2 := zH ho2
 have hbx2 := HX2.out.box.only ho2 (KJ.not_ HX2.out.box (by decide) (by decide))
 have HE2 : Hid (EfS w w2 g s.now o A c) := zH ⟨hbx2, by
  obtain ⟨-, -, -, -, -, c5, -⟩ := hj2.cells
  rw [HNw.out.2] at c5; exact c5⟩
 clear hj2 ho2
 go_wp2_with fail
 refine hF.out _ _ HE2.out (fun hHeld => ?_)
 clear hF F
 try simp only [Act.put, zA, zB, zC]
 refine wpAnyH_done (by kernel_rfl) ?_ _
 refine NoPanic.normal ?_
 clear hHeld
 obtain ⟨z0, z1, z2, z3, z4, z5, z6, z7, z8⟩ := op9 HE2.out.box
 go_wp2_with fail
 go_end0
 exact ⟨rfl, us + 1, its2, P, ⟨by omega, by omega⟩, HS.out ▸ HJ2.out, KJ.trans (KJ.of_below HX2.out.bel) HO2.out⟩
set_option maxRecDepth 100000 in
set_option maxHeartbeats 4000000 in
theorem eff_miss (B Bv g gm gp : Nat) (us : Int) (s : PJ) (its : List It) (P : List (Int × Int)) (o : OpV) (V : Value) (w : World) (h : JRep w B g gm gp us s its P) (hv : Bts w Bv 5 V o.val) (hk : o.key.size ≤ maxLen)
  (hkd : o.kind = 3 ∨ o.kind = 5) (hf : findP s.L o.key = none) (hm : mget (its.map fun x => (x.e.key, x.b)) o.key = none) :
  Calls Try.prog 46 #[.pointer (some ⟨g, 0, none⟩), opv o V, .int .i64 0] w (EffRetJ B g gm gp us (effC s o 0) w) := by
 have HS : Hid (s = effC s o 0) := zH (by
  unfold effC effD
  rw [if_pos rfl, if_neg (by omega)]
  have : effA s o = s := by
   unfold effA
   rw [if_neg (by omega), if_neg (by omega), if_neg (by omega), if_neg (by omega), hf]
  rw [this]
  unfold effB
  rw [if_neg (by omega), if_neg (by omega), if_neg (by omega), if_neg (by omega)])
 have q1 : (o.kind == 1) = false := by rw [beq_eq_false_iff_ne]; omega
 have q2 : (o.kind == 2) = false := by rw [beq_eq_false_iff_ne]; omega
 have q8 : (o.kind == 8) = false := by rw [beq_eq_false_iff_ne]; omega
 have q11 : (o.kind == 11) = false := by rw [beq_eq_false_iff_ne]; omega
 have q12 : (o.kind == 12) = false := by rw [beq_eq_false_iff_ne]; omega
 have q13 : (o.kind == 13) = false := by rw [beq_eq_false_iff_ne]; omega
 have q14 : (o.kind == 14) = false := by rw [beq_eq_false_iff_ne]; omega
 have HPx : Hid (((mget (its.map fun x => (x.e.key, x.b)) o.key).map fun b => (⟨b, 0, none⟩ : Addr)) = none) := zH (by rw [hm]; rfl)
 rcases hkd with hk3 | hk5
 ·have q3 : (o.kind == 3) = true := by simp [hk3]
  have q5 : (o.kind == 5) = false := by simp [hk3]
  clear hk3 hf hm
  obtain ⟨A, c, rfl⟩ := hv.form
  have HK := zH hk
  have hbl : Below w.heap.size w (w.alloc (.cells (opc o (.slice A o.val.length c)) 29)) := (zL _ _).alloc (zN _) _
  have HX : Hid (JRX w (w.alloc (.cells (opc o (.slice A o.val.length c)) 29)) B Bv g gm gp us s its P o A c) := zH ⟨h.below hbl, Blk.new _ _ _, hbl, hv.below hbl⟩
  clear h hv hbl hk
  unfold opv
  unfold opc at HX ⊢
  go_enter Try.func46, Try.ntmps46
  go_upto_region 1 with fail
  generalize World.alloc _ _ = W0 at HX ⊢
  refine wp_region_noPanic ?_
  refine wp_region_held_drew (S := fun W => JRX w W B Bv g gm gp us s its P o A c) (by kernel_rfl) (HX.out.adv (zL _ _).drew) (fun hHeld => ?_)
  generalize W0.drew = W1 at hHeld ⊢
  have HX1 := zH hHeld
  refine Pl.go [0, 1, 2, 3, 4, 5, 6, 7] ?_
  iterate 8
   refine tkl (v := ?_) ?_ ?_
   rotate_left 1
   ·intro W hSw
    obtain ⟨z0, z1, z2, z3, z4, z5, z6, z7, z8⟩ := op9 hSw.box; obtain ⟨d0, d1, d2, d3, d4, d5, d6, d7, d8, d9, d10⟩ := hSw.rep.cells; have hlk := hSw.rep.lookI HK.out; rw [HPx.out] at hlk
    clear hSw
    go_simp
    try with_reducible rfl
   try dsimp only [zS, zB, zC]
  refine Pl.stop ?_
  refine wpAnyH_done (by kernel_rfl) ?_ _
  refine NoPanic.normal ?_
  clear hHeld HX
  obtain ⟨z0, z1, z2, z3, z4, z5, z6, z7, z8⟩ := op9 HX1.out.box
  go_wp2_with fail
  go_end0
  exact ⟨rfl, us, its, P, ⟨Int.le_refl _, by omega⟩, HS.out ▸ HX1.out.rep, KJ.of_below HX1.out.bel⟩
 ·have q3 : (o.kind == 3) = false := by simp [hk5]
  have q5 : (o.kind == 5) = true := by simp [hk5]
  clear hk5 hf hm
  obtain ⟨A, c, rfl⟩ := hv.form
  have HK := zH hk
  have hbl : Below w.heap.size w (w.alloc (.cells (opc o (.slice A o.val.length c)) 29)) := (zL _ _).alloc (zN _) _
  have HX : Hid (JRX w (w.alloc (.cells (opc o (.slice A o.val.length c)) 29)) B Bv g gm gp us s its P o A c) := zH ⟨h.below hbl, Blk.new _ _ _, hbl, hv.below hbl⟩
  clear h hv hbl hk
  unfold opv
  unfold opc at HX ⊢
  go_enter Try.func46, Try.ntmps46
  go_upto_region 1 with fail
  generalize World.alloc _ _ = W0 at HX ⊢
  refine wp_region_noPanic ?_
  refine wp_region_held_drew (S := fun W => JRX w W B Bv g gm gp us s its P o A c) (by kernel_rfl) (HX.out.adv (zL _ _).drew) (fun hHeld => ?_)
  generalize W0.drew = W1 at hHeld ⊢
  have HX1 := zH hHeld
  refine Pl.go [0, 1, 2, 3, 4, 5, 6, 7] ?_
  iterate 8
   refine tkl (v := ?_) ?_ ?_
   rotate_left 1
   ·intro W hSw
    obtain ⟨z0, z1, z2, z3, z4, z5, z6, z7, z8⟩ := op9 hSw.box; obtain ⟨d0, d1, d2, d3, d4, d5, d6, d7, d8, d9, d10⟩ := hSw.rep.cells; have hlk := hSw.rep.lookI HK.out; rw [HPx.out] at hlk
    clear hSw
    go_simp
    try with_reducible rfl
   try dsimp only [zS, zB, zC]
  refine Pl.stop ?_
  refine wpAnyH_done (by kernel_rfl) ?_ _
  refine NoPanic.normal ?_
  clear hHeld HX
  obtain ⟨z0, z1, z2, z3, z4, z5, z6, z7, z8⟩ := op9 HX1.out.box
  go_wp2_with fail
  go_end0
  exact ⟨rfl, us, its, P, ⟨Int.le_refl _, by omega⟩, HS.out ▸ HX1.out.rep, KJ.of_below HX1.out.bel⟩
set_option maxRecDepth 100000 in
set_option maxHeartbeats 4000000 in
theorem eff_get (B Bv g gm gp : Nat) (us : Int) (s : PJ) (its : List It) (P : List (Int × Int)) (o : OpV) (V : Value) (x : It) (w : World) (h : JRep w B g gm gp us s its P) (hv : Bts w Bv 5 V o.val) (hk : o.key.size ≤ maxLen)
  (hasc : (s.L.map EntV.birth).Pairwise (· < ·)) (hus : 0 ≤ us ∧ us ≤ 1000000000000) (hkd : o.kind = 3) (hx : x ∈ its) (hf : findP s.L o.key = some x.e) (hm : mget (its.map fun x => (x.e.key, x.b)) o.key = some x.b) :
  Calls Try.prog 46 #[.pointer (some ⟨g, 0, none⟩), opv o V, .int .i64 0] w (EffRetJ B g gm gp us (effC s o 0) w) := by
 have HS : Hid (useP s x.e.birth = effC s o 0) := zH (by
  unfold effC effD
  rw [if_pos rfl, if_neg (by omega)]
  have : effA s o = useP s x.e.birth := by
   unfold effA
   rw [if_neg (by omega), if_neg (by omega), if_neg (by omega), if_neg (by omega), hf]
   dsimp only
   rw [if_pos hkd]
  rw [this]
  unfold effB
  rw [if_neg (by omega), if_neg (by omega), if_neg (by omega), if_neg (by omega)])
 have HPx : Hid (((mget (its.map fun x => (x.e.key, x.b)) o.key).map fun b => (⟨b, 0, none⟩ : Addr)) = some ⟨x.b, 0, none⟩) := zH (by rw [hm]; rfl)
 have q1 : (o.kind == 1) = false := by rw [beq_eq_false_iff_ne]; omega
 have q2 : (o.kind == 2) = false := by rw [beq_eq_false_iff_ne]; omega
 have q8 : (o.kind == 8) = false := by rw [beq_eq_false_iff_ne]; omega
 have q11 : (o.kind == 11) = false := by rw [beq_eq_false_iff_ne]; omega
 have q12 : (o.kind == 12) = false := by rw [beq_eq_false_iff_ne]; omega
 have q13 : (o.kind == 13) = false := by rw [beq_eq_false_iff_ne]; omega
 have q14 : (o.kind == 14) = false := by rw [beq_eq_false_iff_ne]; omega
 have HXm := zH hx
 have HA := zH hasc
 have HU := zH hus
 have q3 : (o.kind == 3) = true := by simp [hkd]
 have q5 : (o.kind == 5) = false := by simp [hkd]
 clear hkd hf hm hx hasc hus
 obtain ⟨A, c, rfl⟩ := hv.form
 have HK := zH hk
 have hbl : Below w.heap.size w (w.alloc (.cells (opc o (.slice A o.val.length c)) 29)) := (zL _ _).alloc (zN _) _
 have HX : Hid (JRX w (w.alloc (.cells (opc o (.slice A o.val.length c)) 29)) B Bv g gm gp us s its P o A c) := zH ⟨h.below hbl, Blk.new _ _ _, hbl, hv.below hbl⟩
 clear h hv hbl hk
 unfold opv
 unfold opc at HX ⊢
 go_enter Try.func46, Try.ntmps46
 go_upto_region 1 with fail
 generalize World.alloc _ _ = W0 at HX ⊢
 refine wp_region_noPanic ?_
 refine wp_region_held_drew (S := fun W => JRX w W B Bv g gm gp us s its P o A c) (by kernel_rfl) (HX.out.adv (zL _ _).drew) (fun hHeld => ?_)
 generalize W0.drew = W1 at hHeld ⊢
 have HX1 := zH hHeld
 refine Pl.go [0, 1, 2, 3, 4, 5, 6, 7] ?_
 iterate 8
  refine tkl (v := ?_) ?_ ?_
  rotate_left 1
  ·intro W hSw
   obtain ⟨z0, z1, z2, z3, z4, z5, z6, z7, z8⟩ := op9 hSw.box; obtain ⟨d0, d1, d2, d3, d4, d5, d6, d7, d8, d9, d10⟩ := hSw.rep.cells; have hlk := hSw.rep.lookI HK.out; rw [HPx.out] at hlk
   clear hSw
   go_simp
   try with_reducible rfl
  try dsimp only [zS, zB, zC]
 refine Pl.stop ?_
 refine wpAnyH_done (by kernel_rfl) ?_ _
 refine NoPanic.normal ?_
 clear hHeld HX
 obtain ⟨z0, z1, z2, z3, z4, z5, z6, z7, z8⟩ := op9 HX1.out.box
 have HUs := zH (use_any B g gm gp us s its P x W1 HX1.out.rep HXm.out HA.out HU.out)
 go_wp2_with fail
 refine HUs.out.mono ?_
 rintro e w2 ⟨rfl, hj2, ho2⟩
 have HJ2 := zH hj2
 have HO2 := zH ho2
 have HBx2 := zH (HX1.out.box.only ho2 (KJ.not_ HX1.out.box (by decide) (by decide)))
 clear hj2 ho2 z0 z1 z2 z3 z4 z5 z6 z7 z8 HUs
 obtain ⟨z0, z1, z2, z3, z4, z5, z6, z7, z8⟩ := op9 HBx2.out
 go_wp2_with fail
 go_end0
 exact ⟨rfl, us + 1, useI its x.b (us + 1), P, ⟨by omega, by omega⟩, HS.out ▸ HJ2.out, KJ.trans (KJ.of_below HX1.out.bel) HO2.out⟩
set_option maxRecDepth 100000 in
set_option maxHeartbeats 4000000 in
theorem eff_touch (N B Bv g gm gp : Nat) (us : Int) (s : PJ) (its : List It) (P : List (Int × Int)) (o : OpV) (V : Value) (x : It) (w : World) (h : JRep w B g gm gp us s its P) (hv : Bts w Bv 5 V o.val) (hk : o.key.size ≤ maxLen)
  (hi : PInv N s) (hus : 0 ≤ us ∧ us ≤ 1000000000000) (htt : 0 ≤ o.ttl) (hkd : o.kind = 5) (hx : x ∈ its) (hf : findP s.L o.key = some x.e) (hm : mget (its.map fun x => (x.e.key, x.b)) o.key = some x.b) :
  Calls Try.prog 46 #[.pointer (some ⟨g, 0, none⟩), opv o V, .int .i64 0] w (EffRetJ B g gm gp us (effC s o 0) w) := by
 have hasc := hi.asc
 have HS : Hid ({ useP s x.e.birth with L := altL s.L x.e.birth { x.e with dl := addP s.now o.ttl } } = effC s o 0) := zH (by
  unfold effC effD
  rw [if_pos rfl, if_neg (by omega)]
  have : effA s o = { useP s x.e.birth with L := altL s.L x.e.birth { x.e with dl := addP s.now o.ttl } } := by
   unfold effA
   rw [if_neg (by omega), if_neg (by omega), if_neg (by omega), if_neg (by omega), hf]
   dsimp only
   rw [if_neg (by omega), if_pos hkd]
   unfold useP altL
   dsimp only
   congr 1
   refine List.map_congr_left (fun y hy => ?_)
   split
   ·rename_i e
    rw [pair_inj hasc y hy x.e (findP_some hf).1 e]
   ·rfl
  rw [this]
  unfold effB
  rw [if_neg (by omega), if_neg (by omega), if_neg (by omega), if_neg (by omega)])
 have HPx : Hid (((mget (its.map fun x => (x.e.key, x.b)) o.key).map fun b => (⟨b, 0, none⟩ : Addr)) = some ⟨x.b, 0, none⟩) := zH (by rw [hm]; rfl)
 have q1 : (o.kind == 1) = false := by rw [beq_eq_false_iff_ne]; omega
 have q2 : (o.kind == 2) = false := by rw [beq_eq_false_iff_ne]; omega
 have q8 : (o.kind == 8) = false := by rw [beq_eq_false_iff_ne]; omega
 have q11 : (o.kind == 11) = false := by rw [beq_eq_false_iff_ne]; omega
 have q12 : (o.kind == 12) = false := by rw [beq_eq_false_iff_ne]; omega
 have q13 : (o.kind == 13) = false := by rw [beq_eq_false_iff_ne]; omega
 have q14 : (o.kind == 14) = false := by rw [beq_eq_false_iff_ne]; omega
 have HXm := zH hx
 have HA := zH hasc
 have HU := zH hus
 have HI := zH hi
 have HTt := zH htt
 have q3 : (o.kind == 3) = false := by simp [hkd]
 have q5 : (o.kind == 5) = true := by simp [hkd]
 clear hkd hf hm hx hasc hus hi htt
 obtain ⟨A, c, rfl⟩ := hv.form
 have HK := zH hk
 have hbl : Below w.heap.size w (w.alloc (.cells (opc o (.slice A o.val.length c)) 29)) := (zL _ _).alloc (zN _) _
 have HX : Hid (JRX w (w.alloc (.cells (opc o (.slice A o.val.length c)) 29)) B Bv g gm gp us s its P o A c) := zH ⟨h.below hbl, Blk.new _ _ _, hbl, hv.below hbl⟩
 clear h hv hbl hk
 unfold opv
 unfold opc at HX ⊢
 go_enter Try.func46, Try.ntmps46
 go_upto_region 1 with fail
 generalize World.alloc _ _ = W0 at HX ⊢
 refine wp_region_noPanic ?_
 refine wp_region_held_drew (S := fun W => JRX w W B Bv g gm gp us s its P o A c) (by kernel_rfl) (HX.out.adv (zL _ _).drew) (fun hHeld => ?_)
 generalize W0.drew = W1 at hHeld ⊢
 have HX1 := zH hHeld
 refine Pl.go [0, 1, 2, 3, 4, 5, 6, 7] ?_
 iterate 8
  refine tkl (v := ?_) ?_ ?_
  rotate_left 1
  ·intro W hSw
   obtain ⟨z0, z1, z2, z3, z4, z5, z6, z7, z8⟩ := op9 hSw.box; obtain ⟨d0, d1, d2, d3, d4, d5, d6, d7, d8, d9, d10⟩ := hSw.rep.cells; have hlk := hSw.rep.lookI HK.out; rw [HPx.out] at hlk
   clear hSw
   go_simp
   try with_reducible rfl
  try dsimp only [zS, zB, zC]
 refine Pl.stop ?_
 refine wpAnyH_done (by kernel_rfl) ?_ _
 refine NoPanic.normal ?_
 clear hHeld HX
 obtain ⟨z0, z1, z2, z3, z4, z5, z6, z7, z8⟩ := op9 HX1.out.box
 have HUs := zH (use_any B g gm gp us s its P x W1 HX1.out.rep HXm.out HA.out HU.out)
 go_wp2_with fail
 refine HUs.out.mono ?_
 rintro e w2 ⟨rfl, hj2, ho2⟩
 have HJ2 := zH hj2
 have HO2 := zH ho2
 have HBx2 := zH (HX1.out.box.only ho2 (KJ.not_ HX1.out.box (by decide) (by decide)))
 clear hj2 ho2 z0 z1 z2 z3 z4 z5 z6 z7 z8 HUs
 obtain ⟨z0, z1, z2, z3, z4, z5, z6, z7, z8⟩ := op9 HBx2.out
 go_upto_region 12 with fail
 clear z0 z1 z2 z3 z4 z5 z6 z7 z8
 have HX3 := zH (HJ2.out.below (zL w2.heap.size w2).drew)
 have HE3 : Hid (EfS w w2.drew g s.now o A c) := zH ⟨HBx2.out.drew, by
  obtain ⟨-, -, -, -, -, c5, -⟩ := HX3.out.cells
  exact c5⟩
 have HO3 := zH (KJ.trans (KJ.of_below HX1.out.bel) HO2.out.drew)
 refine wp_region_noPanic ?_
 refine wp_region_held_drew (S := fun W => EfS w W g s.now o A c) (by kernel_rfl) HE3.out (fun hHeld => ?_)
 clear HJ2 HO2 HBx2
 generalize w2.drew = w3 at HX3 HE3 HO3 hHeld ⊢
 refine Pl.go [0, 1, 2, 3, 4, 5, 6] ?_
 iterate 7
  refine tkl (v := ?_) ?_ ?_
  rotate_left 1
  ·intro W hSw
   obtain ⟨z0, z1, z2, z3, z4, z5, z6, z7, z8⟩ := op9 hSw.box; have d5 := hSw.now
   clear hSw
   go_simp
   try with_reducible rfl
  try dsimp only [zS, zB, zC]
 refine Pl.stop ?_
 refine wpAnyH_ready (rs := [7]) (by kernel_rfl) (by simp) ?_
 refine AllReadyH.cons (o := ⟨_, _, _, _, _, _⟩) rfl (fun F hF => ?_) AllReadyH.nil
 go_simp
 refine (tickAdd_any s.now o.ttl _ HI.out.now.1 HI.out.now.2 HTt.out).mono ?_
 rintro e w' ⟨rfl, hww⟩
 subst hww
 go_wp2_with fail
 refine hF.out _ _ HE3.out (fun hHeld => ?_)
 clear hF F
 try simp only [Act.put, zA, zB, zC]
 refine Pl.go [8, 9, 10] ?_
 iterate 3
  refine tkl (v := ?_) ?_ ?_
  rotate_left 1
  ·intro W hSw
   obtain ⟨z0, z1, z2, z3, z4, z5, z6, z7, z8⟩ := op9 hSw.box; have d5 := hSw.now
   clear hSw
   go_simp
   try with_reducible rfl
  try dsimp only [zS, zB, zC]
 refine Pl.stop ?_
 have hxu : (⟨x.e, x.v, x.b, us + 1⟩ : It) ∈ useI its x.b (us + 1) := List.mem_map.2 ⟨x, HXm.out, by rw [if_pos rfl]⟩
 have hib := HX3.out.ib _ hxu
 have x2 := hib.cells.2.2.1
 have xf := hib.blk.frozen 2
 dsimp only at hib x2 xf
 have ho4 := Only.set1 w3 x.b 2 (.int .u64 (addP s.now o.ttl))
 have hne := HX3.out.ne_g hxu
 dsimp only at hne
 have hi4 : ItAt (w3.setCell ⟨x.b, 2, none⟩ (.int .u64 (addP s.now o.ttl))) x.b { x.e with dl := addP s.now o.ttl } x.v (us + 1) (costE x.e) := ⟨hib.blk.set_ 2 _⟩
 have hg4 := HX3.out.blk.only ho4 (fun e => hne e.symm)
 obtain ⟨hj4, hoo4⟩ := HX3.out.reset HI.out.asc hxu (e' := { x.e with dl := addP s.now o.ttl }) (v' := x.v) (W := w3.setCell ⟨x.b, 2, none⟩ (.int .u64 (addP s.now o.ttl))) rfl rfl (by
  have hc : costP (useP s x.e.birth).L - costE x.e + costE { x.e with dl := addP s.now o.ttl } = costP (useP s x.e.birth).L := by
   have : costE { x.e with dl := addP s.now o.ttl } = costE x.e := rfl
   rw [this]; omega
  rw [hc]
  exact hg4) hi4 ((HX3.out.vals _ hxu).keep (KeepB.of_blk (U := 5) hib.blk (by decide) (HX3.out.base.2.2.2 (⟨x.e, x.v, x.b, us + 1⟩ : It) hxu) ho4)) ((HX3.out.apart.2 (⟨x.e, x.v, x.b, us + 1⟩ : It) hxu).keep (KeepB.of_blk (U := 5) hib.blk (by decide) (HX3.out.base.2.2.2 (⟨x.e, x.v, x.b, us + 1⟩ : It) hxu) ho4)) (ho4.mono (fun i _ e => .inr e))
 have HJ4 := zH hj4
 have HOO4 := zH hoo4
 have HE4 : Hid (EfS w (w3.setCell ⟨x.b, 2, none⟩ (.int .u64 (addP s.now o.ttl))) g s.now o A c) := zH ⟨HE3.out.box.only ho4 (HE3.out.box.ne_ hib.blk (by decide)), by
  obtain ⟨-, -, -, -, -, c5, -⟩ := hj4.cells
  exact c5⟩
 clear hib ho4 hi4 hg4 hj4 hoo4 hxu hne
 refine wpAnyH_ready (rs := [11]) (by kernel_rfl) (by simp) ?_
 refine AllReadyH.cons (o := ⟨_, _, _, _, _, _⟩) rfl (fun F hF => ?_) AllReadyH.nil
 go_simp
 refine hF.out _ _ HE4.out (fun hHeld => ?_)
 clear hF F x2 xf
 try simp only [Act.put, zA, zB, zC]
 refine wpAnyH_done (by kernel_rfl) ?_ _
 refine NoPanic.normal ?_
 clear hHeld
 generalize w3.setCell ⟨x.b, 2, none⟩ (.int .u64 (addP s.now o.ttl)) = w4 at HJ4 HOO4 HE4 ⊢
 obtain ⟨z0, z1, z2, z3, z4, z5, z6, z7, z8⟩ := op9 HE4.out.box
 go_wp2_with fail
 go_end0
 exact ⟨rfl, us + 1, _, P, ⟨by omega, by omega⟩, HS.out ▸ HJ4.out, KJ.trans HO3.out HOO4.out⟩
end Go.Proofs.Ytnabbimompapfaa
