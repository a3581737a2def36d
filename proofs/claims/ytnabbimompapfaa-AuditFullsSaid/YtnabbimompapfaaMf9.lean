/- AudKA, AudKB -/
import Derived.Test.YtnabbimompapfaaMf8
namespace Go.Proofs.Ytnabbimompapfaa
open Go Go.RowKit Go.MapKept Go.Maps
theorem mget_snoc {α β : Type} [DecidableEq α] (L : List (α × β)) (k : α) (v : β) (h : mget L k = none) (c : α) : mget (L ++ [(k, v)]) c = if c = k then some v else mget L c := by
 unfold mget at *
 rw [List.find?_append]
 by_cases e : c = k
 ·subst e
  rw [if_pos rfl]
  cases hf : L.find? fun x => decide (x.1 = c) with
  |none => simp
  |some y => rw [hf] at h; cases h
 ·rw [if_neg e]
  cases hf : L.find? fun x => decide (x.1 = c) with
  |none => simp [Ne.symm e]
  |some y => rfl
theorem mget_map {α β : Type} [DecidableEq α] : ∀ (L : List (α × β)) (k : α) (v : β), (mget L k).isSome = true → ∀ c, mget (L.map fun x => if x.1 = k then (k, v) else x) c = if c = k then some v else mget L c
 |[], k, v, h, c => by cases h
 |x :: L, k, v, h, c => by
  unfold mget at *
  rw [List.map_cons]
  by_cases ex : x.1 = k
  ·rw [if_pos ex]
   by_cases e : c = k
   ·subst e; simp
   ·have e2 : ¬ k = c := fun e3 => e e3.symm
    have e3 : ¬ x.1 = c := fun e3 => e (e3.symm.trans ex)
    rw [List.find?_cons_of_neg (by simpa using e2), List.find?_cons_of_neg (by simpa using e3), if_neg e]
    by_cases hs : ((L.find? fun x => decide (x.1 = k)).map Prod.snd).isSome = true
    ·have := mget_map L k v hs c
     unfold mget at this
     rw [this, if_neg e]
    ·have hl : ∀ y ∈ L, ¬ y.1 = k := by
      intro y hy e4
      cases hf : L.find? fun x => decide (x.1 = k) with
      |none => have := List.find?_eq_none.1 hf y hy; simp [e4] at this
      |some z => rw [hf] at hs; exact hs rfl
     have : (L.map fun x => if x.1 = k then (k, v) else x) = L := (List.map_congr_left (fun y hy => if_neg (hl y hy))).trans (List.map_id _)
     rw [this]
  ·rw [if_neg ex]
   have hs : ((L.find? fun x => decide (x.1 = k)).map Prod.snd).isSome = true := by
    rw [List.find?_cons_of_neg (by simpa using ex)] at h
    exact h
   by_cases e : x.1 = c
   ·rw [List.find?_cons_of_pos (by simpa using e), List.find?_cons_of_pos (by simpa using e), if_neg (fun e2 => ex (e.trans e2))]
   ·rw [List.find?_cons_of_neg (by simpa using e), List.find?_cons_of_neg (by simpa using e)]
    exact mget_map L k v hs c
theorem mget_del {α β : Type} [DecidableEq α] : ∀ (L : List (α × β)) (k c : α), mget (mdel L k) c = if c = k then none else mget L c
 |[], k, c => by unfold mdel mget; simp
 |x :: L, k, c => by
  have ih := mget_del L k c
  unfold mdel mget at *
  by_cases ex : x.1 = k
  ·rw [List.filter_cons_of_neg (by simpa using ex), ih]
   by_cases e : c = k
   ·rw [if_pos e, if_pos e]
   ·rw [if_neg e, if_neg e, List.find?_cons_of_neg (by simpa using fun e2 => e (e2.symm.trans ex))]
  ·rw [List.filter_cons_of_pos (by simpa using ex)]
   by_cases e : x.1 = c
   ·rw [List.find?_cons_of_pos (by simpa using e), List.find?_cons_of_pos (by simpa using e), if_neg (fun e2 => ex (e.trans e2))]
   ·rw [List.find?_cons_of_neg (by simpa using e), List.find?_cons_of_neg (by simpa using e)]
    exact ih
theorem openP_set (pl : List (Option Int)) (n : Nat) (v : Option Int) (hn : n < pl.length) (c : Int) : openP (pl.set n v) c = if c = (n : Int) then v else openP pl c := by
 unfold openP
 by_cases hc : c < 0
 ·rw [if_pos hc, if_pos hc, if_neg (by omega)]
 ·rw [if_neg hc, if_neg hc]
  by_cases e : c = (n : Int)
  ·subst e
   rw [if_pos rfl, Int.toNat_natCast, List.getD_eq_getElem?_getD, List.getElem?_set_self hn]
   rfl
  ·rw [if_neg e, List.getD_eq_getElem?_getD, List.getD_eq_getElem?_getD, List.getElem?_set_ne (by omega)]
theorem openP_range {pl : List (Option Int)} {c b : Int} (h : openP pl c = some b) : 0 ≤ c ∧ c.toNat < pl.length := by
 unfold openP at h
 split at h
 ·cases h
 ·refine ⟨by omega, ?_⟩
  rcases Nat.lt_or_ge c.toNat pl.length with hl | hl
  ·exact hl
  ·rw [List.getD_eq_getElem?_getD, List.getElem?_eq_none hl] at h
   cases h
theorem openP_free {pl : List (Option Int)} (hp : pl.length = 64) (h : freeP pl < 64) : openP pl (freeP pl : Int) = none := by
 unfold openP
 rw [if_neg (by omega), Int.toNat_natCast]
 unfold freeP at *
 cases hf : pl.findIdx? fun x => x.isNone with
 |none => rw [hf] at h; simp at h
 |some i =>
  rw [Option.getD_some]
  obtain ⟨hi, h2, _⟩ := List.findIdx?_eq_some_iff_getElem.1 hf
  rw [List.getD_eq_getElem?_getD, List.getElem?_eq_getElem hi]
  simpa using h2
theorem JRep.setPl {w w' : World} {B g gm gp : Nat} {us : Int} {s : PJ} {its : List It} {P P' : List (Int × Int)} {pl' : List (Option Int)} (h : JRep w B g gm gp us s its P) (hm : MRep KP w' gp P') (ho : Only (fun k => k = gp) w w') (hp : ∀ c, mget P' c = openP pl' c) :
  JRep w' B g gm gp us { s with pl := pl' } its P' ∧ Only (KJ B w) w w' := by
 have hoo := KJ.one h.kj_p ho
 exact ⟨⟨h.blk.only ho h.g_p, h.items.only ho (fun e => h.apart.1 e), fun x hx => (h.ib x hx).only ho (h.ne_p hx), fun x hx => (h.vals x hx).keep (KJ.keepB hoo (zN _)), h.nd, h.perm, h.ub, h.ord, hm, hp, h.base, ⟨h.apart.1, fun x hx => (h.apart.2 x hx).keep (KJ.keepB hoo (zN _))⟩⟩, hoo⟩
theorem JRep.setCfg {w : World} {B g gm gp : Nat} {us : Int} {s : PJ} {its : List It} {P : List (Int × Int)} (h : JRep w B g gm gp us s its P) (a b : Int) :
  JRep ((w.setCell ⟨g, 0, none⟩ (.int .i64 a)).setCell ⟨g, 1, none⟩ (.int .i64 b)) B g gm gp us { s with cfg := { s.cfg with count := a, bytes := b } } its P ∧ Only (KJ B w) w ((w.setCell ⟨g, 0, none⟩ (.int .i64 a)).setCell ⟨g, 1, none⟩ (.int .i64 b)) := by
 have ho : Only (fun k => k = g) w ((w.setCell ⟨g, 0, none⟩ (.int .i64 a)).setCell ⟨g, 1, none⟩ (.int .i64 b)) := Only.setCell (S := fun k => k = g) (Only.set1 w g 0 _) (p := ⟨g, 1, none⟩) (.inl rfl) _
 have hoo := KJ.one h.kj_g ho
 exact ⟨⟨(h.blk.set_ 0 (.int .i64 a)).set_ 1 (.int .i64 b), h.items.only ho (fun e => h.g_m e.symm), fun x hx => (h.ib x hx).only ho (h.ne_g hx), fun x hx => (h.vals x hx).keep (KJ.keepB hoo (zN _)), h.nd, h.perm, h.ub, h.ord, h.places.only ho (fun e => h.g_p e.symm), h.pl, h.base, ⟨h.apart.1, fun x hx => (h.apart.2 x hx).keep (KJ.keepB hoo (zN _))⟩⟩, hoo⟩
set_option maxRecDepth 100000 in
set_option maxHeartbeats 4000000 in
theorem eff_cfg (B Bv g gm gp : Nat) (us : Int) (s : PJ) (its : List It) (P : List (Int × Int)) (o : OpV) (V : Value) (w : World) (h : JRep w B g gm gp us s its P) (hv : Bts w Bv 5 V o.val) (hk : o.key.size ≤ maxLen)
  (hkd : o.kind = 8) :
  Calls Try.prog 46 #[.pointer (some ⟨g, 0, none⟩), opv o V, .int .i64 0] w (EffRetJ B g gm gp us (effC s o 0) w) := by
 have HS : Hid ({ s with cfg := { s.cfg with count := o.count, bytes := o.bytes } } = effC s o 0) := zH (by
  unfold effC effD
  rw [if_pos rfl, if_neg (by omega)]
  have : effA s o = { s with cfg := { s.cfg with count := o.count, bytes := o.bytes } } := by
   unfold effA
   rw [if_neg (by omega), if_neg (by omega), if_neg (by omega), if_pos hkd]
  rw [this]
  unfold effB
  rw [if_neg (by omega), if_neg (by omega), if_neg (by omega), if_neg (by omega)])
 have q1 : (o.kind == 1) = false := by rw [beq_eq_false_iff_ne]; omega
 have q2 : (o.kind == 2) = false := by rw [beq_eq_false_iff_ne]; omega
 have q3 : (o.kind == 3) = false := by rw [beq_eq_false_iff_ne]; omega
 have q5 : (o.kind == 5) = false := by rw [beq_eq_false_iff_ne]; omega
 have q8 : (o.kind == 8) = true := by simp [hkd]
 have q11 : (o.kind == 11) = false := by rw [beq_eq_false_iff_ne]; omega
 have q12 : (o.kind == 12) = false := by rw [beq_eq_false_iff_ne]; omega
 have q13 : (o.kind == 13) = false := by rw [beq_eq_false_iff_ne]; omega
 have q14 : (o.kind == 14) = false := by rw [beq_eq_false_iff_ne]; omega
 clear hkd
 obtain ⟨px, hpx⟩ : ∃ px, ((mget (its.map fun x => (x.e.key, x.b)) o.key).map fun b => (⟨b, 0, none⟩ : Addr)) = px := ⟨_, rfl⟩
 have HPx := zH hpx
 clear hpx
 obtain ⟨A, c, rfl⟩ := hv.form
 have HK := zH hk
 have hbl : Below w.heap.size w (w.alloc (.cells (opc o (.slice A o.val.length c)) 29)) := (zL _ _).alloc (zN _) _
 have HX : Hid (JRX w (w.alloc (.cells (opc o (.slice A o.val.length c)) 29)) B Bv g gm gp us s its P o A c) := zH ⟨h.below hbl, Blk.new _ _ _, hbl, hv.below hbl⟩
 clear h hv hbl hk
 unfold opv
 unfold opc at HX ⊢
 go_enter Try.func46, Try.ntmps46
 go_upto_region 1 with fail
 generalize World.alloc _ _ = W0 at HX ⊢
 refine wp_region_noPanic ?_
 refine wp_region_held_drew (S := fun W => JRX w W B Bv g gm gp us s its P o A c) (by kernel_rfl) (HX.out.adv (zL _ _).drew) (fun hHeld => ?_)
 generalize W0.drew = W1 at hHeld ⊢
 have HX1 := zH hHeld
 refine Pl.go [0, 1, 2, 3, 4, 5, 6, 7] ?_
 iterate 8
  refine tkl (v := ?_) ?_ ?_
  rotate_left 1
  ·intro W hSw
   obtain ⟨z0, z1, z2, z3, z4, z5, z6, z7, z8⟩ := op9 hSw.box; obtain ⟨d0, d1, d2, d3, d4, d5, d6, d7, d8, d9, d10⟩ := hSw.rep.cells; have hlk := hSw.rep.lookI HK.out; rw [HPx.out] at hlk
   clear hSw
   go_simp
   try with_reducible rfl
  try dsimp only [zS, zB, zC]
 refine Pl.stop ?_
 refine wpAnyH_done (by kernel_rfl) ?_ _
 refine NoPanic.normal ?_
 clear hHeld HX
 obtain ⟨z0, z1, z2, z3, z4, z5, z6, z7, z8⟩ := op9 HX1.out.box
 go_upto_region 14 with fail
 clear z0 z1 z2 z3 z4 z5 z6 z7 z8
 refine wp_region_noPanic ?_
 refine wp_region_held_drew (S := fun W => Blk W w.heap.size 29 (opc o (.slice A o.val.length c))) (by kernel_rfl) HX1.out.box.drew (fun hHeld => ?_)
 have HX2 := zH (HX1.out.adv (zL W1.heap.size W1).drew)
 generalize W1.drew = W2 at HX2 hHeld ⊢
 refine Pl.go [0, 1, 2, 3, 4, 5, 6, 7, 8] ?_
 iterate 9
  refine tkl (v := ?_) ?_ ?_
  rotate_left 1
  ·intro W hSw
   obtain ⟨z0, z1, z2, z3, z4, z5, z6, z7, z8⟩ := op9 hSw
   clear hSw
   go_simp
   try with_reducible rfl
  try dsimp only [zS, zB, zC]
 refine Pl.stop ?_
 have c0 : W2.cell? ⟨g, 0, none⟩ = some (.int .i64 s.cfg.count) := HX2.out.rep.cells.1
 have f0 := HX2.out.rep.blk.frozen 0
 have hbg : ¬ w.heap.size = g := HX2.out.box.ne_ HX2.out.rep.blk (by decide)
 have HBx3 := zH (HX2.out.box.only (Only.set1 W2 g 0 (.int .i64 o.count)) hbg)
 refine wpAnyH_ready (rs := [9]) (by kernel_rfl) (by simp) ?_
 refine AllReadyH.cons (o := ⟨_, _, _, _, _, _⟩) rfl (fun F hF => ?_) AllReadyH.nil
 go_simp
 refine hF.out _ _ HBx3.out (fun hHeld => ?_)
 clear hF F c0 f0
 try simp only [Act.put, zA, zB, zC]
 refine Pl.go [10, 11, 12] ?_
 iterate 3
  refine tkl (v := ?_) ?_ ?_
  rotate_left 1
  ·intro W hSw
   obtain ⟨z0, z1, z2, z3, z4, z5, z6, z7, z8⟩ := op9 hSw
   clear hSw
   go_simp
   try with_reducible rfl
  try dsimp only [zS, zB, zC]
 refine Pl.stop ?_
 have c1 : (W2.setCell ⟨g, 0, none⟩ (.int .i64 o.count)).cell? ⟨g, 1, none⟩ = some (.int .i64 s.cfg.bytes) := (HX2.out.rep.blk.set_ 0 (.int .i64 o.count)).cell 1 _ rfl
 have f1 : (W2.setCell ⟨g, 0, none⟩ (.int .i64 o.count)).frozen? ⟨g, 1, none⟩ = false := (HX2.out.rep.blk.set_ 0 (.int .i64 o.count)).frozen 1
 obtain ⟨hj3, hoo3⟩ := HX2.out.rep.setCfg o.count o.bytes
 have HJ3 := zH hj3
 have HOO3 := zH hoo3
 have HBx4 := zH (HBx3.out.only (Only.set1 (W2.setCell ⟨g, 0, none⟩ (.int .i64 o.count)) g 1 (.int .i64 o.bytes)) hbg)
 clear hj3 hoo3
 generalize W2.setCell ⟨g, 0, none⟩ (.int .i64 o.count) = W3 at c1 f1 HJ3 HOO3 HBx4 hHeld ⊢
 refine wpAnyH_ready (rs := [13]) (by kernel_rfl) (by simp) ?_
 refine AllReadyH.cons (o := ⟨_, _, _, _, _, _⟩) rfl (fun F hF => ?_) AllReadyH.nil
 go_simp
 refine hF.out _ _ HBx4.out (fun hHeld => ?_)
 clear hF F c1 f1
 try simp only [Act.put, zA, zB, zC]
 refine wpAnyH_done (by kernel_rfl) ?_ _
 refine NoPanic.normal ?_
 clear hHeld
 generalize W3.setCell ⟨g, 1, none⟩ (.int .i64 o.bytes) = W4 at HJ3 HOO3 HBx4 ⊢
 obtain ⟨z0, z1, z2, z3, z4, z5, z6, z7, z8⟩ := op9 HBx4.out
 go_wp2_with fail
 go_end0
 exact ⟨rfl, us, its, P, ⟨Int.le_refl _, by omega⟩, HS.out ▸ HJ3.out, KJ.trans (KJ.of_below HX2.out.bel) HOO3.out⟩
end Go.Proofs.Ytnabbimompapfaa
namespace Go.Proofs.Ytnabbimompapfaa
open Go Go.RowKit Go.MapKept Go.Maps
set_option maxRecDepth 100000 in
set_option maxHeartbeats 4000000 in
theorem eff_open (B Bv g gm gp : Nat) (us : Int) (s : PJ) (its : List It) (P : List (Int × Int)) (o : OpV) (V : Value) (w : World) (h : JRep w B g gm gp us s its P) (hv : Bts w Bv 5 V o.val) (hk : o.key.size ≤ maxLen)
  (hkd : o.kind = 11) (hp : s.pl.length = 64) (hfr : freeP s.pl < 64) :
  Calls Try.prog 46 #[.pointer (some ⟨g, 0, none⟩), opv o V, .int .i64 0] w (EffRetJ B g gm gp us (effC s o 0) w) := by
 have HS : Hid ({ s with pl := s.pl.set (freeP s.pl) (some 0) } = effC s o 0) := zH (by
  unfold effC effD
  rw [if_pos rfl, if_neg (by omega)]
  have : effA s o = s := by
   unfold effA
   rw [if_neg (by omega), if_neg (by omega), if_neg (by omega), if_neg (by omega)]
   cases findP s.L o.key with
   |none => rfl
   |some x => dsimp only; rw [if_neg (by omega), if_neg (by omega), if_neg (by omega)]
  rw [this]
  unfold effB
  rw [if_pos hkd])
 have q1 : (o.kind == 1) = false := by rw [beq_eq_false_iff_ne]; omega
 have q2 : (o.kind == 2) = false := by rw [beq_eq_false_iff_ne]; omega
 have q3 : (o.kind == 3) = false := by rw [beq_eq_false_iff_ne]; omega
 have q5 : (o.kind == 5) = false := by rw [beq_eq_false_iff_ne]; omega
 have q8 : (o.kind == 8) = false := by rw [beq_eq_false_iff_ne]; omega
 have q11 : (o.kind == 11) = true := by simp [hkd]
 have hno : mget P (freeP s.pl : Int) = none := by rw [h.pl, openP_free hp hfr]
 have HNo := zH hno
 have HQ : Hid (∀ c, mget (P ++ [((freeP s.pl : Int), (0 : Int))]) c = openP (s.pl.set (freeP s.pl) (some 0)) c) := zH (fun c => by
  rw [mget_snoc _ _ _ hno, openP_set _ _ _ (by omega), h.pl c])
 have HP := zH hp
 have HFr := zH hfr
 clear hkd hp hfr hno
 obtain ⟨px, hpx⟩ : ∃ px, ((mget (its.map fun x => (x.e.key, x.b)) o.key).map fun b => (⟨b, 0, none⟩ : Addr)) = px := ⟨_, rfl⟩
 have HPx := zH hpx
 clear hpx
 obtain ⟨A, c, rfl⟩ := hv.form
 have HK := zH hk
 have hbl : Below w.heap.size w (w.alloc (.cells (opc o (.slice A o.val.length c)) 29)) := (zL _ _).alloc (zN _) _
 have HX : Hid (JRX w (w.alloc (.cells (opc o (.slice A o.val.length c)) 29)) B Bv g gm gp us s its P o A c) := zH ⟨h.below hbl, Blk.new _ _ _, hbl, hv.below hbl⟩
 clear h hv hbl hk
 unfold opv
 unfold opc at HX ⊢
 go_enter Try.func46, Try.ntmps46
 go_upto_region 1 with fail
 generalize World.alloc _ _ = W0 at HX ⊢
 refine wp_region_noPanic ?_
 refine wp_region_held_drew (S := fun W => JRX w W B Bv g gm gp us s its P o A c) (by kernel_rfl) (HX.out.adv (zL _ _).drew) (fun hHeld => ?_)
 generalize W0.drew = W1 at hHeld ⊢
 have HX1 := zH hHeld
 refine Pl.go [0, 1, 2, 3, 4, 5, 6, 7] ?_
 iterate 8
  refine tkl (v := ?_) ?_ ?_
  rotate_left 1
  ·intro W hSw
   obtain ⟨z0, z1, z2, z3, z4, z5, z6, z7, z8⟩ := op9 hSw.box; obtain ⟨d0, d1, d2, d3, d4, d5, d6, d7, d8, d9, d10⟩ := hSw.rep.cells; have hlk := hSw.rep.lookI HK.out; rw [HPx.out] at hlk
   clear hSw
   go_simp
   try with_reducible rfl
  try dsimp only [zS, zB, zC]
 refine Pl.stop ?_
 refine wpAnyH_done (by kernel_rfl) ?_ _
 refine NoPanic.normal ?_
 clear hHeld HX
 obtain ⟨z0, z1, z2, z3, z4, z5, z6, z7, z8⟩ := op9 HX1.out.box
 go_upto_region 18 with fail
 clear z0 z1 z2 z3 z4 z5 z6 z7 z8
 refine wp_region_noPanic ?_
 refine wp_region_till [6] (fun W => JRX w W B Bv g gm gp us s its P o A c) (fun _ => True) (by kernel_rfl) trivial (HX1.out.adv (zL _ _).drew) (fun hTill => ?_)
 have HX2 := zH (HX1.out.adv (zL W1.heap.size W1).drew)
 generalize W1.drew = W2 at HX2 hTill ⊢
 refine Pl.go [0, 1, 2] ?_
 iterate 3
  refine tsl (v := ?_) ?_ ?_
  rotate_left 1
  ·intro W hSw
   skip
   clear hSw
   go_simp
   try with_reducible rfl
  try dsimp only [zS, zB, zC]
  clear hTill
  intro hTill
 refine Pl.stop ?_
 refine tt 3 (v := ?_) ?_ ?_
 rotate_left 1
 ·intro W hSw
  obtain ⟨z0, z1, z2, z3, z4, z5, z6, z7, z8⟩ := op9 hSw.2.box; obtain ⟨-, -, -, -, -, d5, -, -, -, -, d10⟩ := hSw.2.rep.cells; skip
  clear hSw
  go_simp
  try with_reducible rfl
 try dsimp only [zS, zB, zC]
 clear hTill
 intro hTill
 refine ts 4 (v := ?_) ?_ ?_
 rotate_left 1
 ·intro W hSw
  skip
  clear hSw
  go_simp
  try with_reducible rfl
 try dsimp only [zS, zB, zC]
 clear hTill
 intro hTill
 refine wpTill.only (i := 5) (o := ⟨_, _, _, _, _, _⟩) (by kernel_rfl) rfl (fun F hF => ?_)
 go_simp
 refine (free_any B g gm gp us s its P W2 HX2.out.rep HP.out).mono ?_
 rintro e w' ⟨rfl, hww⟩
 subst hww
 go_wp2_with fail
 refine hF.out _ _ (Till.of trivial HX2.out) (fun hTill => ?_)
 clear hF F
 try simp only [Act.put, zA, zB, zC]
 clear hTill
 obtain ⟨W3, hput, hm3, ht3⟩ := HX2.out.rep.places.put (k := (freeP s.pl : Int)) (int_wf (by have := HFr.out; omega)) HNo.out 0
 have HM3 := zH hm3
 have HO3 := zH ht3.only
 clear hm3 ht3
 refine wpTill.only (i := 6) (o := ⟨_, _, _, _, _, _⟩) (by kernel_rfl) rfl (fun F hF => ?_)
 go_simp
 refine hF.out _ _ (Till.stored trivial (by kernel_rfl)) (fun hTill => ?_)
 clear hF F hTill
 try simp only [Act.put, zA, zB, zC]
 refine wpTill.done (by kernel_rfl) ?_
 try refine NoPanic.normal ?_
 have HBx3 := zH (HX2.out.box.only HO3.out (HX2.out.box.ne_map HX2.out.rep.places))
 obtain ⟨hj3, hoo3⟩ := HX2.out.rep.setPl (pl' := s.pl.set (freeP s.pl) (some 0)) HM3.out HO3.out HQ.out
 have HJ3 := zH hj3
 have HOO3 := zH hoo3
 clear hj3 hoo3
 obtain ⟨z0, z1, z2, z3, z4, z5, z6, z7, z8⟩ := op9 HBx3.out
 go_wp2_with fail
 go_end0
 exact ⟨rfl, us, its, _, ⟨Int.le_refl _, by omega⟩, HS.out ▸ HJ3.out, KJ.trans (KJ.of_below HX2.out.bel) HOO3.out⟩
set_option maxRecDepth 100000 in
set_option maxHeartbeats 4000000 in
theorem eff_seek (B Bv g gm gp : Nat) (us : Int) (s : PJ) (its : List It) (P : List (Int × Int)) (o : OpV) (V : Value) (b : Int) (w : World) (h : JRep w B g gm gp us s its P) (hv : Bts w Bv 5 V o.val) (hk : o.key.size ≤ maxLen)
  (hkd : o.kind = 13) (hc : -9223372036854775808 ≤ o.cursor ∧ o.cursor ≤ 9223372036854775807) (hop : openP s.pl o.cursor = some b) :
  Calls Try.prog 46 #[.pointer (some ⟨g, 0, none⟩), opv o V, .int .i64 0] w (EffRetJ B g gm gp us (effC s o 0) w) := by
 have HS : Hid ({ s with pl := s.pl.set o.cursor.toNat (some o.birth) } = effC s o 0) := zH (by
  unfold effC effD
  rw [if_pos rfl, if_neg (by omega)]
  have : effA s o = s := by
   unfold effA
   rw [if_neg (by omega), if_neg (by omega), if_neg (by omega), if_neg (by omega)]
   cases findP s.L o.key with
   |none => rfl
   |some x => dsimp only; rw [if_neg (by omega), if_neg (by omega), if_neg (by omega)]
  rw [this]
  unfold effB
  rw [if_neg (by omega), if_neg (by omega), if_pos hkd])
 have q1 : (o.kind == 1) = false := by rw [beq_eq_false_iff_ne]; omega
 have q2 : (o.kind == 2) = false := by rw [beq_eq_false_iff_ne]; omega
 have q3 : (o.kind == 3) = false := by rw [beq_eq_false_iff_ne]; omega
 have q5 : (o.kind == 5) = false := by rw [beq_eq_false_iff_ne]; omega
 have q8 : (o.kind == 8) = false := by rw [beq_eq_false_iff_ne]; omega
 have q11 : (o.kind == 11) = false := by simp [hkd]
 have q12 : (o.kind == 12) = false := by simp [hkd]
 have q13 : (o.kind == 13) = true := by simp [hkd]
 have hyes : mget P o.cursor = some b := by rw [h.pl, hop]
 have HYes := zH hyes
 have hrg := openP_range hop
 have HQ : Hid (∀ c, mget (P.map fun x => if x.1 = o.cursor then (o.cursor, o.birth) else x) c = openP (s.pl.set o.cursor.toNat (some o.birth)) c) := zH (fun c => by
  rw [mget_map _ _ _ (by rw [hyes]; rfl), openP_set _ _ _ hrg.2, h.pl c, Int.toNat_of_nonneg hrg.1])
 have HC := zH hc
 clear hkd hc hop hyes hrg
 obtain ⟨px, hpx⟩ : ∃ px, ((mget (its.map fun x => (x.e.key, x.b)) o.key).map fun b => (⟨b, 0, none⟩ : Addr)) = px := ⟨_, rfl⟩
 have HPx := zH hpx
 clear hpx
 obtain ⟨A, c, rfl⟩ := hv.form
 have HK := zH hk
 have hbl : Below w.heap.size w (w.alloc (.cells (opc o (.slice A o.val.length c)) 29)) := (zL _ _).alloc (zN _) _
 have HX : Hid (JRX w (w.alloc (.cells (opc o (.slice A o.val.length c)) 29)) B Bv g gm gp us s its P o A c) := zH ⟨h.below hbl, Blk.new _ _ _, hbl, hv.below hbl⟩
 clear h hv hbl hk
 unfold opv
 unfold opc at HX ⊢
 go_enter Try.func46, Try.ntmps46
 go_upto_region 1 with fail
 generalize World.alloc _ _ = W0 at HX ⊢
 refine wp_region_noPanic ?_
 refine wp_region_held_drew (S := fun W => JRX w W B Bv g gm gp us s its P o A c) (by kernel_rfl) (HX.out.adv (zL _ _).drew) (fun hHeld => ?_)
 generalize W0.drew = W1 at hHeld ⊢
 have HX1 := zH hHeld
 refine Pl.go [0, 1, 2, 3, 4, 5, 6, 7] ?_
 iterate 8
  refine tkl (v := ?_) ?_ ?_
  rotate_left 1
  ·intro W hSw
   obtain ⟨z0, z1, z2, z3, z4, z5, z6, z7, z8⟩ := op9 hSw.box; obtain ⟨d0, d1, d2, d3, d4, d5, d6, d7, d8, d9, d10⟩ := hSw.rep.cells; have hlk := hSw.rep.lookI HK.out; rw [HPx.out] at hlk
   clear hSw
   go_simp
   try with_reducible rfl
  try dsimp only [zS, zB, zC]
 refine Pl.stop ?_
 refine wpAnyH_done (by kernel_rfl) ?_ _
 refine NoPanic.normal ?_
 clear hHeld HX
 obtain ⟨z0, z1, z2, z3, z4, z5, z6, z7, z8⟩ := op9 HX1.out.box
 go_upto_region 22 with fail
 clear z0 z1 z2 z3 z4 z5 z6 z7 z8
 refine wp_region_noPanic ?_
 refine wp_region_till [8] (fun W => JRX w W B Bv g gm gp us s its P o A c) (fun _ => True) (by kernel_rfl) trivial (HX1.out.adv (zL _ _).drew) (fun hTill => ?_)
 have HX2 := zH (HX1.out.adv (zL W1.heap.size W1).drew)
 generalize W1.drew = W2 at HX2 hTill ⊢
 refine Pl.go [0, 1, 2] ?_
 iterate 3
  refine tsl (v := ?_) ?_ ?_
  rotate_left 1
  ·intro W hSw
   skip
   clear hSw
   go_simp
   try with_reducible rfl
  try dsimp only [zS, zB, zC]
  clear hTill
  intro hTill
 refine Pl.stop ?_
 refine tt 3 (v := ?_) ?_ ?_
 rotate_left 1
 ·intro W hSw
  obtain ⟨z0, z1, z2, z3, z4, z5, z6, z7, z8⟩ := op9 hSw.2.box; obtain ⟨-, -, -, -, -, d5, -, -, -, -, d10⟩ := hSw.2.rep.cells; skip
  clear hSw
  go_simp
  try with_reducible rfl
 try dsimp only [zS, zB, zC]
 clear hTill
 intro hTill
 refine ts 4 (v := ?_) ?_ ?_
 rotate_left 1
 ·intro W hSw
  skip
  clear hSw
  go_simp
  try with_reducible rfl
 try dsimp only [zS, zB, zC]
 clear hTill
 intro hTill
 refine tt 5 (v := ?_) ?_ ?_
 rotate_left 1
 ·intro W hSw
  obtain ⟨z0, z1, z2, z3, z4, z5, z6, z7, z8⟩ := op9 hSw.2.box; obtain ⟨-, -, -, -, -, d5, -, -, -, -, d10⟩ := hSw.2.rep.cells; skip
  clear hSw
  go_simp
  try with_reducible rfl
 try dsimp only [zS, zB, zC]
 clear hTill
 intro hTill
 refine ts 6 (v := ?_) ?_ ?_
 rotate_left 1
 ·intro W hSw
  skip
  clear hSw
  go_simp
  try with_reducible rfl
 try dsimp only [zS, zB, zC]
 clear hTill
 intro hTill
 refine tt 7 (v := ?_) ?_ ?_
 rotate_left 1
 ·intro W hSw
  obtain ⟨z0, z1, z2, z3, z4, z5, z6, z7, z8⟩ := op9 hSw.2.box; obtain ⟨-, -, -, -, -, d5, -, -, -, -, d10⟩ := hSw.2.rep.cells; skip
  clear hSw
  go_simp
  try with_reducible rfl
 try dsimp only [zS, zB, zC]
 clear hTill
 intro hTill
 clear hTill
 obtain ⟨W3, hput, hm3, ht3⟩ := HX2.out.rep.places.over (k := o.cursor) (int_wf HC.out) HYes.out o.birth
 have HM3 := zH hm3
 have HO3 := zH ht3.only
 clear hm3 ht3
 refine wpTill.only (i := 8) (o := ⟨_, _, _, _, _, _⟩) (by kernel_rfl) rfl (fun F hF => ?_)
 go_simp
 refine hF.out _ _ (Till.stored trivial (by kernel_rfl)) (fun hTill => ?_)
 clear hF F hTill
 try simp only [Act.put, zA, zB, zC]
 refine wpTill.done (by kernel_rfl) ?_
 try refine NoPanic.normal ?_
 have HBx3 := zH (HX2.out.box.only HO3.out (HX2.out.box.ne_map HX2.out.rep.places))
 obtain ⟨hj3, hoo3⟩ := HX2.out.rep.setPl (pl' := s.pl.set o.cursor.toNat (some o.birth)) HM3.out HO3.out HQ.out
 have HJ3 := zH hj3
 have HOO3 := zH hoo3
 clear hj3 hoo3
 obtain ⟨z0, z1, z2, z3, z4, z5, z6, z7, z8⟩ := op9 HBx3.out
 go_wp2_with fail
 go_end0
 exact ⟨rfl, us, its, _, ⟨Int.le_refl _, by omega⟩, HS.out ▸ HJ3.out, KJ.trans (KJ.of_below HX2.out.bel) HOO3.out⟩
set_option maxRecDepth 100000 in
set_option maxHeartbeats 4000000 in
theorem eff_close (B Bv g gm gp : Nat) (us : Int) (s : PJ) (its : List It) (P : List (Int × Int)) (o : OpV) (V : Value) (b : Int) (w : World) (h : JRep w B g gm gp us s its P) (hv : Bts w Bv 5 V o.val) (hk : o.key.size ≤ maxLen)
  (hkd : o.kind = 14) (hc : -9223372036854775808 ≤ o.cursor ∧ o.cursor ≤ 9223372036854775807) (hop : openP s.pl o.cursor = some b) :
  Calls Try.prog 46 #[.pointer (some ⟨g, 0, none⟩), opv o V, .int .i64 0] w (EffRetJ B g gm gp us (effC s o 0) w) := by
 have HS : Hid ({ s with pl := s.pl.set o.cursor.toNat none } = effC s o 0) := zH (by
  unfold effC effD
  rw [if_pos rfl, if_neg (by omega)]
  have : effA s o = s := by
   unfold effA
   rw [if_neg (by omega), if_neg (by omega), if_neg (by omega), if_neg (by omega)]
   cases findP s.L o.key with
   |none => rfl
   |some x => dsimp only; rw [if_neg (by omega), if_neg (by omega), if_neg (by omega)]
  rw [this]
  unfold effB
  rw [if_neg (by omega), if_neg (by omega), if_neg (by omega), if_pos hkd])
 have q1 : (o.kind == 1) = false := by rw [beq_eq_false_iff_ne]; omega
 have q2 : (o.kind == 2) = false := by rw [beq_eq_false_iff_ne]; omega
 have q3 : (o.kind == 3) = false := by rw [beq_eq_false_iff_ne]; omega
 have q5 : (o.kind == 5) = false := by rw [beq_eq_false_iff_ne]; omega
 have q8 : (o.kind == 8) = false := by rw [beq_eq_false_iff_ne]; omega
 have q11 : (o.kind == 11) = false := by simp [hkd]
 have q12 : (o.kind == 12) = false := by simp [hkd]
 have q13 : (o.kind == 13) = false := by simp [hkd]
 have q14 : (o.kind == 14) = true := by simp [hkd]
 have hrg := openP_range hop
 have HQ : Hid (∀ c, mget (mdel P o.cursor) c = openP (s.pl.set o.cursor.toNat none) c) := zH (fun c => by
  rw [mget_del, openP_set _ _ _ hrg.2, h.pl c, Int.toNat_of_nonneg hrg.1])
 have HC := zH hc
 clear hkd hc hop hrg
 obtain ⟨px, hpx⟩ : ∃ px, ((mget (its.map fun x => (x.e.key, x.b)) o.key).map fun b => (⟨b, 0, none⟩ : Addr)) = px := ⟨_, rfl⟩
 have HPx := zH hpx
 clear hpx
 obtain ⟨A, c, rfl⟩ := hv.form
 have HK := zH hk
 have hbl : Below w.heap.size w (w.alloc (.cells (opc o (.slice A o.val.length c)) 29)) := (zL _ _).alloc (zN _) _
 have HX : Hid (JRX w (w.alloc (.cells (opc o (.slice A o.val.length c)) 29)) B Bv g gm gp us s its P o A c) := zH ⟨h.below hbl, Blk.new _ _ _, hbl, hv.below hbl⟩
 clear h hv hbl hk
 unfold opv
 unfold opc at HX ⊢
 go_enter Try.func46, Try.ntmps46
 go_upto_region 1 with fail
 generalize World.alloc _ _ = W0 at HX ⊢
 refine wp_region_noPanic ?_
 refine wp_region_held_drew (S := fun W => JRX w W B Bv g gm gp us s its P o A c) (by kernel_rfl) (HX.out.adv (zL _ _).drew) (fun hHeld => ?_)
 generalize W0.drew = W1 at hHeld ⊢
 have HX1 := zH hHeld
 refine Pl.go [0, 1, 2, 3, 4, 5, 6, 7] ?_
 iterate 8
  refine tkl (v := ?_) ?_ ?_
  rotate_left 1
  ·intro W hSw
   obtain ⟨z0, z1, z2, z3, z4, z5, z6, z7, z8⟩ := op9 hSw.box; obtain ⟨d0, d1, d2, d3, d4, d5, d6, d7, d8, d9, d10⟩ := hSw.rep.cells; have hlk := hSw.rep.lookI HK.out; rw [HPx.out] at hlk
   clear hSw
   go_simp
   try with_reducible rfl
  try dsimp only [zS, zB, zC]
 refine Pl.stop ?_
 refine wpAnyH_done (by kernel_rfl) ?_ _
 refine NoPanic.normal ?_
 clear hHeld HX
 obtain ⟨z0, z1, z2, z3, z4, z5, z6, z7, z8⟩ := op9 HX1.out.box
 go_upto_region 24 with fail
 clear z0 z1 z2 z3 z4 z5 z6 z7 z8
 refine wp_region_noPanic ?_
 refine wp_region_till [6] (fun W => JRX w W B Bv g gm gp us s its P o A c) (fun _ => True) (by kernel_rfl) trivial (HX1.out.adv (zL _ _).drew) (fun hTill => ?_)
 have HX2 := zH (HX1.out.adv (zL W1.heap.size W1).drew)
 generalize W1.drew = W2 at HX2 hTill ⊢
 refine Pl.go [0, 1, 2] ?_
 iterate 3
  refine tsl (v := ?_) ?_ ?_
  rotate_left 1
  ·intro W hSw
   skip
   clear hSw
   go_simp
   try with_reducible rfl
  try dsimp only [zS, zB, zC]
  clear hTill
  intro hTill
 refine Pl.stop ?_
 refine tt 3 (v := ?_) ?_ ?_
 rotate_left 1
 ·intro W hSw
  obtain ⟨z0, z1, z2, z3, z4, z5, z6, z7, z8⟩ := op9 hSw.2.box; obtain ⟨-, -, -, -, -, d5, -, -, -, -, d10⟩ := hSw.2.rep.cells; skip
  clear hSw
  go_simp
  try with_reducible rfl
 try dsimp only [zS, zB, zC]
 clear hTill
 intro hTill
 refine ts 4 (v := ?_) ?_ ?_
 rotate_left 1
 ·intro W hSw
  skip
  clear hSw
  go_simp
  try with_reducible rfl
 try dsimp only [zS, zB, zC]
 clear hTill
 intro hTill
 refine tt 5 (v := ?_) ?_ ?_
 rotate_left 1
 ·intro W hSw
  obtain ⟨z0, z1, z2, z3, z4, z5, z6, z7, z8⟩ := op9 hSw.2.box; obtain ⟨-, -, -, -, -, d5, -, -, -, -, d10⟩ := hSw.2.rep.cells; skip
  clear hSw
  go_simp
  try with_reducible rfl
 try dsimp only [zS, zB, zC]
 clear hTill
 intro hTill
 clear hTill
 obtain ⟨W3, hput, hm3, ht3⟩ := HX2.out.rep.places.del (k := o.cursor) (int_wf HC.out)
 have HM3 := zH hm3
 have HO3 := zH ht3.only
 clear hm3 ht3
 refine wpTill.only (i := 6) (o := ⟨_, _, _, _, _, _⟩) (by kernel_rfl) rfl (fun F hF => ?_)
 go_simp
 refine hF.out _ _ (Till.stored trivial (by kernel_rfl)) (fun hTill => ?_)
 clear hF F hTill
 try simp only [Act.put, zA, zB, zC]
 refine wpTill.done (by kernel_rfl) ?_
 try refine NoPanic.normal ?_
 have HBx3 := zH (HX2.out.box.only HO3.out (HX2.out.box.ne_map HX2.out.rep.places))
 obtain ⟨hj3, hoo3⟩ := HX2.out.rep.setPl (pl' := s.pl.set o.cursor.toNat none) HM3.out HO3.out HQ.out
 have HJ3 := zH hj3
 have HOO3 := zH hoo3
 clear hj3 hoo3
 obtain ⟨z0, z1, z2, z3, z4, z5, z6, z7, z8⟩ := op9 HBx3.out
 go_wp2_with fail
 go_end0
 exact ⟨rfl, us, its, _, ⟨Int.le_refl _, by omega⟩, HS.out ▸ HJ3.out, KJ.trans (KJ.of_below HX2.out.bel) HOO3.out⟩
theorem JRep.lookPl1 {w : World} {B g gm gp : Nat} {us : Int} {s : PJ} {its : List It} {P : List (Int × Int)} (h : JRep w B g gm gp us s its P) {c b : Int} (hc : -9223372036854775808 ≤ c ∧ c ≤ 9223372036854775807) (hb : openP s.pl c = some b) :
  (Instr.lookup 71 (.map (some gp)) (.int .i64 c) false).run Try.prog w = .ok (.int .u64 b) w := by
 have := h.places.look1 (P := Try.prog) (k := c) (int_wf hc)
 rw [h.pl c, hb] at this
 exact this
set_option maxRecDepth 100000 in
set_option maxHeartbeats 4000000 in
theorem eff_next (B Bv g gm gp : Nat) (us : Int) (s : PJ) (its : List It) (P : List (Int × Int)) (o : OpV) (V : Value) (b : Int) (y : EntV) (w : World) (h : JRep w B g gm gp us s its P) (hv : Bts w Bv 5 V o.val) (hk : o.key.size ≤ maxLen)
  (hkd : o.kind = 12) (hc : -9223372036854775808 ≤ o.cursor ∧ o.cursor ≤ 9223372036854775807) (hop : openP s.pl o.cursor = some b) (hy : afterP s.L b s.now = some y) (hlen : its.length ≤ 1000000) (hasc : (s.L.map EntV.birth).Pairwise (· < ·)) :
  Calls Try.prog 46 #[.pointer (some ⟨g, 0, none⟩), opv o V, .int .i64 0] w (EffRetJ B g gm gp us (effC s o 0) w) := by
 have HS : Hid ({ s with pl := s.pl.set o.cursor.toNat (some y.birth) } = effC s o 0) := zH (by
  unfold effC effD
  rw [if_pos rfl, if_neg (by omega)]
  have : effA s o = s := by
   unfold effA
   rw [if_neg (by omega), if_neg (by omega), if_neg (by omega), if_neg (by omega)]
   cases findP s.L o.key with
   |none => rfl
   |some x => dsimp only; rw [if_neg (by omega), if_neg (by omega), if_neg (by omega)]
  rw [this]
  unfold effB
  rw [if_neg (by omega), if_pos hkd, hop]
  dsimp only
  rw [hy])
 have q1 : (o.kind == 1) = false := by rw [beq_eq_false_iff_ne]; omega
 have q2 : (o.kind == 2) = false := by rw [beq_eq_false_iff_ne]; omega
 have q3 : (o.kind == 3) = false := by rw [beq_eq_false_iff_ne]; omega
 have q5 : (o.kind == 5) = false := by rw [beq_eq_false_iff_ne]; omega
 have q8 : (o.kind == 8) = false := by rw [beq_eq_false_iff_ne]; omega
 have q11 : (o.kind == 11) = false := by simp [hkd]
 have q12 : (o.kind == 12) = true := by simp [hkd]
 have hyes : mget P o.cursor = some b := by rw [h.pl, hop]
 have HYes := zH hyes
 have hrg := openP_range hop
 have HQ : Hid (∀ c, mget (P.map fun x => if x.1 = o.cursor then (o.cursor, y.birth) else x) c = openP (s.pl.set o.cursor.toNat (some y.birth)) c) := zH (fun c => by
  rw [mget_map _ _ _ (by rw [hyes]; rfl), openP_set _ _ _ hrg.2, h.pl c, Int.toNat_of_nonneg hrg.1])
 have HC := zH hc
 have HOp := zH hop
 have HY := zH hy
 have HLe := zH hlen
 have HA := zH hasc
 clear hkd hc hop hyes hrg hy hlen hasc
 obtain ⟨px, hpx⟩ : ∃ px, ((mget (its.map fun x => (x.e.key, x.b)) o.key).map fun b => (⟨b, 0, none⟩ : Addr)) = px := ⟨_, rfl⟩
 have HPx := zH hpx
 clear hpx
 obtain ⟨A, c, rfl⟩ := hv.form
 have HK := zH hk
 have hbl : Below w.heap.size w (w.alloc (.cells (opc o (.slice A o.val.length c)) 29)) := (zL _ _).alloc (zN _) _
 have HX : Hid (JRX w (w.alloc (.cells (opc o (.slice A o.val.length c)) 29)) B Bv g gm gp us s its P o A c) := zH ⟨h.below hbl, Blk.new _ _ _, hbl, hv.below hbl⟩
 clear h hv hbl hk
 unfold opv
 unfold opc at HX ⊢
 go_enter Try.func46, Try.ntmps46
 go_upto_region 1 with fail
 generalize World.alloc _ _ = W0 at HX ⊢
 refine wp_region_noPanic ?_
 refine wp_region_held_drew (S := fun W => JRX w W B Bv g gm gp us s its P o A c) (by kernel_rfl) (HX.out.adv (zL _ _).drew) (fun hHeld => ?_)
 generalize W0.drew = W1 at hHeld ⊢
 have HX1 := zH hHeld
 refine Pl.go [0, 1, 2, 3, 4, 5, 6, 7] ?_
 iterate 8
  refine tkl (v := ?_) ?_ ?_
  rotate_left 1
  ·intro W hSw
   obtain ⟨z0, z1, z2, z3, z4, z5, z6, z7, z8⟩ := op9 hSw.box; obtain ⟨d0, d1, d2, d3, d4, d5, d6, d7, d8, d9, d10⟩ := hSw.rep.cells; have hlk := hSw.rep.lookI HK.out; rw [HPx.out] at hlk
   clear hSw
   go_simp
   try with_reducible rfl
  try dsimp only [zS, zB, zC]
 refine Pl.stop ?_
 refine wpAnyH_done (by kernel_rfl) ?_ _
 refine NoPanic.normal ?_
 clear hHeld HX
 obtain ⟨z0, z1, z2, z3, z4, z5, z6, z7, z8⟩ := op9 HX1.out.box
 go_upto_region 20 with fail
 clear z0 z1 z2 z3 z4 z5 z6 z7 z8
 refine wp_region_noPanic ?_
 refine wp_region_till [23] (fun W => JRX w W B Bv g gm gp us s its P o A c) (fun _ => True) (by kernel_rfl) trivial (HX1.out.adv (zL _ _).drew) (fun hTill => ?_)
 have HX2 := zH (HX1.out.adv (zL W1.heap.size W1).drew)
 generalize W1.drew = W2 at HX2 hTill ⊢
 refine Pl.go [0, 1, 2] ?_
 iterate 3
  refine tsl (v := ?_) ?_ ?_
  rotate_left 1
  ·intro W hSw
   skip
   clear hSw
   go_simp
   try with_reducible rfl
  try dsimp only [zS, zB, zC]
  clear hTill
  intro hTill
 refine Pl.stop ?_
 refine tt 3 (v := ?_) ?_ ?_
 rotate_left 1
 ·intro W hSw
  obtain ⟨z0, z1, z2, z3, z4, z5, z6, z7, z8⟩ := op9 hSw.2.box; obtain ⟨-, -, -, -, -, d5, -, -, -, -, d10⟩ := hSw.2.rep.cells; skip
  clear hSw
  go_simp
  try with_reducible rfl
 try dsimp only [zS, zB, zC]
 clear hTill
 intro hTill
 refine ts 4 (v := ?_) ?_ ?_
 rotate_left 1
 ·intro W hSw
  skip
  clear hSw
  go_simp
  try with_reducible rfl
 try dsimp only [zS, zB, zC]
 clear hTill
 intro hTill
 refine tt 5 (v := ?_) ?_ ?_
 rotate_left 1
 ·intro W hSw
  obtain ⟨z0, z1, z2, z3, z4, z5, z6, z7, z8⟩ := op9 hSw.2.box; obtain ⟨-, -, -, -, -, d5, -, -, -, -, d10⟩ := hSw.2.rep.cells; skip
  clear hSw
  go_simp
  try with_reducible rfl
 try dsimp only [zS, zB, zC]
 clear hTill
 intro hTill
 refine Pl.go [6, 7, 8, 9] ?_
 iterate 4
  refine tsl (v := ?_) ?_ ?_
  rotate_left 1
  ·intro W hSw
   skip
   clear hSw
   go_simp
   try with_reducible rfl
  try dsimp only [zS, zB, zC]
  clear hTill
  intro hTill
 refine Pl.stop ?_
 refine tt 10 (v := ?_) ?_ ?_
 rotate_left 1
 ·intro W hSw
  obtain ⟨z0, z1, z2, z3, z4, z5, z6, z7, z8⟩ := op9 hSw.2.box; obtain ⟨-, -, -, -, -, d5, -, -, -, -, d10⟩ := hSw.2.rep.cells; skip
  clear hSw
  go_simp
  try with_reducible rfl
 try dsimp only [zS, zB, zC]
 clear hTill
 intro hTill
 refine ts 11 (v := ?_) ?_ ?_
 rotate_left 1
 ·intro W hSw
  skip
  clear hSw
  go_simp
  try with_reducible rfl
 try dsimp only [zS, zB, zC]
 clear hTill
 intro hTill
 refine tt 12 (v := ?_) ?_ ?_
 rotate_left 1
 ·intro W hSw
  obtain ⟨z0, z1, z2, z3, z4, z5, z6, z7, z8⟩ := op9 hSw.2.box; obtain ⟨-, -, -, -, -, d5, -, -, -, -, d10⟩ := hSw.2.rep.cells; skip
  clear hSw
  go_simp
  try with_reducible rfl
 try dsimp only [zS, zB, zC]
 clear hTill
 intro hTill
 refine tt 13 (v := ?_) ?_ ?_
 rotate_left 1
 ·intro W hSw
  obtain ⟨z0, z1, z2, z3, z4, z5, z6, z7, z8⟩ := op9 hSw.2.box; obtain ⟨-, -, -, -, -, d5, -, -, -, -, d10⟩ := hSw.2.rep.cells; have hlk := hSw.2.rep.lookPl1 HC.out HOp.out
  clear hSw
  go_simp
  try with_reducible rfl
 try dsimp only [zS, zB, zC]
 clear hTill
 intro hTill
 refine Pl.go [14, 15, 16] ?_
 iterate 3
  refine tsl (v := ?_) ?_ ?_
  rotate_left 1
  ·intro W hSw
   skip
   clear hSw
   go_simp
   try with_reducible rfl
  try dsimp only [zS, zB, zC]
  clear hTill
  intro hTill
 refine Pl.stop ?_
 refine tt 17 (v := ?_) ?_ ?_
 rotate_left 1
 ·intro W hSw
  obtain ⟨z0, z1, z2, z3, z4, z5, z6, z7, z8⟩ := op9 hSw.2.box; obtain ⟨-, -, -, -, -, d5, -, -, -, -, d10⟩ := hSw.2.rep.cells; skip
  clear hSw
  go_simp
  try with_reducible rfl
 try dsimp only [zS, zB, zC]
 clear hTill
 intro hTill
 refine wpTill.only (i := 18) (o := ⟨_, _, _, _, _, _⟩) (by kernel_rfl) rfl (fun F hF => ?_)
 go_simp
 refine (after_any B g gm gp us s its P b s.now W2 HX2.out.rep HLe.out HA.out).mono ?_
 rintro e w3 ⟨hb3, ⟨hno, _⟩ | ⟨x, hx, hsome, rfl⟩⟩
 ·rw [HY.out] at hno
  cases hno
 ·have hxy : y = x.e := by rw [HY.out] at hsome; injection hsome
  subst hxy
  have HX3 := zH (HX2.out.adv hb3)
  have HXm := zH hx
  clear hb3 hsome hx
  go_wp2_with fail
  refine hF.out _ _ (Till.of trivial HX3.out) (fun hTill => ?_)
  clear hF F HX2
  try simp only [Act.put, zA, zB, zC]
  refine Pl.go [19, 20, 21] ?_
  iterate 3
   refine tsl (v := ?_) ?_ ?_
   rotate_left 1
   ·intro W hSw
    skip
    clear hSw
    go_simp
    try with_reducible rfl
   try dsimp only [zS, zB, zC]
   clear hTill
   intro hTill
  refine Pl.stop ?_
  refine tt 22 (v := ?_) ?_ ?_
  rotate_left 1
  ·intro W hSw
   obtain ⟨z0, z1, z2, z3, z4, z5, z6, z7, z8⟩ := op9 hSw.2.box; obtain ⟨-, -, -, -, -, d5, -, -, -, -, d10⟩ := hSw.2.rep.cells; have x3 := (hSw.2.rep.ib x HXm.out).cells.2.2.2.1
   clear hSw
   go_simp
   try with_reducible rfl
  try dsimp only [zS, zB, zC]
  clear hTill
  intro hTill
  clear hTill
  have HX2 := HX3
  obtain ⟨W3, hput, hm3, ht3⟩ := HX3.out.rep.places.over (k := o.cursor) (int_wf HC.out) HYes.out x.e.birth
  have HM3 := zH hm3
  have HO3 := zH ht3.only
  clear hm3 ht3
  refine wpTill.only (i := 23) (o := ⟨_, _, _, _, _, _⟩) (by kernel_rfl) rfl (fun F hF => ?_)
  go_simp
  refine hF.out _ _ (Till.stored trivial (by kernel_rfl)) (fun hTill => ?_)
  clear hF F hTill
  try simp only [Act.put, zA, zB, zC]
  refine wpTill.done (by kernel_rfl) ?_
  try refine NoPanic.normal ?_
  have HBx3 := zH (HX2.out.box.only HO3.out (HX2.out.box.ne_map HX2.out.rep.places))
  obtain ⟨hj3, hoo3⟩ := HX2.out.rep.setPl (pl' := s.pl.set o.cursor.toNat (some x.e.birth)) HM3.out HO3.out HQ.out
  have HJ3 := zH hj3
  have HOO3 := zH hoo3
  clear hj3 hoo3
  obtain ⟨z0, z1, z2, z3, z4, z5, z6, z7, z8⟩ := op9 HBx3.out
  go_wp2_with fail
  go_end0
  exact ⟨rfl, us, its, _, ⟨Int.le_refl _, by omega⟩, HS.out ▸ HJ3.out, KJ.trans (KJ.of_below HX2.out.bel) HOO3.out⟩
theorem effect_any (N B Bv g gm gp : Nat) (us : Int) (s : PJ) (its : List It) (P : List (Int × Int)) (o : OpV) (V : Value) (e0 : Int) (w : World) (h : JRep w B g gm gp us s its P) (hv : Bts w Bv 5 V o.val) (hk : o.key.size ≤ maxLen) (hi : PInv N s) (hn : N ≤ 90000) (hB : Bv ≤ B ∧ B ≤ w.heap.size)
  (hs : o.kind = 1 ∨ o.kind = 2 → keyOK o.key = true ∧ o.val.length ≤ 65536) (hus : 0 ≤ us ∧ us ≤ 1000000000000) (htt : 0 ≤ o.ttl) (hc : -9223372036854775808 ≤ o.cursor ∧ o.cursor ≤ 9223372036854775807) (hkd : 1 ≤ o.kind ∧ o.kind ≤ 14) (he : EffOk s o e0) :
  Calls Try.prog 46 #[.pointer (some ⟨g, 0, none⟩), opv o V, .int .i64 e0] w (EffRetJ B g gm gp us (effC s o e0) w) := by
 have hlen : its.length ≤ 1000000 := by have := h.lenI; have := hi.lenL; omega
 by_cases h11 : 11 ≤ o.kind
 ·by_cases he0 : e0 = 0
  ·subst he0
   by_cases k11 : o.kind = 11
   ·exact eff_open B Bv g gm gp us s its P o V w h hv hk k11 hi.pls (he.h11 k11 rfl)
   ·by_cases k12 : o.kind = 12
    ·obtain ⟨b, y, h1, h2⟩ := he.h12 k12 rfl
     exact eff_next B Bv g gm gp us s its P o V b y w h hv hk k12 hc h1 h2 hlen hi.asc
    ·have h3 := he.h13 (by omega) rfl
     cases hop : openP s.pl o.cursor with
     |none => rw [hop] at h3; cases h3
     |some b =>
      by_cases k13 : o.kind = 13
      ·exact eff_seek B Bv g gm gp us s its P o V b w h hv hk k13 hc hop
      ·exact eff_close B Bv g gm gp us s its P o V b w h hv hk (by omega) hc hop
  ·exact eff_err B Bv g gm gp us s its P o V e0 w h hv hk ⟨h11, hkd.2⟩ he0
 ·have he0 := he.h0 (by omega)
  subst he0
  by_cases k1 : o.kind = 1
  ·exact eff_set N B Bv g gm gp us s its P o V w h hv hk hi hn hB (hs (.inl k1)).1 (hs (.inl k1)).2 hus k1
  ·by_cases k2 : o.kind = 2
   ·exact eff_setttl N B Bv g gm gp us s its P o V w h hv hk hi hn hB (hs (.inr k2)).1 (hs (.inr k2)).2 hus htt k2
   ·by_cases k8 : o.kind = 8
    ·exact eff_cfg B Bv g gm gp us s its P o V w h hv hk k8
    ·by_cases k35 : o.kind = 3 ∨ o.kind = 5
     ·rcases h.find hi.keys o.key with ⟨h1, h2⟩ | ⟨x, hx, h1, _, h2⟩
      ·exact eff_miss B Bv g gm gp us s its P o V w h hv hk k35 h1 h2
      ·rcases k35 with k3 | k5
       ·exact eff_get B Bv g gm gp us s its P o V x w h hv hk hi.asc hus k3 hx h1 h2
       ·exact eff_touch N B Bv g gm gp us s its P o V x w h hv hk hi hus htt k5 hx h1 h2
     ·exact eff_plain B Bv g gm gp us s its P o V w h hv hk (by omega)
end Go.Proofs.Ytnabbimompapfaa
