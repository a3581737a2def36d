/- AudKG -/
import Derived.Test.YtnabbimompapfaaMf11
namespace Go.Proofs.Ytnabbimompapfaa
open Go Go.RowKit Go.MapKept Go.Maps
set_option maxRecDepth 100000 in
set_option maxHeartbeats 16000000 in
theorem evict_k1 (N B Bv g gm gp : Nat) (us : Int) (s : PJ) (its : List It) (P : List (Int × Int)) (o : OpV) (V : Value) (lv : Value) (xs : List (EvV × Value)) (w : World) (h : JRep w B g gm gp us s its P) (hv : Bts w Bv 5 V o.val) (hi : PInv N s) (hn : N ≤ 90000) (hl : EvsAt w Bv lv xs) (hBv : Bv ≤ B) (hks : ∀ p ∈ xs, p.1.key.size ≤ maxLen)
  (hkd : o.kind = 1) :
  Calls Try.prog 47 #[.pointer (some ⟨g, 0, none⟩), opv o V, lv] w (EvRetJ B g gm gp us (evictP o (xs.map Prod.fst) s) w) := by
 have HKd : Hid (o.kind = 1 ∨ o.kind = 2) := zH (.inl hkd)
 have q1 : (o.kind == 1) = true := by simp [hkd]
 clear hkd
 obtain ⟨A, c, rfl⟩ := hv.form
 have hb0 : Below w.heap.size w (w.alloc (.cells (opc o (.slice A o.val.length c)) 29)) := (zL _ _).alloc (zN _) _
 have HI0 : Hid (EvJ w (w.alloc (.cells (opc o (.slice A o.val.length c)) 29)) B Bv g gm gp us s its P o (.slice A o.val.length c) lv xs) := zH ⟨h.below hb0, Blk.new _ _ _, hl.below hb0, KJ.of_below hb0⟩
 obtain ⟨LA, lc0, rfl, hlc0, hlm⟩ := hl.cap
 have HBv := zH hBv
 have HP0 := zH hi
 have HN := zH hn
 have HKs := zH hks
 unfold maxLen at hlm
 have hxI : (xs.length : Int) ≤ 9223372036854775807 := by omega
 have hxc : (xs.length : Int) ≤ (lc0 : Int) := by omega
 obtain ⟨nx, hnx⟩ : ∃ nx, xs.length = nx := ⟨_, rfl⟩
 have HNx := zH hnx
 rw [hnx] at hxI hxc HI0 ⊢
 unfold opv
 unfold opc at HI0 ⊢
 clear h hi hb0 hl hBv hn hlm hlc0 hv hks hnx
 go_enter Try.func47, Try.ntmps47
 go_upto_region 1 with fail
 generalize World.alloc _ _ = W0 at HI0 ⊢
 obtain ⟨z0, z1, z2, z3, z4, z5, z6, z7, z8⟩ := op9 HI0.out.box
 go_wp2_with fail
 go_loopw [23] (fun i wr => ∃ (m : Nat) (s1 : PJ) (its1 : List It), m ≤ nx ∧ i = .int .i64 m ∧ evictP o (xs.map Prod.fst) s = evictP o ((xs.drop m).map Prod.fst) s1 ∧ PInv N s1 ∧ s1.now = s.now ∧ EvJ w wr B Bv g gm gp us s1 its1 P o (.slice A o.val.length c) (.slice LA nx lc0) xs) (fun i _ => nx - (intOf i).toNat)
 case atStart => exact ⟨0, s, its, Nat.zero_le _, rfl, rfl, HP0.out, rfl, HI0.out⟩
 case round =>
  clear z0 z1 z2 z3 z4 z5 z6 z7 z8
  obtain ⟨m, s1, its1, hm, rfl, hst, hpi, hnow, hj⟩ := hrel
  have HPi := zH hpi
  have HNw := zH hnow
  have HJ := zH hj
  have HSt := zH hst
  clear hpi hnow hj hst HI0 HP0
  by_cases hlt : m < nx
  ·have hltz : (m : Int) < (nx : Int) := by omega
   obtain ⟨⟨v, V⟩, hp⟩ : ∃ p, xs[m]? = some p := ⟨_, List.getElem?_eq_getElem (by rw [HNx.out]; exact hlt)⟩
   obtain ⟨q, off, rfl, -, y0, y1, y2, y3, y4, y5⟩ := HJ.out.ev.at_ hp
   obtain ⟨VA, vc, hV⟩ := (HJ.out.ev.vals _ (List.mem_of_getElem? hp)).form
   dsimp only at y0 y1 y2 y3 y4 y5 hV
   subst hV
   have HPx := zH hp
   have HVk : Hid (v.key.size ≤ maxLen) := zH (HKs.out _ (List.mem_of_getElem? hp))
   have hdr : xs.drop m = (v, .slice VA v.val.length vc) :: xs.drop (m + 1) := by
    have hx2 := (List.getElem?_eq_some_iff.1 hp).2
    rw [← hx2, List.getElem_cons_drop]
   have HSt2 : Hid (evictP o (xs.map Prod.fst) s = evictP o (v :: (xs.drop (m + 1)).map Prod.fst) s1) := zH (by rw [HSt.out, hdr]; rfl)
   clear hp hdr HSt
   go_upto_region 5 with fail
   have hb5 : Below wr.heap.size wr (wr.alloc (.cells #[.int .i64 v.kind, .string v.key, .slice VA v.val.length vc, .int .u64 v.birth, .int .u64 v.dl, .int .u64 v.at_] 50)) := (zL _ _).alloc (zN _) _
   have H5 := zH (HJ.out.adv hb5)
   have HEb : Hid (Blk (wr.alloc (.cells #[.int .i64 v.kind, .string v.key, .slice VA v.val.length vc, .int .u64 v.birth, .int .u64 v.dl, .int .u64 v.at_] 50)) wr.heap.size 50 (evc v (.slice VA v.val.length vc))) := zH (Blk.new _ _ _)
   clear hb5 y0 y1 y2 y3 y4 y5 HJ
   generalize wr.heap.size = gE at HEb ⊢
   generalize World.alloc _ _ = W5 at H5 HEb ⊢
   refine wp_region_noPanic ?_
   refine wp_region_held_drew (S := fun W => EvJ w W B Bv g gm gp us s1 its1 P o (.slice A o.val.length c) (.slice (some ⟨q, off, none⟩) nx lc0) xs ∧ Blk W gE 50 (evc v (.slice VA v.val.length vc))) (by kernel_rfl) ⟨H5.out.adv (zL _ _).drew, HEb.out.drew⟩ (fun hHeld => ?_)
   have H6 := zH (H5.out.adv (zL W5.heap.size W5).drew)
   have HEb6 := zH HEb.out.drew
   clear H5 HEb
   generalize W5.drew = W6 at H6 HEb6 hHeld ⊢
   rcases H6.out.rep.find HPi.out.keys v.key with ⟨hf, hmg⟩ | ⟨x, hx, hf, -, hmg⟩
   ·have HMg := zH hmg
    have HS : Hid (evictP o (xs.map Prod.fst) s = .error 2) := zH (by rw [HSt2.out, evictP, hf])
    clear hf hmg
    refine Pl.go [0, 1, 2, 3, 4, 5, 6, 7] ?_
    iterate 8
     refine tkl (v := ?_) ?_ ?_
     rotate_left 1
     ·intro W hSw
      obtain ⟨-, -, -, -, -, -, -, -, d8, -, -⟩ := hSw.1.rep.cells; obtain ⟨e0, e1, e2, e3, e4, e5⟩ := ev6 hSw.2; have hlk := hSw.1.rep.lookI_none HVk.out HMg.out
      clear hSw
      go_simp
      try with_reducible rfl
     try dsimp only [zS, zB, zC]
    refine Pl.stop ?_
    refine wpAnyH_done (by kernel_rfl) ?_ _
    refine NoPanic.normal ?_
    clear hHeld
    go_wp2_with fail
    go_ret
    exact EvRetJ.err HS.out (H6).out.only
   ·have HMg := zH hmg
    have HF := zH hf
    have HXm := zH hx
    clear hf hmg hx
    refine Pl.go [0, 1, 2, 3, 4, 5, 6, 7] ?_
    iterate 8
     refine tkl (v := ?_) ?_ ?_
     rotate_left 1
     ·intro W hSw
      obtain ⟨-, -, -, -, -, -, -, -, d8, -, -⟩ := hSw.1.rep.cells; obtain ⟨e0, e1, e2, e3, e4, e5⟩ := ev6 hSw.2; have hlk := hSw.1.rep.lookI_some HVk.out HMg.out
      clear hSw
      go_simp
      try with_reducible rfl
     try dsimp only [zS, zB, zC]
    refine Pl.stop ?_
    refine wpAnyH_done (by kernel_rfl) ?_ _
    refine NoPanic.normal ?_
    clear hHeld
    obtain ⟨e0, e1, e2, e3, e4, e5⟩ := ev6 HEb6.out
    have HT := zH (told_any B Bv g gm gp us s1 its1 P x v (.slice VA v.val.length vc) 2 W6 H6.out.rep HXm.out (H6.out.ev.vals _ (List.mem_of_getElem? HPx.out)))
    unfold evv evc at HT
    by_cases hveq : v = eventP 2 x.e s1.now
    ·rw [decide_eq_true hveq] at HT
     have hcons := evict_cons (o := o) (l := (xs.drop (m + 1)).map Prod.fst) HF.out hveq
     rw [← HSt2.out] at hcons
     have HCs := zH hcons
     clear hveq hcons
     go_wp2_with fail
     refine HT.out.mono ?_
     rintro e w7 ⟨rfl, hb7⟩
     have H7 := zH (H6.out.adv hb7)
     clear hb7 H6 HEb6 HT e0 e1 e2 e3 e4 e5
     go_upto_region 8 with fail
     refine wp_region_noPanic ?_
     refine wp_region_held_drew (S := fun W => EvJ w W B Bv g gm gp us s1 its1 P o (.slice A o.val.length c) (.slice (some ⟨q, off, none⟩) nx lc0) xs) (by kernel_rfl) (H7.out.adv (zL _ _).drew) (fun hHeld => ?_)
     have H8 := zH (H7.out.adv (zL w7.heap.size w7).drew)
     clear H7
     generalize w7.drew = W8 at H8 hHeld ⊢
     refine tk 0 (v := ?_) ?_ ?_
     rotate_left 1
     ·intro W hSw
      skip
      clear hSw
      go_simp
      try with_reducible rfl
     try dsimp only [zS, zB, zC]
     refine wpAnyH_ready (rs := [1]) (by kernel_rfl) (by simp) ?_
     refine AllReadyH.cons (o := ⟨_, _, _, _, _, _⟩) rfl (fun F hF => ?_) AllReadyH.nil
     go_simp
     refine (within_any B g gm gp us s1 its1 P W8 H8.out.rep).mono ?_
     rintro e w9 ⟨rfl, hb9⟩
     have H9 := zH (H8.out.adv hb9)
     clear hb9 H8 hHeld
     by_cases hw : withinP s1
     ·have HS : Hid (evictP o (xs.map Prod.fst) s = .error 4) := zH (by rw [HCs.out, if_pos (.inl hw)])
      rw [decide_eq_true hw]
      clear hw
      go_wp2_with fail
      refine hF.out _ _ H9.out (fun hHeld => ?_)
      clear hF F
      try simp only [Act.put, zA, zB, zC]
      refine tk 2 (v := ?_) ?_ ?_
      rotate_left 1
      ·intro W hSw
       skip
       clear hSw
       go_simp
       try with_reducible rfl
      try dsimp only [zS, zB, zC]
      refine Pl.go [3, 4, 5, 6, 7, 8, 9, 10, 11, 12, 13] ?_
      iterate 11
       refine skl ?_
       try dsimp only [zS, zB, zC]
      refine Pl.stop ?_
      refine tk 14 (v := ?_) ?_ ?_
      rotate_left 1
      ·intro W hSw
       skip
       clear hSw
       go_simp
       try with_reducible rfl
      try dsimp only [zS, zB, zC]
      refine wpAnyH_done (by kernel_rfl) ?_ _
      refine NoPanic.normal ?_
      clear hHeld
      go_wp2_with fail
      go_ret
      exact EvRetJ.err HS.out (H9).out.only
     ·have HC2 : Hid (evictP o (xs.map Prod.fst) s = if (o.kind = 1 ∨ o.kind = 2) ∧ x.e.key = o.key then .error 4 else if s1.cfg.prot = 0 ∧ s1.U.head? ≠ some x.e.birth then .error 4 else evictP o ((xs.drop (m + 1)).map Prod.fst) (goneP s1 x.e.birth)) := zH (by
       rw [HCs.out]
       by_cases hk : (o.kind = 1 ∨ o.kind = 2) ∧ x.e.key = o.key
       ·rw [if_pos (.inr hk), if_pos hk]
       ·rw [if_neg (fun e => by rcases e with e | e; exact hw e; exact hk e), if_neg hk])
      rw [decide_eq_false hw]
      clear hw HCs
      go_wp2_with fail
      refine hF.out _ _ H9.out (fun hHeld => ?_)
      clear hF F
      try simp only [Act.put, zA, zB, zC]
      generalize w9 = W9 at H9 hHeld ⊢
      refine tk 2 (v := ?_) ?_ ?_
      rotate_left 1
      ·intro W hSw
       skip
       clear hSw
       go_simp
       try with_reducible rfl
      try dsimp only [zS, zB, zC]
      refine tk 3 (v := ?_) ?_ ?_
      rotate_left 1
      ·intro W hSw
       skip
       clear hSw
       go_simp
       try with_reducible rfl
      try dsimp only [zS, zB, zC]
      refine tk 4 (v := ?_) ?_ ?_
      rotate_left 1
      ·intro W hSw
       skip
       clear hSw
       go_simp
       try with_reducible rfl
      try dsimp only [zS, zB, zC]
      by_cases hk : x.e.key = o.key
      ·have HS : Hid (evictP o (xs.map Prod.fst) s = .error 4) := zH (by rw [HC2.out, if_pos ⟨HKd.out, hk⟩])
       have hkb : (x.e.key.toList == o.key.toList) = true := by rw [key_eq]; simp [hk]
       clear hk
       refine Pl.go [5, 6, 7, 8, 9, 10, 11, 12, 13, 14] ?_
       iterate 10
        refine tkl (v := ?_) ?_ ?_
        rotate_left 1
        ·intro W hSw
         obtain ⟨x0, -, -, -, -, -⟩ := (hSw.rep.ib x HXm.out).cells; obtain ⟨-, -, z2, -⟩ := op9 hSw.box; skip
         clear hSw
         go_simp
         try with_reducible rfl
        try dsimp only [zS, zB, zC]
       refine Pl.stop ?_
       refine wpAnyH_done (by kernel_rfl) ?_ _
       refine NoPanic.normal ?_
       clear hHeld
       go_wp2_with fail
       go_ret
       exact EvRetJ.err HS.out (H9).out.only
      ·have HC3 : Hid (evictP o (xs.map Prod.fst) s = if s1.cfg.prot = 0 ∧ s1.U.head? ≠ some x.e.birth then .error 4 else evictP o ((xs.drop (m + 1)).map Prod.fst) (goneP s1 x.e.birth)) := zH (by rw [HC2.out, if_neg (fun e => hk e.2)])
       have hkb : (x.e.key.toList == o.key.toList) = false := by rw [key_eq]; exact decide_eq_false hk
       clear hk
       refine Pl.go [5, 6, 7, 8, 9, 10, 11, 12, 13, 14] ?_
       iterate 10
        refine tkl (v := ?_) ?_ ?_
        rotate_left 1
        ·intro W hSw
         obtain ⟨x0, -, -, -, -, -⟩ := (hSw.rep.ib x HXm.out).cells; obtain ⟨-, -, z2, -⟩ := op9 hSw.box; skip
         clear hSw
         go_simp
         try with_reducible rfl
        try dsimp only [zS, zB, zC]
       refine Pl.stop ?_
       refine wpAnyH_done (by kernel_rfl) ?_ _
       refine NoPanic.normal ?_
       clear hHeld
       go_upto_region 10 with fail
       obtain ⟨-, -, d2, -, -, -, -, -, -, -, -⟩ := H9.out.rep.cells
       by_cases hp : s1.cfg.prot = 0
       ·have hpb : (s1.cfg.prot == 0) = true := by simp [hp]
        by_cases hh : s1.U.head? = some x.e.birth
        ·have HS : Hid (evictP o (xs.map Prod.fst) s = evictP o ((xs.drop (m + 1)).map Prod.fst) (goneP s1 x.e.birth)) := zH (by rw [HC3.out, if_neg (fun e => e.2 hh)])
         have HMin := zH (H9.out.rep.head_min HPi.out HXm.out hh)
         clear hp hh
         go_upto_region 11 with fail
         obtain ⟨-, -, -, -, -, -, -, -, d8, -, -⟩ := H9.out.rep.cells
         go_wp2_with (first | (at_range; refine wpList_mrange (K := KI) _ rfl _ rfl rfl H9.out.rep.items ?_; intro w0 ob hw0 hob hrg0; have hb10 : Below W9.heap.size W9 w0 := hw0 ▸ (zL _ _).alloc (zN _) _; clear hw0 hob) | fail)
         have HB10 := zH hb10
         have HRg0 := zH hrg0
         clear hrg0 hb10 d8
         try go_frame
         go_loopw [12] (fun _ wr => ∃ todo : List (ByteArray × Nat), MRange KI wr gm W9.heap.size (its1.map fun x => (x.e.key, x.b)) todo ∧ (∀ z ∈ todo, z ∈ its1.map fun x => (x.e.key, x.b)) ∧ Below W9.heap.size W9 wr ∧ True) (fun _ wr => wr.rangeLeft gm W9.heap.size)
         case atStart => exact ⟨_, HRg0.out, fun z hz => hz, HB10.out, trivial⟩
         case round =>
          clear HRg0 HB10
          obtain ⟨todo, hrg, hsub, hbw, hless⟩ := hrel
          have HRg := zH hrg
          have HSub := zH hsub
          have HBw := zH hbw
          have HLess := zH hless
          clear hrg hsub hbw hless
          go_wp2_with (first | (at_next; refine wpList_mnext (K := KI) _ rfl _ rfl rfl HRg.out ?_ ?_) | fail)
          ·intro ht
           clear ht
           have H10 := zH (H9.out.adv HBw.out)
           clear HRg HSub HBw HLess
           obtain ⟨t1, t2, t3, t4⟩ := (LOk.of HPi.out (Nat.le_trans HN.out (by omega))).costs ((H10).out.rep.perm.mem_iff.1 (List.mem_map_of_mem HXm.out))
           have HTk := zH (take_any B g gm gp us s1 its1 P x _ (H10).out.rep HXm.out HPi.out.asc t1 t2 t3 t4)
           clear t1 t2 t3 t4
           go_wp2_with fail
           refine HTk.out.mono ?_
           rintro e w12 ⟨rfl, hj12, ho12⟩
           have H12 := zH ((H10).out.next hj12 ho12 HBv.out)
           clear hj12 ho12 HTk
           go_wp2_with fail
           go_roundw
           case rel => exact ⟨m + 1, _, _, by omega, by go_num, HS.out, HPi.out.gone _, HNw.out, H12.out⟩
           case measure => simp [intOf]; omega
          ·intro i xk xb w2 hi hrg2 hb2 ho2 hs2 ob2 hob1 hob2 hen
           obtain ⟨y, hy, hye⟩ := List.mem_map.1 (HSub.out _ (List.mem_of_getElem? hi))
           injection hye with hye1 hye2
           subst hye2
           clear hye1
           have HRg2 := zH hrg2
           have HI2 := zH hi
           have HBw2 := zH (HBw.out.trans hb2)
           have HYm := zH hy
           have H2 := zH (H9.out.adv HBw2.out)
           have yu := (H2.out.rep.ib y hy).cells.2.2.2.2.1
           have xu := (H2.out.rep.ib x HXm.out).cells.2.2.2.2.1
           clear hi hrg2 hb2 ho2 hs2 hob1 hob2 hy
           go_upto_region 14 with fail
           clear hen
           have hd : decide (y.u < x.u) = false := decide_eq_false (by have := HMin.out y HYm.out; omega)
           go_quiet (fail)
           have HBq : Hid (Below w2.heap.size w2 (w2.drewN nq)) := zH ⟨rfl, rfl, rfl, zN _, fun _ _ => rfl⟩
           clear yu xu
           generalize w2.drewN nq = w3 at HBq ⊢
           go_wp2_with fail
           go_roundw
           case rel => exact ⟨_, HRg2.out.below HBq.out, fun z hz => HSub.out z (List.mem_of_mem_eraseIdx hz), HBw2.out.trans (HBq.out.mono HBw2.out.size), trivial⟩
           case measure =>
            have := len_next HI2.out
            rw [(HRg2.out.below HBq.out).left_eq, HRg.out.left_eq]; omega
        ·have HS : Hid (evictP o (xs.map Prod.fst) s = .error 4) := zH (by rw [HC3.out, if_pos ⟨hp, hh⟩])
         have HLs := zH (H9.out.rep.head_less HPi.out HXm.out hh)
         clear hp hh
         go_upto_region 11 with fail
         obtain ⟨-, -, -, -, -, -, -, -, d8, -, -⟩ := H9.out.rep.cells
         go_wp2_with (first | (at_range; refine wpList_mrange (K := KI) _ rfl _ rfl rfl H9.out.rep.items ?_; intro w0 ob hw0 hob hrg0; have hb10 : Below W9.heap.size W9 w0 := hw0 ▸ (zL _ _).alloc (zN _) _; clear hw0 hob) | fail)
         have HB10 := zH hb10
         have HRg0 := zH hrg0
         clear hrg0 hb10 d8
         try go_frame
         go_loopw [12] (fun _ wr => ∃ todo : List (ByteArray × Nat), MRange KI wr gm W9.heap.size (its1.map fun x => (x.e.key, x.b)) todo ∧ (∀ z ∈ todo, z ∈ its1.map fun x => (x.e.key, x.b)) ∧ Below W9.heap.size W9 wr ∧ ∃ y ∈ its1, (y.e.key, y.b) ∈ todo ∧ y.u < x.u) (fun _ wr => wr.rangeLeft gm W9.heap.size)
         case atStart =>
          obtain ⟨y, hy, hyu⟩ := HLs.out
          exact ⟨_, HRg0.out, fun z hz => hz, HB10.out, y, hy, List.mem_map.2 ⟨y, hy, rfl⟩, hyu⟩
         case round =>
          clear HRg0 HB10
          obtain ⟨todo, hrg, hsub, hbw, hless⟩ := hrel
          have HRg := zH hrg
          have HSub := zH hsub
          have HBw := zH hbw
          have HLess := zH hless
          clear hrg hsub hbw hless
          go_wp2_with (first | (at_next; refine wpList_mnext (K := KI) _ rfl _ rfl rfl HRg.out ?_ ?_) | fail)
          ·intro ht
           obtain ⟨y, _, hyt, _⟩ := HLess.out
           rw [ht] at hyt
           cases hyt
          ·intro i xk xb w2 hi hrg2 hb2 ho2 hs2 ob2 hob1 hob2 hen
           obtain ⟨y, hy, hye⟩ := List.mem_map.1 (HSub.out _ (List.mem_of_getElem? hi))
           injection hye with hye1 hye2
           subst hye2
           clear hye1
           have HRg2 := zH hrg2
           have HI2 := zH hi
           have HBw2 := zH (HBw.out.trans hb2)
           have HYm := zH hy
           have H2 := zH (H9.out.adv HBw2.out)
           have yu := (H2.out.rep.ib y hy).cells.2.2.2.2.1
           have xu := (H2.out.rep.ib x HXm.out).cells.2.2.2.2.1
           clear hi hrg2 hb2 ho2 hs2 hob1 hob2 hy
           go_upto_region 14 with fail
           clear hen
           by_cases hyu : y.u < x.u
           ·have hd : decide (y.u < x.u) = true := decide_eq_true hyu
            clear hyu
            go_quiet (fail)
            have HBq : Hid (Below w2.heap.size w2 (w2.drewN nq)) := zH ⟨rfl, rfl, rfl, zN _, fun _ _ => rfl⟩
            have H3 := zH (H2.out.adv HBq.out)
            clear yu xu
            generalize w2.drewN nq = w3 at H3 ⊢
            go_wp2_with fail
            go_ret
            exact EvRetJ.err HS.out (H3).out.only
           ·have hd : decide (y.u < x.u) = false := decide_eq_false hyu
            have HYu := zH hyu
            clear hyu
            go_quiet (fail)
            have HBq : Hid (Below w2.heap.size w2 (w2.drewN nq)) := zH ⟨rfl, rfl, rfl, zN _, fun _ _ => rfl⟩
            clear yu xu
            generalize w2.drewN nq = w3 at HBq ⊢
            go_wp2_with fail
            go_roundw
            case rel =>
             refine ⟨_, HRg2.out.below HBq.out, fun z hz => HSub.out z (List.mem_of_mem_eraseIdx hz), HBw2.out.trans (HBq.out.mono HBw2.out.size), ?_⟩
             obtain ⟨y', hy', hyt, hyu'⟩ := HLess.out
             refine ⟨y', hy', ?_, hyu'⟩
             rcases List.mem_cons.1 ((perm_eraseIdx _ _ _ HI2.out).mem_iff.2 hyt) with e | e
             ·injection e with _ e
              have := H2.out.rep.b_inj hy' HYm.out e
              rw [this] at hyu'
              exact absurd hyu' HYu.out
             ·exact e
            case measure =>
             have := len_next HI2.out
             rw [(HRg2.out.below HBq.out).left_eq, HRg.out.left_eq]; omega
       ·have HS : Hid (evictP o (xs.map Prod.fst) s = evictP o ((xs.drop (m + 1)).map Prod.fst) (goneP s1 x.e.birth)) := zH (by rw [HC3.out, if_neg (fun e => hp e.1)])
        have hpb : (s1.cfg.prot == 0) = false := by simp [hp]
        clear hp
        obtain ⟨t1, t2, t3, t4⟩ := (LOk.of HPi.out (Nat.le_trans HN.out (by omega))).costs ((H9).out.rep.perm.mem_iff.1 (List.mem_map_of_mem HXm.out))
        have HTk := zH (take_any B g gm gp us s1 its1 P x _ (H9).out.rep HXm.out HPi.out.asc t1 t2 t3 t4)
        clear t1 t2 t3 t4
        go_wp2_with fail
        refine HTk.out.mono ?_
        rintro e w12 ⟨rfl, hj12, ho12⟩
        have H12 := zH ((H9).out.next hj12 ho12 HBv.out)
        clear hj12 ho12 HTk
        go_wp2_with fail
        go_roundw
        case rel => exact ⟨m + 1, _, _, by omega, by go_num, HS.out, HPi.out.gone _, HNw.out, H12.out⟩
        case measure => simp [intOf]; omega
    ·rw [decide_eq_false hveq] at HT
     have HS : Hid (evictP o (xs.map Prod.fst) s = .error 2) := zH (by
      rw [HSt2.out, evictP, HF.out]
      dsimp only
      rw [if_pos hveq])
     clear hveq
     go_wp2_with fail
     refine HT.out.mono ?_
     rintro e w7 ⟨rfl, hb7⟩
     have H7 := zH (H6.out.adv hb7)
     clear hb7
     go_wp2_with fail
     go_ret
     exact EvRetJ.err HS.out (H7).out.only
  ·obtain rfl : m = nx := by omega
   have HS : Hid (evictP o (xs.map Prod.fst) s = .ok s1) := zH (by rw [HSt.out, List.drop_eq_nil_of_le (by rw [HNx.out]; exact zN _)]; rfl)
   go_wp2_with fail
   go_ret
   exact EvRetJ.ok HS.out HJ.out.rep HJ.out.only
set_option maxRecDepth 100000 in
set_option maxHeartbeats 16000000 in
theorem evict_k2 (N B Bv g gm gp : Nat) (us : Int) (s : PJ) (its : List It) (P : List (Int × Int)) (o : OpV) (V : Value) (lv : Value) (xs : List (EvV × Value)) (w : World) (h : JRep w B g gm gp us s its P) (hv : Bts w Bv 5 V o.val) (hi : PInv N s) (hn : N ≤ 90000) (hl : EvsAt w Bv lv xs) (hBv : Bv ≤ B) (hks : ∀ p ∈ xs, p.1.key.size ≤ maxLen)
  (hkd : o.kind = 2) :
  Calls Try.prog 47 #[.pointer (some ⟨g, 0, none⟩), opv o V, lv] w (EvRetJ B g gm gp us (evictP o (xs.map Prod.fst) s) w) := by
 have HKd : Hid (o.kind = 1 ∨ o.kind = 2) := zH (.inr hkd)
 have q1 : (o.kind == 1) = false := by simp [hkd]
 have q2 : (o.kind == 2) = true := by simp [hkd]
 clear hkd
 obtain ⟨A, c, rfl⟩ := hv.form
 have hb0 : Below w.heap.size w (w.alloc (.cells (opc o (.slice A o.val.length c)) 29)) := (zL _ _).alloc (zN _) _
 have HI0 : Hid (EvJ w (w.alloc (.cells (opc o (.slice A o.val.length c)) 29)) B Bv g gm gp us s its P o (.slice A o.val.length c) lv xs) := zH ⟨h.below hb0, Blk.new _ _ _, hl.below hb0, KJ.of_below hb0⟩
 obtain ⟨LA, lc0, rfl, hlc0, hlm⟩ := hl.cap
 have HBv := zH hBv
 have HP0 := zH hi
 have HN := zH hn
 have HKs := zH hks
 unfold maxLen at hlm
 have hxI : (xs.length : Int) ≤ 9223372036854775807 := by omega
 have hxc : (xs.length : Int) ≤ (lc0 : Int) := by omega
 obtain ⟨nx, hnx⟩ : ∃ nx, xs.length = nx := ⟨_, rfl⟩
 have HNx := zH hnx
 rw [hnx] at hxI hxc HI0 ⊢
 unfold opv
 unfold opc at HI0 ⊢
 clear h hi hb0 hl hBv hn hlm hlc0 hv hks hnx
 go_enter Try.func47, Try.ntmps47
 go_upto_region 1 with fail
 generalize World.alloc _ _ = W0 at HI0 ⊢
 obtain ⟨z0, z1, z2, z3, z4, z5, z6, z7, z8⟩ := op9 HI0.out.box
 go_wp2_with fail
 go_loopw [23] (fun i wr => ∃ (m : Nat) (s1 : PJ) (its1 : List It), m ≤ nx ∧ i = .int .i64 m ∧ evictP o (xs.map Prod.fst) s = evictP o ((xs.drop m).map Prod.fst) s1 ∧ PInv N s1 ∧ s1.now = s.now ∧ EvJ w wr B Bv g gm gp us s1 its1 P o (.slice A o.val.length c) (.slice LA nx lc0) xs) (fun i _ => nx - (intOf i).toNat)
 case atStart => exact ⟨0, s, its, Nat.zero_le _, rfl, rfl, HP0.out, rfl, HI0.out⟩
 case round =>
  clear z0 z1 z2 z3 z4 z5 z6 z7 z8
  obtain ⟨m, s1, its1, hm, rfl, hst, hpi, hnow, hj⟩ := hrel
  have HPi := zH hpi
  have HNw := zH hnow
  have HJ := zH hj
  have HSt := zH hst
  clear hpi hnow hj hst HI0 HP0
  by_cases hlt : m < nx
  ·have hltz : (m : Int) < (nx : Int) := by omega
   obtain ⟨⟨v, V⟩, hp⟩ : ∃ p, xs[m]? = some p := ⟨_, List.getElem?_eq_getElem (by rw [HNx.out]; exact hlt)⟩
   obtain ⟨q, off, rfl, -, y0, y1, y2, y3, y4, y5⟩ := HJ.out.ev.at_ hp
   obtain ⟨VA, vc, hV⟩ := (HJ.out.ev.vals _ (List.mem_of_getElem? hp)).form
   dsimp only at y0 y1 y2 y3 y4 y5 hV
   subst hV
   have HPx := zH hp
   have HVk : Hid (v.key.size ≤ maxLen) := zH (HKs.out _ (List.mem_of_getElem? hp))
   have hdr : xs.drop m = (v, .slice VA v.val.length vc) :: xs.drop (m + 1) := by
    have hx2 := (List.getElem?_eq_some_iff.1 hp).2
    rw [← hx2, List.getElem_cons_drop]
   have HSt2 : Hid (evictP o (xs.map Prod.fst) s = evictP o (v :: (xs.drop (m + 1)).map Prod.fst) s1) := zH (by rw [HSt.out, hdr]; rfl)
   clear hp hdr HSt
   go_upto_region 5 with fail
   have hb5 : Below wr.heap.size wr (wr.alloc (.cells #[.int .i64 v.kind, .string v.key, .slice VA v.val.length vc, .int .u64 v.birth, .int .u64 v.dl, .int .u64 v.at_] 50)) := (zL _ _).alloc (zN _) _
   have H5 := zH (HJ.out.adv hb5)
   have HEb : Hid (Blk (wr.alloc (.cells #[.int .i64 v.kind, .string v.key, .slice VA v.val.length vc, .int .u64 v.birth, .int .u64 v.dl, .int .u64 v.at_] 50)) wr.heap.size 50 (evc v (.slice VA v.val.length vc))) := zH (Blk.new _ _ _)
   clear hb5 y0 y1 y2 y3 y4 y5 HJ
   generalize wr.heap.size = gE at HEb ⊢
   generalize World.alloc _ _ = W5 at H5 HEb ⊢
   refine wp_region_noPanic ?_
   refine wp_region_held_drew (S := fun W => EvJ w W B Bv g gm gp us s1 its1 P o (.slice A o.val.length c) (.slice (some ⟨q, off, none⟩) nx lc0) xs ∧ Blk W gE 50 (evc v (.slice VA v.val.length vc))) (by kernel_rfl) ⟨H5.out.adv (zL _ _).drew, HEb.out.drew⟩ (fun hHeld => ?_)
   have H6 := zH (H5.out.adv (zL W5.heap.size W5).drew)
   have HEb6 := zH HEb.out.drew
   clear H5 HEb
   generalize W5.drew = W6 at H6 HEb6 hHeld ⊢
   rcases H6.out.rep.find HPi.out.keys v.key with ⟨hf, hmg⟩ | ⟨x, hx, hf, -, hmg⟩
   ·have HMg := zH hmg
    have HS : Hid (evictP o (xs.map Prod.fst) s = .error 2) := zH (by rw [HSt2.out, evictP, hf])
    clear hf hmg
    refine Pl.go [0, 1, 2, 3, 4, 5, 6, 7] ?_
    iterate 8
     refine tkl (v := ?_) ?_ ?_
     rotate_left 1
     ·intro W hSw
      obtain ⟨-, -, -, -, -, -, -, -, d8, -, -⟩ := hSw.1.rep.cells; obtain ⟨e0, e1, e2, e3, e4, e5⟩ := ev6 hSw.2; have hlk := hSw.1.rep.lookI_none HVk.out HMg.out
      clear hSw
      go_simp
      try with_reducible rfl
     try dsimp only [zS, zB, zC]
    refine Pl.stop ?_
    refine wpAnyH_done (by kernel_rfl) ?_ _
    refine NoPanic.normal ?_
    clear hHeld
    go_wp2_with fail
    go_ret
    exact EvRetJ.err HS.out (H6).out.only
   ·have HMg := zH hmg
    have HF := zH hf
    have HXm := zH hx
    clear hf hmg hx
    refine Pl.go [0, 1, 2, 3, 4, 5, 6, 7] ?_
    iterate 8
     refine tkl (v := ?_) ?_ ?_
     rotate_left 1
     ·intro W hSw
      obtain ⟨-, -, -, -, -, -, -, -, d8, -, -⟩ := hSw.1.rep.cells; obtain ⟨e0, e1, e2, e3, e4, e5⟩ := ev6 hSw.2; have hlk := hSw.1.rep.lookI_some HVk.out HMg.out
      clear hSw
      go_simp
      try with_reducible rfl
     try dsimp only [zS, zB, zC]
    refine Pl.stop ?_
    refine wpAnyH_done (by kernel_rfl) ?_ _
    refine NoPanic.normal ?_
    clear hHeld
    obtain ⟨e0, e1, e2, e3, e4, e5⟩ := ev6 HEb6.out
    have HT := zH (told_any B Bv g gm gp us s1 its1 P x v (.slice VA v.val.length vc) 2 W6 H6.out.rep HXm.out (H6.out.ev.vals _ (List.mem_of_getElem? HPx.out)))
    unfold evv evc at HT
    by_cases hveq : v = eventP 2 x.e s1.now
    ·rw [decide_eq_true hveq] at HT
     have hcons := evict_cons (o := o) (l := (xs.drop (m + 1)).map Prod.fst) HF.out hveq
     rw [← HSt2.out] at hcons
     have HCs := zH hcons
     clear hveq hcons
     go_wp2_with fail
     refine HT.out.mono ?_
     rintro e w7 ⟨rfl, hb7⟩
     have H7 := zH (H6.out.adv hb7)
     clear hb7 H6 HEb6 HT e0 e1 e2 e3 e4 e5
     go_upto_region 8 with fail
     refine wp_region_noPanic ?_
     refine wp_region_held_drew (S := fun W => EvJ w W B Bv g gm gp us s1 its1 P o (.slice A o.val.length c) (.slice (some ⟨q, off, none⟩) nx lc0) xs) (by kernel_rfl) (H7.out.adv (zL _ _).drew) (fun hHeld => ?_)
     have H8 := zH (H7.out.adv (zL w7.heap.size w7).drew)
     clear H7
     generalize w7.drew = W8 at H8 hHeld ⊢
     refine tk 0 (v := ?_) ?_ ?_
     rotate_left 1
     ·intro W hSw
      skip
      clear hSw
      go_simp
      try with_reducible rfl
     try dsimp only [zS, zB, zC]
     refine wpAnyH_ready (rs := [1]) (by kernel_rfl) (by simp) ?_
     refine AllReadyH.cons (o := ⟨_, _, _, _, _, _⟩) rfl (fun F hF => ?_) AllReadyH.nil
     go_simp
     refine (within_any B g gm gp us s1 its1 P W8 H8.out.rep).mono ?_
     rintro e w9 ⟨rfl, hb9⟩
     have H9 := zH (H8.out.adv hb9)
     clear hb9 H8 hHeld
     by_cases hw : withinP s1
     ·have HS : Hid (evictP o (xs.map Prod.fst) s = .error 4) := zH (by rw [HCs.out, if_pos (.inl hw)])
      rw [decide_eq_true hw]
      clear hw
      go_wp2_with fail
      refine hF.out _ _ H9.out (fun hHeld => ?_)
      clear hF F
      try simp only [Act.put, zA, zB, zC]
      refine tk 2 (v := ?_) ?_ ?_
      rotate_left 1
      ·intro W hSw
       skip
       clear hSw
       go_simp
       try with_reducible rfl
      try dsimp only [zS, zB, zC]
      refine Pl.go [3, 4, 5, 6, 7, 8, 9, 10, 11, 12, 13] ?_
      iterate 11
       refine skl ?_
       try dsimp only [zS, zB, zC]
      refine Pl.stop ?_
      refine tk 14 (v := ?_) ?_ ?_
      rotate_left 1
      ·intro W hSw
       skip
       clear hSw
       go_simp
       try with_reducible rfl
      try dsimp only [zS, zB, zC]
      refine wpAnyH_done (by kernel_rfl) ?_ _
      refine NoPanic.normal ?_
      clear hHeld
      go_wp2_with fail
      go_ret
      exact EvRetJ.err HS.out (H9).out.only
     ·have HC2 : Hid (evictP o (xs.map Prod.fst) s = if (o.kind = 1 ∨ o.kind = 2) ∧ x.e.key = o.key then .error 4 else if s1.cfg.prot = 0 ∧ s1.U.head? ≠ some x.e.birth then .error 4 else evictP o ((xs.drop (m + 1)).map Prod.fst) (goneP s1 x.e.birth)) := zH (by
       rw [HCs.out]
       by_cases hk : (o.kind = 1 ∨ o.kind = 2) ∧ x.e.key = o.key
       ·rw [if_pos (.inr hk), if_pos hk]
       ·rw [if_neg (fun e => by rcases e with e | e; exact hw e; exact hk e), if_neg hk])
      rw [decide_eq_false hw]
      clear hw HCs
      go_wp2_with fail
      refine hF.out _ _ H9.out (fun hHeld => ?_)
      clear hF F
      try simp only [Act.put, zA, zB, zC]
      generalize w9 = W9 at H9 hHeld ⊢
      refine tk 2 (v := ?_) ?_ ?_
      rotate_left 1
      ·intro W hSw
       skip
       clear hSw
       go_simp
       try with_reducible rfl
      try dsimp only [zS, zB, zC]
      refine tk 3 (v := ?_) ?_ ?_
      rotate_left 1
      ·intro W hSw
       skip
       clear hSw
       go_simp
       try with_reducible rfl
      try dsimp only [zS, zB, zC]
      refine tk 4 (v := ?_) ?_ ?_
      rotate_left 1
      ·intro W hSw
       skip
       clear hSw
       go_simp
       try with_reducible rfl
      try dsimp only [zS, zB, zC]
      by_cases hk : x.e.key = o.key
      ·have HS : Hid (evictP o (xs.map Prod.fst) s = .error 4) := zH (by rw [HC2.out, if_pos ⟨HKd.out, hk⟩])
       have hkb : (x.e.key.toList == o.key.toList) = true := by rw [key_eq]; simp [hk]
       clear hk
       refine Pl.go [5, 6, 7, 8, 9, 10, 11, 12, 13, 14] ?_
       iterate 10
        refine tkl (v := ?_) ?_ ?_
        rotate_left 1
        ·intro W hSw
         obtain ⟨x0, -, -, -, -, -⟩ := (hSw.rep.ib x HXm.out).cells; obtain ⟨-, -, z2, -⟩ := op9 hSw.box; skip
         clear hSw
         go_simp
         try with_reducible rfl
        try dsimp only [zS, zB, zC]
       refine Pl.stop ?_
       refine wpAnyH_done (by kernel_rfl) ?_ _
       refine NoPanic.normal ?_
       clear hHeld
       go_wp2_with fail
       go_ret
       exact EvRetJ.err HS.out (H9).out.only
      ·have HC3 : Hid (evictP o (xs.map Prod.fst) s = if s1.cfg.prot = 0 ∧ s1.U.head? ≠ some x.e.birth then .error 4 else evictP o ((xs.drop (m + 1)).map Prod.fst) (goneP s1 x.e.birth)) := zH (by rw [HC2.out, if_neg (fun e => hk e.2)])
       have hkb : (x.e.key.toList == o.key.toList) = false := by rw [key_eq]; exact decide_eq_false hk
       clear hk
       refine Pl.go [5, 6, 7, 8, 9, 10, 11, 12, 13, 14] ?_
       iterate 10
        refine tkl (v := ?_) ?_ ?_
        rotate_left 1
        ·intro W hSw
         obtain ⟨x0, -, -, -, -, -⟩ := (hSw.rep.ib x HXm.out).cells; obtain ⟨-, -, z2, -⟩ := op9 hSw.box; skip
         clear hSw
         go_simp
         try with_reducible rfl
        try dsimp only [zS, zB, zC]
       refine Pl.stop ?_
       refine wpAnyH_done (by kernel_rfl) ?_ _
       refine NoPanic.normal ?_
       clear hHeld
       go_upto_region 10 with fail
       obtain ⟨-, -, d2, -, -, -, -, -, -, -, -⟩ := H9.out.rep.cells
       by_cases hp : s1.cfg.prot = 0
       ·have hpb : (s1.cfg.prot == 0) = true := by simp [hp]
        by_cases hh : s1.U.head? = some x.e.birth
        ·have HS : Hid (evictP o (xs.map Prod.fst) s = evictP o ((xs.drop (m + 1)).map Prod.fst) (goneP s1 x.e.birth)) := zH (by rw [HC3.out, if_neg (fun e => e.2 hh)])
         have HMin := zH (H9.out.rep.head_min HPi.out HXm.out hh)
         clear hp hh
         go_upto_region 11 with fail
         obtain ⟨-, -, -, -, -, -, -, -, d8, -, -⟩ := H9.out.rep.cells
         go_wp2_with (first | (at_range; refine wpList_mrange (K := KI) _ rfl _ rfl rfl H9.out.rep.items ?_; intro w0 ob hw0 hob hrg0; have hb10 : Below W9.heap.size W9 w0 := hw0 ▸ (zL _ _).alloc (zN _) _; clear hw0 hob) | fail)
         have HB10 := zH hb10
         have HRg0 := zH hrg0
         clear hrg0 hb10 d8
         try go_frame
         go_loopw [12] (fun _ wr => ∃ todo : List (ByteArray × Nat), MRange KI wr gm W9.heap.size (its1.map fun x => (x.e.key, x.b)) todo ∧ (∀ z ∈ todo, z ∈ its1.map fun x => (x.e.key, x.b)) ∧ Below W9.heap.size W9 wr ∧ True) (fun _ wr => wr.rangeLeft gm W9.heap.size)
         case atStart => exact ⟨_, HRg0.out, fun z hz => hz, HB10.out, trivial⟩
         case round =>
          clear HRg0 HB10
          obtain ⟨todo, hrg, hsub, hbw, hless⟩ := hrel
          have HRg := zH hrg
          have HSub := zH hsub
          have HBw := zH hbw
          have HLess := zH hless
          clear hrg hsub hbw hless
          go_wp2_with (first | (at_next; refine wpList_mnext (K := KI) _ rfl _ rfl rfl HRg.out ?_ ?_) | fail)
          ·intro ht
           clear ht
           have H10 := zH (H9.out.adv HBw.out)
           clear HRg HSub HBw HLess
           obtain ⟨t1, t2, t3, t4⟩ := (LOk.of HPi.out (Nat.le_trans HN.out (by omega))).costs ((H10).out.rep.perm.mem_iff.1 (List.mem_map_of_mem HXm.out))
           have HTk := zH (take_any B g gm gp us s1 its1 P x _ (H10).out.rep HXm.out HPi.out.asc t1 t2 t3 t4)
           clear t1 t2 t3 t4
           go_wp2_with fail
           refine HTk.out.mono ?_
           rintro e w12 ⟨rfl, hj12, ho12⟩
           have H12 := zH ((H10).out.next hj12 ho12 HBv.out)
           clear hj12 ho12 HTk
           go_wp2_with fail
           go_roundw
           case rel => exact ⟨m + 1, _, _, by omega, by go_num, HS.out, HPi.out.gone _, HNw.out, H12.out⟩
           case measure => simp [intOf]; omega
          ·intro i xk xb w2 hi hrg2 hb2 ho2 hs2 ob2 hob1 hob2 hen
           obtain ⟨y, hy, hye⟩ := List.mem_map.1 (HSub.out _ (List.mem_of_getElem? hi))
           injection hye with hye1 hye2
           subst hye2
           clear hye1
           have HRg2 := zH hrg2
           have HI2 := zH hi
           have HBw2 := zH (HBw.out.trans hb2)
           have HYm := zH hy
           have H2 := zH (H9.out.adv HBw2.out)
           have yu := (H2.out.rep.ib y hy).cells.2.2.2.2.1
           have xu := (H2.out.rep.ib x HXm.out).cells.2.2.2.2.1
           clear hi hrg2 hb2 ho2 hs2 hob1 hob2 hy
           go_upto_region 14 with fail
           clear hen
           have hd : decide (y.u < x.u) = false := decide_eq_false (by have := HMin.out y HYm.out; omega)
           go_quiet (fail)
           have HBq : Hid (Below w2.heap.size w2 (w2.drewN nq)) := zH ⟨rfl, rfl, rfl, zN _, fun _ _ => rfl⟩
           clear yu xu
           generalize w2.drewN nq = w3 at HBq ⊢
           go_wp2_with fail
           go_roundw
           case rel => exact ⟨_, HRg2.out.below HBq.out, fun z hz => HSub.out z (List.mem_of_mem_eraseIdx hz), HBw2.out.trans (HBq.out.mono HBw2.out.size), trivial⟩
           case measure =>
            have := len_next HI2.out
            rw [(HRg2.out.below HBq.out).left_eq, HRg.out.left_eq]; omega
        ·have HS : Hid (evictP o (xs.map Prod.fst) s = .error 4) := zH (by rw [HC3.out, if_pos ⟨hp, hh⟩])
         have HLs := zH (H9.out.rep.head_less HPi.out HXm.out hh)
         clear hp hh
         go_upto_region 11 with fail
         obtain ⟨-, -, -, -, -, -, -, -, d8, -, -⟩ := H9.out.rep.cells
         go_wp2_with (first | (at_range; refine wpList_mrange (K := KI) _ rfl _ rfl rfl H9.out.rep.items ?_; intro w0 ob hw0 hob hrg0; have hb10 : Below W9.heap.size W9 w0 := hw0 ▸ (zL _ _).alloc (zN _) _; clear hw0 hob) | fail)
         have HB10 := zH hb10
         have HRg0 := zH hrg0
         clear hrg0 hb10 d8
         try go_frame
         go_loopw [12] (fun _ wr => ∃ todo : List (ByteArray × Nat), MRange KI wr gm W9.heap.size (its1.map fun x => (x.e.key, x.b)) todo ∧ (∀ z ∈ todo, z ∈ its1.map fun x => (x.e.key, x.b)) ∧ Below W9.heap.size W9 wr ∧ ∃ y ∈ its1, (y.e.key, y.b) ∈ todo ∧ y.u < x.u) (fun _ wr => wr.rangeLeft gm W9.heap.size)
         case atStart =>
          obtain ⟨y, hy, hyu⟩ := HLs.out
          exact ⟨_, HRg0.out, fun z hz => hz, HB10.out, y, hy, List.mem_map.2 ⟨y, hy, rfl⟩, hyu⟩
         case round =>
          clear HRg0 HB10
          obtain ⟨todo, hrg, hsub, hbw, hless⟩ := hrel
          have HRg := zH hrg
          have HSub := zH hsub
          have HBw := zH hbw
          have HLess := zH hless
          clear hrg hsub hbw hless
          go_wp2_with (first | (at_next; refine wpList_mnext (K := KI) _ rfl _ rfl rfl HRg.out ?_ ?_) | fail)
          ·intro ht
           obtain ⟨y, _, hyt, _⟩ := HLess.out
           rw [ht] at hyt
           cases hyt
          ·intro i xk xb w2 hi hrg2 hb2 ho2 hs2 ob2 hob1 hob2 hen
           obtain ⟨y, hy, hye⟩ := List.mem_map.1 (HSub.out _ (List.mem_of_getElem? hi))
           injection hye with hye1 hye2
           subst hye2
           clear hye1
           have HRg2 := zH hrg2
           have HI2 := zH hi
           have HBw2 := zH (HBw.out.trans hb2)
           have HYm := zH hy
           have H2 := zH (H9.out.adv HBw2.out)
           have yu := (H2.out.rep.ib y hy).cells.2.2.2.2.1
           have xu := (H2.out.rep.ib x HXm.out).cells.2.2.2.2.1
           clear hi hrg2 hb2 ho2 hs2 hob1 hob2 hy
           go_upto_region 14 with fail
           clear hen
           by_cases hyu : y.u < x.u
           ·have hd : decide (y.u < x.u) = true := decide_eq_true hyu
            clear hyu
            go_quiet (fail)
            have HBq : Hid (Below w2.heap.size w2 (w2.drewN nq)) := zH ⟨rfl, rfl, rfl, zN _, fun _ _ => rfl⟩
            have H3 := zH (H2.out.adv HBq.out)
            clear yu xu
            generalize w2.drewN nq = w3 at H3 ⊢
            go_wp2_with fail
            go_ret
            exact EvRetJ.err HS.out (H3).out.only
           ·have hd : decide (y.u < x.u) = false := decide_eq_false hyu
            have HYu := zH hyu
            clear hyu
            go_quiet (fail)
            have HBq : Hid (Below w2.heap.size w2 (w2.drewN nq)) := zH ⟨rfl, rfl, rfl, zN _, fun _ _ => rfl⟩
            clear yu xu
            generalize w2.drewN nq = w3 at HBq ⊢
            go_wp2_with fail
            go_roundw
            case rel =>
             refine ⟨_, HRg2.out.below HBq.out, fun z hz => HSub.out z (List.mem_of_mem_eraseIdx hz), HBw2.out.trans (HBq.out.mono HBw2.out.size), ?_⟩
             obtain ⟨y', hy', hyt, hyu'⟩ := HLess.out
             refine ⟨y', hy', ?_, hyu'⟩
             rcases List.mem_cons.1 ((perm_eraseIdx _ _ _ HI2.out).mem_iff.2 hyt) with e | e
             ·injection e with _ e
              have := H2.out.rep.b_inj hy' HYm.out e
              rw [this] at hyu'
              exact absurd hyu' HYu.out
             ·exact e
            case measure =>
             have := len_next HI2.out
             rw [(HRg2.out.below HBq.out).left_eq, HRg.out.left_eq]; omega
       ·have HS : Hid (evictP o (xs.map Prod.fst) s = evictP o ((xs.drop (m + 1)).map Prod.fst) (goneP s1 x.e.birth)) := zH (by rw [HC3.out, if_neg (fun e => hp e.1)])
        have hpb : (s1.cfg.prot == 0) = false := by simp [hp]
        clear hp
        obtain ⟨t1, t2, t3, t4⟩ := (LOk.of HPi.out (Nat.le_trans HN.out (by omega))).costs ((H9).out.rep.perm.mem_iff.1 (List.mem_map_of_mem HXm.out))
        have HTk := zH (take_any B g gm gp us s1 its1 P x _ (H9).out.rep HXm.out HPi.out.asc t1 t2 t3 t4)
        clear t1 t2 t3 t4
        go_wp2_with fail
        refine HTk.out.mono ?_
        rintro e w12 ⟨rfl, hj12, ho12⟩
        have H12 := zH ((H9).out.next hj12 ho12 HBv.out)
        clear hj12 ho12 HTk
        go_wp2_with fail
        go_roundw
        case rel => exact ⟨m + 1, _, _, by omega, by go_num, HS.out, HPi.out.gone _, HNw.out, H12.out⟩
        case measure => simp [intOf]; omega
    ·rw [decide_eq_false hveq] at HT
     have HS : Hid (evictP o (xs.map Prod.fst) s = .error 2) := zH (by
      rw [HSt2.out, evictP, HF.out]
      dsimp only
      rw [if_pos hveq])
     clear hveq
     go_wp2_with fail
     refine HT.out.mono ?_
     rintro e w7 ⟨rfl, hb7⟩
     have H7 := zH (H6.out.adv hb7)
     clear hb7
     go_wp2_with fail
     go_ret
     exact EvRetJ.err HS.out (H7).out.only
  ·obtain rfl : m = nx := by omega
   have HS : Hid (evictP o (xs.map Prod.fst) s = .ok s1) := zH (by rw [HSt.out, List.drop_eq_nil_of_le (by rw [HNx.out]; exact zN _)]; rfl)
   go_wp2_with fail
   go_ret
   exact EvRetJ.ok HS.out HJ.out.rep HJ.out.only
theorem evict_any (N B Bv g gm gp : Nat) (us : Int) (s : PJ) (its : List It) (P : List (Int × Int)) (o : OpV) (V : Value) (lv : Value) (xs : List (EvV × Value)) (w : World) (h : JRep w B g gm gp us s its P) (hv : Bts w Bv 5 V o.val) (hi : PInv N s) (hn : N ≤ 90000) (hl : EvsAt w Bv lv xs) (hBv : Bv ≤ B) (hks : ∀ p ∈ xs, p.1.key.size ≤ maxLen) :
  Calls Try.prog 47 #[.pointer (some ⟨g, 0, none⟩), opv o V, lv] w (EvRetJ B g gm gp us (evictP o (xs.map Prod.fst) s) w) := by
 by_cases k1 : o.kind = 1
 ·exact evict_k1 N B Bv g gm gp us s its P o V lv xs w h hv hi hn hl hBv hks k1
 ·by_cases k2 : o.kind = 2
  ·exact evict_k2 N B Bv g gm gp us s its P o V lv xs w h hv hi hn hl hBv hks k2
  ·exact evict_k0 N B Bv g gm gp us s its P o V lv xs w h hv hi hn hl hBv hks (by omega)
end Go.Proofs.Ytnabbimompapfaa
