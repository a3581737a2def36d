/- AudKG, AudKH, AudKI, AudKJ, AudKK -/
import Derived.Test.YtnabbimompapfaaGreatMl12
import Derived.Test.YtnabbimompapfaaGreatMl8
import Derived.Deep.CutBlock
namespace Go.Proofs.YtnabbimompapfaaGreat
open Go Go.RowKit Go.MapKept Go.Maps
set_option maxRecDepth 100000 in
set_option maxHeartbeats 16000000 in
theorem evict_k1 (N B Bv g gm gp : Nat) (us : Int) (s : PJ) (its : List It) (P : List (Int × Int)) (o : OpV) (V : Value) (lv : Value) (xs : List (EvV × Value)) (w : World) (h : JRep w B g gm gp us s its P) (hv : Bts w Bv 5 V o.val) (hi : PInv N s) (hn : N ≤ 90000) (hl : EvsAt w Bv lv xs) (hBv : Bv ≤ B) (hks : ∀ p ∈ xs, p.1.key.size ≤ maxLen)
  (hkd : o.kind = 1) :
  Calls Tryz.prog 74 #[.pointer (some ⟨g, 0, none⟩), opv o V, lv] w (EvRetJ B g gm gp us (evictP o (xs.map Prod.fst) s) w) := by
 have HKd : Hid (o.kind = 1 ∨ o.kind = 2) := zH (.inl hkd)
 have q1 : (o.kind == 1) = true := by simp [hkd]
 clear hkd
 obtain ⟨A, c, rfl⟩ := hv.form
 have hb0 : Below w.heap.size w (w.alloc (.cells (opc o (.slice A o.val.length c)) 43)) := (zL _ _).alloc (zN _) _
 have HI0 : Hid (EvJ w (w.alloc (.cells (opc o (.slice A o.val.length c)) 43)) B Bv g gm gp us s its P o (.slice A o.val.length c) lv xs) := zH ⟨h.below hb0, Blk.new _ _ _, hl.below hb0, KJ.of_below hb0⟩
 obtain ⟨LA, lc0, rfl, hlc0, hlm⟩ := hl.cap
 have HBv := zH hBv
 have HP0 := zH hi
 have HN := zH hn
 have HKs := zH hks
 unfold maxLen at hlm
 have hxI : (xs.length : Int) ≤ 9223372036854775807 := by omega
 have hxc : (xs.length : Int) ≤ (lc0 : Int) := by omega
 obtain ⟨nx, hnx⟩ : ∃ nx, xs.length = nx := ⟨_, rfl⟩
 have HNx := zH hnx
 rw [hnx] at hxI hxc HI0 ⊢
 unfold opv
 unfold opc at HI0 ⊢
 clear h hi hb0 hl hBv hn hlm hlc0 hv hks hnx
 go_enter Tryz.func74, Tryz.ntmps74
 go_upto_region 1 with fail
 generalize World.alloc _ _ = W0 at HI0 ⊢
 obtain ⟨z0, z1, z2, z3, z4, z5, z6, z7, z8⟩ := op9 HI0.out.box
 go_wp2_with fail
 go_loopw [23] (fun i wr => ∃ (m : Nat) (s1 : PJ) (its1 : List It), m ≤ nx ∧ i = .int .i64 m ∧ evictP o (xs.map Prod.fst) s = evictP o ((xs.drop m).map Prod.fst) s1 ∧ PInv N s1 ∧ s1.now = s.now ∧ EvJ w wr B Bv g gm gp us s1 its1 P o (.slice A o.val.length c) (.slice LA nx lc0) xs) (fun i _ => nx - (intOf i).toNat)
 case atStart => exact ⟨0, s, its, Nat.zero_le _, rfl, rfl, HP0.out, rfl, HI0.out⟩
 case round =>
  clear z0 z1 z2 z3 z4 z5 z6 z7 z8
  obtain ⟨m, s1, its1, hm, rfl, hst, hpi, hnow, hj⟩ := hrel
  have HPi := zH hpi
  have HNw := zH hnow
  have HJ := zH hj
  have HSt := zH hst
  clear hpi hnow hj hst HI0 HP0
  by_cases hlt : m < nx
  ·have hltz : (m : Int) < (nx : Int) := by omega
   obtain ⟨⟨v, V⟩, hp⟩ : ∃ p, xs[m]? = some p := ⟨_, List.getElem?_eq_getElem (by rw [HNx.out]; exact hlt)⟩
   obtain ⟨q, off, rfl, -, y0, y1, y2, y3, y4, y5⟩ := HJ.out.ev.at_ hp
   obtain ⟨VA, vc, hV⟩ := (HJ.out.ev.vals _ (List.mem_of_getElem? hp)).form
   dsimp only at y0 y1 y2 y3 y4 y5 hV
   subst hV
   have HPx := zH hp
   have HVk : Hid (v.key.size ≤ maxLen) := zH (HKs.out _ (List.mem_of_getElem? hp))
   have hdr : xs.drop m = (v, .slice VA v.val.length vc) :: xs.drop (m + 1) := by
    have hx2 := (List.getElem?_eq_some_iff.1 hp).2
    rw [← hx2, List.getElem_cons_drop]
   have HSt2 : Hid (evictP o (xs.map Prod.fst) s = evictP o (v :: (xs.drop (m + 1)).map Prod.fst) s1) := zH (by rw [HSt.out, hdr]; rfl)
   clear hp hdr HSt
   go_upto_region 5 with fail
   have hb5 : Below wr.heap.size wr (wr.alloc (.cells #[.int .i64 v.kind, .string v.key, .slice VA v.val.length vc, .int .u64 v.birth, .int .u64 v.dl, .int .u64 v.at_] 49)) := (zL _ _).alloc (zN _) _
   have H5 := zH (HJ.out.adv hb5)
   have HEb : Hid (Blk (wr.alloc (.cells #[.int .i64 v.kind, .string v.key, .slice VA v.val.length vc, .int .u64 v.birth, .int .u64 v.dl, .int .u64 v.at_] 49)) wr.heap.size 49 (evc v (.slice VA v.val.length vc))) := zH (Blk.new _ _ _)
   clear hb5 y0 y1 y2 y3 y4 y5 HJ
   generalize wr.heap.size = gE at HEb ⊢
   generalize World.alloc _ _ = W5 at H5 HEb ⊢
   refine wp_region_noPanic ?_
   refine wp_region_held_drew (S := fun W => EvJ w W B Bv g gm gp us s1 its1 P o (.slice A o.val.length c) (.slice (some ⟨q, off, none⟩) nx lc0) xs ∧ Blk W gE 49 (evc v (.slice VA v.val.length vc))) (by kernel_rfl) ⟨H5.out.adv (zL _ _).drew, HEb.out.drew⟩ (fun hHeld => ?_)
   have H6 := zH (H5.out.adv (zL W5.heap.size W5).drew)
   have HEb6 := zH HEb.out.drew
   clear H5 HEb
   generalize W5.drew = W6 at H6 HEb6 hHeld ⊢
   rcases H6.out.rep.find HPi.out.keys v.key with ⟨hf, hmg⟩ | ⟨x, hx, hf, -, hmg⟩
   ·have HMg := zH hmg
    have HS : Hid (evictP o (xs.map Prod.fst) s = .error 2) := zH (by rw [HSt2.out, evictP, hf])
    clear hf hmg
    refine Pl.go [0, 1, 2, 3, 4, 5, 6, 7] ?_
    iterate 8
     refine tkl (v := ?_) ?_ ?_
     rotate_left 1
     ·intro W hSw
      obtain ⟨-, -, -, -, -, -, -, -, d8, -, -⟩ := hSw.1.rep.cells; obtain ⟨e0, e1, e2, e3, e4, e5⟩ := ev6 hSw.2; have hlk := hSw.1.rep.lookI_none HVk.out HMg.out
      clear hSw
      go_simp
      try with_reducible rfl
     try dsimp only [zS, zB, zC]
    refine Pl.stop ?_
    refine wpAnyH_done (by kernel_rfl) ?_ _
    refine NoPanic.normal ?_
    clear hHeld
    go_wp2_with fail
    go_ret
    exact EvRetJ.err HS.out (H6).out.only
   ·have HMg := zH hmg
    have HF := zH hf
    have HXm := zH hx
    clear hf hmg hx
    refine Pl.go [0, 1, 2, 3, 4, 5, 6, 7] ?_
    iterate 8
     refine tkl (v := ?_) ?_ ?_
     rotate_left 1
     ·intro W hSw
      obtain ⟨-, -, -, -, -, -, -, -, d8, -, -⟩ := hSw.1.rep.cells; obtain ⟨e0, e1, e2, e3, e4, e5⟩ := ev6 hSw.2; have hlk := hSw.1.rep.lookI_some HVk.out HMg.out
      clear hSw
      go_simp
      try with_reducible rfl
     try dsimp only [zS, zB, zC]
    refine Pl.stop ?_
    refine wpAnyH_done (by kernel_rfl) ?_ _
    refine NoPanic.normal ?_
    clear hHeld
    obtain ⟨e0, e1, e2, e3, e4, e5⟩ := ev6 HEb6.out
    have HT := zH (told_any B Bv g gm gp us s1 its1 P x v (.slice VA v.val.length vc) 2 W6 H6.out.rep HXm.out (H6.out.ev.vals _ (List.mem_of_getElem? HPx.out)))
    unfold evv evc at HT
    by_cases hveq : v = eventP 2 x.e s1.now
    ·rw [decide_eq_true hveq] at HT
     have hcons := evict_cons (o := o) (l := (xs.drop (m + 1)).map Prod.fst) HF.out hveq
     rw [← HSt2.out] at hcons
     have HCs := zH hcons
     clear hveq hcons
     go_wp2_with fail
     refine HT.out.mono ?_
     rintro e w7 ⟨rfl, hb7⟩
     have H7 := zH (H6.out.adv hb7)
     clear hb7 H6 HEb6 HT e0 e1 e2 e3 e4 e5
     go_upto_region 8 with fail
     refine wp_region_noPanic ?_
     refine wp_region_held_drew (S := fun W => EvJ w W B Bv g gm gp us s1 its1 P o (.slice A o.val.length c) (.slice (some ⟨q, off, none⟩) nx lc0) xs) (by kernel_rfl) (H7.out.adv (zL _ _).drew) (fun hHeld => ?_)
     have H8 := zH (H7.out.adv (zL w7.heap.size w7).drew)
     clear H7
     generalize w7.drew = W8 at H8 hHeld ⊢
     refine tk 0 (v := ?_) ?_ ?_
     rotate_left 1
     ·intro W hSw
      skip
      clear hSw
      go_simp
      try with_reducible rfl
     try dsimp only [zS, zB, zC]
     refine wpAnyH_ready (rs := [1]) (by kernel_rfl) (by simp) ?_
     refine AllReadyH.cons (o := ⟨_, _, _, _, _, _⟩) rfl (fun F hF => ?_) AllReadyH.nil
     go_simp
     refine (within_any B g gm gp us s1 its1 P W8 H8.out.rep).mono ?_
     rintro e w9 ⟨rfl, hb9⟩
     have H9 := zH (H8.out.adv hb9)
     clear hb9 H8 hHeld
     by_cases hw : withinP s1
     ·have HS : Hid (evictP o (xs.map Prod.fst) s = .error 4) := zH (by rw [HCs.out, if_pos (.inl hw)])
      rw [decide_eq_true hw]
      clear hw
      go_wp2_with fail
      refine hF.out _ _ H9.out (fun hHeld => ?_)
      clear hF F
      try simp only [Act.put, zA, zB, zC]
      refine tk 2 (v := ?_) ?_ ?_
      rotate_left 1
      ·intro W hSw
       skip
       clear hSw
       go_simp
       try with_reducible rfl
      try dsimp only [zS, zB, zC]
      refine Pl.go [3, 4, 5, 6, 7, 8, 9, 10, 11, 12, 13] ?_
      iterate 11
       refine skl ?_
       try dsimp only [zS, zB, zC]
      refine Pl.stop ?_
      refine tk 14 (v := ?_) ?_ ?_
      rotate_left 1
      ·intro W hSw
       skip
       clear hSw
       go_simp
       try with_reducible rfl
      try dsimp only [zS, zB, zC]
      refine wpAnyH_done (by kernel_rfl) ?_ _
      refine NoPanic.normal ?_
      clear hHeld
      go_wp2_with fail
      go_ret
      exact EvRetJ.err HS.out (H9).out.only
     ·have HC2 : Hid (evictP o (xs.map Prod.fst) s = if (o.kind = 1 ∨ o.kind = 2) ∧ x.e.key = o.key then .error 4 else if s1.cfg.prot = 0 ∧ s1.U.head? ≠ some x.e.birth then .error 4 else evictP o ((xs.drop (m + 1)).map Prod.fst) (goneP s1 x.e.birth)) := zH (by
       rw [HCs.out]
       by_cases hk : (o.kind = 1 ∨ o.kind = 2) ∧ x.e.key = o.key
       ·rw [if_pos (.inr hk), if_pos hk]
       ·rw [if_neg (fun e => by rcases e with e | e; exact hw e; exact hk e), if_neg hk])
      rw [decide_eq_false hw]
      clear hw HCs
      go_wp2_with fail
      refine hF.out _ _ H9.out (fun hHeld => ?_)
      clear hF F
      try simp only [Act.put, zA, zB, zC]
      generalize w9 = W9 at H9 hHeld ⊢
      refine tk 2 (v := ?_) ?_ ?_
      rotate_left 1
      ·intro W hSw
       skip
       clear hSw
       go_simp
       try with_reducible rfl
      try dsimp only [zS, zB, zC]
      refine tk 3 (v := ?_) ?_ ?_
      rotate_left 1
      ·intro W hSw
       skip
       clear hSw
       go_simp
       try with_reducible rfl
      try dsimp only [zS, zB, zC]
      refine tk 4 (v := ?_) ?_ ?_
      rotate_left 1
      ·intro W hSw
       skip
       clear hSw
       go_simp
       try with_reducible rfl
      try dsimp only [zS, zB, zC]
      by_cases hk : x.e.key = o.key
      ·have HS : Hid (evictP o (xs.map Prod.fst) s = .error 4) := zH (by rw [HC2.out, if_pos ⟨HKd.out, hk⟩])
       have hkb : (x.e.key.toList == o.key.toList) = true := by rw [key_eq]; simp [hk]
       clear hk
       refine Pl.go [5, 6, 7, 8, 9, 10, 11, 12, 13, 14] ?_
       iterate 10
        refine tkl (v := ?_) ?_ ?_
        rotate_left 1
        ·intro W hSw
         obtain ⟨x0, -, -, -, -, -⟩ := (hSw.rep.ib x HXm.out).cells; obtain ⟨-, -, z2, -⟩ := op9 hSw.box; skip
         clear hSw
         go_simp
         try with_reducible rfl
        try dsimp only [zS, zB, zC]
       refine Pl.stop ?_
       refine wpAnyH_done (by kernel_rfl) ?_ _
       refine NoPanic.normal ?_
       clear hHeld
       go_wp2_with fail
       go_ret
       exact EvRetJ.err HS.out (H9).out.only
      ·have HC3 : Hid (evictP o (xs.map Prod.fst) s = if s1.cfg.prot = 0 ∧ s1.U.head? ≠ some x.e.birth then .error 4 else evictP o ((xs.drop (m + 1)).map Prod.fst) (goneP s1 x.e.birth)) := zH (by rw [HC2.out, if_neg (fun e => hk e.2)])
       have hkb : (x.e.key.toList == o.key.toList) = false := by rw [key_eq]; exact decide_eq_false hk
       clear hk
       refine Pl.go [5, 6, 7, 8, 9, 10, 11, 12, 13, 14] ?_
       iterate 10
        refine tkl (v := ?_) ?_ ?_
        rotate_left 1
        ·intro W hSw
         obtain ⟨x0, -, -, -, -, -⟩ := (hSw.rep.ib x HXm.out).cells; obtain ⟨-, -, z2, -⟩ := op9 hSw.box; skip
         clear hSw
         go_simp
         try with_reducible rfl
        try dsimp only [zS, zB, zC]
       refine Pl.stop ?_
       refine wpAnyH_done (by kernel_rfl) ?_ _
       refine NoPanic.normal ?_
       clear hHeld
       go_upto_region 10 with fail
       obtain ⟨-, -, d2, -, -, -, -, -, -, -, -⟩ := H9.out.rep.cells
       by_cases hp : s1.cfg.prot = 0
       ·have hpb : (s1.cfg.prot == 0) = true := by simp [hp]
        by_cases hh : s1.U.head? = some x.e.birth
        ·have HS : Hid (evictP o (xs.map Prod.fst) s = evictP o ((xs.drop (m + 1)).map Prod.fst) (goneP s1 x.e.birth)) := zH (by rw [HC3.out, if_neg (fun e => e.2 hh)])
         have HMin := zH (H9.out.rep.head_min HPi.out HXm.out hh)
         clear hp hh
         go_upto_region 11 with fail
         obtain ⟨-, -, -, -, -, -, -, -, d8, -, -⟩ := H9.out.rep.cells
         go_wp2_with (first | (at_range; refine wpList_mrange (K := KI) _ rfl _ rfl rfl H9.out.rep.items ?_; intro w0 ob hw0 hob hrg0; have hb10 : Below W9.heap.size W9 w0 := hw0 ▸ (zL _ _).alloc (zN _) _; clear hw0 hob) | fail)
         have HB10 := zH hb10
         have HRg0 := zH hrg0
         clear hrg0 hb10 d8
         try go_frame
         go_loopw [12] (fun _ wr => ∃ todo : List (ByteArray × Nat), MRange KI wr gm W9.heap.size (its1.map fun x => (x.e.key, x.b)) todo ∧ (∀ z ∈ todo, z ∈ its1.map fun x => (x.e.key, x.b)) ∧ Below W9.heap.size W9 wr ∧ True) (fun _ wr => wr.rangeLeft gm W9.heap.size)
         case atStart => exact ⟨_, HRg0.out, fun z hz => hz, HB10.out, trivial⟩
         case round =>
          clear HRg0 HB10
          obtain ⟨todo, hrg, hsub, hbw, hless⟩ := hrel
          have HRg := zH hrg
          have HSub := zH hsub
          have HBw := zH hbw
          have HLess := zH hless
          clear hrg hsub hbw hless
          go_wp2_with (first | (at_next; refine wpList_mnext (K := KI) _ rfl _ rfl rfl HRg.out ?_ ?_) | fail)
          ·intro ht
           clear ht
           have H10 := zH (H9.out.adv HBw.out)
           clear HRg HSub HBw HLess
           obtain ⟨t1, t2, t3, t4⟩ := (LOk.of HPi.out (Nat.le_trans HN.out (by omega))).costs ((H10).out.rep.perm.mem_iff.1 (List.mem_map_of_mem HXm.out))
           have HTk := zH (take_any B g gm gp us s1 its1 P x _ (H10).out.rep HXm.out HPi.out.asc t1 t2 t3 t4)
           clear t1 t2 t3 t4
           go_wp2_with fail
           refine HTk.out.mono ?_
           rintro e w12 ⟨rfl, hj12, ho12⟩
           have H12 := zH ((H10).out.next hj12 ho12 HBv.out)
           clear hj12 ho12 HTk
           go_wp2_with fail
           go_roundw
           case rel => exact ⟨m + 1, _, _, by omega, by go_num, HS.out, HPi.out.gone _, HNw.out, H12.out⟩
           case measure => simp [intOf]; omega
          ·intro i xk xb w2 hi hrg2 hb2 ho2 hs2 ob2 hob1 hob2 hen
           obtain ⟨y, hy, hye⟩ := List.mem_map.1 (HSub.out _ (List.mem_of_getElem? hi))
           injection hye with hye1 hye2
           subst hye2
           clear hye1
           have HRg2 := zH hrg2
           have HI2 := zH hi
           have HBw2 := zH (HBw.out.trans hb2)
           have HYm := zH hy
           have H2 := zH (H9.out.adv HBw2.out)
           have yu := (H2.out.rep.ib y hy).cells.2.2.2.2.1
           have xu := (H2.out.rep.ib x HXm.out).cells.2.2.2.2.1
           clear hi hrg2 hb2 ho2 hs2 hob1 hob2 hy
           go_upto_region 14 with fail
           clear hen
           have hd : decide (y.u < x.u) = false := decide_eq_false (by have := HMin.out y HYm.out; omega)
           go_quiet (fail)
           have HBq : Hid (Below w2.heap.size w2 (w2.drewN nq)) := zH ⟨rfl, rfl, rfl, zN _, fun _ _ => rfl⟩
           clear yu xu
           generalize w2.drewN nq = w3 at HBq ⊢
           go_wp2_with fail
           go_roundw
           case rel => exact ⟨_, HRg2.out.below HBq.out, fun z hz => HSub.out z (List.mem_of_mem_eraseIdx hz), HBw2.out.trans (HBq.out.mono HBw2.out.size), trivial⟩
           case measure =>
            have := len_next HI2.out
            rw [(HRg2.out.below HBq.out).left_eq, HRg.out.left_eq]; omega
        ·have HS : Hid (evictP o (xs.map Prod.fst) s = .error 4) := zH (by rw [HC3.out, if_pos ⟨hp, hh⟩])
         have HLs := zH (H9.out.rep.head_less HPi.out HXm.out hh)
         clear hp hh
         go_upto_region 11 with fail
         obtain ⟨-, -, -, -, -, -, -, -, d8, -, -⟩ := H9.out.rep.cells
         go_wp2_with (first | (at_range; refine wpList_mrange (K := KI) _ rfl _ rfl rfl H9.out.rep.items ?_; intro w0 ob hw0 hob hrg0; have hb10 : Below W9.heap.size W9 w0 := hw0 ▸ (zL _ _).alloc (zN _) _; clear hw0 hob) | fail)
         have HB10 := zH hb10
         have HRg0 := zH hrg0
         clear hrg0 hb10 d8
         try go_frame
         go_loopw [12] (fun _ wr => ∃ todo : List (ByteArray × Nat), MRange KI wr gm W9.heap.size (its1.map fun x => (x.e.key, x.b)) todo ∧ (∀ z ∈ todo, z ∈ its1.map fun x => (x.e.key, x.b)) ∧ Below W9.heap.size W9 wr ∧ ∃ y ∈ its1, (y.e.key, y.b) ∈ todo ∧ y.u < x.u) (fun _ wr => wr.rangeLeft gm W9.heap.size)
         case atStart =>
          obtain ⟨y, hy, hyu⟩ := HLs.out
          exact ⟨_, HRg0.out, fun z hz => hz, HB10.out, y, hy, List.mem_map.2 ⟨y, hy, rfl⟩, hyu⟩
         case round =>
          clear HRg0 HB10
          obtain ⟨todo, hrg, hsub, hbw, hless⟩ := hrel
          have HRg := zH hrg
          have HSub := zH hsub
          have HBw := zH hbw
          have HLess := zH hless
          clear hrg hsub hbw hless
          go_wp2_with (first | (at_next; refine wpList_mnext (K := KI) _ rfl _ rfl rfl HRg.out ?_ ?_) | fail)
          ·intro ht
           obtain ⟨y, _, hyt, _⟩ := HLess.out
           rw [ht] at hyt
           cases hyt
          ·intro i xk xb w2 hi hrg2 hb2 ho2 hs2 ob2 hob1 hob2 hen
           obtain ⟨y, hy, hye⟩ := List.mem_map.1 (HSub.out _ (List.mem_of_getElem? hi))
           injection hye with hye1 hye2
           subst hye2
           clear hye1
           have HRg2 := zH hrg2
           have HI2 := zH hi
           have HBw2 := zH (HBw.out.trans hb2)
           have HYm := zH hy
           have H2 := zH (H9.out.adv HBw2.out)
           have yu := (H2.out.rep.ib y hy).cells.2.2.2.2.1
           have xu := (H2.out.rep.ib x HXm.out).cells.2.2.2.2.1
           clear hi hrg2 hb2 ho2 hs2 hob1 hob2 hy
           go_upto_region 14 with fail
           clear hen
           by_cases hyu : y.u < x.u
           ·have hd : decide (y.u < x.u) = true := decide_eq_true hyu
            clear hyu
            go_quiet (fail)
            have HBq : Hid (Below w2.heap.size w2 (w2.drewN nq)) := zH ⟨rfl, rfl, rfl, zN _, fun _ _ => rfl⟩
            have H3 := zH (H2.out.adv HBq.out)
            clear yu xu
            generalize w2.drewN nq = w3 at H3 ⊢
            go_wp2_with fail
            go_ret
            exact EvRetJ.err HS.out (H3).out.only
           ·have hd : decide (y.u < x.u) = false := decide_eq_false hyu
            have HYu := zH hyu
            clear hyu
            go_quiet (fail)
            have HBq : Hid (Below w2.heap.size w2 (w2.drewN nq)) := zH ⟨rfl, rfl, rfl, zN _, fun _ _ => rfl⟩
            clear yu xu
            generalize w2.drewN nq = w3 at HBq ⊢
            go_wp2_with fail
            go_roundw
            case rel =>
             refine ⟨_, HRg2.out.below HBq.out, fun z hz => HSub.out z (List.mem_of_mem_eraseIdx hz), HBw2.out.trans (HBq.out.mono HBw2.out.size), ?_⟩
             obtain ⟨y', hy', hyt, hyu'⟩ := HLess.out
             refine ⟨y', hy', ?_, hyu'⟩
             rcases List.mem_cons.1 ((perm_eraseIdx _ _ _ HI2.out).mem_iff.2 hyt) with e | e
             ·injection e with _ e
              have := H2.out.rep.b_inj hy' HYm.out e
              rw [this] at hyu'
              exact absurd hyu' HYu.out
             ·exact e
            case measure =>
             have := len_next HI2.out
             rw [(HRg2.out.below HBq.out).left_eq, HRg.out.left_eq]; omega
       ·have HS : Hid (evictP o (xs.map Prod.fst) s = evictP o ((xs.drop (m + 1)).map Prod.fst) (goneP s1 x.e.birth)) := zH (by rw [HC3.out, if_neg (fun e => hp e.1)])
        have hpb : (s1.cfg.prot == 0) = false := by simp [hp]
        clear hp
        obtain ⟨t1, t2, t3, t4⟩ := (LOk.of HPi.out (Nat.le_trans HN.out (by omega))).costs ((H9).out.rep.perm.mem_iff.1 (List.mem_map_of_mem HXm.out))
        have HTk := zH (take_any B g gm gp us s1 its1 P x _ (H9).out.rep HXm.out HPi.out.asc t1 t2 t3 t4)
        clear t1 t2 t3 t4
        go_wp2_with fail
        refine HTk.out.mono ?_
        rintro e w12 ⟨rfl, hj12, ho12⟩
        have H12 := zH ((H9).out.next hj12 ho12 HBv.out)
        clear hj12 ho12 HTk
        go_wp2_with fail
        go_roundw
        case rel => exact ⟨m + 1, _, _, by omega, by go_num, HS.out, HPi.out.gone _, HNw.out, H12.out⟩
        case measure => simp [intOf]; omega
    ·rw [decide_eq_false hveq] at HT
     have HS : Hid (evictP o (xs.map Prod.fst) s = .error 2) := zH (by
      rw [HSt2.out, evictP, HF.out]
      dsimp only
      rw [if_pos hveq])
     clear hveq
     go_wp2_with fail
     refine HT.out.mono ?_
     rintro e w7 ⟨rfl, hb7⟩
     have H7 := zH (H6.out.adv hb7)
     clear hb7
     go_wp2_with fail
     go_ret
     exact EvRetJ.err HS.out (H7).out.only
  ·obtain rfl : m = nx := by omega
   have HS : Hid (evictP o (xs.map Prod.fst) s = .ok s1) := zH (by rw [HSt.out, List.drop_eq_nil_of_le (by rw [HNx.out]; exact zN _)]; rfl)
   go_wp2_with fail
   go_ret
   exact EvRetJ.ok HS.out HJ.out.rep HJ.out.only
set_option maxRecDepth 100000 in
set_option maxHeartbeats 16000000 in
theorem evict_k2 (N B Bv g gm gp : Nat) (us : Int) (s : PJ) (its : List It) (P : List (Int × Int)) (o : OpV) (V : Value) (lv : Value) (xs : List (EvV × Value)) (w : World) (h : JRep w B g gm gp us s its P) (hv : Bts w Bv 5 V o.val) (hi : PInv N s) (hn : N ≤ 90000) (hl : EvsAt w Bv lv xs) (hBv : Bv ≤ B) (hks : ∀ p ∈ xs, p.1.key.size ≤ maxLen)
  (hkd : o.kind = 2) :
  Calls Tryz.prog 74 #[.pointer (some ⟨g, 0, none⟩), opv o V, lv] w (EvRetJ B g gm gp us (evictP o (xs.map Prod.fst) s) w) := by
 have HKd : Hid (o.kind = 1 ∨ o.kind = 2) := zH (.inr hkd)
 have q1 : (o.kind == 1) = false := by simp [hkd]
 have q2 : (o.kind == 2) = true := by simp [hkd]
 clear hkd
 obtain ⟨A, c, rfl⟩ := hv.form
 have hb0 : Below w.heap.size w (w.alloc (.cells (opc o (.slice A o.val.length c)) 43)) := (zL _ _).alloc (zN _) _
 have HI0 : Hid (EvJ w (w.alloc (.cells (opc o (.slice A o.val.length c)) 43)) B Bv g gm gp us s its P o (.slice A o.val.length c) lv xs) := zH ⟨h.below hb0, Blk.new _ _ _, hl.below hb0, KJ.of_below hb0⟩
 obtain ⟨LA, lc0, rfl, hlc0, hlm⟩ := hl.cap
 have HBv := zH hBv
 have HP0 := zH hi
 have HN := zH hn
 have HKs := zH hks
 unfold maxLen at hlm
 have hxI : (xs.length : Int) ≤ 9223372036854775807 := by omega
 have hxc : (xs.length : Int) ≤ (lc0 : Int) := by omega
 obtain ⟨nx, hnx⟩ : ∃ nx, xs.length = nx := ⟨_, rfl⟩
 have HNx := zH hnx
 rw [hnx] at hxI hxc HI0 ⊢
 unfold opv
 unfold opc at HI0 ⊢
 clear h hi hb0 hl hBv hn hlm hlc0 hv hks hnx
 go_enter Tryz.func74, Tryz.ntmps74
 go_upto_region 1 with fail
 generalize World.alloc _ _ = W0 at HI0 ⊢
 obtain ⟨z0, z1, z2, z3, z4, z5, z6, z7, z8⟩ := op9 HI0.out.box
 go_wp2_with fail
 go_loopw [23] (fun i wr => ∃ (m : Nat) (s1 : PJ) (its1 : List It), m ≤ nx ∧ i = .int .i64 m ∧ evictP o (xs.map Prod.fst) s = evictP o ((xs.drop m).map Prod.fst) s1 ∧ PInv N s1 ∧ s1.now = s.now ∧ EvJ w wr B Bv g gm gp us s1 its1 P o (.slice A o.val.length c) (.slice LA nx lc0) xs) (fun i _ => nx - (intOf i).toNat)
 case atStart => exact ⟨0, s, its, Nat.zero_le _, rfl, rfl, HP0.out, rfl, HI0.out⟩
 case round =>
  clear z0 z1 z2 z3 z4 z5 z6 z7 z8
  obtain ⟨m, s1, its1, hm, rfl, hst, hpi, hnow, hj⟩ := hrel
  have HPi := zH hpi
  have HNw := zH hnow
  have HJ := zH hj
  have HSt := zH hst
  clear hpi hnow hj hst HI0 HP0
  by_cases hlt : m < nx
  ·have hltz : (m : Int) < (nx : Int) := by omega
   obtain ⟨⟨v, V⟩, hp⟩ : ∃ p, xs[m]? = some p := ⟨_, List.getElem?_eq_getElem (by rw [HNx.out]; exact hlt)⟩
   obtain ⟨q, off, rfl, -, y0, y1, y2, y3, y4, y5⟩ := HJ.out.ev.at_ hp
   obtain ⟨VA, vc, hV⟩ := (HJ.out.ev.vals _ (List.mem_of_getElem? hp)).form
   dsimp only at y0 y1 y2 y3 y4 y5 hV
   subst hV
   have HPx := zH hp
   have HVk : Hid (v.key.size ≤ maxLen) := zH (HKs.out _ (List.mem_of_getElem? hp))
   have hdr : xs.drop m = (v, .slice VA v.val.length vc) :: xs.drop (m + 1) := by
    have hx2 := (List.getElem?_eq_some_iff.1 hp).2
    rw [← hx2, List.getElem_cons_drop]
   have HSt2 : Hid (evictP o (xs.map Prod.fst) s = evictP o (v :: (xs.drop (m + 1)).map Prod.fst) s1) := zH (by rw [HSt.out, hdr]; rfl)
   clear hp hdr HSt
   go_upto_region 5 with fail
   have hb5 : Below wr.heap.size wr (wr.alloc (.cells #[.int .i64 v.kind, .string v.key, .slice VA v.val.length vc, .int .u64 v.birth, .int .u64 v.dl, .int .u64 v.at_] 49)) := (zL _ _).alloc (zN _) _
   have H5 := zH (HJ.out.adv hb5)
   have HEb : Hid (Blk (wr.alloc (.cells #[.int .i64 v.kind, .string v.key, .slice VA v.val.length vc, .int .u64 v.birth, .int .u64 v.dl, .int .u64 v.at_] 49)) wr.heap.size 49 (evc v (.slice VA v.val.length vc))) := zH (Blk.new _ _ _)
   clear hb5 y0 y1 y2 y3 y4 y5 HJ
   generalize wr.heap.size = gE at HEb ⊢
   generalize World.alloc _ _ = W5 at H5 HEb ⊢
   refine wp_region_noPanic ?_
   refine wp_region_held_drew (S := fun W => EvJ w W B Bv g gm gp us s1 its1 P o (.slice A o.val.length c) (.slice (some ⟨q, off, none⟩) nx lc0) xs ∧ Blk W gE 49 (evc v (.slice VA v.val.length vc))) (by kernel_rfl) ⟨H5.out.adv (zL _ _).drew, HEb.out.drew⟩ (fun hHeld => ?_)
   have H6 := zH (H5.out.adv (zL W5.heap.size W5).drew)
   have HEb6 := zH HEb.out.drew
   clear H5 HEb
   generalize W5.drew = W6 at H6 HEb6 hHeld ⊢
   rcases H6.out.rep.find HPi.out.keys v.key with ⟨hf, hmg⟩ | ⟨x, hx, hf, -, hmg⟩
   ·have HMg := zH hmg
    have HS : Hid (evictP o (xs.map Prod.fst) s = .error 2) := zH (by rw [HSt2.out, evictP, hf])
    clear hf hmg
    refine Pl.go [0, 1, 2, 3, 4, 5, 6, 7] ?_
    iterate 8
     refine tkl (v := ?_) ?_ ?_
     rotate_left 1
     ·intro W hSw
      obtain ⟨-, -, -, -, -, -, -, -, d8, -, -⟩ := hSw.1.rep.cells; obtain ⟨e0, e1, e2, e3, e4, e5⟩ := ev6 hSw.2; have hlk := hSw.1.rep.lookI_none HVk.out HMg.out
      clear hSw
      go_simp
      try with_reducible rfl
     try dsimp only [zS, zB, zC]
    refine Pl.stop ?_
    refine wpAnyH_done (by kernel_rfl) ?_ _
    refine NoPanic.normal ?_
    clear hHeld
    go_wp2_with fail
    go_ret
    exact EvRetJ.err HS.out (H6).out.only
   ·have HMg := zH hmg
    have HF := zH hf
    have HXm := zH hx
    clear hf hmg hx
    refine Pl.go [0, 1, 2, 3, 4, 5, 6, 7] ?_
    iterate 8
     refine tkl (v := ?_) ?_ ?_
     rotate_left 1
     ·intro W hSw
      obtain ⟨-, -, -, -, -, -, -, -, d8, -, -⟩ := hSw.1.rep.cells; obtain ⟨e0, e1, e2, e3, e4, e5⟩ := ev6 hSw.2; have hlk := hSw.1.rep.lookI_some HVk.out HMg.out
      clear hSw
      go_simp
      try with_reducible rfl
     try dsimp only [zS, zB, zC]
    refine Pl.stop ?_
    refine wpAnyH_done (by kernel_rfl) ?_ _
    refine NoPanic.normal ?_
    clear hHeld
    obtain ⟨e0, e1, e2, e3, e4, e5⟩ := ev6 HEb6.out
    have HT := zH (told_any B Bv g gm gp us s1 its1 P x v (.slice VA v.val.length vc) 2 W6 H6.out.rep HXm.out (H6.out.ev.vals _ (List.mem_of_getElem? HPx.out)))
    unfold evv evc at HT
    by_cases hveq : v = eventP 2 x.e s1.now
    ·rw [decide_eq_true hveq] at HT
     have hcons := evict_cons (o := o) (l := (xs.drop (m + 1)).map Prod.fst) HF.out hveq
     rw [← HSt2.out] at hcons
     have HCs := zH hcons
     clear hveq hcons
     go_wp2_with fail
     refine HT.out.mono ?_
     rintro e w7 ⟨rfl, hb7⟩
     have H7 := zH (H6.out.adv hb7)
     clear hb7 H6 HEb6 HT e0 e1 e2 e3 e4 e5
     go_upto_region 8 with fail
     refine wp_region_noPanic ?_
     refine wp_region_held_drew (S := fun W => EvJ w W B Bv g gm gp us s1 its1 P o (.slice A o.val.length c) (.slice (some ⟨q, off, none⟩) nx lc0) xs) (by kernel_rfl) (H7.out.adv (zL _ _).drew) (fun hHeld => ?_)
     have H8 := zH (H7.out.adv (zL w7.heap.size w7).drew)
     clear H7
     generalize w7.drew = W8 at H8 hHeld ⊢
     refine tk 0 (v := ?_) ?_ ?_
     rotate_left 1
     ·intro W hSw
      skip
      clear hSw
      go_simp
      try with_reducible rfl
     try dsimp only [zS, zB, zC]
     refine wpAnyH_ready (rs := [1]) (by kernel_rfl) (by simp) ?_
     refine AllReadyH.cons (o := ⟨_, _, _, _, _, _⟩) rfl (fun F hF => ?_) AllReadyH.nil
     go_simp
     refine (within_any B g gm gp us s1 its1 P W8 H8.out.rep).mono ?_
     rintro e w9 ⟨rfl, hb9⟩
     have H9 := zH (H8.out.adv hb9)
     clear hb9 H8 hHeld
     by_cases hw : withinP s1
     ·have HS : Hid (evictP o (xs.map Prod.fst) s = .error 4) := zH (by rw [HCs.out, if_pos (.inl hw)])
      rw [decide_eq_true hw]
      clear hw
      go_wp2_with fail
      refine hF.out _ _ H9.out (fun hHeld => ?_)
      clear hF F
      try simp only [Act.put, zA, zB, zC]
      refine tk 2 (v := ?_) ?_ ?_
      rotate_left 1
      ·intro W hSw
       skip
       clear hSw
       go_simp
       try with_reducible rfl
      try dsimp only [zS, zB, zC]
      refine Pl.go [3, 4, 5, 6, 7, 8, 9, 10, 11, 12, 13] ?_
      iterate 11
       refine skl ?_
       try dsimp only [zS, zB, zC]
      refine Pl.stop ?_
      refine tk 14 (v := ?_) ?_ ?_
      rotate_left 1
      ·intro W hSw
       skip
       clear hSw
       go_simp
       try with_reducible rfl
      try dsimp only [zS, zB, zC]
      refine wpAnyH_done (by kernel_rfl) ?_ _
      refine NoPanic.normal ?_
      clear hHeld
      go_wp2_with fail
      go_ret
      exact EvRetJ.err HS.out (H9).out.only
     ·have HC2 : Hid (evictP o (xs.map Prod.fst) s = if (o.kind = 1 ∨ o.kind = 2) ∧ x.e.key = o.key then .error 4 else if s1.cfg.prot = 0 ∧ s1.U.head? ≠ some x.e.birth then .error 4 else evictP o ((xs.drop (m + 1)).map Prod.fst) (goneP s1 x.e.birth)) := zH (by
       rw [HCs.out]
       by_cases hk : (o.kind = 1 ∨ o.kind = 2) ∧ x.e.key = o.key
       ·rw [if_pos (.inr hk), if_pos hk]
       ·rw [if_neg (fun e => by rcases e with e | e; exact hw e; exact hk e), if_neg hk])
      rw [decide_eq_false hw]
      clear hw HCs
      go_wp2_with fail
      refine hF.out _ _ H9.out (fun hHeld => ?_)
      clear hF F
      try simp only [Act.put, zA, zB, zC]
      generalize w9 = W9 at H9 hHeld ⊢
      refine tk 2 (v := ?_) ?_ ?_
      rotate_left 1
      ·intro W hSw
       skip
       clear hSw
       go_simp
       try with_reducible rfl
      try dsimp only [zS, zB, zC]
      refine tk 3 (v := ?_) ?_ ?_
      rotate_left 1
      ·intro W hSw
       skip
       clear hSw
       go_simp
       try with_reducible rfl
      try dsimp only [zS, zB, zC]
      refine tk 4 (v := ?_) ?_ ?_
      rotate_left 1
      ·intro W hSw
       skip
       clear hSw
       go_simp
       try with_reducible rfl
      try dsimp only [zS, zB, zC]
      by_cases hk : x.e.key = o.key
      ·have HS : Hid (evictP o (xs.map Prod.fst) s = .error 4) := zH (by rw [HC2.out, if_pos ⟨HKd.out, hk⟩])
       have hkb : (x.e.key.toList == o.key.toList) = true := by rw [key_eq]; simp [hk]
       clear hk
       refine Pl.go [5, 6, 7, 8, 9, 10, 11, 12, 13, 14] ?_
       iterate 10
        refine tkl (v := ?_) ?_ ?_
        rotate_left 1
        ·intro W hSw
         obtain ⟨x0, -, -, -, -, -⟩ := (hSw.rep.ib x HXm.out).cells; obtain ⟨-, -, z2, -⟩ := op9 hSw.box; skip
         clear hSw
         go_simp
         try with_reducible rfl
        try dsimp only [zS, zB, zC]
       refine Pl.stop ?_
       refine wpAnyH_done (by kernel_rfl) ?_ _
       refine NoPanic.normal ?_
       clear hHeld
       go_wp2_with fail
       go_ret
       exact EvRetJ.err HS.out (H9).out.only
      ·have HC3 : Hid (evictP o (xs.map Prod.fst) s = if s1.cfg.prot = 0 ∧ s1.U.head? ≠ some x.e.birth then .error 4 else evictP o ((xs.drop (m + 1)).map Prod.fst) (goneP s1 x.e.birth)) := zH (by rw [HC2.out, if_neg (fun e => hk e.2)])
       have hkb : (x.e.key.toList == o.key.toList) = false := by rw [key_eq]; exact decide_eq_false hk
       clear hk
       refine Pl.go [5, 6, 7, 8, 9, 10, 11, 12, 13, 14] ?_
       iterate 10
        refine tkl (v := ?_) ?_ ?_
        rotate_left 1
        ·intro W hSw
         obtain ⟨x0, -, -, -, -, -⟩ := (hSw.rep.ib x HXm.out).cells; obtain ⟨-, -, z2, -⟩ := op9 hSw.box; skip
         clear hSw
         go_simp
         try with_reducible rfl
        try dsimp only [zS, zB, zC]
       refine Pl.stop ?_
       refine wpAnyH_done (by kernel_rfl) ?_ _
       refine NoPanic.normal ?_
       clear hHeld
       go_upto_region 10 with fail
       obtain ⟨-, -, d2, -, -, -, -, -, -, -, -⟩ := H9.out.rep.cells
       by_cases hp : s1.cfg.prot = 0
       ·have hpb : (s1.cfg.prot == 0) = true := by simp [hp]
        by_cases hh : s1.U.head? = some x.e.birth
        ·have HS : Hid (evictP o (xs.map Prod.fst) s = evictP o ((xs.drop (m + 1)).map Prod.fst) (goneP s1 x.e.birth)) := zH (by rw [HC3.out, if_neg (fun e => e.2 hh)])
         have HMin := zH (H9.out.rep.head_min HPi.out HXm.out hh)
         clear hp hh
         go_upto_region 11 with fail
         obtain ⟨-, -, -, -, -, -, -, -, d8, -, -⟩ := H9.out.rep.cells
         go_wp2_with (first | (at_range; refine wpList_mrange (K := KI) _ rfl _ rfl rfl H9.out.rep.items ?_; intro w0 ob hw0 hob hrg0; have hb10 : Below W9.heap.size W9 w0 := hw0 ▸ (zL _ _).alloc (zN _) _; clear hw0 hob) | fail)
         have HB10 := zH hb10
         have HRg0 := zH hrg0
         clear hrg0 hb10 d8
         try go_frame
         go_loopw [12] (fun _ wr => ∃ todo : List (ByteArray × Nat), MRange KI wr gm W9.heap.size (its1.map fun x => (x.e.key, x.b)) todo ∧ (∀ z ∈ todo, z ∈ its1.map fun x => (x.e.key, x.b)) ∧ Below W9.heap.size W9 wr ∧ True) (fun _ wr => wr.rangeLeft gm W9.heap.size)
         case atStart => exact ⟨_, HRg0.out, fun z hz => hz, HB10.out, trivial⟩
         case round =>
          clear HRg0 HB10
          obtain ⟨todo, hrg, hsub, hbw, hless⟩ := hrel
          have HRg := zH hrg
          have HSub := zH hsub
          have HBw := zH hbw
          have HLess := zH hless
          clear hrg hsub hbw hless
          go_wp2_with (first | (at_next; refine wpList_mnext (K := KI) _ rfl _ rfl rfl HRg.out ?_ ?_) | fail)
          ·intro ht
           clear ht
           have H10 := zH (H9.out.adv HBw.out)
           clear HRg HSub HBw HLess
           obtain ⟨t1, t2, t3, t4⟩ := (LOk.of HPi.out (Nat.le_trans HN.out (by omega))).costs ((H10).out.rep.perm.mem_iff.1 (List.mem_map_of_mem HXm.out))
           have HTk := zH (take_any B g gm gp us s1 its1 P x _ (H10).out.rep HXm.out HPi.out.asc t1 t2 t3 t4)
           clear t1 t2 t3 t4
           go_wp2_with fail
           refine HTk.out.mono ?_
           rintro e w12 ⟨rfl, hj12, ho12⟩
           have H12 := zH ((H10).out.next hj12 ho12 HBv.out)
           clear hj12 ho12 HTk
           go_wp2_with fail
           go_roundw
           case rel => exact ⟨m + 1, _, _, by omega, by go_num, HS.out, HPi.out.gone _, HNw.out, H12.out⟩
           case measure => simp [intOf]; omega
          ·intro i xk xb w2 hi hrg2 hb2 ho2 hs2 ob2 hob1 hob2 hen
           obtain ⟨y, hy, hye⟩ := List.mem_map.1 (HSub.out _ (List.mem_of_getElem? hi))
           injection hye with hye1 hye2
           subst hye2
           clear hye1
           have HRg2 := zH hrg2
           have HI2 := zH hi
           have HBw2 := zH (HBw.out.trans hb2)
           have HYm := zH hy
           have H2 := zH (H9.out.adv HBw2.out)
           have yu := (H2.out.rep.ib y hy).cells.2.2.2.2.1
           have xu := (H2.out.rep.ib x HXm.out).cells.2.2.2.2.1
           clear hi hrg2 hb2 ho2 hs2 hob1 hob2 hy
           go_upto_region 14 with fail
           clear hen
           have hd : decide (y.u < x.u) = false := decide_eq_false (by have := HMin.out y HYm.out; omega)
           go_quiet (fail)
           have HBq : Hid (Below w2.heap.size w2 (w2.drewN nq)) := zH ⟨rfl, rfl, rfl, zN _, fun _ _ => rfl⟩
           clear yu xu
           generalize w2.drewN nq = w3 at HBq ⊢
           go_wp2_with fail
           go_roundw
           case rel => exact ⟨_, HRg2.out.below HBq.out, fun z hz => HSub.out z (List.mem_of_mem_eraseIdx hz), HBw2.out.trans (HBq.out.mono HBw2.out.size), trivial⟩
           case measure =>
            have := len_next HI2.out
            rw [(HRg2.out.below HBq.out).left_eq, HRg.out.left_eq]; omega
        ·have HS : Hid (evictP o (xs.map Prod.fst) s = .error 4) := zH (by rw [HC3.out, if_pos ⟨hp, hh⟩])
         have HLs := zH (H9.out.rep.head_less HPi.out HXm.out hh)
         clear hp hh
         go_upto_region 11 with fail
         obtain ⟨-, -, -, -, -, -, -, -, d8, -, -⟩ := H9.out.rep.cells
         go_wp2_with (first | (at_range; refine wpList_mrange (K := KI) _ rfl _ rfl rfl H9.out.rep.items ?_; intro w0 ob hw0 hob hrg0; have hb10 : Below W9.heap.size W9 w0 := hw0 ▸ (zL _ _).alloc (zN _) _; clear hw0 hob) | fail)
         have HB10 := zH hb10
         have HRg0 := zH hrg0
         clear hrg0 hb10 d8
         try go_frame
         go_loopw [12] (fun _ wr => ∃ todo : List (ByteArray × Nat), MRange KI wr gm W9.heap.size (its1.map fun x => (x.e.key, x.b)) todo ∧ (∀ z ∈ todo, z ∈ its1.map fun x => (x.e.key, x.b)) ∧ Below W9.heap.size W9 wr ∧ ∃ y ∈ its1, (y.e.key, y.b) ∈ todo ∧ y.u < x.u) (fun _ wr => wr.rangeLeft gm W9.heap.size)
         case atStart =>
          obtain ⟨y, hy, hyu⟩ := HLs.out
          exact ⟨_, HRg0.out, fun z hz => hz, HB10.out, y, hy, List.mem_map.2 ⟨y, hy, rfl⟩, hyu⟩
         case round =>
          clear HRg0 HB10
          obtain ⟨todo, hrg, hsub, hbw, hless⟩ := hrel
          have HRg := zH hrg
          have HSub := zH hsub
          have HBw := zH hbw
          have HLess := zH hless
          clear hrg hsub hbw hless
          go_wp2_with (first | (at_next; refine wpList_mnext (K := KI) _ rfl _ rfl rfl HRg.out ?_ ?_) | fail)
          ·intro ht
           obtain ⟨y, _, hyt, _⟩ := HLess.out
           rw [ht] at hyt
           cases hyt
          ·intro i xk xb w2 hi hrg2 hb2 ho2 hs2 ob2 hob1 hob2 hen
           obtain ⟨y, hy, hye⟩ := List.mem_map.1 (HSub.out _ (List.mem_of_getElem? hi))
           injection hye with hye1 hye2
           subst hye2
           clear hye1
           have HRg2 := zH hrg2
           have HI2 := zH hi
           have HBw2 := zH (HBw.out.trans hb2)
           have HYm := zH hy
           have H2 := zH (H9.out.adv HBw2.out)
           have yu := (H2.out.rep.ib y hy).cells.2.2.2.2.1
           have xu := (H2.out.rep.ib x HXm.out).cells.2.2.2.2.1
           clear hi hrg2 hb2 ho2 hs2 hob1 hob2 hy
           go_upto_region 14 with fail
           clear hen
           by_cases hyu : y.u < x.u
           ·have hd : decide (y.u < x.u) = true := decide_eq_true hyu
            clear hyu
            go_quiet (fail)
            have HBq : Hid (Below w2.heap.size w2 (w2.drewN nq)) := zH ⟨rfl, rfl, rfl, zN _, fun _ _ => rfl⟩
            have H3 := zH (H2.out.adv HBq.out)
            clear yu xu
            generalize w2.drewN nq = w3 at H3 ⊢
            go_wp2_with fail
            go_ret
            exact EvRetJ.err HS.out (H3).out.only
           ·have hd : decide (y.u < x.u) = false := decide_eq_false hyu
            have HYu := zH hyu
            clear hyu
            go_quiet (fail)
            have HBq : Hid (Below w2.heap.size w2 (w2.drewN nq)) := zH ⟨rfl, rfl, rfl, zN _, fun _ _ => rfl⟩
            clear yu xu
            generalize w2.drewN nq = w3 at HBq ⊢
            go_wp2_with fail
            go_roundw
            case rel =>
             refine ⟨_, HRg2.out.below HBq.out, fun z hz => HSub.out z (List.mem_of_mem_eraseIdx hz), HBw2.out.trans (HBq.out.mono HBw2.out.size), ?_⟩
             obtain ⟨y', hy', hyt, hyu'⟩ := HLess.out
             refine ⟨y', hy', ?_, hyu'⟩
             rcases List.mem_cons.1 ((perm_eraseIdx _ _ _ HI2.out).mem_iff.2 hyt) with e | e
             ·injection e with _ e
              have := H2.out.rep.b_inj hy' HYm.out e
              rw [this] at hyu'
              exact absurd hyu' HYu.out
             ·exact e
            case measure =>
             have := len_next HI2.out
             rw [(HRg2.out.below HBq.out).left_eq, HRg.out.left_eq]; omega
       ·have HS : Hid (evictP o (xs.map Prod.fst) s = evictP o ((xs.drop (m + 1)).map Prod.fst) (goneP s1 x.e.birth)) := zH (by rw [HC3.out, if_neg (fun e => hp e.1)])
        have hpb : (s1.cfg.prot == 0) = false := by simp [hp]
        clear hp
        obtain ⟨t1, t2, t3, t4⟩ := (LOk.of HPi.out (Nat.le_trans HN.out (by omega))).costs ((H9).out.rep.perm.mem_iff.1 (List.mem_map_of_mem HXm.out))
        have HTk := zH (take_any B g gm gp us s1 its1 P x _ (H9).out.rep HXm.out HPi.out.asc t1 t2 t3 t4)
        clear t1 t2 t3 t4
        go_wp2_with fail
        refine HTk.out.mono ?_
        rintro e w12 ⟨rfl, hj12, ho12⟩
        have H12 := zH ((H9).out.next hj12 ho12 HBv.out)
        clear hj12 ho12 HTk
        go_wp2_with fail
        go_roundw
        case rel => exact ⟨m + 1, _, _, by omega, by go_num, HS.out, HPi.out.gone _, HNw.out, H12.out⟩
        case measure => simp [intOf]; omega
    ·rw [decide_eq_false hveq] at HT
     have HS : Hid (evictP o (xs.map Prod.fst) s = .error 2) := zH (by
      rw [HSt2.out, evictP, HF.out]
      dsimp only
      rw [if_pos hveq])
     clear hveq
     go_wp2_with fail
     refine HT.out.mono ?_
     rintro e w7 ⟨rfl, hb7⟩
     have H7 := zH (H6.out.adv hb7)
     clear hb7
     go_wp2_with fail
     go_ret
     exact EvRetJ.err HS.out (H7).out.only
  ·obtain rfl : m = nx := by omega
   have HS : Hid (evictP o (xs.map Prod.fst) s = .ok s1) := zH (by rw [HSt.out, List.drop_eq_nil_of_le (by rw [HNx.out]; exact zN _)]; rfl)
   go_wp2_with fail
   go_ret
   exact EvRetJ.ok HS.out HJ.out.rep HJ.out.only
theorem evict_any (N B Bv g gm gp : Nat) (us : Int) (s : PJ) (its : List It) (P : List (Int × Int)) (o : OpV) (V : Value) (lv : Value) (xs : List (EvV × Value)) (w : World) (h : JRep w B g gm gp us s its P) (hv : Bts w Bv 5 V o.val) (hi : PInv N s) (hn : N ≤ 90000) (hl : EvsAt w Bv lv xs) (hBv : Bv ≤ B) (hks : ∀ p ∈ xs, p.1.key.size ≤ maxLen) :
  Calls Tryz.prog 74 #[.pointer (some ⟨g, 0, none⟩), opv o V, lv] w (EvRetJ B g gm gp us (evictP o (xs.map Prod.fst) s) w) := by
 by_cases k1 : o.kind = 1
 ·exact evict_k1 N B Bv g gm gp us s its P o V lv xs w h hv hi hn hl hBv hks k1
 ·by_cases k2 : o.kind = 2
  ·exact evict_k2 N B Bv g gm gp us s its P o V lv xs w h hv hi hn hl hBv hks k2
  ·exact evict_k0 N B Bv g gm gp us s its P o V lv xs w h hv hi hn hl hBv hks (by omega)
end Go.Proofs.YtnabbimompapfaaGreat
namespace Go.Proofs.YtnabbimompapfaaGreat
open Go Go.RowKit Go.MapKept Go.Maps
theorem exec_load_row {P : Program} {o : Oper} {ev : Operand → Value} {w : World} (ty : TypeId) (x : Operand) (ho : o.op = .load ty x) (g : Nat) (hx : ev x = .pointer (some ⟨g, 0, none⟩)) (t : TypeId) (cs : Array Value) (fr : Nat × Nat) (d : TypeDesc) (hg : w.heap[g]? = some (.cells cs t fr))
  (hu : P.underlying ty = some d) (hd : (match d with | .struct _ | .array _ _ => true | _ => false) = true) (hi : (P.info? ty).map (·.size) = some cs.size) : (execOp ev o).run P w = .ok (.value (.agg cs)) w := by
 unfold execOp
 simp only [ho, hx, Instr.loadAt, Instr.sureAddr, Sem.run_bind, Sem.run_pure, Result.andThen_ok, run_loadVar_row w g t ty cs fr d hg hu hd hi]
theorem step_store_row {P : Program} {ops : Array Oper} {o : Oper} {a : Act} {w : World} {K : Act → World → Prop} {Q : Exit → Act → World → Prop} {E : Prop} (hgd : o.guard = none) (ty : TypeId) (x y : Operand) (ho : o.op = .store ty x y)
  (g : Nat) (cells : Array Value) (hx : a.eval x = .pointer (some ⟨g, 0, none⟩)) (hy : a.eval y = .agg cells)
  (t : TypeId) (old : Array Value) (hg : w.heap[g]? = some (.cells old t (0, 0))) (hi : (P.info? ty).map (·.size) = some cells.size)
  (hold : old.size = cells.size) (h1 : cells.all (·.oneCell') = true)
  (h : K (a.put o.dst undef) (w.setRow g cells)) : if Region.wanted o (yielded ops a.tmps) = true then Oper.wp P o a w K Q else E := by
 have hw : Region.wanted o (yielded ops a.tmps) = true := by simp [Region.wanted, hgd]
 rw [if_pos hw]
 exact wp_store_row ty x y ho g cells hx hy t old hg hi hold h1 h
theorem results_cell_row2 {P : Program} {fn : Func} {p q : Tmp} {ty : TypeId} (h : fn.results = #[.cell p ty, .tmp q]) (tmps : Array Value) (w : World) (g : Nat) (t : TypeId) (cs : Array Value) (fr : Nat × Nat) (d : TypeDesc) (v : Value)
  (hp : tmps.getD p undef = .pointer (some ⟨g, 0, none⟩)) (hq : tmps.getD q undef = v) (hg : w.heap[g]? = some (.cells cs t fr))
  (hu : P.underlying ty = some d) (hd : (match d with | .struct _ | .array _ _ => true | _ => false) = true) (hi : (P.info? ty).map (·.size) = some cs.size) :
  (results fn tmps).run P w = .ok (.tuple #[.agg cs, v]) w := by
 have hp' : tmps[p]?.getD undef = .pointer (some ⟨g, 0, none⟩) := by simpa using hp
 have hq' : tmps[q]?.getD undef = v := by simpa using hq
 simp [results, h, hp', hq', asAddr, run_loadVar_row w g t ty cs fr d hg hu hd hi]
theorem JRep.other {W W2 : World} {B g gm gp : Nat} {us : Int} {s : PJ} {its : List It} {P : List (Int × Int)} (h : JRep W B g gm gp us s its P) {gw : Nat} {cs : Array Value} (hb : Blk W gw 46 cs) (ho : Only (fun k => k = gw) W W2) (hB : B ≤ gw) : JRep W2 B g gm gp us s its P :=
 ⟨h.blk.only ho (fun e => (hb.ne_ h.blk (by decide)) e.symm), h.items.only ho (fun e => (hb.ne_map h.items) e.symm), fun x hx => (h.ib x hx).only ho (fun e => (hb.ne_ (h.ib x hx).blk (by decide)) e.symm), fun x hx => (h.vals x hx).keep (KeepB.of_blk (U := 5) hb (by decide) hB ho), h.nd, h.perm, h.ub, h.ord, h.places.only ho (fun e => (hb.ne_map h.places) e.symm), h.pl, h.base, ⟨h.apart.1, fun x hx => (h.apart.2 x hx).keep (KeepB.of_blk (U := 5) hb (by decide) hB ho)⟩⟩
structure EvB (w W : World) (g : Nat) (o : OpV) (V : Value) (x : WantV) (V1 V2 : Value) : Prop where
 p : Blk W w.heap.size 52 #[.pointer (some ⟨g, 0, none⟩)]
 o : Blk W (w.heap.size + 1) 43 (opc o V)
 r : Blk W (w.heap.size + 1 + 1) 46 (wantc x V1 V2)
section
variable {w W W2 : World} {B g : Nat} {o : OpV} {V V1 V2 : Value} {x : WantV}
theorem EvB.below (h : EvB w W g o V x V1 V2) (hb : Below W.heap.size W W2) : EvB w W2 g o V x V1 V2 := ⟨h.p.below hb, h.o.below hb, h.r.below hb⟩
theorem EvB.kj (h : EvB w W g o V x V1 V2) (ho : Only (KJ B W) W W2) : EvB w W2 g o V x V1 V2 :=
 ⟨h.p.only ho (KJ.not_ h.p (by decide) (by decide)), h.o.only ho (KJ.not_ h.o (by decide) (by decide)), h.r.only ho (KJ.not_ h.r (by decide) (by decide))⟩
theorem EvB.row (h : EvB w W g o V x V1 V2) (x' : WantV) (V1' V2' : Value) : EvB w (W.setRow (w.heap.size + 1 + 1) (wantc x' V1' V2')) g o V x' V1' V2' ∧ Only (fun k => k = w.heap.size + 1 + 1) W (W.setRow (w.heap.size + 1 + 1) (wantc x' V1' V2')) := by
 have ho := (Only.refl (fun k => k = w.heap.size + 1 + 1) W).setRow (.inl rfl) (wantc x' V1' V2')
 exact ⟨⟨h.p.only ho (by omega), h.o.only ho (by omega), h.r.row _⟩, ho⟩
theorem KJ.result {k : Nat} (hk : w.heap.size ≤ k) (h0 : Only (KJ B w) w W) (ho : Only (fun i => i = k) W W2) : Only (KJ B w) w W2 := h0.trans ho (fun i hi e => by omega)
end
structure DueS (W : World) (Bp g : Nat) (t : Int) (x : It) : Prop where
 p : Blk W Bp 52 #[.pointer (some ⟨g, 0, none⟩)]
 now : W.cell? ⟨g, 5, none⟩ = some (.int .u64 t)
 it : ItAt W x.b x.e x.v x.u (costE x.e)
set_option maxRecDepth 100000 in
set_option maxHeartbeats 2000000 in
theorem due1_any (w : World) (Bp B g gm gp : Nat) (us : Int) (s : PJ) (its : List It) (P : List (Int × Int)) (hp : Blk w Bp 52 #[.pointer (some ⟨g, 0, none⟩)]) (h : JRep w B g gm gp us s its P) :
  PredIs w 67 #[.pointer (some ⟨Bp, 0, none⟩)] its (fun x => dueP x.e.dl s.now) := by
 refine ⟨enters_of Tryz.func67 (by kernel_rfl) rfl, fun x hx W hW => ?_⟩
 have hp0 : W.cell? ⟨Bp, 0, none⟩ = some (.pointer (some ⟨g, 0, none⟩)) := (hp.below hW).cell 0 _ rfl
 obtain ⟨-, -, -, -, -, d5, -⟩ := (h.below hW).cells
 obtain ⟨-, -, x2, -, -, -⟩ := ((h.below hW).ib x hx).cells
 have HD := zH (fun W => tickDue_any x.e.dl s.now W)
 clear hp h hW hx
 show Calls Tryz.prog _ #[ptrI x.b, .pointer (some ⟨Bp, 0, none⟩)] W _
 unfold ptrI
 go_enter Tryz.func67, Tryz.ntmps67
 go_wp2_with fail
 go_quiet ((go_at_call 68; exact Calls.quiet_of_same ((HD.out _).mono fun e w' h => ⟨h.1, h.2.symm⟩)))
 go_wp2_with fail
 go_ret
 exact ⟨rfl, (Gr.refl _).drewN _⟩
theorem ownS_inv {n : Nat} {s : PJ} (h : PInv n s) (o : OpV) : PInv n (ownS s o) := by
 unfold ownS
 split
 ·exact ⟨by simp, by simp, by simp, by simp, by simp, h.pls, h.cnt, by simp, h.now⟩
 ·split
  ·split
   ·exact h.gone _
   ·exact h
  ·exact h
theorem ownS_effOk {s : PJ} {o : OpV} {e : Int} (h : EffOk s o e) : EffOk (ownS s o) o e := by
 by_cases h67 : o.kind = 6 ∨ o.kind = 7
 ·exact ⟨h.h0, fun h => by omega, fun h => by omega, fun h => by omega⟩
 ·have : ownS s o = s := by unfold ownS; rw [if_neg (by omega), if_neg (by omega)]
  rw [this]; exact h
def EvtsRet (B g gm gp : Nat) (us : Int) (r : Except Int (PJ × WantV)) (w : World) (e : Ending) (w' : World) : Prop :=
 Only (KJ B w) w w' ∧ (∀ x, r = .error x → ∃ (wv : WantV) (A1 A2 : Option Addr) (n1 n2 c1 c2 : Nat), e = .returned (.tuple #[.agg (wantc wv (.slice A1 n1 c1) (.slice A2 n2 c2)), .int .i64 x])) ∧
 ∀ s2 wv, r = .ok (s2, wv) → ∃ (A1 A2 : Option Addr) (c1 c2 : Nat), e = .returned (.tuple #[.agg (wantc wv (.slice A1 wv.val.length c1) (.slice A2 wv.ent.val.length c2)), .int .i64 0]) ∧ Bts w' B 5 (.slice A1 wv.val.length c1) wv.val ∧ Bts w' B 5 (.slice A2 wv.ent.val.length c2) wv.ent.val ∧
  ∃ (us' : Int) (its' : List It) (P' : List (Int × Int)), (us ≤ us' ∧ us' ≤ us + 1) ∧ JRep w' B g gm gp us' s2 its' P'
theorem EvtsRet.err {B g gm gp : Nat} {us : Int} {r : Except Int (PJ × WantV)} {w w' : World} {x : Int} {wv : WantV} {A1 A2 : Option Addr} {n1 n2 c1 c2 : Nat} (h : r = .error x) (ho : Only (KJ B w) w w') : EvtsRet B g gm gp us r w (.returned (.tuple #[.agg (wantc wv (.slice A1 n1 c1) (.slice A2 n2 c2)), .int .i64 x])) w' :=
 ⟨ho, fun y hy => by rw [h] at hy; injection hy with hy; rw [← hy]; exact ⟨wv, A1, A2, n1, n2, c1, c2, rfl⟩, fun s2 wv2 h2 => by rw [h] at h2; cases h2⟩
theorem strip_mem : ∀ {xs l r : List EvV}, stripP xs l = some r → ∀ v ∈ r, v ∈ l
 |[], l, r, h, v, hv => by
  have h' : some l = some r := h
  injection h' with h'
  rw [h']; exact hv
 |_ :: _, [], r, h, v, hv => by cases h
 |x :: xs, y :: ys, r, h, v, hv => by
  have h' : (if y = x then stripP xs ys else none) = some r := h
  split at h'
  ·exact List.mem_cons_of_mem _ (strip_mem h' v hv)
  ·cases h'
set_option maxRecDepth 100000 in
set_option maxHeartbeats 8000000 in
theorem events_any (N B Bv g gm gp : Nat) (us : Int) (s : PJ) (its : List It) (P : List (Int × Int)) (o : OpV) (V : Value) (e0 : Int) (lv : Value) (evs : List (EvV × Value)) (w : World) (h : JRep w B g gm gp us s its P) (hv : Bts w Bv 5 V o.val) (hk : o.key.size ≤ maxLen) (hi : PInv N s) (hn : N ≤ 80000) (hB : Bv ≤ B ∧ B ≤ w.heap.size)
  (hl : EvsAt w Bv lv evs) (hks : ∀ p ∈ evs, p.1.key.size ≤ maxLen) (hus : 0 ≤ us ∧ us ≤ 1000000000000) (htt : 0 ≤ o.ttl) (hc : -9223372036854775808 ≤ o.cursor ∧ o.cursor ≤ 9223372036854775807) (hkd : 1 ≤ o.kind ∧ o.kind ≤ 14)
  (hs : o.kind = 1 ∨ o.kind = 2 → keyOK o.key = true ∧ o.val.length ≤ 65536) (he : EffOk (expireP s s.now) o e0) :
  Calls Tryz.prog 44 #[.pointer (some ⟨g, 0, none⟩), opv o V, .int .i64 e0, lv] w (EvtsRet B g gm gp us (eventsP s o e0 s.now (evs.map Prod.fst)) w) := by
 obtain ⟨A, c, rfl⟩ := hv.form
 have hlen : its.length ≤ 1000000 := by have := h.lenI; have := hi.lenL; omega
 have HI := zH hi
 have HLe := zH hlen
 have HK := zH hk
 have HN := zH hn
 have HBB := zH hB
 have HKs := zH hks
 have HU := zH hus
 have HTt := zH htt
 have HC := zH hc
 have HKd := zH hkd
 have HSk := zH hs
 have HEf := zH he
 obtain ⟨W0, hW0⟩ : ∃ W0, ((w.alloc (.cells #[.pointer (some ⟨g, 0, none⟩)] 52)).alloc (.cells (opc o (.slice A o.val.length c)) 43)).alloc (.cells (wantc want0 (.slice none 0 0) (.slice none 0 0)) 46) = W0 := ⟨_, rfl⟩
 have hb0 : Below w.heap.size w W0 := hW0 ▸ (((zL _ _).alloc (zN _) _).alloc (by simp) _).alloc (by simp; omega) _
 have HEB : Hid (EvB w W0 g o (.slice A o.val.length c) want0 (.slice none 0 0) (.slice none 0 0)) := zH (hW0 ▸ ⟨((Blk.new _ _ _).alloc _).alloc _, (Blk.new2 _ _ _ _).alloc _, Blk.new3 _ _ _ _ _⟩)
 have HJ := zH (h.below hb0)
 have HL := zH (hl.below hb0)
 have HV := zH (hv.below hb0)
 have HB0 := zH hb0
 obtain ⟨LA, lc, rfl⟩ := hl.slice
 unfold opv
 unfold opc wantc want0 ent0 at hW0
 unfold opc
 dsimp only at hW0
 clear h hv hk hi hn hB hl hks hus htt hc hkd hs he hlen hb0
 go_enter Tryz.func44, Tryz.ntmps44
 go_upto_region 1 with fail
 try rw [hW0]
 clear hW0
 have p0 : W0.cell? ⟨w.heap.size, 0, none⟩ = some (.pointer (some ⟨g, 0, none⟩)) := HEB.out.p.cell 0 _ rfl
 have HSo := zH (sorted_any B g gm gp us s its P W0 HJ.out HLe.out _ _ _ (due1_any W0 w.heap.size B g gm gp us s its P HEB.out.p HJ.out) _ _ cmpIs_deadline)
 go_wp2_with fail
 refine HSo.out.mono ?_
 rintro e w1 ⟨A1, n1, c1, ys, rfl, hrow1, hperm1, hord1, hb1⟩
 have he1 := sortD_eq (t := s.now) HI.out.asc HJ.out.perm (fun _ => rfl) hperm1 (hord1.imp (fun h => by omega))
 have HY : Hid (ys.map It.e = dueL s.L s.now) := zH he1
 have hmem1 : ∀ x ∈ ys, x ∈ its := fun x hx => (List.mem_filter.1 (hperm1.mem_iff.1 hx)).1
 have hnd1 : (ys.map fun x => x.e.key).Nodup := (hperm1.map _).nodup_iff.2 (HJ.out.keysN.sublist (List.filter_sublist.map _))
 have hdue : (ys.map fun x => eventP 1 x.e s.now) = dueE s s.now := by
  rw [dueE_eq, ← he1, List.map_map]
  rfl
 have HJ1 := zH (HJ.out.below hb1)
 have HEB1 := zH (HEB.out.below hb1)
 have HL1 := zH (HL.out.below hb1)
 have HV1 := zH (HV.out.below hb1)
 have HO1 : Hid (Only (KJ B w) w w1) := zH (KJ.of_below (HB0.out.trans (hb1.mono HB0.out.size)))
 have HLv := zH (leave_any B Bv W0.heap.size g gm gp us s its P 1 ys evs (.slice LA evs.length lc) A1 n1 c1 w1 HJ1.out (LOk.of HI.out (Nat.le_trans HN.out (by omega))) hmem1 hnd1 hrow1 HL1.out HBB.out.1)
 unfold LeaveRet at HLv
 rw [hdue] at HLv
 have p1 : w1.cell? ⟨w.heap.size, 0, none⟩ = some (.pointer (some ⟨g, 0, none⟩)) := HEB1.out.p.cell 0 _ rfl
 clear hrow1 hperm1 hord1 hb1 he1 hmem1 hnd1 hdue p0 HSo HJ HEB HL HV
 go_wp2_with fail
 refine HLv.out.mono ?_
 rintro e w2 ⟨ho2, hcase⟩
 have HO2 := zH (KJ.trans HO1.out ho2)
 have HEB2 := zH (HEB1.out.kj ho2)
 have HV2 := zH (HV1.out.keep (KJ.keepB ho2 HBB.out.1))
 have p2 : w2.cell? ⟨w.heap.size, 0, none⟩ = some (.pointer (some ⟨g, 0, none⟩)) := HEB2.out.p.cell 0 _ rfl
 rcases hcase with ⟨hnone, rfl⟩ | ⟨lv1, rest, hsome, rfl, hev2, hj2⟩
 ·have HS : Hid (eventsP s o e0 s.now (evs.map Prod.fst) = .error 3) := zH (by unfold eventsP; rw [hnone])
  clear hnone p1 HLv ho2
  go_wp2_with (first | (refine wpList_load_row rfl 46 _ rfl (w.heap.size + 1 + 1) rfl 46 _ (0, 0) _ (HEB2).out.r Tryz.underlying46 rfl (by kernel_rfl) ?_) | (refine wpList_store_row rfl 46 _ _ rfl (w.heap.size + 1 + 1) _ rfl rfl 46 _ (HEB2).out.r (by kernel_rfl) rfl (by simp [wantc, Value.oneCell']) ?_))
  obtain ⟨hrow, horow⟩ := (HEB2).out.row want0 (.slice none 0 0) (.slice none 0 0)
  have HRow := zH hrow
  have HORow := zH horow
  clear hrow horow
  generalize World.setRow _ _ _ = W9 at HRow HORow ⊢
  try simp only [Exit.inBlock, Exit.then]
  refine bodyPost_ret (v := .tuple #[.agg (wantc want0 (.slice none 0 0) (.slice none 0 0)), .int .i64 3]) (results_cell_row2 rfl _ _ (w.heap.size + 1 + 1) 46 _ (0, 0) _ _ rfl rfl HRow.out.r Tryz.underlying46 rfl (by kernel_rfl)) rfl ?_
  exact EvtsRet.err HS.out (KJ.result (by omega) HO2.out HORow.out)
 ·have HE1 : Hid (eventsP s o e0 s.now (evs.map Prod.fst) = if noExp (rest.map Prod.fst) = false then .error 3 else match stripP (ownE (expireP s s.now) o) (rest.map Prod.fst) with
   |none => .error 2
   |some l2 => match evictP o l2 (effP (expireP s s.now) o e0) with
    |.error x => .error x
    |.ok s2 => .ok (s2, readsP (expireP s s.now) o e0)) := zH (by unfold eventsP; rw [hsome]; try rfl)
  rw [leftS_due HI.out HY.out] at hj2
  obtain ⟨s1, hs1⟩ : ∃ s1, expireP s s.now = s1 := ⟨_, rfl⟩
  have HI1 : Hid (PInv N s1) := zH (hs1 ▸ HI.out.expire s.now HI.out.now)
  have HN1 : Hid (s1.now = s.now) := zH (hs1 ▸ rfl)
  rw [hs1] at HE1 HEf hj2
  obtain ⟨A2, n2, c2, rfl⟩ : ∃ A2 n2 c2, lv1 = .slice A2 n2 c2 := by obtain ⟨A2, c2, e⟩ := hev2.slice; exact ⟨A2, _, c2, e⟩
  have HKr : Hid (∀ p ∈ rest, p.1.key.size ≤ maxLen) := zH (fun p hp => by
   have h1 := strip_mem hsome p.1 (List.mem_map_of_mem hp)
   obtain ⟨q, hq, hqe⟩ := List.mem_map.1 h1
   rw [← hqe]; exact HKs.out q hq)
  generalize leftI 1 its ys = its1 at hj2
  have HJ2 := zH hj2
  have HL2 := zH hev2
  have HEx := zH (expired_any Bv (.slice A2 n2 c2) rest w2 hev2)
  clear hsome hev2 hj2 hs1 p1 HLv ho2
  obtain ⟨ne, hne⟩ : ∃ ne, noExp (rest.map Prod.fst) = ne := ⟨_, rfl⟩
  rw [hne] at HEx HE1
  clear hne
  cases ne with
  |false =>
   have HS : Hid (eventsP s o e0 s.now (evs.map Prod.fst) = .error 3) := zH (by rw [HE1.out, if_pos rfl])
   go_wp2_with fail
   refine HEx.out.mono ?_
   rintro e w3 ⟨rfl, hb3⟩
   have HEB3 := zH (HEB2.out.below hb3)
   have HO3 := zH (KJ.trans HO2.out (KJ.of_below hb3))
   clear hb3 p2 HEx HE1
   go_wp2_with (first | (refine wpList_load_row rfl 46 _ rfl (w.heap.size + 1 + 1) rfl 46 _ (0, 0) _ (HEB3).out.r Tryz.underlying46 rfl (by kernel_rfl) ?_) | (refine wpList_store_row rfl 46 _ _ rfl (w.heap.size + 1 + 1) _ rfl rfl 46 _ (HEB3).out.r (by kernel_rfl) rfl (by simp [wantc, Value.oneCell']) ?_))
   obtain ⟨hrow, horow⟩ := (HEB3).out.row want0 (.slice none 0 0) (.slice none 0 0)
   have HRow := zH hrow
   have HORow := zH horow
   clear hrow horow
   generalize World.setRow _ _ _ = W9 at HRow HORow ⊢
   try simp only [Exit.inBlock, Exit.then]
   refine bodyPost_ret (v := .tuple #[.agg (wantc want0 (.slice none 0 0) (.slice none 0 0)), .int .i64 3]) (results_cell_row2 rfl _ _ (w.heap.size + 1 + 1) 46 _ (0, 0) _ _ rfl rfl HRow.out.r Tryz.underlying46 rfl (by kernel_rfl)) rfl ?_
   exact EvtsRet.err HS.out (KJ.result (by omega) HO3.out HORow.out)
  |true =>
   have HE2 : Hid (eventsP s o e0 s.now (evs.map Prod.fst) = match stripP (ownE s1 o) (rest.map Prod.fst) with
    |none => .error 2
    |some l2 => match evictP o l2 (effP s1 o e0) with
     |.error x => .error x
     |.ok s2 => .ok (s2, readsP s1 o e0)) := zH (by rw [HE1.out, if_neg (by decide)])
   clear HE1
   go_wp2_with fail
   refine HEx.out.mono ?_
   rintro e w3 ⟨rfl, hb3⟩
   have HEB3 := zH (HEB2.out.below hb3)
   have HO3 := zH (KJ.trans HO2.out (KJ.of_below hb3))
   have HJ3 := zH (HJ2.out.below hb3)
   have HL3 := zH (HL2.out.below hb3)
   have HV3 := zH (HV2.out.below hb3)
   clear hb3 p2 HEx HJ2 HL2 HV2 HEB2 HO2
   have p3 : w3.cell? ⟨w.heap.size, 0, none⟩ = some (.pointer (some ⟨g, 0, none⟩)) := HEB3.out.p.cell 0 _ rfl
   obtain ⟨z0, z1, z2, z3, z4, z5, z6, z7, z8⟩ := op9 HEB3.out.o
   have HRd := zH (reads_any N B Bv g gm gp us s1 its1 P o (.slice A o.val.length c) e0 w3 HJ3.out HV3.out HK.out HI1.out (Nat.le_trans HN.out (by omega)) HC.out HEf.out.h12)
   unfold opv opc at HRd
   go_wp2_with fail
   refine HRd.out.mono ?_
   rintro e w4 ⟨Vw, Ve, rfl, hvw, hve, hb4⟩
   obtain ⟨Aw, cw, rfl⟩ := hvw.form
   obtain ⟨Ae, ce, rfl⟩ := hve.form
   have HEB4 := zH (HEB3.out.below hb4)
   have HO4 := zH (KJ.trans HO3.out (KJ.of_below hb4))
   have HJ4 := zH (HJ3.out.below hb4)
   have HL4 := zH (HL3.out.below hb4)
   have HV4 := zH (HV3.out.below hb4)
   have HVw4 := zH hvw
   have HVe4 := zH hve
   obtain ⟨wv, hwv⟩ : ∃ wv, readsP s1 o e0 = wv := ⟨_, rfl⟩
   rw [hwv] at HE2 HVw4 HVe4 ⊢
   clear hb4 hvw hve hwv p3 z0 z1 z2 z3 z4 z5 z6 z7 z8 HRd HJ3 HL3 HV3 HEB3 HO3
   go_upto_region 6 with (refine wpList_store_row rfl 46 _ _ rfl (w.heap.size + 1 + 1) _ rfl rfl 46 _ HEB4.out.r (by kernel_rfl) rfl (by simp [wantc, Value.oneCell']) ?_)
   obtain ⟨hrow5, hor5⟩ := HEB4.out.row wv (.slice Aw wv.val.length cw) (.slice Ae wv.ent.val.length ce)
   have HEB5 := zH hrow5
   have HO5 : Hid (Only (KJ B w) w _) := zH (KJ.result (by omega) HO4.out hor5)
   have HBr : Hid (B ≤ w.heap.size + 1 + 1) := zH (by have := HBB.out.2; omega)
   have HJ5 := zH (HJ4.out.other HEB4.out.r hor5 HBr.out)
   have hkb5 := KeepB.of_blk (B := B) (U := 5) HEB4.out.r (by decide) HBr.out hor5
   have hkv5 := KeepB.of_blk (B := Bv) (U := 5) HEB4.out.r (by decide) (Nat.le_trans HBB.out.1 HBr.out) hor5
   have HL5 := zH (HL4.out.keep hkv5)
   have HV5 := zH (HV4.out.keep hkv5)
   have HVw5 := zH (HVw4.out.keep hkb5)
   have HVe5 := zH (HVe4.out.keep hkb5)
   clear hrow5 hor5 hkb5 hkv5 HEB4 HO4 HJ4 HL4 HV4 HVw4 HVe4
   generalize World.setRow _ _ _ = w5 at HEB5 HO5 HJ5 HL5 HV5 HVw5 HVe5 ⊢
   have p5 : w5.cell? ⟨w.heap.size, 0, none⟩ = some (.pointer (some ⟨g, 0, none⟩)) := HEB5.out.p.cell 0 _ rfl
   obtain ⟨z0, z1, z2, z3, z4, z5, z6, z7, z8⟩ := op9 HEB5.out.o
   have HOw := zH (own_any N B Bv g gm gp us s1 its1 P o (.slice A o.val.length c) w5 HJ5.out HV5.out HK.out HI1.out (Nat.le_trans HN.out (by omega)))
   unfold opv opc at HOw
   go_wp2_with fail
   refine HOw.out.mono ?_
   rintro e w6 ⟨k, A6, n6, c6, xs6, rfl, hrow6, hmem6, hnd6, hown6, hleft6, hb6⟩
   have HEB6 := zH (HEB5.out.below hb6)
   have HO6 := zH (KJ.trans HO5.out (KJ.of_below hb6))
   have HJ6 := zH (HJ5.out.below hb6)
   have HL6 := zH (HL5.out.below hb6)
   have HV6 := zH (HV5.out.below hb6)
   have HVw6 := zH (HVw5.out.below hb6)
   have HVe6 := zH (HVe5.out.below hb6)
   have HLf := zH hleft6
   have HLv6 := zH (leave_any B Bv w5.heap.size g gm gp us s1 its1 P k xs6 rest (.slice A2 n2 c2) A6 n6 c6 w6 HJ6.out (LOk.of HI1.out (Nat.le_trans HN.out (by omega))) hmem6 hnd6 hrow6 HL6.out HBB.out.1)
   unfold LeaveRet at HLv6
   rw [hown6] at HLv6
   clear hrow6 hmem6 hnd6 hown6 hleft6 hb6 p5 z0 z1 z2 z3 z4 z5 z6 z7 z8 HOw HJ5 HL5 HV5 HVw5 HVe5 HEB5 HO5
   have p6 : w6.cell? ⟨w.heap.size, 0, none⟩ = some (.pointer (some ⟨g, 0, none⟩)) := HEB6.out.p.cell 0 _ rfl
   go_wp2_with fail
   refine HLv6.out.mono ?_
   rintro e w7 ⟨ho7, hcase7⟩
   have HO7 := zH (KJ.trans HO6.out ho7)
   have HEB7 := zH (HEB6.out.kj ho7)
   have HV7 := zH (HV6.out.keep (KJ.keepB ho7 HBB.out.1))
   have HVw7 := zH (HVw6.out.keep (KJ.keepB ho7 (zN _)))
   have HVe7 := zH (HVe6.out.keep (KJ.keepB ho7 (zN _)))
   clear ho7 p6 HLv6 HJ6 HL6 HV6 HVw6 HVe6 HEB6 HO6
   rcases hcase7 with ⟨hnone, rfl⟩ | ⟨lv7, rest7, hsome, rfl, hev7, hj7⟩
   ·have HS : Hid (eventsP s o e0 s.now (evs.map Prod.fst) = .error 2) := zH (by rw [HE2.out, hnone])
    clear hnone
    go_wp2_with (first | (refine wpList_load_row rfl 46 _ rfl (w.heap.size + 1 + 1) rfl 46 _ (0, 0) _ (HEB7).out.r Tryz.underlying46 rfl (by kernel_rfl) ?_) | (refine wpList_store_row rfl 46 _ _ rfl (w.heap.size + 1 + 1) _ rfl rfl 46 _ (HEB7).out.r (by kernel_rfl) rfl (by simp [wantc, Value.oneCell']) ?_))
    obtain ⟨hrow, horow⟩ := (HEB7).out.row wv (.slice Aw wv.val.length cw) (.slice Ae wv.ent.val.length ce)
    have HRow := zH hrow
    have HORow := zH horow
    clear hrow horow
    generalize World.setRow _ _ _ = W9 at HRow HORow ⊢
    try simp only [Exit.inBlock, Exit.then]
    refine bodyPost_ret (v := .tuple #[.agg (wantc wv (.slice Aw wv.val.length cw) (.slice Ae wv.ent.val.length ce)), .int .i64 2]) (results_cell_row2 rfl _ _ (w.heap.size + 1 + 1) 46 _ (0, 0) _ _ rfl rfl HRow.out.r Tryz.underlying46 rfl (by kernel_rfl)) rfl ?_
    exact EvtsRet.err HS.out (KJ.result (by omega) HO7.out HORow.out)
   ·have HE3 : Hid (eventsP s o e0 s.now (evs.map Prod.fst) = match evictP o (rest7.map Prod.fst) (effP s1 o e0) with
     |.error x => .error x
     |.ok s2 => .ok (s2, wv)) := zH (by rw [HE2.out, hsome]; try rfl)
    rw [HLf.out] at hj7
    obtain ⟨A7, n7, c7, rfl⟩ : ∃ A7 n7 c7, lv7 = .slice A7 n7 c7 := by obtain ⟨A7, c7, e⟩ := hev7.slice; exact ⟨A7, _, c7, e⟩
    have HKr7 : Hid (∀ p ∈ rest7, p.1.key.size ≤ maxLen) := zH (fun p hp => by
     have h1 := strip_mem hsome p.1 (List.mem_map_of_mem hp)
     obtain ⟨q, hq, hqe⟩ := List.mem_map.1 h1
     rw [← hqe]; exact HKr.out q hq)
    generalize leftI k its1 xs6 = its7 at hj7
    have HJ7 := zH hj7
    have HL7 := zH hev7
    have hsz7 : w.heap.size ≤ w7.heap.size := HO7.out.size
    have HEf7 := zH (effect_any N B Bv g gm gp us (ownS s1 o) its7 P o (.slice A o.val.length c) e0 w7 hj7 HV7.out HK.out (ownS_inv HI1.out o) (Nat.le_trans HN.out (by omega)) ⟨HBB.out.1, Nat.le_trans HBB.out.2 hsz7⟩ HSk.out HU.out HTt.out HC.out HKd.out (ownS_effOk HEf.out))
    rw [effC_own] at HEf7
    have HI8 : Hid (PInv (N + 1) (effP s1 o e0)) := zH (HI1.out.effP o e0 HTt.out HSk.out)
    clear hsome hj7 hev7 hsz7 HE2
    have p7 : w7.cell? ⟨w.heap.size, 0, none⟩ = some (.pointer (some ⟨g, 0, none⟩)) := HEB7.out.p.cell 0 _ rfl
    obtain ⟨z0, z1, z2, z3, z4, z5, z6, z7, z8⟩ := op9 HEB7.out.o
    unfold opv opc at HEf7
    go_wp2_with fail
    refine HEf7.out.mono ?_
    rintro e w8 ⟨rfl, us8, its8, P8, hus8, hj8, ho8⟩
    have HO8 := zH (KJ.trans HO7.out ho8)
    have HEB8 := zH (HEB7.out.kj ho8)
    have HJ8 := zH hj8
    have HL8 := zH (HL7.out.keep (KJ.keepB ho8 HBB.out.1))
    have HV8 := zH (HV7.out.keep (KJ.keepB ho8 HBB.out.1))
    have HVw8 := zH (HVw7.out.keep (KJ.keepB ho8 (zN _)))
    have HVe8 := zH (HVe7.out.keep (KJ.keepB ho8 (zN _)))
    have HU8 := zH hus8
    clear hj8 ho8 hus8 p7 z0 z1 z2 z3 z4 z5 z6 z7 z8 HEf7 HJ7 HL7 HV7 HVw7 HVe7 HEB7 HO7
    go_upto_region 11 with fail
    refine wp_region_noPanic ?_
    refine wp_region_held_drew (S := fun W => EvB w W g o (.slice A o.val.length c) wv (.slice Aw wv.val.length cw) (.slice Ae wv.ent.val.length ce)) (by kernel_rfl) (HEB8.out.below (zL _ _).drew) (fun hHeld => ?_)
    have hbd : Below w8.heap.size w8 w8.drew := (zL _ _).drew
    have HO9 := zH (KJ.trans HO8.out (KJ.of_below hbd))
    have HEB9 := zH (HEB8.out.below hbd)
    have HJ9 := zH (HJ8.out.below hbd)
    have HL9 := zH (HL8.out.below hbd)
    have HV9 := zH (HV8.out.below hbd)
    have HVw9 := zH (HVw8.out.below hbd)
    have HVe9 := zH (HVe8.out.below hbd)
    clear hbd HJ8 HL8 HV8 HVw8 HVe8 HEB8 HO8
    generalize w8.drew = w9 at HO9 HEB9 HJ9 HL9 HV9 HVw9 HVe9 hHeld ⊢
    refine wpAnyH_take (i := 0) (oi := ⟨_, _, _, _, _, _⟩) (v := .agg (wantc wv (.slice Aw wv.val.length cw) (.slice Ae wv.ent.val.length ce))) rfl (by kernel_rfl) (by kernel_rfl) (by kernel_rfl) (fun _ _ _ h => h) (Or.inl ⟨by rfl, fun W hSw => exec_load_row 46 _ rfl (w.heap.size + 1 + 1) rfl 46 _ (0, 0) _ hSw.r Tryz.underlying46 rfl (by kernel_rfl)⟩) (by assumption) ?_
    try simp only [Act.put, zA, zB, zC]
    refine tk 1 (v := ?_) ?_ ?_
    rotate_left 1
    ·intro W hSw
     have p9 : W.cell? ⟨w.heap.size, 0, none⟩ = some (.pointer (some ⟨g, 0, none⟩)) := hSw.p.cell 0 _ rfl
     clear hSw
     go_simp
     try with_reducible rfl
    try dsimp only [zS, zB, zC]
    refine tk 2 (v := ?_) ?_ ?_
    rotate_left 1
    ·intro W hSw
     obtain ⟨z0, z1, z2, z3, z4, z5, z6, z7, z8⟩ := op9 hSw.o
     clear hSw
     go_simp
     try with_reducible rfl
    try dsimp only [zS, zB, zC]
    refine tk 3 (v := ?_) ?_ ?_
    rotate_left 1
    ·intro W hSw
     skip
     clear hSw
     go_simp
     try with_reducible rfl
    try dsimp only [zS, zB, zC]
    have HEv := zH (evict_any (N + 1) B Bv g gm gp us8 (effP s1 o e0) its8 P8 o (.slice A o.val.length c) (.slice A7 n7 c7) rest7 w9 HJ9.out HV9.out HI8.out (by have := HN.out; omega) HL9.out HBB.out.1 HKr7.out)
    unfold opv opc at HEv
    refine wpAnyH_ready (rs := [4]) (by kernel_rfl) (by simp) ?_
    refine AllReadyH.cons (o := ⟨_, _, _, _, _, _⟩) rfl (fun F hF => ?_) AllReadyH.nil
    go_simp
    refine HEv.out.mono ?_
    rintro e w10 ⟨ho10, herr, hok⟩
    have HO10 := zH (KJ.trans HO9.out ho10)
    have HEB10 := zH (HEB9.out.kj ho10)
    have HVw10 := zH (HVw9.out.keep (KJ.keepB ho10 (zN _)))
    have HVe10 := zH (HVe9.out.keep (KJ.keepB ho10 (zN _)))
    clear ho10 hHeld HJ9 HL9 HV9 HVw9 HVe9 HEB9 HO9 HEv
    obtain ⟨er, her⟩ : ∃ er, evictP o (rest7.map Prod.fst) (effP s1 o e0) = er := ⟨_, rfl⟩
    rw [her] at HE3 herr hok
    clear her
    cases er with
    |error x =>
     have he10 := herr x rfl
     subst he10
     have HS : Hid (eventsP s o e0 s.now (evs.map Prod.fst) = .error x) := zH HE3.out
     clear herr hok
     go_wp2_with fail
     refine hF.out _ _ HEB10.out (fun hHeld => ?_)
     clear hF F
     try simp only [Act.put, zA, zB, zC]
     obtain ⟨hrow, horow⟩ := HEB10.out.row wv (.slice Aw wv.val.length cw) (.slice Ae wv.ent.val.length ce)
     have HRow := zH hrow
     have HORow := zH horow
     clear hrow horow
     refine wpAnyH_ready (rs := [5]) (by kernel_rfl) (by simp) ?_
     refine AllReadyH.cons (o := ⟨_, _, _, _, _, _⟩) rfl (fun F hF => ?_) AllReadyH.nil
     refine step_store_row rfl 46 _ _ rfl (w.heap.size + 1 + 1) _ rfl rfl 46 _ HEB10.out.r (by kernel_rfl) rfl (by simp [wantc, Value.oneCell']) ?_
     refine hF.out _ _ HRow.out (fun hHeld => ?_)
     clear hF F
     try simp only [Act.put, zA, zB, zC]
     refine tk 6 (v := ?_) ?_ ?_
     rotate_left 1
     ·intro W hSw
      skip
      clear hSw
      go_simp
      try with_reducible rfl
     try dsimp only [zS, zB, zC]
     refine wpAnyH_done (by kernel_rfl) ?_ _
     refine NoPanic.normal ?_
     clear hHeld
     generalize World.setRow _ _ _ = W9 at HRow HORow ⊢
     go_wp2_with fail
     try simp only [Exit.inBlock, Exit.then]
     refine bodyPost_ret (v := .tuple #[.agg (wantc wv (.slice Aw wv.val.length cw) (.slice Ae wv.ent.val.length ce)), _]) (results_cell_row2 rfl _ _ (w.heap.size + 1 + 1) 46 _ (0, 0) _ _ rfl rfl HRow.out.r Tryz.underlying46 rfl (by kernel_rfl)) rfl ?_
     exact EvtsRet.err HS.out (KJ.result (by omega) HO10.out HORow.out)
    |ok s2 =>
     obtain ⟨he10, its10, P10, hj10⟩ := hok s2 rfl
     subst he10
     have HJ10 := zH hj10
     have HS : Hid (eventsP s o e0 s.now (evs.map Prod.fst) = .ok (s2, wv)) := zH HE3.out
     clear herr hok hj10
     go_wp2_with fail
     refine hF.out _ _ HEB10.out (fun hHeld => ?_)
     clear hF F
     try simp only [Act.put, zA, zB, zC]
     obtain ⟨hrow, horow⟩ := HEB10.out.row wv (.slice Aw wv.val.length cw) (.slice Ae wv.ent.val.length ce)
     have HRow := zH hrow
     have HORow := zH horow
     clear hrow horow
     refine wpAnyH_ready (rs := [5]) (by kernel_rfl) (by simp) ?_
     refine AllReadyH.cons (o := ⟨_, _, _, _, _, _⟩) rfl (fun F hF => ?_) AllReadyH.nil
     refine step_store_row rfl 46 _ _ rfl (w.heap.size + 1 + 1) _ rfl rfl 46 _ HEB10.out.r (by kernel_rfl) rfl (by simp [wantc, Value.oneCell']) ?_
     refine hF.out _ _ HRow.out (fun hHeld => ?_)
     clear hF F
     try simp only [Act.put, zA, zB, zC]
     refine tk 6 (v := ?_) ?_ ?_
     rotate_left 1
     ·intro W hSw
      skip
      clear hSw
      go_simp
      try with_reducible rfl
     try dsimp only [zS, zB, zC]
     refine wpAnyH_done (by kernel_rfl) ?_ _
     refine NoPanic.normal ?_
     clear hHeld
     generalize World.setRow _ _ _ = W9 at HRow HORow ⊢
     go_wp2_with fail
     try simp only [Exit.inBlock, Exit.then]
     refine bodyPost_ret (v := .tuple #[.agg (wantc wv (.slice Aw wv.val.length cw) (.slice Ae wv.ent.val.length ce)), _]) (results_cell_row2 rfl _ _ (w.heap.size + 1 + 1) 46 _ (0, 0) _ _ rfl rfl HRow.out.r Tryz.underlying46 rfl (by kernel_rfl)) rfl ?_
     have hkb := KeepB.of_blk (B := B) (U := 5) HEB10.out.r (by decide) (by have := HBB.out.2; omega) HORow.out
     refine ⟨KJ.result (by omega) HO10.out HORow.out, fun x hx => (by rw [HS.out] at hx; cases hx), fun s3 wv3 h3 => ?_⟩
     rw [HS.out] at h3
     injection h3 with h3
     injection h3 with h3 h4
     subst h3 h4
     exact ⟨Aw, Ae, cw, ce, rfl, HVw10.out.keep hkb, HVe10.out.keep hkb, us8, its10, P10, HU8.out, HJ10.out.other HEB10.out.r HORow.out (by have := HBB.out.2; omega)⟩
end Go.Proofs.YtnabbimompapfaaGreat
namespace Go.Proofs.YtnabbimompapfaaGreat
open Go Go.RowKit Go.MapKept Go.Maps
theorem JRep.setNow {w : World} {B g gm gp : Nat} {us : Int} {s : PJ} {its : List It} {P : List (Int × Int)} (h : JRep w B g gm gp us s its P) (t : Int) :
  JRep (w.setCell ⟨g, 5, none⟩ (.int .u64 t)) B g gm gp us { s with now := t } its P ∧ Only (KJ B w) w (w.setCell ⟨g, 5, none⟩ (.int .u64 t)) := by
 have ho := Only.set1 w g 5 (.int .u64 t)
 have hoo := KJ.one h.kj_g ho
 exact ⟨⟨h.blk.set_ 5 (.int .u64 t), h.items.only ho (fun e => h.g_m e.symm), fun x hx => (h.ib x hx).only ho (h.ne_g hx), fun x hx => (h.vals x hx).keep (KJ.keepB hoo (zN _)), h.nd, h.perm, h.ub, h.ord, h.places.only ho (fun e => h.g_p e.symm), h.pl, h.base, ⟨h.apart.1, fun x hx => (h.apart.2 x hx).keep (KJ.keepB hoo (zN _))⟩⟩, hoo⟩
structure AX (w W : World) (B Bv g gm gp : Nat) (us : Int) (s : PJ) (its : List It) (P : List (Int × Int)) (r : ResV) (V1 V2 V3 V4 : Value) (xs : List (EvV × Value)) : Prop where
 rep : JRep W B g gm gp us s its P
 rb : Blk W w.heap.size 46 (resc r V1 V2 V3 V4)
 ob : Blk W (w.heap.size + 1) 43 (opc r.op V1)
 a : ResAt W Bv r V1 V2 V3 V4 xs
 only : Only (KJ B w) w W
section
variable {w W W2 : World} {B Bv g gm gp : Nat} {us us2 : Int} {s s2 : PJ} {its its2 : List It} {P P2 : List (Int × Int)} {r : ResV} {V1 V2 V3 V4 : Value} {xs : List (EvV × Value)}
theorem AX.adv (h : AX w W B Bv g gm gp us s its P r V1 V2 V3 V4 xs) (hb : Below W.heap.size W W2) : AX w W2 B Bv g gm gp us s its P r V1 V2 V3 V4 xs :=
 ⟨h.rep.below hb, h.rb.below hb, h.ob.below hb, h.a.keep (KeepB.of_below hb), KJ.trans h.only (KJ.of_below hb)⟩
theorem AX.nextK (h : AX w W B Bv g gm gp us s its P r V1 V2 V3 V4 xs) (hj : JRep W2 B g gm gp us2 s2 its2 P2) (ho : Only (KJ B W) W W2) (hBv : Bv ≤ B) : AX w W2 B Bv g gm gp us2 s2 its2 P2 r V1 V2 V3 V4 xs :=
 ⟨hj, h.rb.only ho (KJ.not_ h.rb (by decide) (by decide)), h.ob.only ho (KJ.not_ h.ob (by decide) (by decide)), h.a.keep (KJ.keepB ho hBv), KJ.trans h.only ho⟩
theorem AX.other (h : AX w W B Bv g gm gp us s its P r V1 V2 V3 V4 xs) {gw : Nat} {cs : Array Value} (hb : Blk W gw 46 cs) (ho : Only (fun k => k = gw) W W2) (hB : B ≤ gw) (hBv : Bv ≤ B) (hw : w.heap.size + 1 < gw) : AX w W2 B Bv g gm gp us s its P r V1 V2 V3 V4 xs :=
 ⟨h.rep.other hb ho hB, h.rb.only ho (by omega), h.ob.only ho (by omega), h.a.keep (KeepB.of_blk hb (by decide) (Nat.le_trans hBv hB) ho), KJ.result (by omega) h.only ho⟩
theorem WX.nextJ {gw : Nat} {x : WantV} {Vw Ve : Value} (h : WX W B gw x Vw Ve) (ho : Only (KJ B W) W W2) : WX W2 B gw x Vw Ve :=
 ⟨h.b.only ho (KJ.not_ h.b (by decide) (by decide)), h.v.keep (KJ.keepB ho (zN _)), h.e.keep (KJ.keepB ho (zN _)), h.lt⟩
end
def AddRet (B g gm gp : Nat) (us : Int) (r : Except Int PJ) (w : World) (e : Ending) (w' : World) : Prop :=
 Only (KJ B w) w w' ∧ (∀ x, r = .error x → e = .returned (.int .i64 x)) ∧ ∀ s2, r = .ok s2 → e = .returned (.int .i64 0) ∧ ∃ (us' : Int) (its' : List It) (P' : List (Int × Int)), (us ≤ us' ∧ us' ≤ us + 1) ∧ JRep w' B g gm gp us' s2 its' P'
theorem AddRet.err {B g gm gp : Nat} {us : Int} {r : Except Int PJ} {w w' : World} {x : Int} (h : r = .error x) (ho : Only (KJ B w) w w') : AddRet B g gm gp us r w (.returned (.int .i64 x)) w' :=
 ⟨ho, fun y hy => by rw [h] at hy; injection hy with hy; rw [hy], fun s2 h2 => by rw [h] at h2; cases h2⟩
theorem AddRet.ok {B g gm gp : Nat} {us us' : Int} {r : Except Int PJ} {w w' : World} {s2 : PJ} (h : r = .ok s2) (hu : us ≤ us' ∧ us' ≤ us + 1) {its : List It} {P : List (Int × Int)} (hk : JRep w' B g gm gp us' s2 its P) (ho : Only (KJ B w) w w') : AddRet B g gm gp us r w (.returned (.int .i64 0)) w' :=
 ⟨ho, fun y hy => (by rw [h] at hy; cases hy), fun s3 h3 => (by rw [h] at h3; injection h3 with h3; subst h3; exact ⟨rfl, _, _, _, hu, hk⟩)⟩
theorem resB {W : World} {g : Nat} {r : ResV} {V1 V2 V3 V4 : Value} (h : Blk W g 46 (resc r V1 V2 V3 V4)) : W.cell? ⟨g, 9, none⟩ = some (.int .u64 r.at_) ∧ W.cell? ⟨g, 10, none⟩ = some (.int .i64 r.err) ∧ W.cell? ⟨g, 11, none⟩ = some (.bool r.hit) ∧ W.cell? ⟨g, 12, none⟩ = some V2 ∧ W.cell? ⟨g, 13, none⟩ = some (.string r.ent.key) ∧ W.cell? ⟨g, 14, none⟩ = some V3 ∧ W.cell? ⟨g, 15, none⟩ = some (.int .u64 r.ent.dl) ∧ W.cell? ⟨g, 16, none⟩ = some (.int .u64 r.ent.birth) ∧ W.cell? ⟨g, 17, none⟩ = some (.int .i64 r.cursor) ∧ W.cell? ⟨g, 18, none⟩ = some V4 ∧ W.cell? ⟨g, 19, none⟩ = some (.int .i64 r.len) ∧ W.cell? ⟨g, 20, none⟩ = some (.int .i64 r.cost) :=
 ⟨h.cell 9 _ rfl, h.cell 10 _ rfl, h.cell 11 _ rfl, h.cell 12 _ rfl, h.cell 13 _ rfl, h.cell 14 _ rfl, h.cell 15 _ rfl, h.cell 16 _ rfl, h.cell 17 _ rfl, h.cell 18 _ rfl, h.cell 19 _ rfl, h.cell 20 _ rfl⟩
theorem wantB {W : World} {g : Nat} {x : WantV} {V1 V2 : Value} (h : Blk W g 46 (wantc x V1 V2)) : W.cell? ⟨g, 11, none⟩ = some (.bool x.hit) ∧ W.cell? ⟨g, 12, none⟩ = some V1 ∧ W.cell? ⟨g, 13, none⟩ = some (.string x.ent.key) ∧ W.cell? ⟨g, 14, none⟩ = some V2 ∧ W.cell? ⟨g, 15, none⟩ = some (.int .u64 x.ent.dl) ∧ W.cell? ⟨g, 16, none⟩ = some (.int .u64 x.ent.birth) ∧ W.cell? ⟨g, 17, none⟩ = some (.int .i64 x.cursor) :=
 ⟨h.cell 11 _ rfl, h.cell 12 _ rfl, h.cell 13 _ rfl, h.cell 14 _ rfl, h.cell 15 _ rfl, h.cell 16 _ rfl, h.cell 17 _ rfl⟩
end Go.Proofs.YtnabbimompapfaaGreat
namespace Go.Proofs.YtnabbimompapfaaGreat
open Go Go.RowKit Go.MapKept Go.Maps
theorem events_err {s : PJ} {o : OpV} {e t : Int} {l : List EvV} {x : Int} (h : eventsP s o e t l = .error x) : x ≠ 0 := by
 unfold eventsP at h
 split at h
 ·injection h with h; omega
 ·split at h
  ·injection h with h; omega
  ·split at h
   ·injection h with h; omega
   ·split at h
    ·rename_i hev
     have := evictP_err _ _ _ _ hev
     injection h with h
     omega
    ·cases h
set_option maxRecDepth 100000 in
set_option maxHeartbeats 16000000 in
theorem add_any (N B Bv g gm gp : Nat) (us : Int) (s : PJ) (its : List It) (P : List (Int × Int)) (r : ResV) (V1 V2 V3 V4 : Value) (xs : List (EvV × Value)) (w : World) (h : JRep w B g gm gp us s its P) (hi : PInv N s) (hn : N ≤ 80000) (hB : Bv ≤ B ∧ B ≤ w.heap.size) (hR : ResAt w Bv r V1 V2 V3 V4 xs) (hO : ResOk r)
  (hc : -9223372036854775808 ≤ r.op.cursor ∧ r.op.cursor ≤ 9223372036854775807) (hks : ∀ p ∈ xs, p.1.key.size ≤ maxLen) (hus : 0 ≤ us ∧ us ≤ 1000000000000) :
  Calls Tryz.prog 23 #[.pointer (some ⟨g, 0, none⟩), resv r V1 V2 V3 V4] w (AddRet B g gm gp us (jstep s r) w) := by
 obtain ⟨A1, c1, rfl⟩ := hR.a1.form
 obtain ⟨A2, c2, rfl⟩ := hR.a2.form
 obtain ⟨A3, c3, rfl⟩ := hR.a3.form
 obtain ⟨A4, c4, rfl⟩ := hR.a4.slice
 have HX0 : Hid (AX w ((w.alloc (.cells (resc r (.slice A1 r.op.val.length c1) (.slice A2 r.val.length c2) (.slice A3 r.ent.val.length c3) (.slice A4 xs.length c4)) 46)).alloc (.cells (opc r.op (.slice A1 r.op.val.length c1)) 43)) B Bv g gm gp us s its P r (.slice A1 r.op.val.length c1) (.slice A2 r.val.length c2) (.slice A3 r.ent.val.length c3) (.slice A4 xs.length c4) xs) :=
  zH ⟨h.below (below_two _ _ _), (Blk.new _ _ _).alloc _, Blk.new2 _ _ _ _, hR.keep (KeepB.of_below (below_two _ _ _)), KJ.of_below (below_two _ _ _)⟩
 have hlen : its.length ≤ 1000000 := by have := h.lenI; have := hi.lenL; omega
 have HLe := zH hlen
 have HPi := zH hi
 have HN := zH hn
 have HBB := zH hB
 have HO := zH hO
 have HC := zH hc
 have HKs := zH hks
 have HU := zH hus
 have HEvs := zH hR.evs
 have hn5 := hi.now
 unfold resv resc
 unfold resc opc at HX0
 have HAd := zH (fun W => tickAdd_any s.now r.op.ticks W hn5.1 hn5.2 hO.ticks)
 clear h hi hn hB hR hO hc hks hus hlen hn5
 go_enter Tryz.func23, Tryz.ntmps23
 go_upto_region 2 with fail
 generalize World.alloc _ _ = W0 at HX0 ⊢
 refine wp_region_noPanic ?_
 refine wp_region_held_drew (S := fun W => AX w W B Bv g gm gp us s its P r (.slice A1 r.op.val.length c1) (.slice A2 r.val.length c2) (.slice A3 r.ent.val.length c3) (.slice A4 xs.length c4) xs) (by kernel_rfl) (HX0.out.adv (zL _ _).drew) (fun hHeld => ?_)
 generalize W0.drew = W1 at hHeld ⊢
 have HX1 := zH hHeld
 refine Pl.go [0, 1, 2, 3, 4, 5] ?_
 iterate 6
  refine tkl (v := ?_) ?_ ?_
  rotate_left 1
  ·intro W hSw
   have z1 : W.cell? ⟨w.heap.size + 1, 1, none⟩ = some (.int .u64 r.op.ticks) := hSw.ob.cell 1 _ rfl; obtain ⟨-, -, -, -, -, d5, -⟩ := hSw.rep.cells
   clear hSw
   go_simp
   try with_reducible rfl
  try dsimp only [zS, zB, zC]
 refine Pl.stop ?_
 refine wpAnyH_ready (rs := [6]) (by kernel_rfl) (by simp) ?_
 refine AllReadyH.cons (o := ⟨_, _, _, _, _, _⟩) rfl (fun F hF => ?_) AllReadyH.nil
 go_simp
 refine (HAd.out W1).mono ?_
 rintro e2 w4 ⟨rfl, hw4⟩
 subst hw4
 go_wp2_with fail
 refine hF.out _ _ HX1.out (fun hHeld => ?_)
 clear hF F
 try simp only [Act.put, zA, zB, zC]
 refine tk 7 (v := ?_) ?_ ?_
 rotate_left 1
 ·intro W hSw
  skip
  clear hSw
  go_simp
  try with_reducible rfl
 try dsimp only [zS, zB, zC]
 refine wpAnyH_done (by kernel_rfl) ?_ _
 refine NoPanic.normal ?_
 clear hHeld HX0
 obtain ⟨t1, ht1⟩ : ∃ t1, addP s.now r.op.ticks = t1 := ⟨_, rfl⟩
 have HT1 := zH ht1
 rw [ht1] at HAd ⊢
 obtain ⟨e0, he0⟩ : ∃ e0, rightP s r.op t1 = e0 := ⟨_, rfl⟩
 have HE0 := zH he0
 have HRt := zH (he0 ▸ right_any B Bv g gm gp us s its P r.op (.slice A1 r.op.val.length c1) t1 W1 HX1.out.rep HX1.out.a.a1 HO.out.key HC.out HPi.out.pls HLe.out HPi.out.asc)
 unfold opv opc at HRt
 clear ht1 he0 HAd
 obtain ⟨z0, z1, z2, z3, z4, z5, z6, z7, z8⟩ := op9 HX1.out.ob
 go_wp2_with fail
 refine HRt.out.mono ?_
 rintro e2 w2 ⟨rfl, hb2⟩
 have HX2 := zH (HX1.out.adv hb2)
 clear hb2 z0 z1 z2 z3 z4 z5 z6 z7 z8 HX1 HRt
 obtain ⟨z0, z1, z2, z3, z4, z5, z6, z7, z8⟩ := op9 HX2.out.ob
 obtain ⟨r9, r10, -⟩ := resB HX2.out.rb
 obtain ⟨-, -, -, -, -, d5, -⟩ := HX2.out.rep.cells
 by_cases hk1 : r.op.kind < 1
 ·have HS := zH (jstep_8 (s := s) (r := r) (.inl hk1))
  go_wp2_with fail
  go_ret
  exact AddRet.err HS.out (HX2.out.only)
 ·by_cases hk14 : 14 < r.op.kind
  ·have HS := zH (jstep_8 (s := s) (r := r) (.inr (.inl hk14)))
   go_wp2_with fail
   go_ret
   exact AddRet.err HS.out (HX2.out.only)
  ·by_cases herr : r.err = e0
   ·have HGd : Hid (¬ (r.op.kind < 1 ∨ 14 < r.op.kind ∨ r.err ≠ rightP s r.op (addP s.now r.op.ticks))) := zH (by
     rw [HT1.out, HE0.out]; omega)
    have HKd : Hid (1 ≤ r.op.kind ∧ r.op.kind ≤ 14) := zH (by omega)
    have herb : (r.err != e0) = false := by simp [herr]
    have HEr := zH herr
    obtain ⟨q, hq2⟩ : ∃ q, refusedP r.op e0 = q := ⟨_, rfl⟩
    rw [hq2]
    have HQ : Hid (refusedP r.op r.err = q) := zH (by rw [herr]; exact hq2)
    clear herr hq2
    go_upto_if 41 with fail
    obtain ⟨t2, ht2⟩ : ∃ t2, (if q = true then s.now else t1) = t2 := ⟨_, rfl⟩
    have HT2 := zH ht2
    clear ht2
    go_cut [6] (fun at_ wc => at_ = .int .u64 t2 ∧ wc = w2)
    case first =>
     cases q with
     |true =>
      go_wp2_with fail
      go_meet
      exact ⟨by rw [← HT2.out]; rfl, rfl⟩
     |false =>
      go_wp2_with fail
      go_meet
      exact ⟨by rw [← HT2.out]; rfl, rfl⟩
    case rest =>
     obtain ⟨hat0, hwc⟩ := hcut
     subst hat0
     rw [hwc]
     clear hwc
     by_cases hat : r.at_ = t2
     ·have hatb : (r.at_ != t2) = false := by simp [hat]
      have HAt := zH hat
      have f5 := HX2.out.rep.blk.frozen 5
      clear hat
      go_upto_region 11 with fail
      obtain ⟨hj3, ho3⟩ := HX2.out.rep.setNow t2
      have HX3 := zH (HX2.out.nextK hj3 ho3 HBB.out.1)
      clear hj3 ho3 z0 z1 z2 z3 z4 z5 z6 z7 z8 r9 r10 d5 f5 hatb
      generalize w2.setCell _ _ = w3 at HX3 ⊢
      go_upto_block 0 with fail
      have hb4 : Below w3.heap.size w3 (w3.alloc (.cells #[.int .i64 0, .int .u64 0, .string ⟨#[]⟩, .slice none 0 0, .int .u64 0, .int .i64 0, .int .i64 0, .int .i64 0, .int .u64 0, .int .u64 0, .int .i64 0, .bool false, .slice none 0 0, .string ⟨#[]⟩, .slice none 0 0, .int .u64 0, .int .u64 0, .int .i64 0, .slice none 0 0, .int .i64 0, .int .i64 0] 46)) := (zL _ _).alloc (zN _) _
      have HX4 := zH (HX3.out.adv hb4)
      have HGw : Hid (w.heap.size + 1 < w3.heap.size) := zH HX3.out.ob.lt
      have HW4 : Hid (WX (w3.alloc (.cells #[.int .i64 0, .int .u64 0, .string ⟨#[]⟩, .slice none 0 0, .int .u64 0, .int .i64 0, .int .i64 0, .int .i64 0, .int .u64 0, .int .u64 0, .int .i64 0, .bool false, .slice none 0 0, .string ⟨#[]⟩, .slice none 0 0, .int .u64 0, .int .u64 0, .int .i64 0, .slice none 0 0, .int .i64 0, .int .i64 0] 46)) B w3.heap.size want0 (.slice none 0 0) (.slice none 0 0)) := zH ⟨Blk.new _ _ _, Bts.nil _ _ _, Bts.nil _ _ _, by have := HBB.out.2; have := HX3.out.only.size; omega⟩
      clear hb4
      generalize w3.alloc _ = w4 at HX4 HW4 ⊢
      generalize w3.heap.size = gw at HW4 HGw ⊢
      clear HX3 HX2
      go_cut [] (fun wc => ∃ us2 s2 its2 P2 x Vw Ve, AX w wc B Bv g gm gp us2 s2 its2 P2 r (.slice A1 r.op.val.length c1) (.slice A2 r.val.length c2) (.slice A3 r.ent.val.length c3) (.slice A4 xs.length c4) xs ∧ WX wc B gw x Vw Ve ∧ jstep s r = endP r s2 x ∧ (us ≤ us2 ∧ us2 ≤ us + 1))
      case first =>
       obtain ⟨-, -, -, -, -, -, -, -, -, r18, -⟩ := resB HX4.out.rb
       cases q with
       |true =>
        have ht2s : s.now = t2 := by rw [← HT2.out]; rfl
        subst ht2s
        have HJ : Hid (jstep s r = if noExp (xs.map Prod.fst) = false then .error 3 else if xs.map Prod.fst ≠ [] then .error 2 else endP r s want0) := zH (by
         rw [jstep_no HGd.out HQ.out, if_neg (fun e => e HAt.out), ← HEvs.out])
        have HEx := zH (expired_any Bv _ xs w4 HX4.out.a.a4)
        obtain ⟨ne, hne⟩ : ∃ ne, noExp (xs.map Prod.fst) = ne := ⟨_, rfl⟩
        have HNe := zH hne
        rw [hne] at HEx
        clear hne
        go_wp2_with fail
        refine HEx.out.mono ?_
        rintro e5 w5 ⟨rfl, hb5⟩
        have HX5 := zH (HX4.out.adv hb5)
        have HW5 := zH (HW4.out.adv hb5)
        clear hb5 r18 HX4 HW4 HEx
        obtain ⟨-, -, -, -, -, -, -, -, -, r18, -⟩ := resB HX5.out.rb
        cases ne with
        |false =>
         have HS : Hid (jstep s r = .error 3) := zH (by rw [HJ.out, if_pos HNe.out])
         go_wp2_with fail
         go_ret
         exact AddRet.err HS.out (HX5.out.only)
        |true =>
         by_cases hx0 : xs.length = 0
         ·have HXe : Hid (xs = []) := zH (List.length_eq_zero_iff.1 hx0)
          have HSe : Hid (jstep s r = endP r s want0) := zH (by rw [HJ.out, if_neg (by rw [HNe.out]; decide), if_neg (by rw [HXe.out]; simp)])
          clear hx0
          go_wp2_with fail
          ·rename_i hbad
           exact absurd hbad (by rw [HXe.out]; simp)
          ·go_meet
           exact ⟨us, s, its, P, want0, _, _, HX5.out, HW5.out, HSe.out, Int.le_refl _, by omega⟩
         ·have HS : Hid (jstep s r = .error 2) := zH (by rw [HJ.out, if_neg (by rw [HNe.out]; decide), if_pos (fun e => hx0 (by have := congrArg List.length e; simpa using this))])
          have hlz : 0 < xs.length := by omega
          have hlz2 : (0 : Int) < (xs.length : Int) := by omega
          clear hx0
          go_wp2_with fail
          go_ret
          exact AddRet.err HS.out (HX5.out.only)
       |false =>
        have ht2s : t1 = t2 := by rw [← HT2.out]; rfl
        subst ht2s
        have HJ : Hid (jstep s r = match eventsP s r.op e0 t1 (xs.map Prod.fst) with | .error x => .error x | .ok (s2, w) => endP r s2 w) := zH (by
         rw [jstep_yes HGd.out HQ.out, if_neg (by rw [HAt.out, HT1.out]; exact fun e => e rfl), HT1.out, HEr.out, ← HEvs.out]
         rfl)
        have hrf : refusedP r.op (rightP s r.op t1) = false := by rw [HE0.out, ← HEr.out]; exact HQ.out
        have hinv : PInv N { s with now := t1 } := ⟨HPi.out.asc, HPi.out.low, HPi.out.keys, HPi.out.und, HPi.out.mem, HPi.out.pls, HPi.out.cnt, HPi.out.ok, HT1.out ▸ addP_range HPi.out.now.1 HO.out.ticks⟩
        have hef := effOk_of HKd.out hrf HPi.out.pls
        rw [HE0.out] at hef
        have HEvt : Hid (Calls Tryz.prog 44 #[.pointer (some ⟨g, 0, none⟩), opv r.op (.slice A1 r.op.val.length c1), .int .i64 e0, .slice A4 xs.length c4] w4 (EvtsRet B g gm gp us (eventsP s r.op e0 t1 (xs.map Prod.fst)) w4)) := zH (events_any N B Bv g gm gp us { s with now := t1 } its P r.op (.slice A1 r.op.val.length c1) e0 (.slice A4 xs.length c4) xs w4 HX4.out.rep HX4.out.a.a1 HO.out.key hinv HN.out ⟨HBB.out.1, Nat.le_trans HBB.out.2 HX4.out.only.size⟩ HX4.out.a.a4 HKs.out HU.out HO.out.ttl HC.out HKd.out (right_cases HKd.out hrf HPi.out.pls).2.1 hef)
        unfold opv opc at HEvt
        clear hrf hinv hef
        obtain ⟨z0, z1, z2, z3, z4, z5, z6, z7, z8⟩ := op9 HX4.out.ob
        go_wp2_with fail
        refine HEvt.out.mono ?_
        rintro e5 w5 ⟨ho5, herr5, hok5⟩
        have HO5 := zH (KJ.trans HX4.out.only ho5)
        have HWb5 := zH (HW4.out.nextJ ho5)
        have HRb5 := zH (HX4.out.rb.only ho5 (KJ.not_ HX4.out.rb (by decide) (by decide)))
        have HOb5 := zH (HX4.out.ob.only ho5 (KJ.not_ HX4.out.ob (by decide) (by decide)))
        have HRa5 := zH (HX4.out.a.keep (KJ.keepB ho5 HBB.out.1))
        clear r18 z0 z1 z2 z3 z4 z5 z6 z7 z8 HEvt HX4 HW4 ho5
        obtain ⟨er, her⟩ : ∃ er, eventsP s r.op e0 t1 (xs.map Prod.fst) = er := ⟨_, rfl⟩
        have HEr5 := zH her
        rw [her] at HJ herr5 hok5
        clear her
        cases er with
        |error x =>
         obtain ⟨wv, B1, B2, n1, n2, d1, d2, he⟩ := herr5 x rfl
         subst he
         have HS : Hid (jstep s r = .error x) := zH HJ.out
         have hxz : (x != 0) = true := by
          have := events_err HEr5.out
          rw [bne_iff_ne]; exact this
         clear herr5 hok5
         go_upto_region 14 with (refine wpList_store_row rfl 46 _ _ rfl gw _ rfl rfl 46 _ HWb5.out.b (by kernel_rfl) rfl (by simp [wantc, Value.oneCell']) ?_)
         have HO6 : Hid (Only (KJ B w) w _) := zH (KJ.result (by have := HGw.out; omega) HO5.out ((Only.refl (fun k => k = gw) w5).setRow (.inl rfl) (wantc wv (.slice B1 n1 d1) (.slice B2 n2 d2))))
         generalize w5.setRow _ _ = w6 at HO6 ⊢
         go_wp2_with fail
         go_ret
         exact AddRet.err HS.out (HO6.out)
        |ok sw =>
         obtain ⟨s2, wv⟩ := sw
         obtain ⟨B1, B2, d1, d2, he, hvw, hve, us5, its5, P5, hu5, hj5⟩ := hok5 s2 wv rfl
         subst he
         have HJs : Hid (jstep s r = endP r s2 wv) := zH HJ.out
         have hor := (Only.refl (fun k => k = gw) w5).setRow (.inl rfl) (wantc wv (.slice B1 wv.val.length d1) (.slice B2 wv.ent.val.length d2))
         have HX6 : Hid (AX w (w5.setRow gw (wantc wv (.slice B1 wv.val.length d1) (.slice B2 wv.ent.val.length d2))) B Bv g gm gp us5 s2 its5 P5 r (.slice A1 r.op.val.length c1) (.slice A2 r.val.length c2) (.slice A3 r.ent.val.length c3) (.slice A4 xs.length c4) xs) := zH (AX.other ⟨hj5, HRb5.out, HOb5.out, HRa5.out, HO5.out⟩ HWb5.out.b hor HWb5.out.lt HBB.out.1 HGw.out)
         have hkb := KeepB.of_blk (B := B) (U := 5) HWb5.out.b (by decide) HWb5.out.lt hor
         have HW6 : Hid (WX (w5.setRow gw (wantc wv (.slice B1 wv.val.length d1) (.slice B2 wv.ent.val.length d2))) B gw wv (.slice B1 wv.val.length d1) (.slice B2 wv.ent.val.length d2)) := zH ⟨HWb5.out.b.row _, hvw.keep hkb, hve.keep hkb, HWb5.out.lt⟩
         have HU5 := zH hu5
         clear herr5 hok5 hvw hve hj5 hor hkb hu5
         go_upto_region 14 with (refine wpList_store_row rfl 46 _ _ rfl gw _ rfl rfl 46 _ HWb5.out.b (by kernel_rfl) rfl (by simp [wantc, Value.oneCell']) ?_)
         generalize w5.setRow _ _ = w6 at HX6 HW6 ⊢
         go_wp2_with fail
         go_meet
         exact ⟨us5, s2, its5, P5, wv, _, _, HX6.out, HW6.out, HJs.out, HU5.out⟩
      case rest =>
       obtain ⟨us2, s2, its2, P2, x, Vw, Ve, hax, hwx, hjs, hu2⟩ := hcut
       obtain ⟨Aw, cw, rfl⟩ := hwx.v.form
       obtain ⟨Ae, ce, rfl⟩ := hwx.e.form
       have HJs := zH hjs
       have HU2 := zH hu2
       have H2 := zH (And.intro hax hwx)
       clear hax hwx hjs hu2
       obtain ⟨-, -, -, -, r13, r14, r15, r16, -⟩ := resB H2.out.1.rb
       obtain ⟨-, -, b13, b14, b15, b16, -⟩ := wantB H2.out.2.b
       have HEq := zH (entryEqual_any Bv B r.ent x.ent _ _ wc H2.out.1.a.a3 H2.out.2.e)
       obtain ⟨q4, hq4⟩ : ∃ q4, decide (r.ent = x.ent) = q4 := ⟨_, rfl⟩
       have HQ4 := zH hq4
       rw [hq4] at HEq
       clear hq4
       unfold entv entc at HEq
       go_wp2_with fail
       refine HEq.out.mono ?_
       rintro e4 w4 ⟨rfl, hb4⟩
       have H4 := zH (And.intro (H2.out.1.adv hb4) (H2.out.2.adv hb4))
       clear hb4 H2 r13 r14 r15 r16 b13 b14 b15 b16 HEq
       go_upto_region 21 with fail
       refine wp_region_noPanic ?_
       refine wp_region_held_drew (S := fun W => AX w W B Bv g gm gp us2 s2 its2 P2 r (.slice A1 r.op.val.length c1) (.slice A2 r.val.length c2) (.slice A3 r.ent.val.length c3) (.slice A4 xs.length c4) xs ∧ WX W B gw x (.slice Aw x.val.length cw) (.slice Ae x.ent.val.length ce)) (by kernel_rfl) ⟨H4.out.1.adv (zL _ _).drew, H4.out.2.adv (zL _ _).drew⟩ (fun hHeld => ?_)
       clear H4
       generalize w4.drew = W5 at hHeld ⊢
       have H5 := zH hHeld
       refine tk 0 (v := ?_) ?_ ?_
       rotate_left 1
       ·intro W hSw
        skip
        clear hSw
        go_simp
        try with_reducible rfl
       try dsimp only [zS, zB, zC]
       refine wpAnyH_ready (rs := [1]) (by kernel_rfl) (by simp) ?_
       refine AllReadyH.cons (o := ⟨_, _, _, _, _, _⟩) rfl (fun F hF => ?_) AllReadyH.nil
       go_simp
       refine (within_any B g gm gp us2 s2 its2 P2 W5 H5.out.1.rep).mono ?_
       rintro e6 w6 ⟨rfl, hb6⟩
       have H6 := zH (And.intro (H5.out.1.adv hb6) (H5.out.2.adv hb6))
       have HLn : Hid ((s2.L.length : Int) = its2.length) := zH (by rw [H6.out.1.rep.lenI])
       clear hb6 H5 hHeld
       by_cases hw : withinP s2
       ·rw [decide_eq_true hw]
        have HWi := zH hw
        clear hw
        go_wp2_with fail
        refine hF.out _ _ H6.out (fun hHeld => ?_)
        clear hF F
        try simp only [Act.put, zA, zB, zC]
        refine Pl.go [2, 3] ?_
        iterate 2
         refine tkl (v := ?_) ?_ ?_
         rotate_left 1
         ·intro W hSw
          skip
          clear hSw
          go_simp
          try with_reducible rfl
         try dsimp only [zS, zB, zC]
        refine Pl.stop ?_
        by_cases d3 : r.len = (its2.length : Int)
        ·have d3b : (r.len != (its2.length : Int)) = false := by simp [d3]
         have HD3 := zH d3
         clear d3
         refine Pl.go [4, 5, 6, 7, 8, 9, 10, 11, 12, 13] ?_
         iterate 10
          refine tkl (v := ?_) ?_ ?_
          rotate_left 1
          ·intro W hSw
           obtain ⟨-, -, -, -, -, -, -, -, -, -, r19, r20⟩ := resB hSw.1.rb; obtain ⟨-, -, -, -, -, -, -, -, d8, d9, -⟩ := hSw.1.rep.cells; have hln : ∀ ty, (Builtin.len_ #[89] ty #[.map (some gm)]).run Tryz.prog W = .ok (.int .i64 its2.length) W := fun ty => by have := hSw.1.rep.items.len (P := Tryz.prog) ty; rwa [List.length_map] at this
           clear hSw
           go_simp
           try with_reducible rfl
          try dsimp only [zS, zB, zC]
         refine Pl.stop ?_
         by_cases d4 : r.cost = costP s2.L
         ·have d4b : (r.cost != costP s2.L) = false := by simp [d4]
          have HD4 := zH d4
          clear d4
          refine Pl.go [14, 15, 16, 17, 18, 19, 20, 21, 22] ?_
          iterate 9
           refine tkl (v := ?_) ?_ ?_
           rotate_left 1
           ·intro W hSw
            obtain ⟨-, -, -, -, -, -, -, -, -, -, r19, r20⟩ := resB hSw.1.rb; obtain ⟨-, -, -, -, -, -, -, -, d8, d9, -⟩ := hSw.1.rep.cells; have hln : ∀ ty, (Builtin.len_ #[89] ty #[.map (some gm)]).run Tryz.prog W = .ok (.int .i64 its2.length) W := fun ty => by have := hSw.1.rep.items.len (P := Tryz.prog) ty; rwa [List.length_map] at this
            clear hSw
            go_simp
            try with_reducible rfl
           try dsimp only [zS, zB, zC]
          refine Pl.stop ?_
          refine wpAnyH_done (by kernel_rfl) ?_ _
          refine NoPanic.normal ?_
          clear hHeld d3b d4b
          have HSe : Hid (jstep s r = if r.hit ≠ x.hit ∨ r.val ≠ x.val ∨ (r.ent ≠ x.ent ∧ r.op.kind ≠ 12) then .error 6 else if r.cursor ≠ x.cursor ∨ r.ent ≠ x.ent then .error 7 else .ok s2) := zH (by
           rw [HJs.out]
           unfold endP
           rw [if_neg (by rintro (h | h | h); exact h HWi.out; exact h (by rw [HLn.out]; exact HD3.out); exact h HD4.out)])
          obtain ⟨-, -, r11, r12, -, -, -, -, r17, -⟩ := resB H6.out.1.rb
          obtain ⟨b11, b12, -, -, -, -, b17⟩ := wantB H6.out.2.b
          obtain ⟨z0, -⟩ := op9 H6.out.1.ob
          by_cases e1 : r.hit = x.hit
          ·have e1b : (r.hit != x.hit) = false := by rw [e1]; simp
           have HBe := zH (bytesEqual_any Bv B _ _ r.val x.val w6 H6.out.1.a.a2 H6.out.2.v)
           by_cases e2 : r.val = x.val
           ·rw [decide_eq_true e2] at HBe
            by_cases e3 : q4 = false ∧ r.op.kind ≠ 12
            ·have HS : Hid (jstep s r = .error 6) := zH (by rw [HSe.out, if_pos (.inr (.inr ⟨of_decide_eq_false (HQ4.out.trans e3.1), e3.2⟩))])
             have hk12 : (r.op.kind != 12) = true := by simp [e3.2]
             obtain ⟨rfl, -⟩ := e3
             clear e2
             go_wp2_with fail
             refine HBe.out.mono ?_
             rintro e7 w7 ⟨rfl, hww⟩
             subst hww
             go_wp2_with fail
             go_ret
             exact AddRet.err HS.out (H6.out.1.only)
            ·have HSe2 : Hid (jstep s r = if r.cursor ≠ x.cursor ∨ r.ent ≠ x.ent then .error 7 else .ok s2) := zH (by
              rw [HSe.out, if_neg (by
               rintro (h | h | ⟨h, h'⟩)
               ·exact h e1
               ·exact h e2
               ·refine e3 ⟨?_, h'⟩
                rw [← HQ4.out]; exact decide_eq_false h)])
             clear e2
             cases q4 with
             |true =>
              go_wp2_with fail
              refine HBe.out.mono ?_
              rintro e7 w7 ⟨rfl, hww⟩
              subst hww
              by_cases e5 : r.cursor = x.cursor
              ·have e5b : (r.cursor != x.cursor) = false := by simp [e5]
               have HS : Hid (jstep s r = .ok s2) := zH (by rw [HSe2.out, if_neg (by rintro (h | h); exact h e5; exact h (of_decide_eq_true HQ4.out))])
               clear e5
               go_wp2_with fail
               go_ret
               exact AddRet.ok HS.out HU2.out H6.out.1.rep H6.out.1.only
              ·have e5b : (r.cursor != x.cursor) = true := by simp [e5]
               have HS : Hid (jstep s r = .error 7) := zH (by rw [HSe2.out, if_pos (.inl e5)])
               clear e5
               go_wp2_with fail
               go_ret
               exact AddRet.err HS.out (H6.out.1.only)
             |false =>
              have hk12 : (r.op.kind != 12) = false := by
               rw [bne_eq_false_iff_eq]
               exact Classical.byContradiction fun h => e3 ⟨rfl, h⟩
              clear e3
              have HS : Hid (jstep s r = .error 7) := zH (by rw [HSe2.out, if_pos (.inr (of_decide_eq_false HQ4.out))])
              by_cases e5 : r.cursor = x.cursor
              ·have e5b : (r.cursor != x.cursor) = false := by simp [e5]
               clear e5
               go_wp2_with fail
               refine HBe.out.mono ?_
               rintro e7 w7 ⟨rfl, hww⟩
               subst hww
               go_wp2_with fail
               go_ret
               exact AddRet.err HS.out (H6.out.1.only)
              ·have e5b : (r.cursor != x.cursor) = true := by simp [e5]
               clear e5
               go_wp2_with fail
               refine HBe.out.mono ?_
               rintro e7 w7 ⟨rfl, hww⟩
               subst hww
               go_wp2_with fail
               go_ret
               exact AddRet.err HS.out (H6.out.1.only)
           ·rw [decide_eq_false e2] at HBe
            have HS : Hid (jstep s r = .error 6) := zH (by rw [HSe.out, if_pos (.inr (.inl e2))])
            clear e2
            go_wp2_with fail
            refine HBe.out.mono ?_
            rintro e7 w7 ⟨rfl, hww⟩
            subst hww
            go_wp2_with fail
            go_ret
            exact AddRet.err HS.out (H6.out.1.only)
          ·have HS : Hid (jstep s r = .error 6) := zH (by rw [HSe.out, if_pos (.inl e1)])
           go_wp2_with fail
           go_ret
           exact AddRet.err HS.out (H6.out.1.only)
         ·have d4b : (r.cost != costP s2.L) = true := by simp [d4]
          have HS : Hid (jstep s r = .error 5) := zH (by
           rw [HJs.out]
           unfold endP
           rw [if_pos (.inr (.inr d4))])
          clear d4
          refine Pl.go [14, 15, 16, 17, 18, 19, 20, 21, 22] ?_
          iterate 9
           refine tkl (v := ?_) ?_ ?_
           rotate_left 1
           ·intro W hSw
            obtain ⟨-, -, -, -, -, -, -, -, -, -, r19, r20⟩ := resB hSw.1.rb; obtain ⟨-, -, -, -, -, -, -, -, d8, d9, -⟩ := hSw.1.rep.cells; have hln : ∀ ty, (Builtin.len_ #[89] ty #[.map (some gm)]).run Tryz.prog W = .ok (.int .i64 its2.length) W := fun ty => by have := hSw.1.rep.items.len (P := Tryz.prog) ty; rwa [List.length_map] at this
            clear hSw
            go_simp
            try with_reducible rfl
           try dsimp only [zS, zB, zC]
          refine Pl.stop ?_
          refine wpAnyH_done (by kernel_rfl) ?_ _
          refine NoPanic.normal ?_
          go_wp2_with fail
          go_ret
          exact AddRet.err HS.out (hHeld.1.only)
        ·have d3b : (r.len != (its2.length : Int)) = true := by simp [d3]
         have HS : Hid (jstep s r = .error 5) := zH (by
          rw [HJs.out]
          unfold endP
          rw [if_pos (.inr (.inl (by rw [HLn.out]; exact d3)))])
         clear d3
         refine Pl.go [4, 5, 6, 7, 8, 9, 10, 11, 12, 13] ?_
         iterate 10
          refine tkl (v := ?_) ?_ ?_
          rotate_left 1
          ·intro W hSw
           obtain ⟨-, -, -, -, -, -, -, -, -, -, r19, r20⟩ := resB hSw.1.rb; obtain ⟨-, -, -, -, -, -, -, -, d8, d9, -⟩ := hSw.1.rep.cells; have hln : ∀ ty, (Builtin.len_ #[89] ty #[.map (some gm)]).run Tryz.prog W = .ok (.int .i64 its2.length) W := fun ty => by have := hSw.1.rep.items.len (P := Tryz.prog) ty; rwa [List.length_map] at this
           clear hSw
           go_simp
           try with_reducible rfl
          try dsimp only [zS, zB, zC]
         refine Pl.stop ?_
         refine Pl.go [14, 15, 16, 17, 18, 19, 20] ?_
         iterate 7
          refine skl ?_
          try dsimp only [zS, zB, zC]
         refine Pl.stop ?_
         refine Pl.go [21, 22] ?_
         iterate 2
          refine tkl (v := ?_) ?_ ?_
          rotate_left 1
          ·intro W hSw
           skip
           clear hSw
           go_simp
           try with_reducible rfl
          try dsimp only [zS, zB, zC]
         refine Pl.stop ?_
         refine wpAnyH_done (by kernel_rfl) ?_ _
         refine NoPanic.normal ?_
         go_wp2_with fail
         go_ret
         exact AddRet.err HS.out (hHeld.1.only)
       ·have HS : Hid (jstep s r = .error 5) := zH (by
         rw [HJs.out]
         unfold endP
         rw [if_pos (.inl hw)])
        rw [decide_eq_false hw]
        clear hw
        go_wp2_with fail
        refine hF.out _ _ H6.out (fun hHeld => ?_)
        clear hF F
        try simp only [Act.put, zA, zB, zC]
        refine Pl.go [2, 3] ?_
        iterate 2
         refine tkl (v := ?_) ?_ ?_
         rotate_left 1
         ·intro W hSw
          skip
          clear hSw
          go_simp
          try with_reducible rfl
         try dsimp only [zS, zB, zC]
        refine Pl.stop ?_
        refine Pl.go [4, 5, 6, 7, 8, 9, 10, 11] ?_
        iterate 8
         refine skl ?_
         try dsimp only [zS, zB, zC]
        refine Pl.stop ?_
        refine Pl.go [12, 13] ?_
        iterate 2
         refine tkl (v := ?_) ?_ ?_
         rotate_left 1
         ·intro W hSw
          skip
          clear hSw
          go_simp
          try with_reducible rfl
         try dsimp only [zS, zB, zC]
        refine Pl.stop ?_
        refine Pl.go [14, 15, 16, 17, 18, 19, 20] ?_
        iterate 7
         refine skl ?_
         try dsimp only [zS, zB, zC]
        refine Pl.stop ?_
        refine Pl.go [21, 22] ?_
        iterate 2
         refine tkl (v := ?_) ?_ ?_
         rotate_left 1
         ·intro W hSw
          skip
          clear hSw
          go_simp
          try with_reducible rfl
         try dsimp only [zS, zB, zC]
        refine Pl.stop ?_
        refine wpAnyH_done (by kernel_rfl) ?_ _
        refine NoPanic.normal ?_
        go_wp2_with fail
        go_ret
        exact AddRet.err HS.out (hHeld.1.only)
     ·have hatb : (r.at_ != t2) = true := by simp [hat]
      have HS : Hid (jstep s r = .error 1) := zH (by
       cases q with
       |true =>
        rw [jstep_no HGd.out HQ.out, if_pos (fun e => hat (by rw [e, ← HT2.out]; rfl))]
       |false =>
        rw [jstep_yes HGd.out HQ.out, if_pos (fun e => hat (by rw [e, ← HT2.out, HT1.out]; rfl))])
      clear hat
      go_wp2_with fail
      go_ret
      exact AddRet.err HS.out (HX2.out.only)
   ·have herb : (r.err != e0) = true := by simp [herr]
    have HS := zH (jstep_8 (s := s) (r := r) (.inr (.inr (by rw [HT1.out, HE0.out]; exact herr))))
    go_wp2_with fail
    go_ret
    exact AddRet.err HS.out (HX2.out.only)
end Go.Proofs.YtnabbimompapfaaGreat
namespace Go.Proofs.YtnabbimompapfaaGreat
open Go Go.RowKit Go.MapKept Go.Maps
theorem JRep.start {w : World} {g gm gp : Nat} {c : CfgV} {cs : Array Value} (h : Blk w g 92 cs) (hcs : cs = jc (start c) 0 0 gm gp) (hm : MRep KI w gm []) (hp : MRep KP w gp []) {B : Nat} (hB : B ≤ g ∧ B ≤ gm ∧ B ≤ gp) (ha : gm ≠ gp) : JRep w B g gm gp 0 (Go.Proofs.YtnabbimompapfaaGreat.start c) [] [] := by
 subst hcs
 refine ⟨h, hm, fun x hx => (by cases hx), fun x hx => (by cases hx), List.Pairwise.nil, List.Perm.nil, fun x hx => (by cases hx), List.Pairwise.nil, hp, fun k => ?_, ⟨hB.1, hB.2.1, hB.2.2, fun x hx => (by cases hx)⟩, ha, fun x hx => (by cases hx)⟩
 show none = openP (List.replicate 64 none) k
 unfold openP
 split
 ·rfl
 ·rw [List.getD_eq_getElem?_getD, List.getElem?_replicate]
  split <;> rfl
theorem begin_rep (w : World) (o : Obj) (c : CfgV) : JRep ((((w.alloc o).alloc (.map #[] 0)).alloc (.map #[] 0)).alloc (.cells (jc (Go.Proofs.YtnabbimompapfaaGreat.start c) 0 0 (w.heap.size + 1) (w.heap.size + 1 + 1)) 92)) w.heap.size (w.heap.size + 1 + 1 + 1) (w.heap.size + 1) (w.heap.size + 1 + 1) 0 (Go.Proofs.YtnabbimompapfaaGreat.start c) [] [] := by
 have h1 : (w.alloc o).heap.size = w.heap.size + 1 := by rw [World.size_alloc]
 have h2 : ((w.alloc o).alloc (.map #[] 0)).heap.size = w.heap.size + 1 + 1 := by rw [World.size_alloc, World.size_alloc]
 have h3 : (((w.alloc o).alloc (.map #[] 0)).alloc (.map #[] 0)).heap.size = w.heap.size + 1 + 1 + 1 := by rw [World.size_alloc, World.size_alloc, World.size_alloc]
 have a1 := ((MRep.made (K := KI) (w.alloc o)).alloc (.map #[] 0)).alloc (.cells (jc (Go.Proofs.YtnabbimompapfaaGreat.start c) 0 0 (w.heap.size + 1) (w.heap.size + 1 + 1)) 92)
 have a2 := (MRep.made (K := KP) ((w.alloc o).alloc (.map #[] 0))).alloc (.cells (jc (Go.Proofs.YtnabbimompapfaaGreat.start c) 0 0 (w.heap.size + 1) (w.heap.size + 1 + 1)) 92)
 have a3 := Blk.new (((w.alloc o).alloc (.map #[] 0)).alloc (.map #[] 0)) 92 (jc (Go.Proofs.YtnabbimompapfaaGreat.start c) 0 0 (w.heap.size + 1) (w.heap.size + 1 + 1))
 rw [h1] at a1
 rw [h2] at a2
 rw [h3] at a3
 exact JRep.start a3 rfl a1 a2 ⟨by omega, by omega, by omega⟩ (by omega)
def BegRet (c : CfgV) (w : World) (e : Ending) (w' : World) : Prop :=
 ∃ g gm gp, e = .returned (.pointer (some ⟨g, 0, none⟩)) ∧ JRep w' w.heap.size g gm gp 0 (start c) [] [] ∧ Below w.heap.size w w'
set_option maxRecDepth 100000 in
set_option maxHeartbeats 8000000 in
theorem begin_any (c : CfgV) (w : World) : Calls Tryz.prog 22 #[cfgv c] w (BegRet c w) := by
 unfold cfgv cfgc
 have hmm := @run_makeMap Tryz.prog
 go_enter Tryz.func22, Tryz.ntmps22
 have x0 : World.cell? (w.alloc (.cells #[.int .i64 c.count, .int .i64 c.bytes, .int .i64 c.prot, .int .u64 c.seed, .bool c.same] 24)) ⟨w.heap.size, 0, none⟩ = some (.int .i64 c.count) := (Blk.new w _ _).cell 0 _ rfl
 have x1 : World.cell? (w.alloc (.cells #[.int .i64 c.count, .int .i64 c.bytes, .int .i64 c.prot, .int .u64 c.seed, .bool c.same] 24)) ⟨w.heap.size, 1, none⟩ = some (.int .i64 c.bytes) := (Blk.new w _ _).cell 1 _ rfl
 have x2 : World.cell? (w.alloc (.cells #[.int .i64 c.count, .int .i64 c.bytes, .int .i64 c.prot, .int .u64 c.seed, .bool c.same] 24)) ⟨w.heap.size, 2, none⟩ = some (.int .i64 c.prot) := (Blk.new w _ _).cell 2 _ rfl
 have x3 : World.cell? (w.alloc (.cells #[.int .i64 c.count, .int .i64 c.bytes, .int .i64 c.prot, .int .u64 c.seed, .bool c.same] 24)) ⟨w.heap.size, 3, none⟩ = some (.int .u64 c.seed) := (Blk.new w _ _).cell 3 _ rfl
 have x4 : World.cell? (w.alloc (.cells #[.int .i64 c.count, .int .i64 c.bytes, .int .i64 c.prot, .int .u64 c.seed, .bool c.same] 24)) ⟨w.heap.size, 4, none⟩ = some (.bool c.same) := (Blk.new w _ _).cell 4 _ rfl
 go_wp2_with fail
 go_ret
 exact ⟨_, _, _, rfl, begin_rep w _ c, ((((zL _ _).alloc (zN _) _).alloc (by rw [World.size_alloc]; omega) _).alloc (by rw [World.size_alloc, World.size_alloc]; omega) _).alloc (by rw [World.size_alloc, World.size_alloc, World.size_alloc]; omega) _⟩
end Go.Proofs.YtnabbimompapfaaGreat
