/- AudKJ, AudKK, AudKL, AudSC -/
import Derived.Test.YtnabbimompapfaaMf13
import Derived.Deep.CutBlock
import Derived.Test.YtnabbimompapfaaMf3
namespace Go.Proofs.Ytnabbimompapfaa
open Go Go.RowKit Go.MapKept Go.Maps
theorem events_err {s : PJ} {o : OpV} {e t : Int} {l : List EvV} {x : Int} (h : eventsP s o e t l = .error x) : x ≠ 0 := by
 unfold eventsP at h
 split at h
 ·injection h with h; omega
 ·split at h
  ·injection h with h; omega
  ·split at h
   ·injection h with h; omega
   ·split at h
    ·rename_i hev
     have := evictP_err _ _ _ _ hev
     injection h with h
     omega
    ·cases h
set_option maxRecDepth 100000 in
set_option maxHeartbeats 16000000 in
theorem add_any (N B Bv g gm gp : Nat) (us : Int) (s : PJ) (its : List It) (P : List (Int × Int)) (r : ResV) (V1 V2 V3 V4 : Value) (xs : List (EvV × Value)) (w : World) (h : JRep w B g gm gp us s its P) (hi : PInv N s) (hn : N ≤ 80000) (hB : Bv ≤ B ∧ B ≤ w.heap.size) (hR : ResAt w Bv r V1 V2 V3 V4 xs) (hO : ResOk r)
  (hc : -9223372036854775808 ≤ r.op.cursor ∧ r.op.cursor ≤ 9223372036854775807) (hks : ∀ p ∈ xs, p.1.key.size ≤ maxLen) (hus : 0 ≤ us ∧ us ≤ 1000000000000) :
  Calls Try.prog 17 #[.pointer (some ⟨g, 0, none⟩), resv r V1 V2 V3 V4] w (AddRet B g gm gp us (jstep s r) w) := by
 obtain ⟨A1, c1, rfl⟩ := hR.a1.form
 obtain ⟨A2, c2, rfl⟩ := hR.a2.form
 obtain ⟨A3, c3, rfl⟩ := hR.a3.form
 obtain ⟨A4, c4, rfl⟩ := hR.a4.slice
 have HX0 : Hid (AX w ((w.alloc (.cells (resc r (.slice A1 r.op.val.length c1) (.slice A2 r.val.length c2) (.slice A3 r.ent.val.length c3) (.slice A4 xs.length c4)) 35)).alloc (.cells (opc r.op (.slice A1 r.op.val.length c1)) 29)) B Bv g gm gp us s its P r (.slice A1 r.op.val.length c1) (.slice A2 r.val.length c2) (.slice A3 r.ent.val.length c3) (.slice A4 xs.length c4) xs) :=
  zH ⟨h.below (below_two _ _ _), (Blk.new _ _ _).alloc _, Blk.new2 _ _ _ _, hR.keep (KeepB.of_below (below_two _ _ _)), KJ.of_below (below_two _ _ _)⟩
 have hlen : its.length ≤ 1000000 := by have := h.lenI; have := hi.lenL; omega
 have HLe := zH hlen
 have HPi := zH hi
 have HN := zH hn
 have HBB := zH hB
 have HO := zH hO
 have HC := zH hc
 have HKs := zH hks
 have HU := zH hus
 have HEvs := zH hR.evs
 have hn5 := hi.now
 unfold resv resc
 unfold resc opc at HX0
 have HAd := zH (fun W => tickAdd_any s.now r.op.ticks W hn5.1 hn5.2 hO.ticks)
 clear h hi hn hB hR hO hc hks hus hlen hn5
 go_enter Try.func17, Try.ntmps17
 go_upto_region 2 with fail
 generalize World.alloc _ _ = W0 at HX0 ⊢
 refine wp_region_noPanic ?_
 refine wp_region_held_drew (S := fun W => AX w W B Bv g gm gp us s its P r (.slice A1 r.op.val.length c1) (.slice A2 r.val.length c2) (.slice A3 r.ent.val.length c3) (.slice A4 xs.length c4) xs) (by kernel_rfl) (HX0.out.adv (zL _ _).drew) (fun hHeld => ?_)
 generalize W0.drew = W1 at hHeld ⊢
 have HX1 := zH hHeld
 refine Pl.go [0, 1, 2, 3, 4, 5] ?_
 iterate 6
  refine tkl (v := ?_) ?_ ?_
  rotate_left 1
  ·intro W hSw
   have z1 : W.cell? ⟨w.heap.size + 1, 1, none⟩ = some (.int .u64 r.op.ticks) := hSw.ob.cell 1 _ rfl; obtain ⟨-, -, -, -, -, d5, -⟩ := hSw.rep.cells
   clear hSw
   go_simp
   try with_reducible rfl
  try dsimp only [zS, zB, zC]
 refine Pl.stop ?_
 refine wpAnyH_ready (rs := [6]) (by kernel_rfl) (by simp) ?_
 refine AllReadyH.cons (o := ⟨_, _, _, _, _, _⟩) rfl (fun F hF => ?_) AllReadyH.nil
 go_simp
 refine (HAd.out W1).mono ?_
 rintro e2 w4 ⟨rfl, hw4⟩
 subst hw4
 go_wp2_with fail
 refine hF.out _ _ HX1.out (fun hHeld => ?_)
 clear hF F
 try simp only [Act.put, zA, zB, zC]
 refine tk 7 (v := ?_) ?_ ?_
 rotate_left 1
 ·intro W hSw
  skip
  clear hSw
  go_simp
  try with_reducible rfl
 try dsimp only [zS, zB, zC]
 refine wpAnyH_done (by kernel_rfl) ?_ _
 refine NoPanic.normal ?_
 clear hHeld HX0
 obtain ⟨t1, ht1⟩ : ∃ t1, addP s.now r.op.ticks = t1 := ⟨_, rfl⟩
 have HT1 := zH ht1
 rw [ht1] at HAd ⊢
 obtain ⟨e0, he0⟩ : ∃ e0, rightP s r.op t1 = e0 := ⟨_, rfl⟩
 have HE0 := zH he0
 have HRt := zH (he0 ▸ right_any B Bv g gm gp us s its P r.op (.slice A1 r.op.val.length c1) t1 W1 HX1.out.rep HX1.out.a.a1 HO.out.key HC.out HPi.out.pls HLe.out HPi.out.asc)
 unfold opv opc at HRt
 clear ht1 he0 HAd
 obtain ⟨z0, z1, z2, z3, z4, z5, z6, z7, z8⟩ := op9 HX1.out.ob
 go_wp2_with fail
 refine HRt.out.mono ?_
 rintro e2 w2 ⟨rfl, hb2⟩
 have HX2 := zH (HX1.out.adv hb2)
 clear hb2 z0 z1 z2 z3 z4 z5 z6 z7 z8 HX1 HRt
 obtain ⟨z0, z1, z2, z3, z4, z5, z6, z7, z8⟩ := op9 HX2.out.ob
 obtain ⟨r9, r10, -⟩ := resB HX2.out.rb
 obtain ⟨-, -, -, -, -, d5, -⟩ := HX2.out.rep.cells
 by_cases hk1 : r.op.kind < 1
 ·have HS := zH (jstep_8 (s := s) (r := r) (.inl hk1))
  go_wp2_with fail
  go_ret
  exact AddRet.err HS.out (HX2.out.only)
 ·by_cases hk14 : 14 < r.op.kind
  ·have HS := zH (jstep_8 (s := s) (r := r) (.inr (.inl hk14)))
   go_wp2_with fail
   go_ret
   exact AddRet.err HS.out (HX2.out.only)
  ·by_cases herr : r.err = e0
   ·have HGd : Hid (¬ (r.op.kind < 1 ∨ 14 < r.op.kind ∨ r.err ≠ rightP s r.op (addP s.now r.op.ticks))) := zH (by
     rw [HT1.out, HE0.out]; omega)
    have HKd : Hid (1 ≤ r.op.kind ∧ r.op.kind ≤ 14) := zH (by omega)
    have herb : (r.err != e0) = false := by simp [herr]
    have HEr := zH herr
    obtain ⟨q, hq2⟩ : ∃ q, refusedP r.op e0 = q := ⟨_, rfl⟩
    rw [hq2]
    have HQ : Hid (refusedP r.op r.err = q) := zH (by rw [herr]; exact hq2)
    clear herr hq2
    go_upto_if 41 with fail
    obtain ⟨t2, ht2⟩ : ∃ t2, (if q = true then s.now else t1) = t2 := ⟨_, rfl⟩
    have HT2 := zH ht2
    clear ht2
    go_cut [6] (fun at_ wc => at_ = .int .u64 t2 ∧ wc = w2)
    case first =>
     cases q with
     |true =>
      go_wp2_with fail
      go_meet
      exact ⟨by rw [← HT2.out]; rfl, rfl⟩
     |false =>
      go_wp2_with fail
      go_meet
      exact ⟨by rw [← HT2.out]; rfl, rfl⟩
    case rest =>
     obtain ⟨hat0, hwc⟩ := hcut
     subst hat0
     rw [hwc]
     clear hwc
     by_cases hat : r.at_ = t2
     ·have hatb : (r.at_ != t2) = false := by simp [hat]
      have HAt := zH hat
      have f5 := HX2.out.rep.blk.frozen 5
      clear hat
      go_upto_region 11 with fail
      obtain ⟨hj3, ho3⟩ := HX2.out.rep.setNow t2
      have HX3 := zH (HX2.out.nextK hj3 ho3 HBB.out.1)
      clear hj3 ho3 z0 z1 z2 z3 z4 z5 z6 z7 z8 r9 r10 d5 f5 hatb
      generalize w2.setCell _ _ = w3 at HX3 ⊢
      go_upto_block 0 with fail
      have hb4 : Below w3.heap.size w3 (w3.alloc (.cells #[.int .i64 0, .int .u64 0, .string ⟨#[]⟩, .slice none 0 0, .int .u64 0, .int .i64 0, .int .i64 0, .int .i64 0, .int .u64 0, .int .u64 0, .int .i64 0, .bool false, .slice none 0 0, .string ⟨#[]⟩, .slice none 0 0, .int .u64 0, .int .u64 0, .int .i64 0, .slice none 0 0, .int .i64 0, .int .i64 0] 35)) := (zL _ _).alloc (zN _) _
      have HX4 := zH (HX3.out.adv hb4)
      have HGw : Hid (w.heap.size + 1 < w3.heap.size) := zH HX3.out.ob.lt
      have HW4 : Hid (WX (w3.alloc (.cells #[.int .i64 0, .int .u64 0, .string ⟨#[]⟩, .slice none 0 0, .int .u64 0, .int .i64 0, .int .i64 0, .int .i64 0, .int .u64 0, .int .u64 0, .int .i64 0, .bool false, .slice none 0 0, .string ⟨#[]⟩, .slice none 0 0, .int .u64 0, .int .u64 0, .int .i64 0, .slice none 0 0, .int .i64 0, .int .i64 0] 35)) B w3.heap.size want0 (.slice none 0 0) (.slice none 0 0)) := zH ⟨Blk.new _ _ _, Bts.nil _ _ _, Bts.nil _ _ _, by have := HBB.out.2; have := HX3.out.only.size; omega⟩
      clear hb4
      generalize w3.alloc _ = w4 at HX4 HW4 ⊢
      generalize w3.heap.size = gw at HW4 HGw ⊢
      clear HX3 HX2
      go_cut [] (fun wc => ∃ us2 s2 its2 P2 x Vw Ve, AX w wc B Bv g gm gp us2 s2 its2 P2 r (.slice A1 r.op.val.length c1) (.slice A2 r.val.length c2) (.slice A3 r.ent.val.length c3) (.slice A4 xs.length c4) xs ∧ WX wc B gw x Vw Ve ∧ jstep s r = endP r s2 x ∧ (us ≤ us2 ∧ us2 ≤ us + 1))
      case first =>
       obtain ⟨-, -, -, -, -, -, -, -, -, r18, -⟩ := resB HX4.out.rb
       cases q with
       |true =>
        have ht2s : s.now = t2 := by rw [← HT2.out]; rfl
        subst ht2s
        have HJ : Hid (jstep s r = if noExp (xs.map Prod.fst) = false then .error 3 else if xs.map Prod.fst ≠ [] then .error 2 else endP r s want0) := zH (by
         rw [jstep_no HGd.out HQ.out, if_neg (fun e => e HAt.out), ← HEvs.out])
        have HEx := zH (expired_any Bv _ xs w4 HX4.out.a.a4)
        obtain ⟨ne, hne⟩ : ∃ ne, noExp (xs.map Prod.fst) = ne := ⟨_, rfl⟩
        have HNe := zH hne
        rw [hne] at HEx
        clear hne
        go_wp2_with fail
        refine HEx.out.mono ?_
        rintro e5 w5 ⟨rfl, hb5⟩
        have HX5 := zH (HX4.out.adv hb5)
        have HW5 := zH (HW4.out.adv hb5)
        clear hb5 r18 HX4 HW4 HEx
        obtain ⟨-, -, -, -, -, -, -, -, -, r18, -⟩ := resB HX5.out.rb
        cases ne with
        |false =>
         have HS : Hid (jstep s r = .error 3) := zH (by rw [HJ.out, if_pos HNe.out])
         go_wp2_with fail
         go_ret
         exact AddRet.err HS.out (HX5.out.only)
        |true =>
         by_cases hx0 : xs.length = 0
         ·have HXe : Hid (xs = []) := zH (List.length_eq_zero_iff.1 hx0)
          have HSe : Hid (jstep s r = endP r s want0) := zH (by rw [HJ.out, if_neg (by rw [HNe.out]; decide), if_neg (by rw [HXe.out]; simp)])
          clear hx0
          go_wp2_with fail
          ·rename_i hbad
           exact absurd hbad (by rw [HXe.out]; simp)
          ·go_meet
           exact ⟨us, s, its, P, want0, _, _, HX5.out, HW5.out, HSe.out, Int.le_refl _, by omega⟩
         ·have HS : Hid (jstep s r = .error 2) := zH (by rw [HJ.out, if_neg (by rw [HNe.out]; decide), if_pos (fun e => hx0 (by have := congrArg List.length e; simpa using this))])
          have hlz : 0 < xs.length := by omega
          have hlz2 : (0 : Int) < (xs.length : Int) := by omega
          clear hx0
          go_wp2_with fail
          go_ret
          exact AddRet.err HS.out (HX5.out.only)
       |false =>
        have ht2s : t1 = t2 := by rw [← HT2.out]; rfl
        subst ht2s
        have HJ : Hid (jstep s r = match eventsP s r.op e0 t1 (xs.map Prod.fst) with | .error x => .error x | .ok (s2, w) => endP r s2 w) := zH (by
         rw [jstep_yes HGd.out HQ.out, if_neg (by rw [HAt.out, HT1.out]; exact fun e => e rfl), HT1.out, HEr.out, ← HEvs.out]
         rfl)
        have hrf : refusedP r.op (rightP s r.op t1) = false := by rw [HE0.out, ← HEr.out]; exact HQ.out
        have hinv : PInv N { s with now := t1 } := ⟨HPi.out.asc, HPi.out.low, HPi.out.keys, HPi.out.und, HPi.out.mem, HPi.out.pls, HPi.out.cnt, HPi.out.ok, HT1.out ▸ addP_range HPi.out.now.1 HO.out.ticks⟩
        have hef := effOk_of HKd.out hrf HPi.out.pls
        rw [HE0.out] at hef
        have HEvt : Hid (Calls Try.prog 27 #[.pointer (some ⟨g, 0, none⟩), opv r.op (.slice A1 r.op.val.length c1), .int .i64 e0, .slice A4 xs.length c4] w4 (EvtsRet B g gm gp us (eventsP s r.op e0 t1 (xs.map Prod.fst)) w4)) := zH (events_any N B Bv g gm gp us { s with now := t1 } its P r.op (.slice A1 r.op.val.length c1) e0 (.slice A4 xs.length c4) xs w4 HX4.out.rep HX4.out.a.a1 HO.out.key hinv HN.out ⟨HBB.out.1, Nat.le_trans HBB.out.2 HX4.out.only.size⟩ HX4.out.a.a4 HKs.out HU.out HO.out.ttl HC.out HKd.out (right_cases HKd.out hrf HPi.out.pls).2.1 hef)
        unfold opv opc at HEvt
        clear hrf hinv hef
        obtain ⟨z0, z1, z2, z3, z4, z5, z6, z7, z8⟩ := op9 HX4.out.ob
        go_wp2_with fail
        refine HEvt.out.mono ?_
        rintro e5 w5 ⟨ho5, herr5, hok5⟩
        have HO5 := zH (KJ.trans HX4.out.only ho5)
        have HWb5 := zH (HW4.out.nextJ ho5)
        have HRb5 := zH (HX4.out.rb.only ho5 (KJ.not_ HX4.out.rb (by decide) (by decide)))
        have HOb5 := zH (HX4.out.ob.only ho5 (KJ.not_ HX4.out.ob (by decide) (by decide)))
        have HRa5 := zH (HX4.out.a.keep (KJ.keepB ho5 HBB.out.1))
        clear r18 z0 z1 z2 z3 z4 z5 z6 z7 z8 HEvt HX4 HW4 ho5
        obtain ⟨er, her⟩ : ∃ er, eventsP s r.op e0 t1 (xs.map Prod.fst) = er := ⟨_, rfl⟩
        have HEr5 := zH her
        rw [her] at HJ herr5 hok5
        clear her
        cases er with
        |error x =>
         obtain ⟨wv, B1, B2, n1, n2, d1, d2, he⟩ := herr5 x rfl
         subst he
         have HS : Hid (jstep s r = .error x) := zH HJ.out
         have hxz : (x != 0) = true := by
          have := events_err HEr5.out
          rw [bne_iff_ne]; exact this
         clear herr5 hok5
         go_upto_region 14 with (refine wpList_store_row rfl 35 _ _ rfl gw _ rfl rfl 35 _ HWb5.out.b (by kernel_rfl) rfl (by simp [wantc, Value.oneCell']) ?_)
         have HO6 : Hid (Only (KJ B w) w _) := zH (KJ.result (by have := HGw.out; omega) HO5.out ((Only.refl (fun k => k = gw) w5).setRow (.inl rfl) (wantc wv (.slice B1 n1 d1) (.slice B2 n2 d2))))
         generalize w5.setRow _ _ = w6 at HO6 ⊢
         go_wp2_with fail
         go_ret
         exact AddRet.err HS.out (HO6.out)
        |ok sw =>
         obtain ⟨s2, wv⟩ := sw
         obtain ⟨B1, B2, d1, d2, he, hvw, hve, us5, its5, P5, hu5, hj5⟩ := hok5 s2 wv rfl
         subst he
         have HJs : Hid (jstep s r = endP r s2 wv) := zH HJ.out
         have hor := (Only.refl (fun k => k = gw) w5).setRow (.inl rfl) (wantc wv (.slice B1 wv.val.length d1) (.slice B2 wv.ent.val.length d2))
         have HX6 : Hid (AX w (w5.setRow gw (wantc wv (.slice B1 wv.val.length d1) (.slice B2 wv.ent.val.length d2))) B Bv g gm gp us5 s2 its5 P5 r (.slice A1 r.op.val.length c1) (.slice A2 r.val.length c2) (.slice A3 r.ent.val.length c3) (.slice A4 xs.length c4) xs) := zH (AX.other ⟨hj5, HRb5.out, HOb5.out, HRa5.out, HO5.out⟩ HWb5.out.b hor HWb5.out.lt HBB.out.1 HGw.out)
         have hkb := KeepB.of_blk (B := B) (U := 5) HWb5.out.b (by decide) HWb5.out.lt hor
         have HW6 : Hid (WX (w5.setRow gw (wantc wv (.slice B1 wv.val.length d1) (.slice B2 wv.ent.val.length d2))) B gw wv (.slice B1 wv.val.length d1) (.slice B2 wv.ent.val.length d2)) := zH ⟨HWb5.out.b.row _, hvw.keep hkb, hve.keep hkb, HWb5.out.lt⟩
         have HU5 := zH hu5
         clear herr5 hok5 hvw hve hj5 hor hkb hu5
         go_upto_region 14 with (refine wpList_store_row rfl 35 _ _ rfl gw _ rfl rfl 35 _ HWb5.out.b (by kernel_rfl) rfl (by simp [wantc, Value.oneCell']) ?_)
         generalize w5.setRow _ _ = w6 at HX6 HW6 ⊢
         go_wp2_with fail
         go_meet
         exact ⟨us5, s2, its5, P5, wv, _, _, HX6.out, HW6.out, HJs.out, HU5.out⟩
      case rest =>
       obtain ⟨us2, s2, its2, P2, x, Vw, Ve, hax, hwx, hjs, hu2⟩ := hcut
       obtain ⟨Aw, cw, rfl⟩ := hwx.v.form
       obtain ⟨Ae, ce, rfl⟩ := hwx.e.form
       have HJs := zH hjs
       have HU2 := zH hu2
       have H2 := zH (And.intro hax hwx)
       clear hax hwx hjs hu2
       obtain ⟨-, -, -, -, r13, r14, r15, r16, -⟩ := resB H2.out.1.rb
       obtain ⟨-, -, b13, b14, b15, b16, -⟩ := wantB H2.out.2.b
       have HEq := zH (entryEqual_any Bv B r.ent x.ent _ _ wc H2.out.1.a.a3 H2.out.2.e)
       obtain ⟨q4, hq4⟩ : ∃ q4, decide (r.ent = x.ent) = q4 := ⟨_, rfl⟩
       have HQ4 := zH hq4
       rw [hq4] at HEq
       clear hq4
       unfold entv entc at HEq
       go_wp2_with fail
       refine HEq.out.mono ?_
       rintro e4 w4 ⟨rfl, hb4⟩
       have H4 := zH (And.intro (H2.out.1.adv hb4) (H2.out.2.adv hb4))
       clear hb4 H2 r13 r14 r15 r16 b13 b14 b15 b16 HEq
       go_upto_region 21 with fail
       refine wp_region_noPanic ?_
       refine wp_region_held_drew (S := fun W => AX w W B Bv g gm gp us2 s2 its2 P2 r (.slice A1 r.op.val.length c1) (.slice A2 r.val.length c2) (.slice A3 r.ent.val.length c3) (.slice A4 xs.length c4) xs ∧ WX W B gw x (.slice Aw x.val.length cw) (.slice Ae x.ent.val.length ce)) (by kernel_rfl) ⟨H4.out.1.adv (zL _ _).drew, H4.out.2.adv (zL _ _).drew⟩ (fun hHeld => ?_)
       clear H4
       generalize w4.drew = W5 at hHeld ⊢
       have H5 := zH hHeld
       refine tk 0 (v := ?_) ?_ ?_
       rotate_left 1
       ·intro W hSw
        skip
        clear hSw
        go_simp
        try with_reducible rfl
       try dsimp only [zS, zB, zC]
       refine wpAnyH_ready (rs := [1]) (by kernel_rfl) (by simp) ?_
       refine AllReadyH.cons (o := ⟨_, _, _, _, _, _⟩) rfl (fun F hF => ?_) AllReadyH.nil
       go_simp
       refine (within_any B g gm gp us2 s2 its2 P2 W5 H5.out.1.rep).mono ?_
       rintro e6 w6 ⟨rfl, hb6⟩
       have H6 := zH (And.intro (H5.out.1.adv hb6) (H5.out.2.adv hb6))
       have HLn : Hid ((s2.L.length : Int) = its2.length) := zH (by rw [H6.out.1.rep.lenI])
       clear hb6 H5 hHeld
       by_cases hw : withinP s2
       ·rw [decide_eq_true hw]
        have HWi := zH hw
        clear hw
        go_wp2_with fail
        refine hF.out _ _ H6.out (fun hHeld => ?_)
        clear hF F
        try simp only [Act.put, zA, zB, zC]
        refine Pl.go [2, 3] ?_
        iterate 2
         refine tkl (v := ?_) ?_ ?_
         rotate_left 1
         ·intro W hSw
          skip
          clear hSw
          go_simp
          try with_reducible rfl
         try dsimp only [zS, zB, zC]
        refine Pl.stop ?_
        by_cases d3 : r.len = (its2.length : Int)
        ·have d3b : (r.len != (its2.length : Int)) = false := by simp [d3]
         have HD3 := zH d3
         clear d3
         refine Pl.go [4, 5, 6, 7, 8, 9, 10, 11, 12, 13] ?_
         iterate 10
          refine tkl (v := ?_) ?_ ?_
          rotate_left 1
          ·intro W hSw
           obtain ⟨-, -, -, -, -, -, -, -, -, -, r19, r20⟩ := resB hSw.1.rb; obtain ⟨-, -, -, -, -, -, -, -, d8, d9, -⟩ := hSw.1.rep.cells; have hln : ∀ ty, (Builtin.len_ #[70] ty #[.map (some gm)]).run Try.prog W = .ok (.int .i64 its2.length) W := fun ty => by have := hSw.1.rep.items.len (P := Try.prog) ty; rwa [List.length_map] at this
           clear hSw
           go_simp
           try with_reducible rfl
          try dsimp only [zS, zB, zC]
         refine Pl.stop ?_
         by_cases d4 : r.cost = costP s2.L
         ·have d4b : (r.cost != costP s2.L) = false := by simp [d4]
          have HD4 := zH d4
          clear d4
          refine Pl.go [14, 15, 16, 17, 18, 19, 20, 21, 22] ?_
          iterate 9
           refine tkl (v := ?_) ?_ ?_
           rotate_left 1
           ·intro W hSw
            obtain ⟨-, -, -, -, -, -, -, -, -, -, r19, r20⟩ := resB hSw.1.rb; obtain ⟨-, -, -, -, -, -, -, -, d8, d9, -⟩ := hSw.1.rep.cells; have hln : ∀ ty, (Builtin.len_ #[70] ty #[.map (some gm)]).run Try.prog W = .ok (.int .i64 its2.length) W := fun ty => by have := hSw.1.rep.items.len (P := Try.prog) ty; rwa [List.length_map] at this
            clear hSw
            go_simp
            try with_reducible rfl
           try dsimp only [zS, zB, zC]
          refine Pl.stop ?_
          refine wpAnyH_done (by kernel_rfl) ?_ _
          refine NoPanic.normal ?_
          clear hHeld d3b d4b
          have HSe : Hid (jstep s r = if r.hit ≠ x.hit ∨ r.val ≠ x.val ∨ (r.ent ≠ x.ent ∧ r.op.kind ≠ 12) then .error 6 else if r.cursor ≠ x.cursor ∨ r.ent ≠ x.ent then .error 7 else .ok s2) := zH (by
           rw [HJs.out]
           unfold endP
           rw [if_neg (by rintro (h | h | h); exact h HWi.out; exact h (by rw [HLn.out]; exact HD3.out); exact h HD4.out)])
          obtain ⟨-, -, r11, r12, -, -, -, -, r17, -⟩ := resB H6.out.1.rb
          obtain ⟨b11, b12, -, -, -, -, b17⟩ := wantB H6.out.2.b
          obtain ⟨z0, -⟩ := op9 H6.out.1.ob
          by_cases e1 : r.hit = x.hit
          ·have e1b : (r.hit != x.hit) = false := by rw [e1]; simp
           have HBe := zH (bytesEqual_any Bv B _ _ r.val x.val w6 H6.out.1.a.a2 H6.out.2.v)
           by_cases e2 : r.val = x.val
           ·rw [decide_eq_true e2] at HBe
            by_cases e3 : q4 = false ∧ r.op.kind ≠ 12
            ·have HS : Hid (jstep s r = .error 6) := zH (by rw [HSe.out, if_pos (.inr (.inr ⟨of_decide_eq_false (HQ4.out.trans e3.1), e3.2⟩))])
             have hk12 : (r.op.kind != 12) = true := by simp [e3.2]
             obtain ⟨rfl, -⟩ := e3
             clear e2
             go_wp2_with fail
             refine HBe.out.mono ?_
             rintro e7 w7 ⟨rfl, hww⟩
             subst hww
             go_wp2_with fail
             go_ret
             exact AddRet.err HS.out (H6.out.1.only)
            ·have HSe2 : Hid (jstep s r = if r.cursor ≠ x.cursor ∨ r.ent ≠ x.ent then .error 7 else .ok s2) := zH (by
              rw [HSe.out, if_neg (by
               rintro (h | h | ⟨h, h'⟩)
               ·exact h e1
               ·exact h e2
               ·refine e3 ⟨?_, h'⟩
                rw [← HQ4.out]; exact decide_eq_false h)])
             clear e2
             cases q4 with
             |true =>
              go_wp2_with fail
              refine HBe.out.mono ?_
              rintro e7 w7 ⟨rfl, hww⟩
              subst hww
              by_cases e5 : r.cursor = x.cursor
              ·have e5b : (r.cursor != x.cursor) = false := by simp [e5]
               have HS : Hid (jstep s r = .ok s2) := zH (by rw [HSe2.out, if_neg (by rintro (h | h); exact h e5; exact h (of_decide_eq_true HQ4.out))])
               clear e5
               go_wp2_with fail
               go_ret
               exact AddRet.ok HS.out HU2.out H6.out.1.rep H6.out.1.only
              ·have e5b : (r.cursor != x.cursor) = true := by simp [e5]
               have HS : Hid (jstep s r = .error 7) := zH (by rw [HSe2.out, if_pos (.inl e5)])
               clear e5
               go_wp2_with fail
               go_ret
               exact AddRet.err HS.out (H6.out.1.only)
             |false =>
              have hk12 : (r.op.kind != 12) = false := by
               rw [bne_eq_false_iff_eq]
               exact Classical.byContradiction fun h => e3 ⟨rfl, h⟩
              clear e3
              have HS : Hid (jstep s r = .error 7) := zH (by rw [HSe2.out, if_pos (.inr (of_decide_eq_false HQ4.out))])
              by_cases e5 : r.cursor = x.cursor
              ·have e5b : (r.cursor != x.cursor) = false := by simp [e5]
               clear e5
               go_wp2_with fail
               refine HBe.out.mono ?_
               rintro e7 w7 ⟨rfl, hww⟩
               subst hww
               go_wp2_with fail
               go_ret
               exact AddRet.err HS.out (H6.out.1.only)
              ·have e5b : (r.cursor != x.cursor) = true := by simp [e5]
               clear e5
               go_wp2_with fail
               refine HBe.out.mono ?_
               rintro e7 w7 ⟨rfl, hww⟩
               subst hww
               go_wp2_with fail
               go_ret
               exact AddRet.err HS.out (H6.out.1.only)
           ·rw [decide_eq_false e2] at HBe
            have HS : Hid (jstep s r = .error 6) := zH (by rw [HSe.out, if_pos (.inr (.inl e2))])
            clear e2
            go_wp2_with fail
            refine HBe.out.mono ?_
            rintro e7 w7 ⟨rfl, hww⟩
            subst hww
            go_wp2_with fail
            go_ret
            exact AddRet.err HS.out (H6.out.1.only)
          ·have HS : Hid (jstep s r = .error 6) := zH (by rw [HSe.out, if_pos (.inl e1)])
           go_wp2_with fail
           go_ret
           exact AddRet.err HS.out (H6.out.1.only)
         ·have d4b : (r.cost != costP s2.L) = true := by simp [d4]
          have HS : Hid (jstep s r = .error 5) := zH (by
           rw [HJs.out]
           unfold endP
           rw [if_pos (.inr (.inr d4))])
          clear d4
          refine Pl.go [14, 15, 16, 17, 18, 19, 20, 21, 22] ?_
          iterate 9
           refine tkl (v := ?_) ?_ ?_
           rotate_left 1
           ·intro W hSw
            obtain ⟨-, -, -, -, -, -, -, -, -, -, r19, r20⟩ := resB hSw.1.rb; obtain ⟨-, -, -, -, -, -, -, -, d8, d9, -⟩ := hSw.1.rep.cells; have hln : ∀ ty, (Builtin.len_ #[70] ty #[.map (some gm)]).run Try.prog W = .ok (.int .i64 its2.length) W := fun ty => by have := hSw.1.rep.items.len (P := Try.prog) ty; rwa [List.length_map] at this
            clear hSw
            go_simp
            try with_reducible rfl
           try dsimp only [zS, zB, zC]
          refine Pl.stop ?_
          refine wpAnyH_done (by kernel_rfl) ?_ _
          refine NoPanic.normal ?_
          go_wp2_with fail
          go_ret
          exact AddRet.err HS.out (hHeld.1.only)
        ·have d3b : (r.len != (its2.length : Int)) = true := by simp [d3]
         have HS : Hid (jstep s r = .error 5) := zH (by
          rw [HJs.out]
          unfold endP
          rw [if_pos (.inr (.inl (by rw [HLn.out]; exact d3)))])
         clear d3
         refine Pl.go [4, 5, 6, 7, 8, 9, 10, 11, 12, 13] ?_
         iterate 10
          refine tkl (v := ?_) ?_ ?_
          rotate_left 1
          ·intro W hSw
           obtain ⟨-, -, -, -, -, -, -, -, -, -, r19, r20⟩ := resB hSw.1.rb; obtain ⟨-, -, -, -, -, -, -, -, d8, d9, -⟩ := hSw.1.rep.cells; have hln : ∀ ty, (Builtin.len_ #[70] ty #[.map (some gm)]).run Try.prog W = .ok (.int .i64 its2.length) W := fun ty => by have := hSw.1.rep.items.len (P := Try.prog) ty; rwa [List.length_map] at this
           clear hSw
           go_simp
           try with_reducible rfl
          try dsimp only [zS, zB, zC]
         refine Pl.stop ?_
         refine Pl.go [14, 15, 16, 17, 18, 19, 20] ?_
         iterate 7
          refine skl ?_
          try dsimp only [zS, zB, zC]
         refine Pl.stop ?_
         refine Pl.go [21, 22] ?_
         iterate 2
          refine tkl (v := ?_) ?_ ?_
          rotate_left 1
          ·intro W hSw
           skip
           clear hSw
           go_simp
           try with_reducible rfl
          try dsimp only [zS, zB, zC]
         refine Pl.stop ?_
         refine wpAnyH_done (by kernel_rfl) ?_ _
         refine NoPanic.normal ?_
         go_wp2_with fail
         go_ret
         exact AddRet.err HS.out (hHeld.1.only)
       ·have HS : Hid (jstep s r = .error 5) := zH (by
         rw [HJs.out]
         unfold endP
         rw [if_pos (.inl hw)])
        rw [decide_eq_false hw]
        clear hw
        go_wp2_with fail
        refine hF.out _ _ H6.out (fun hHeld => ?_)
        clear hF F
        try simp only [Act.put, zA, zB, zC]
        refine Pl.go [2, 3] ?_
        iterate 2
         refine tkl (v := ?_) ?_ ?_
         rotate_left 1
         ·intro W hSw
          skip
          clear hSw
          go_simp
          try with_reducible rfl
         try dsimp only [zS, zB, zC]
        refine Pl.stop ?_
        refine Pl.go [4, 5, 6, 7, 8, 9, 10, 11] ?_
        iterate 8
         refine skl ?_
         try dsimp only [zS, zB, zC]
        refine Pl.stop ?_
        refine Pl.go [12, 13] ?_
        iterate 2
         refine tkl (v := ?_) ?_ ?_
         rotate_left 1
         ·intro W hSw
          skip
          clear hSw
          go_simp
          try with_reducible rfl
         try dsimp only [zS, zB, zC]
        refine Pl.stop ?_
        refine Pl.go [14, 15, 16, 17, 18, 19, 20] ?_
        iterate 7
         refine skl ?_
         try dsimp only [zS, zB, zC]
        refine Pl.stop ?_
        refine Pl.go [21, 22] ?_
        iterate 2
         refine tkl (v := ?_) ?_ ?_
         rotate_left 1
         ·intro W hSw
          skip
          clear hSw
          go_simp
          try with_reducible rfl
         try dsimp only [zS, zB, zC]
        refine Pl.stop ?_
        refine wpAnyH_done (by kernel_rfl) ?_ _
        refine NoPanic.normal ?_
        go_wp2_with fail
        go_ret
        exact AddRet.err HS.out (hHeld.1.only)
     ·have hatb : (r.at_ != t2) = true := by simp [hat]
      have HS : Hid (jstep s r = .error 1) := zH (by
       cases q with
       |true =>
        rw [jstep_no HGd.out HQ.out, if_pos (fun e => hat (by rw [e, ← HT2.out]; rfl))]
       |false =>
        rw [jstep_yes HGd.out HQ.out, if_pos (fun e => hat (by rw [e, ← HT2.out, HT1.out]; rfl))])
      clear hat
      go_wp2_with fail
      go_ret
      exact AddRet.err HS.out (HX2.out.only)
   ·have herb : (r.err != e0) = true := by simp [herr]
    have HS := zH (jstep_8 (s := s) (r := r) (.inr (.inr (by rw [HT1.out, HE0.out]; exact herr))))
    go_wp2_with fail
    go_ret
    exact AddRet.err HS.out (HX2.out.only)
end Go.Proofs.Ytnabbimompapfaa
namespace Go.Proofs.Ytnabbimompapfaa
open Go Go.RowKit Go.MapKept Go.Maps
theorem JRep.start {w : World} {g gm gp : Nat} {c : CfgV} {cs : Array Value} (h : Blk w g 73 cs) (hcs : cs = jc (start c) 0 0 gm gp) (hm : MRep KI w gm []) (hp : MRep KP w gp []) {B : Nat} (hB : B ≤ g ∧ B ≤ gm ∧ B ≤ gp) (ha : gm ≠ gp) : JRep w B g gm gp 0 (Go.Proofs.Ytnabbimompapfaa.start c) [] [] := by
 subst hcs
 refine ⟨h, hm, fun x hx => (by cases hx), fun x hx => (by cases hx), List.Pairwise.nil, List.Perm.nil, fun x hx => (by cases hx), List.Pairwise.nil, hp, fun k => ?_, ⟨hB.1, hB.2.1, hB.2.2, fun x hx => (by cases hx)⟩, ha, fun x hx => (by cases hx)⟩
 show none = openP (List.replicate 64 none) k
 unfold openP
 split
 ·rfl
 ·rw [List.getD_eq_getElem?_getD, List.getElem?_replicate]
  split <;> rfl
theorem begin_rep (w : World) (o : Obj) (c : CfgV) : JRep ((((w.alloc o).alloc (.map #[] 0)).alloc (.map #[] 0)).alloc (.cells (jc (Go.Proofs.Ytnabbimompapfaa.start c) 0 0 (w.heap.size + 1) (w.heap.size + 1 + 1)) 73)) w.heap.size (w.heap.size + 1 + 1 + 1) (w.heap.size + 1) (w.heap.size + 1 + 1) 0 (Go.Proofs.Ytnabbimompapfaa.start c) [] [] := by
 have h1 : (w.alloc o).heap.size = w.heap.size + 1 := by rw [World.size_alloc]
 have h2 : ((w.alloc o).alloc (.map #[] 0)).heap.size = w.heap.size + 1 + 1 := by rw [World.size_alloc, World.size_alloc]
 have h3 : (((w.alloc o).alloc (.map #[] 0)).alloc (.map #[] 0)).heap.size = w.heap.size + 1 + 1 + 1 := by rw [World.size_alloc, World.size_alloc, World.size_alloc]
 have a1 := ((MRep.made (K := KI) (w.alloc o)).alloc (.map #[] 0)).alloc (.cells (jc (Go.Proofs.Ytnabbimompapfaa.start c) 0 0 (w.heap.size + 1) (w.heap.size + 1 + 1)) 73)
 have a2 := (MRep.made (K := KP) ((w.alloc o).alloc (.map #[] 0))).alloc (.cells (jc (Go.Proofs.Ytnabbimompapfaa.start c) 0 0 (w.heap.size + 1) (w.heap.size + 1 + 1)) 73)
 have a3 := Blk.new (((w.alloc o).alloc (.map #[] 0)).alloc (.map #[] 0)) 73 (jc (Go.Proofs.Ytnabbimompapfaa.start c) 0 0 (w.heap.size + 1) (w.heap.size + 1 + 1))
 rw [h1] at a1
 rw [h2] at a2
 rw [h3] at a3
 exact JRep.start a3 rfl a1 a2 ⟨by omega, by omega, by omega⟩ (by omega)
def BegRet (c : CfgV) (w : World) (e : Ending) (w' : World) : Prop :=
 ∃ g gm gp, e = .returned (.pointer (some ⟨g, 0, none⟩)) ∧ JRep w' w.heap.size g gm gp 0 (start c) [] [] ∧ Below w.heap.size w w'
set_option maxRecDepth 100000 in
set_option maxHeartbeats 8000000 in
theorem begin_any (c : CfgV) (w : World) : Calls Try.prog 16 #[cfgv c] w (BegRet c w) := by
 unfold cfgv cfgc
 have hmm := @run_makeMap Try.prog
 go_enter Try.func16, Try.ntmps16
 have x0 : World.cell? (w.alloc (.cells #[.int .i64 c.count, .int .i64 c.bytes, .int .i64 c.prot, .int .u64 c.seed, .bool c.same] 37)) ⟨w.heap.size, 0, none⟩ = some (.int .i64 c.count) := (Blk.new w _ _).cell 0 _ rfl
 have x1 : World.cell? (w.alloc (.cells #[.int .i64 c.count, .int .i64 c.bytes, .int .i64 c.prot, .int .u64 c.seed, .bool c.same] 37)) ⟨w.heap.size, 1, none⟩ = some (.int .i64 c.bytes) := (Blk.new w _ _).cell 1 _ rfl
 have x2 : World.cell? (w.alloc (.cells #[.int .i64 c.count, .int .i64 c.bytes, .int .i64 c.prot, .int .u64 c.seed, .bool c.same] 37)) ⟨w.heap.size, 2, none⟩ = some (.int .i64 c.prot) := (Blk.new w _ _).cell 2 _ rfl
 have x3 : World.cell? (w.alloc (.cells #[.int .i64 c.count, .int .i64 c.bytes, .int .i64 c.prot, .int .u64 c.seed, .bool c.same] 37)) ⟨w.heap.size, 3, none⟩ = some (.int .u64 c.seed) := (Blk.new w _ _).cell 3 _ rfl
 have x4 : World.cell? (w.alloc (.cells #[.int .i64 c.count, .int .i64 c.bytes, .int .i64 c.prot, .int .u64 c.seed, .bool c.same] 37)) ⟨w.heap.size, 4, none⟩ = some (.bool c.same) := (Blk.new w _ _).cell 4 _ rfl
 go_wp2_with fail
 go_ret
 exact ⟨_, _, _, rfl, begin_rep w _ c, ((((zL _ _).alloc (zN _) _).alloc (by rw [World.size_alloc]; omega) _).alloc (by rw [World.size_alloc, World.size_alloc]; omega) _).alloc (by rw [World.size_alloc, World.size_alloc, World.size_alloc]; omega) _⟩
end Go.Proofs.Ytnabbimompapfaa
namespace Go.Proofs.Ytnabbimompapfaa
open Go Go.RowKit Go.MapKept Go.Maps
structure RqOk (q : RQ) : Prop where
 cur : -9223372036854775808 ≤ q.r.op.cursor ∧ q.r.op.cursor ≤ 9223372036854775807
 keys : ∀ p ∈ q.xs, p.1.key.size ≤ maxLen
def zres : Array Value := #[.int .i64 0, .int .u64 0, .string ⟨#[]⟩, .slice none 0 0, .int .u64 0, .int .i64 0, .int .i64 0, .int .i64 0, .int .u64 0, .int .u64 0, .int .i64 0, .bool false, .slice none 0 0, .string ⟨#[]⟩, .slice none 0 0, .int .u64 0, .int .u64 0, .int .i64 0, .slice none 0 0, .int .i64 0, .int .i64 0]
theorem zres_eq : zres = #[.int .i64 0, .int .u64 0, .string ⟨#[]⟩, .slice none 0 0, .int .u64 0, .int .i64 0, .int .i64 0, .int .i64 0, .int .u64 0, .int .u64 0, .int .i64 0, .bool false, .slice none 0 0, .string ⟨#[]⟩, .slice none 0 0, .int .u64 0, .int .u64 0, .int .i64 0, .slice none 0 0, .int .i64 0, .int .i64 0] := rfl
theorem resc_one (r : ResV) (A1 A2 A3 A4 : Option Addr) (n1 n2 n3 n4 c1 c2 c3 c4 : Nat) : (resc r (.slice A1 n1 c1) (.slice A2 n2 c2) (.slice A3 n3 c3) (.slice A4 n4 c4)).all (·.oneCell') = true := by simp [resc, Value.oneCell']
theorem JRep.weak {w : World} {B B' g gm gp : Nat} {us : Int} {s : PJ} {its : List It} {P : List (Int × Int)} (h : JRep w B g gm gp us s its P) (hB : B' ≤ B) (hv : ∀ x ∈ its, Bts w B' 5 x.v x.e.val) : JRep w B' g gm gp us s its P :=
 ⟨h.blk, h.items, h.ib, hv, h.nd, h.perm, h.ub, h.ord, h.places, h.pl, ⟨Nat.le_trans hB h.base.1, Nat.le_trans hB h.base.2.1, Nat.le_trans hB h.base.2.2.1, fun x hx => Nat.le_trans hB (h.base.2.2.2 x hx)⟩, ⟨h.apart.1, fun x hx => (h.apart.2 x hx).weak hB⟩⟩
theorem fresh_row {w : World} {cs cs' : Array Value} {t : TypeId} : Below w.heap.size w ((w.alloc (.cells cs t)).setRow w.heap.size cs') ∧ Blk ((w.alloc (.cells cs t)).setRow w.heap.size cs') w.heap.size t cs' := by
 refine ⟨?_, (Blk.new w t cs).row cs'⟩
 have h := Only.setRow (S := fun k => k = w.heap.size) (Only.refl _ (w.alloc (.cells cs t))) (g := w.heap.size) (.inl rfl) cs'
 exact ((zL _ _).alloc (zN _) _).trans (h.below (fun i hi hlt e => by omega) (by rw [World.size_alloc]; omega))
def RunRet (c : CfgV) (l : List ResV) (w : World) (e : Ending) (w' : World) : Prop :=
 ∃ J, e = .returned (.tuple #[J, .int .i64 (checkP c l).1, .int .i64 (checkP c l).2.1, .int .i64 (checkP c l).2.2]) ∧ Below w.heap.size w w' ∧
  ((checkP c l).2.2 = 0 → (checkP c l).2.1 = 0 → ∃ g gm gp us its P, J = .pointer (some ⟨g, 0, none⟩) ∧ PInv l.length (jall l (start c) 0).2 ∧ JRep w' w.heap.size g gm gp us (jall l (start c) 0).2 its P)
set_option maxRecDepth 100000 in
set_option maxHeartbeats 8000000 in
theorem run_any (Bv : Nat) (c : CfgV) (lv : Value) (qs : List RQ) (w : World) (h : RsAt w Bv lv qs) (hq : ∀ q ∈ qs, RqOk q) (hBv : Bv ≤ w.heap.size) (hn : qs.length ≤ 60000) :
  Calls Try.prog 10 #[cfgv c, lv] w (RunRet c (qs.map RQ.r) w) := by
 obtain ⟨A, cap, rfl, hc, hm⟩ := h.cap
 have HR := zH h
 have HQk := zH hq
 have HBv := zH hBv
 unfold maxLen at hm
 have hxI : (qs.length : Int) ≤ 60000 := by omega
 have hxc : (qs.length : Int) ≤ (cap : Int) := by omega
 have HN := zH hn
 have HBg := zH (fun W => begin_any c W)
 unfold cfgv cfgc at HBg ⊢
 obtain ⟨ce, hce⟩ : ∃ ce, cfgP c = ce := ⟨_, rfl⟩
 have HCe := zH hce
 have HCk := zH (fun W => hce ▸ cfgCheck_any c W)
 unfold cfgv cfgc at HCk
 clear h hq hBv hn hm hc hce
 go_enter Try.func10, Try.ntmps10
 have HC0 : Hid (Blk (w.alloc (.cells #[.int .i64 c.count, .int .i64 c.bytes, .int .i64 c.prot, .int .u64 c.seed, .bool c.same] 37)) w.heap.size 37 #[.int .i64 c.count, .int .i64 c.bytes, .int .i64 c.prot, .int .u64 c.seed, .bool c.same]) := zH (Blk.new w _ _)
 have x0 : World.cell? (w.alloc (.cells #[.int .i64 c.count, .int .i64 c.bytes, .int .i64 c.prot, .int .u64 c.seed, .bool c.same] 37)) ⟨w.heap.size, 0, none⟩ = some (.int .i64 c.count) := HC0.out.cell 0 _ rfl
 have x1 : World.cell? (w.alloc (.cells #[.int .i64 c.count, .int .i64 c.bytes, .int .i64 c.prot, .int .u64 c.seed, .bool c.same] 37)) ⟨w.heap.size, 1, none⟩ = some (.int .i64 c.bytes) := HC0.out.cell 1 _ rfl
 have x2 : World.cell? (w.alloc (.cells #[.int .i64 c.count, .int .i64 c.bytes, .int .i64 c.prot, .int .u64 c.seed, .bool c.same] 37)) ⟨w.heap.size, 2, none⟩ = some (.int .i64 c.prot) := HC0.out.cell 2 _ rfl
 have x3 : World.cell? (w.alloc (.cells #[.int .i64 c.count, .int .i64 c.bytes, .int .i64 c.prot, .int .u64 c.seed, .bool c.same] 37)) ⟨w.heap.size, 3, none⟩ = some (.int .u64 c.seed) := HC0.out.cell 3 _ rfl
 have x4 : World.cell? (w.alloc (.cells #[.int .i64 c.count, .int .i64 c.bytes, .int .i64 c.prot, .int .u64 c.seed, .bool c.same] 37)) ⟨w.heap.size, 4, none⟩ = some (.bool c.same) := HC0.out.cell 4 _ rfl
 go_wp2_with fail
 refine (HCk.out _).mono ?_
 rintro e w1 ⟨rfl, hb1⟩
 have HB1 : Hid (Below w.heap.size w w1) := zH (below_own hb1)
 have HC1 : Hid (Blk w1 w.heap.size 37 #[.int .i64 c.count, .int .i64 c.bytes, .int .i64 c.prot, .int .u64 c.seed, .bool c.same]) := zH (HC0.out.below hb1)
 clear hb1 x0 x1 x2 x3 x4 HC0
 by_cases he0 : ce = 0
 ·subst he0
  by_cases hl : (4096 : Int) < (qs.length : Int)
  ·have HS : Hid (checkP c (qs.map RQ.r) = (0, 0, 7)) := zH (by
    unfold checkP
    rw [if_neg (fun h => h HCe.out), if_pos (by rw [List.length_map]; omega)])
   go_wp2_with fail
   refine bodyPost_ret (v := .tuple #[.pointer none, .int .i64 (0), .int .i64 (0), .int .i64 (7)]) (by simp [results, Try.results10, go_sem]) rfl ⟨_, by rw [HS.out], HB1.out, fun h => (by rw [HS.out] at h; cases h)⟩
  ·have x0 : World.cell? w1 ⟨w.heap.size, 0, none⟩ = some (.int .i64 c.count) := HC1.out.cell 0 _ rfl
   have x1 : World.cell? w1 ⟨w.heap.size, 1, none⟩ = some (.int .i64 c.bytes) := HC1.out.cell 1 _ rfl
   have x2 : World.cell? w1 ⟨w.heap.size, 2, none⟩ = some (.int .i64 c.prot) := HC1.out.cell 2 _ rfl
   have x3 : World.cell? w1 ⟨w.heap.size, 3, none⟩ = some (.int .u64 c.seed) := HC1.out.cell 3 _ rfl
   have x4 : World.cell? w1 ⟨w.heap.size, 4, none⟩ = some (.bool c.same) := HC1.out.cell 4 _ rfl
   go_wp2_with fail
   refine (HBg.out _).mono ?_
   rintro e w2 ⟨g, gm, gp, rfl, hj2, hb2⟩
   have HB2 : Hid (Below w.heap.size w w2) := zH (HB1.out.trans (hb2.mono HB1.out.size))
   have HK2 : Hid (JRep w2 w.heap.size g gm gp 0 (start c) [] []) := zH (hj2.weak HB1.out.size (fun x hx => (by cases hx)))
   clear hj2 hb2 x0 x1 x2 x3 x4
   have HCp : Hid (checkP c (qs.map RQ.r) = ((jall (qs.map RQ.r) (start c) 0).1.1, (jall (qs.map RQ.r) (start c) 0).1.2, 0)) := zH (by
    unfold checkP
    rw [if_neg (fun h => h HCe.out), if_neg (by rw [List.length_map]; omega)])
   go_wp2_with fail
   go_loopw [4, 24] (fun J i wr => ∃ (k : Nat) (us : Int) (s : PJ) (its : List It) (P : List (Int × Int)), k ≤ qs.length ∧ i = .int .i64 k ∧ J = .pointer (some ⟨g, 0, none⟩) ∧ jall ((qs.drop k).map RQ.r) s k = jall (qs.map RQ.r) (start c) 0 ∧ PInv k s ∧ (0 ≤ us ∧ us ≤ k) ∧ JRep wr w.heap.size g gm gp us s its P ∧ Below w.heap.size w wr) (fun _ i _ => qs.length - (intOf i).toNat)
   case atStart => exact ⟨0, 0, _, _, _, by omega, rfl, rfl, rfl, start_inv c, ⟨Int.le_refl _, Int.le_refl _⟩, HK2.out, HB2.out⟩
   case round =>
    obtain ⟨k, us, s, its, P, hk, rfl, rfl, hj, hi, hus, hkr, hbl⟩ := hrel
    have HJ := zH hj
    have HI := zH hi
    have HK := zH hkr
    have HBl := zH hbl
    have HU := zH hus
    clear hj hi hkr hbl hus
    by_cases hkl : k < qs.length
    ·obtain ⟨⟨r, v1, v2, v3, v4, xs⟩, hq⟩ : ∃ q, qs[k]? = some q := ⟨_, List.getElem?_eq_getElem hkl⟩
     have HRw := zH (HR.out.keep (KeepB.of_below HBl.out))
     obtain ⟨b, off, hA, -⟩ := HRw.out.at_ hq
     subst hA
     have HDr : Hid ((qs.drop k).map RQ.r = r :: (qs.drop (k + 1)).map RQ.r) := zH (by
      obtain ⟨h1, h2⟩ := List.getElem?_eq_some_iff.1 hq
      rw [List.drop_eq_getElem_cons h1, h2]; rfl)
     have hkI : (k : Int) < (qs.length : Int) := by omega
     have hk0 : (0 : Int) ≤ (k : Int) := by omega
     have HCl : Hid (∀ j u, (resc r v1 v2 v3 v4).toList[j]? = some u → wr.cell? ((⟨b, off + k * 21, none⟩ : Addr).add j) = some u) := zH (fun j u hu => by
      rw [add_plain]
      exact HRw.out.cell hq j u (by rw [← Array.getElem?_toList]; exact hu))
     have hrv := HRw.out.vals _ (List.mem_of_getElem? hq)
     have hrk := HQk.out _ (List.mem_of_getElem? hq)
     dsimp only at hrv
     obtain ⟨A1, c1, rfl⟩ := hrv.1.a1.form
     obtain ⟨A2, c2, rfl⟩ := hrv.1.a2.form
     obtain ⟨A3, c3, rfl⟩ := hrv.1.a3.form
     obtain ⟨A4, c4, rfl⟩ := hrv.1.a4.slice
     have HRv := zH hrv
     have HRk := zH hrk
     clear hq hrv hrk
     have HZ : Hid (Blk (wr.alloc (.cells zres 35)) wr.heap.size 35 zres) := zH (Blk.new wr _ zres)
     go_upto_region 10 with (first | (refine wpList_load_at rfl 35 _ rfl ⟨b, off + k * 21, none⟩ rfl (resc r (.slice A1 r.op.val.length c1) (.slice A2 r.val.length c2) (.slice A3 r.ent.val.length c3) (.slice A4 xs.length c4)) _ HCl.out Try.underlying35 rfl (by kernel_rfl) ?_) | (refine wpList_store_row rfl 35 _ _ rfl wr.heap.size (resc r (.slice A1 r.op.val.length c1) (.slice A2 r.val.length c2) (.slice A3 r.ent.val.length c3) (.slice A4 xs.length c4)) rfl rfl 35 _ HZ.out (by kernel_rfl) rfl (resc_one _ _ _ _ _ _ _ _ _ _ _ _ _) ?_))
     rw [← zres_eq]
     obtain ⟨hb9, hk9⟩ := fresh_row (w := wr) (cs := zres) (cs' := resc r (.slice A1 r.op.val.length c1) (.slice A2 r.val.length c2) (.slice A3 r.ent.val.length c3) (.slice A4 xs.length c4)) (t := 35)
     generalize World.setRow _ _ _ = w9 at hb9 hk9 ⊢
     have HK9 := zH (HK.out.below hb9)
     have HB9 := zH (HBl.out.trans (hb9.mono HBl.out.size))
     have HR9 := zH (HRv.out.1.keep (KeepB.of_below hb9))
     have HRb := zH hk9
     generalize wr.heap.size = gr at HRb ⊢
     clear hb9 hk9 HCl
     go_wp2_with (refine wpList_load_row rfl 35 _ rfl gr rfl 35 _ (0, 0) _ HRb.out Try.underlying35 rfl (by kernel_rfl) ?_)
     refine (add_any k w.heap.size Bv g gm gp us s its P r _ _ _ _ xs w9 HK9.out HI.out (by have := HN.out; omega) ⟨HBv.out, HB9.out.size⟩ HR9.out HRv.out.2 HRk.out.cur HRk.out.keys (by have := HU.out; omega)).mono ?_
     rintro e w3 ⟨ho3, herr, hok⟩
     obtain ⟨res, hres⟩ : ∃ res, jstep s r = res := ⟨_, rfl⟩
     have HRes := zH hres
     rw [hres] at herr hok
     clear hres
     have HB3 := zH (HB9.out.trans (KJ.below ho3 HB9.out.size))
     clear ho3
     cases res with
     |error y =>
      have he := herr y rfl
      subst he
      have hy := jstep_err HRes.out
      have hyb : (y != 0) = true := by rw [bne_iff_ne]; exact hy
      have HY := zH hy
      have HS : Hid (checkP c (qs.map RQ.r) = ((k : Int), y, 0)) := zH (by
       rw [HCp.out, ← HJ.out, HDr.out, jall_cons, HRes.out])
      clear herr hok hy
      go_wp2_with fail
      refine bodyPost_ret (v := .tuple #[.pointer (some ⟨g, 0, none⟩), .int .i64 ((k : Int)), .int .i64 (y), .int .i64 (0)]) (by simp [results, Try.results10, go_sem]) rfl ⟨_, by rw [HS.out], HB3.out, fun _ h2 => absurd (by rw [HS.out] at h2; exact h2) HY.out⟩
     |ok s2 =>
      obtain ⟨he, us4, its4, P4, hu4, hj4⟩ := hok s2 rfl
      subst he
      have HU4 := zH hu4
      have HK4 := zH hj4
      have HJ4 : Hid (jall ((qs.drop (k + 1)).map RQ.r) s2 (k + 1) = jall (qs.map RQ.r) (start c) 0) := zH (by
       rw [← HJ.out, HDr.out, jall_cons, HRes.out])
      have HI4 := zH (jstep_inv HI.out HRv.out.2.ticks HRv.out.2.ttl HRes.out)
      clear herr hok hu4 hj4
      go_wp2_with fail
      go_roundw
      case rel => exact ⟨k + 1, us4, _, _, _, by omega, by go_num, rfl, HJ4.out, HI4.out, by have := HU.out; have := HU4.out; omega, HK4.out, HB3.out⟩
      case measure => simp [intOf]; omega
    ·obtain rfl : k = qs.length := by omega
     have HJe : Hid (((-1, 0), s) = jall (qs.map RQ.r) (start c) 0) := zH (by
      have := HJ.out
      rw [List.drop_length] at this
      exact this)
     have HS : Hid (checkP c (qs.map RQ.r) = (-1, 0, 0)) := zH (by rw [HCp.out, ← HJe.out])
     go_wp2_with fail
     refine bodyPost_ret (v := .tuple #[.pointer (some ⟨g, 0, none⟩), .int .i64 ((-1)), .int .i64 (0), .int .i64 (0)]) (by simp [results, Try.results10, go_sem]) rfl ⟨_, by rw [HS.out], HBl.out, fun _ _ => ⟨g, gm, gp, us, its, P, rfl, by rw [← HJe.out, List.length_map]; exact HI.out, by rw [← HJe.out]; exact HK.out⟩⟩
 ·have heb : (ce != 0) = true := by simp [he0]
  have HS : Hid (checkP c (qs.map RQ.r) = (0, 0, ce)) := zH (by
   unfold checkP
   rw [if_pos (by rw [HCe.out]; exact he0), HCe.out])
  go_wp2_with fail
  refine bodyPost_ret (v := .tuple #[.pointer none, .int .i64 (0), .int .i64 (0), .int .i64 (ce)]) (by simp [results, Try.results10, go_sem]) rfl ⟨_, by rw [HS.out], HB1.out, fun h => absurd (by rw [HS.out] at h; exact h) he0⟩
def ChkRetJ (x : Int × Int × Int) (w : World) (e : Ending) (w' : World) : Prop := e = .returned (.tuple #[.int .i64 x.1, .int .i64 x.2.1, .int .i64 x.2.2]) ∧ Below w.heap.size w w'
set_option maxRecDepth 100000 in
set_option maxHeartbeats 8000000 in
theorem auditCheck_any (Bv : Nat) (c : CfgV) (lv : Value) (qs : List RQ) (w : World) (h : RsAt w Bv lv qs) (hq : ∀ q ∈ qs, RqOk q) (hBv : Bv ≤ w.heap.size) (hn : qs.length ≤ 60000) :
  Calls Try.prog 5 #[cfgv c, lv] w (ChkRetJ (checkP c (qs.map RQ.r)) w) := by
 obtain ⟨A, cap, rfl, hc, hm⟩ := h.cap
 have HC0 : Hid (Blk (w.alloc (.cells #[.int .i64 c.count, .int .i64 c.bytes, .int .i64 c.prot, .int .u64 c.seed, .bool c.same] 37)) w.heap.size 37 #[.int .i64 c.count, .int .i64 c.bytes, .int .i64 c.prot, .int .u64 c.seed, .bool c.same]) := zH (Blk.new w _ _)
 have hbl : Below w.heap.size w (w.alloc (.cells #[.int .i64 c.count, .int .i64 c.bytes, .int .i64 c.prot, .int .u64 c.seed, .bool c.same] 37)) := (zL _ _).alloc (zN _) _
 have HRn := zH (run_any Bv c _ qs _ (h.below hbl) hq (Nat.le_trans hBv hbl.size) hn)
 unfold cfgv cfgc at HRn ⊢
 obtain ⟨X, hX⟩ : ∃ X, checkP c (qs.map RQ.r) = X := ⟨_, rfl⟩
 have HX := zH hX
 obtain ⟨X1, X2, X3⟩ := X
 rw [hX]
 clear h hq hBv hn hbl hX hc hm
 go_enter Try.func5, Try.ntmps5
 have x0 : World.cell? (w.alloc (.cells #[.int .i64 c.count, .int .i64 c.bytes, .int .i64 c.prot, .int .u64 c.seed, .bool c.same] 37)) ⟨w.heap.size, 0, none⟩ = some (.int .i64 c.count) := HC0.out.cell 0 _ rfl
 have x1 : World.cell? (w.alloc (.cells #[.int .i64 c.count, .int .i64 c.bytes, .int .i64 c.prot, .int .u64 c.seed, .bool c.same] 37)) ⟨w.heap.size, 1, none⟩ = some (.int .i64 c.bytes) := HC0.out.cell 1 _ rfl
 have x2 : World.cell? (w.alloc (.cells #[.int .i64 c.count, .int .i64 c.bytes, .int .i64 c.prot, .int .u64 c.seed, .bool c.same] 37)) ⟨w.heap.size, 2, none⟩ = some (.int .i64 c.prot) := HC0.out.cell 2 _ rfl
 have x3 : World.cell? (w.alloc (.cells #[.int .i64 c.count, .int .i64 c.bytes, .int .i64 c.prot, .int .u64 c.seed, .bool c.same] 37)) ⟨w.heap.size, 3, none⟩ = some (.int .u64 c.seed) := HC0.out.cell 3 _ rfl
 have x4 : World.cell? (w.alloc (.cells #[.int .i64 c.count, .int .i64 c.bytes, .int .i64 c.prot, .int .u64 c.seed, .bool c.same] 37)) ⟨w.heap.size, 4, none⟩ = some (.bool c.same) := HC0.out.cell 4 _ rfl
 go_wp2_with fail
 refine HRn.out.mono ?_
 rintro e w2 ⟨J, he, hb2, -⟩
 rw [HX.out] at he
 subst he
 have HB2 : Hid (Below w.heap.size w w2) := zH (below_own hb2)
 clear hb2 x0 x1 x2 x3 x4
 go_wp2_with fail
 refine bodyPost_ret (v := .tuple #[.int .i64 X1, .int .i64 X2, .int .i64 X3]) (by simp [results, Try.results5, go_sem]) rfl ⟨rfl, HB2.out⟩
end Go.Proofs.Ytnabbimompapfaa
namespace Go.Proofs.Ytnabbimompapfaa
open Go Go.RowKit
structure EntsAt (w : World) (B : Nat) (v : Value) (ps : List (EntV × Value)) : Prop where
 form : ∃ A cap, v = .slice A ps.length cap ∧ ps.length ≤ cap ∧ cap ≤ maxLen ∧ (A = none → ps.length = 0) ∧
  (0 < ps.length → ∃ b off, A = some ⟨b, off, none⟩ ∧ (b < w.heap.size ∧ b < B) ∧ ∀ i p, ps[i]? = some p → ∀ j u, (entc p.1 p.2)[j]? = some u → w.cell? ⟨b, off + (i * 4 + j), none⟩ = some u)
 vals : ∀ p ∈ ps, Bts w B 5 p.2 p.1.val
section
variable {w w' : World} {B : Nat} {v : Value} {ps : List (EntV × Value)}
theorem EntsAt.keep (h : EntsAt w B v ps) (hb : KeepB B 5 w w') : EntsAt w' B v ps := by
 obtain ⟨⟨A, cap, e, h1, h2, h3, h4⟩, h5⟩ := h
 refine ⟨⟨A, cap, e, h1, h2, h3, fun hp => ?_⟩, fun p hp => (h5 p hp).keep hb⟩
 obtain ⟨b, off, hA, hlt, hc⟩ := h4 hp
 refine ⟨b, off, hA, ⟨Nat.lt_of_lt_of_le hlt.1 hb.1, hlt.2⟩, fun i p hi j u hu => ?_⟩
 rw [World.cell?_of_block (w := w) (a := ⟨b, off + (i * 4 + j), none⟩) (hb.2 b hlt.1 (.inl hlt.2))]
 exact hc i p hi j u hu
theorem EntsAt.below (h : EntsAt w B v ps) (hb : Below w.heap.size w w') : EntsAt w' B v ps := h.keep (KeepB.of_below hb)
theorem EntsAt.cap (h : EntsAt w B v ps) : ∃ A cap, v = .slice A ps.length cap ∧ ps.length ≤ cap ∧ cap ≤ maxLen := by obtain ⟨⟨A, cap, e, h1, h2, _⟩, _⟩ := h; exact ⟨A, cap, e, h1, h2⟩
theorem EntsAt.at_ {A : Option Addr} {n cap : Nat} (h : EntsAt w B (.slice A n cap) ps) {i : Nat} {p : EntV × Value} (hi : ps[i]? = some p) : ∃ b off, A = some ⟨b, off, none⟩ ∧
  w.cell? ⟨b, off + i * 4, none⟩ = some (.string p.1.key) ∧ w.cell? ⟨b, off + i * 4 + 1, none⟩ = some p.2 ∧ w.cell? ⟨b, off + i * 4 + 2, none⟩ = some (.int .u64 p.1.dl) ∧ w.cell? ⟨b, off + i * 4 + 3, none⟩ = some (.int .u64 p.1.birth) := by
 obtain ⟨⟨A', cap', e, h1, h2, h3, h4⟩, h5⟩ := h
 injection e with e1 e2 e3
 subst e1
 have hl := (List.getElem?_eq_some_iff.1 hi).1
 obtain ⟨b, off, hA, hlt, hc⟩ := h4 (by omega)
 exact ⟨b, off, hA, hc i p hi 0 _ rfl, hc i p hi 1 _ rfl, hc i p hi 2 _ rfl, hc i p hi 3 _ rfl⟩
theorem EntsAt.nil (w : World) (B : Nat) : EntsAt w B (.slice none 0 0) [] := ⟨⟨none, 0, rfl, zN _, Nat.zero_le _, fun _ => rfl, fun h => by simp at h⟩, by simp⟩
theorem EntsAt.of_own {base B : Nat} (h : w.ownsRow base 32 4 v ps.length (ecs ps)) (hB : w.heap.size ≤ B) (hv : ∀ p ∈ ps, Bts w B 5 p.2 p.1.val) : EntsAt w B v ps := by
 refine ⟨?_, hv⟩
 obtain ⟨A, cap, rfl, h1, h2⟩ := own_form h
 rcases h.2 with ⟨e, h0⟩ | ⟨g, cap', cur, e, hg, hh, _⟩
 ·injection e with e1 e2 e3
  exact ⟨A, cap, rfl, h1, h2, fun _ => h0, fun h => by omega⟩
 ·injection e with e1 e2 e3
  subst e1
  refine ⟨_, cap, rfl, h1, h2, (fun h => by cases h), fun h0 => ⟨g, 0, rfl, ⟨lt_of_heap hh, Nat.lt_of_lt_of_le (lt_of_heap hh) hB⟩, fun i p hi j u hu => ?_⟩⟩
  have hj : j < 4 := by have := (Array.getElem?_eq_some_iff.1 hu).1; simpa [entc] using this
  have := h.cells (g := g) rfl (i * 4 + j) u ((ecs_at ps i j p hi hj).trans (by rw [← hu]; simp [entc]))
  rw [add_plain] at this
  exact this
end
def LvRet (x : List EntV × Int) (w : World) (e : Ending) (w' : World) : Prop :=
 ∃ v ps, e = .returned (.tuple #[v, .int .i64 x.2]) ∧ EntsAt w' w'.heap.size v ps ∧ ps.map Prod.fst = x.1 ∧ Below w.heap.size w w'
end Go.Proofs.Ytnabbimompapfaa
