/- AudLD, AudMC -/
import Derived.Test.YtnabbimompapfaaMf15
namespace Go.Proofs.Ytnabbimompapfaa
open Go Go.RowKit
def bx' (h : Nat) : Value := .slice (some ⟨h, 0, none⟩) 1 1
theorem below_more {w W W2 : World} {B : Nat} (h : Below B w W) (k : Below W.heap.size W W2) (hB : B ≤ w.heap.size) : Below B w W2 := h.trans (k.mono (Nat.le_trans hB h.size))
set_option maxRecDepth 100000 in
set_option maxHeartbeats 4000000 in
theorem known_any (w : World) : Calls Try.prog 4 #[] w fun e w' => e = .returned (.bool true) ∧ Below w.heap.size w w' := by
 have HKc := zH (fun (w : World) (C : Array Value) (n c : Nat) => Lib.run_convert_bytes_const (P := Try.prog) w 27 5 C n c Try.underlying27 Try.underlying5)
 go_enter Try.func4, Try.ntmps4
 go_upto_region 2 with fail
 have HC0 : Hid (Blk (w.alloc (.cells cc27 37)) w.heap.size 37 cc27) := zH (Blk.new w _ _)
 have HB0 : Hid (Below w.heap.size w (w.alloc (.cells cc27 37))) := zH ((zL _ _).alloc (zN _) _)
 have hcc : cc27 = #[.int .i64 2, .int .i64 100, .int .i64 0, .int .u64 0, .bool false] := rfl
 rw [← hcc]
 clear hcc
 generalize World.alloc _ _ = W0 at HC0 HB0 ⊢
 generalize hgc : w.heap.size = gc at HC0 HB0 ⊢
 have HGe := zH hgc
 have HGl : Hid (gc ≤ w.heap.size) := zH (Nat.le_of_eq hgc.symm)
 clear hgc
 refine wp_region_noPanic ?_
 refine wp_region_held_drew (S := fun W => Blk W gc 37 cc27) (by kernel_rfl) HC0.out.drew (fun hHeld => ?_)
 have HB1 := zH HB0.out.drew
 generalize W0.drew = W1 at hHeld HB1 ⊢
 have H1 := zH hHeld
 clear HC0 HB0
 refine tk 0 (v := ?_) ?_ ?_
 rotate_left 1
 ·intro W hSw
  obtain ⟨x0, x1, x2, x3, x4⟩ := cfg5 hSw
  clear hSw
  go_simp
  try with_reducible rfl
 try dsimp only [zS, zB, zC]
 refine wpAnyH_ready (rs := [1]) (by kernel_rfl) (by simp) ?_
 refine AllReadyH.cons (o := ⟨_, _, _, _, _, _⟩) rfl (fun F hF => ?_) AllReadyH.nil
 go_simp
 refine (given_any W1).mono ?_
 rintro e2 w2 ⟨g, h1, h2, rfl, hg, hgv, hb2⟩
 have HG2 := zH hgv.gv
 have HC2 := zH (H1.out.below hb2)
 have HB2 := zH (below_more HB1.out hb2 HGl.out)
 clear hg hgv hb2 hHeld H1 HB1
 go_wp2_with fail
 refine hF.out _ _ HC2.out (fun hHeld => ?_)
 clear hF F
 try simp only [Act.put, zA, zB, zC]
 refine wpAnyH_ready (rs := [2]) (by kernel_rfl) (by simp) ?_
 refine AllReadyH.cons (o := ⟨_, _, _, _, _, _⟩) rfl (fun F hF => ?_) AllReadyH.nil
 go_simp
 refine (live_any w2.heap.size c27 _ _ w2 HG2.out.rs0 gqs_ok (zN _) (by show 2 ≤ 60000; omega)).mono ?_
 rintro e3 w3 hl3
 have hlv : liveP c27 ((gqs h1 h2 50 3 0 true).map RQ.r) = ([kent], 0) := kl_ok
 rw [hlv] at hl3
 obtain ⟨v, ps, base, rfl, hbase, hown, hvals, hmap, hb3⟩ := hl3
 obtain ⟨VA, vc, rfl, _, _⟩ := own_form hown
 have HE3 : Hid (EntsAt w3 w3.heap.size (.slice VA ps.length vc) ps) := zH (EntsAt.of_own hown (zN _) (fun p hp => (hvals p hp).1))
 have HMp : Hid (ps.map Prod.fst = [kent]) := zH hmap
 have hpl : ps.length = 1 := by have := congrArg List.length hmap; simpa using this
 have HC3 := zH (HC2.out.below hb3)
 have HB3 := zH (below_more HB2.out hb3 HGl.out)
 rw [hpl] at HE3 ⊢
 have HPl := zH hpl
 clear hlv hbase hown hvals hmap hb3 hHeld HG2 HC2 HB2 hpl
 go_wp2_with fail
 refine hF.out _ _ HC3.out (fun hHeld => ?_)
 clear hF F
 try simp only [Act.put, zA, zB, zC]
 refine Pl.go [3, 4, 5, 6, 7] ?_
 iterate 5
  refine tkl (v := ?_) ?_ ?_
  rotate_left 1
  ·intro W hSw
   obtain ⟨x0, x1, x2, x3, x4⟩ := cfg5 hSw
   clear hSw
   go_simp
   try with_reducible rfl
  try dsimp only [zS, zB, zC]
 refine Pl.stop ?_
 refine wpAnyH_done (by kernel_rfl) ?_ _
 refine NoPanic.normal ?_
 clear hHeld
 go_upto_region 3 with fail
 refine wp_region_noPanic ?_
 refine wp_region_held_drew (S := fun W => Blk W gc 37 cc27 ∧ EntsAt W w3.heap.size (.slice VA 1 vc) ps) (by kernel_rfl) ⟨HC3.out.drew, HE3.out.below (zL _ _).drew⟩ (fun hHeld => ?_)
 have HB4 := zH HB3.out.drew
 generalize w3.drew = w4 at hHeld HB4 ⊢
 have H4 := zH hHeld
 clear HB3 HC3
 refine tk 0 (v := ?_) ?_ ?_
 rotate_left 1
 ·intro W hSw
  obtain ⟨x0, x1, x2, x3, x4⟩ := cfg5 hSw.1
  clear hSw
  go_simp
  try with_reducible rfl
 try dsimp only [zS, zB, zC]
 refine wpAnyH_ready (rs := [1]) (by kernel_rfl) (by simp) ?_
 refine AllReadyH.cons (o := ⟨_, _, _, _, _, _⟩) rfl (fun F hF => ?_) AllReadyH.nil
 go_simp
 refine (given_any w4).mono ?_
 rintro e2 w5 ⟨g5, h5, k5, rfl, hg, hgv, hb⟩
 have HG5 := zH hgv.gv
 have H5 := zH (And.intro (H4.out.1.below hb) (H4.out.2.below hb))
 have HB5 := zH (below_more HB4.out hb HGl.out)
 clear hg hgv hb hHeld H4 HB4
 go_wp2_with fail
 refine hF.out _ _ H5.out (fun hHeld => ?_)
 clear hF F
 try simp only [Act.put, zA, zB, zC]
 refine wpAnyH_ready (rs := [2]) (by kernel_rfl) (by simp) ?_
 refine AllReadyH.cons (o := ⟨_, _, _, _, _, _⟩) rfl (fun F hF => ?_) AllReadyH.nil
 go_simp
 refine (judge0 HG5.out kc_ok).mono ?_
 rintro e3 w6 ⟨rfl, hb⟩
 have H6 := zH (And.intro (H5.out.1.below hb) (H5.out.2.below hb))
 have HB6 := zH (below_more HB5.out hb HGl.out)
 clear hb hHeld H5 HB5 HG5
 go_wp2_with fail
 refine hF.out _ _ H6.out (fun hHeld => ?_)
 clear hF F
 try simp only [Act.put, zA, zB, zC]
 refine Pl.go [3, 4, 5, 6, 7, 8, 9] ?_
 iterate 7
  refine tkl (v := ?_) ?_ ?_
  rotate_left 1
  ·intro W hSw
   obtain ⟨x0, x1, x2, x3, x4⟩ := cfg5 hSw.1
   clear hSw
   go_simp
   try with_reducible rfl
  try dsimp only [zS, zB, zC]
 refine Pl.stop ?_
 refine wpAnyH_ready (rs := [10]) (by kernel_rfl) (by simp) ?_
 refine AllReadyH.cons (o := ⟨_, _, _, _, _, _⟩) rfl (fun F hF => ?_) AllReadyH.nil
 go_simp
 have hb : Below w6.heap.size w6 (w6.alloc (.cells #[.int .u8 120] 5)) := (zL _ _).alloc (zN _) _
 refine hF.out _ _ ⟨H6.out.1.below hb, H6.out.2.below hb⟩ (fun hHeld => ?_)
 clear hF F hHeld hb
 try simp only [Act.put, zA, zB, zC]
 have kc := HKc.out w6
 refine wpAnyH_ready (rs := [11]) (by kernel_rfl) (by simp) ?_
 refine AllReadyH.cons (o := ⟨_, _, _, _, _, _⟩) rfl (fun F hF => ?_) AllReadyH.nil
 go_simp
 clear kc
 have hb : Below w6.heap.size w6 (w6.alloc (.cells #[.int .u8 120] 5 (1, 2))) := (zL _ _).alloc (zN _) _
 have HV7 := zH (heap_alloc_new w6 (.cells #[.int .u8 120] 5 (1, 2)))
 have H7 := zH (And.intro (H6.out.1.below hb) (H6.out.2.below hb))
 have HB7 := zH (below_more HB6.out hb HGl.out)
 generalize World.alloc _ _ = w7 at HV7 H7 HB7 ⊢
 generalize w6.heap.size = gv at HV7 ⊢
 clear hb H6 HB6
 refine hF.out _ _ H7.out (fun hHeld => ?_)
 clear hF F
 try simp only [Act.put, zA, zB, zC]
 refine tk 12 (v := ?_) ?_ ?_
 rotate_left 1
 ·intro W hSw
  obtain ⟨x0, x1, x2, x3, x4⟩ := cfg5 hSw.1
  clear hSw
  go_simp
  try with_reducible rfl
 try dsimp only [zS, zB, zC]
 refine wpAnyH_ready (rs := [13]) (by kernel_rfl) (by simp) ?_
 refine AllReadyH.cons (o := ⟨_, _, _, _, _, _⟩) rfl (fun F hF => ?_) AllReadyH.nil
 go_simp
 have hb : Below w7.heap.size w7 (w7.alloc (.cells #[.string ka, bx gv, .int .u64 18446744073709551615, .int .u64 1] 32)) := (zL _ _).alloc (zN _) _
 have H8 := zH (And.intro (H7.out.1.below hb) (H7.out.2.below hb))
 have HB8 := zH (below_more HB7.out hb HGl.out)
 have HE8 := zH (row_ents ((hb.block gv (lt_of_heap HV7.out)).trans HV7.out) (Blk.new w7 _ _))
 have hcc : #[.string ka, bx gv, .int .u64 18446744073709551615, .int .u64 1] = #[.string ⟨#[97]⟩, .slice (some ⟨gv, 0, none⟩) 1 1, .int .u64 18446744073709551615, .int .u64 1] := rfl
 rw [← hcc]
 generalize World.alloc _ _ = w8 at H8 HB8 HE8 ⊢
 generalize w7.heap.size = ge at HE8 ⊢
 clear hcc hb H7 HB7 HV7
 refine hF.out _ _ H8.out (fun hHeld => ?_)
 clear hF F
 try simp only [Act.put, zA, zB, zC]
 refine wpAnyH_ready (rs := [14]) (by kernel_rfl) (by simp) ?_
 refine AllReadyH.cons (o := ⟨_, _, _, _, _, _⟩) rfl (fun F hF => ?_) AllReadyH.nil
 go_simp
 refine (kSameE_any _ _ _ _ ps [(kent, bx gv)] w8 H8.out.2 HE8.out (by rw [HPl.out]; omega)).mono ?_
 rintro e9 w9 ⟨rfl, hb⟩
 rw [HMp.out]
 have H9 := zH (H8.out.1.below hb)
 have HB9 := zH (below_more HB8.out hb HGl.out)
 have H9b := zH (And.intro H9.out (H8.out.2.below hb))
 clear hb H8 HB8 HE8
 go_wp2_with fail
 refine hF.out _ _ H9b.out (fun hHeld => ?_)
 clear hF F
 try simp only [Act.put, zA, zB, zC]
 refine Pl.go [15, 16] ?_
 iterate 2
  refine tkl (v := ?_) ?_ ?_
  rotate_left 1
  ·intro W hSw
   obtain ⟨x0, x1, x2, x3, x4⟩ := cfg5 hSw.1
   clear hSw
   go_simp
   try with_reducible rfl
  try dsimp only [zS, zB, zC]
 refine Pl.stop ?_
 refine wpAnyH_done (by kernel_rfl) ?_ _
 refine NoPanic.normal ?_
 clear hHeld H9b HMp HPl
 go_wp2_with fail
 refine (given_any w9).mono ?_
 rintro e2 w10 ⟨ga, a1, a2, rfl, hg, hgv, hb⟩
 have H10 := zH (H9.out.below hb)
 have HB10 := zH (below_more HB9.out hb HGl.out)
 have hca : gc ≤ ga := by have := H9.out.lt; omega
 have Ga := zH hgv.gv
 clear hg hgv hb H9 HB9
 go_wp2_with fail
 refine (given_any w10).mono ?_
 rintro e2 w11 ⟨gb, b1, b2, rfl, hg, hgv, hb⟩
 have H11 := zH (H10.out.below hb)
 have HB11 := zH (below_more HB10.out hb HGl.out)
 have hlt := Ga.out.row.lt
 have hab : ga < gb := by omega
 clear hlt
 replace Ga := zH (Ga.out.below hb)
 have hcb : gc ≤ gb := by have := H10.out.lt; omega
 have Gb := zH hgv.gv
 clear hg hgv hb H10 HB10
 go_wp2_with fail
 refine (given_any w11).mono ?_
 rintro e2 w12 ⟨gd, d1, d2, rfl, hg, hgv, hb⟩
 have H12 := zH (H11.out.below hb)
 have HB12 := zH (below_more HB11.out hb HGl.out)
 have hlt := Ga.out.row.lt
 have had : ga < gd := by omega
 clear hlt
 replace Ga := zH (Ga.out.below hb)
 have hlt := Gb.out.row.lt
 have hbd : gb < gd := by omega
 clear hlt
 replace Gb := zH (Gb.out.below hb)
 have hcd : gc ≤ gd := by have := H11.out.lt; omega
 have Gd := zH hgv.gv
 clear hg hgv hb H11 HB11
 go_wp2_with fail
 refine (given_any w12).mono ?_
 rintro e2 w13 ⟨gf, f1, f2, rfl, hg, hgv, hb⟩
 have H13 := zH (H12.out.below hb)
 have HB13 := zH (below_more HB12.out hb HGl.out)
 have hlt := Ga.out.row.lt
 have haf : ga < gf := by omega
 clear hlt
 replace Ga := zH (Ga.out.below hb)
 have hlt := Gb.out.row.lt
 have hbf : gb < gf := by omega
 clear hlt
 replace Gb := zH (Gb.out.below hb)
 have hlt := Gd.out.row.lt
 have hdf : gd < gf := by omega
 clear hlt
 replace Gd := zH (Gd.out.below hb)
 have hcf : gc ≤ gf := by have := H12.out.lt; omega
 have Gf := zH hgv.gv
 clear hg hgv hb H12 HB12
 go_wp2_with fail
 refine (given_any w13).mono ?_
 rintro e2 w14 ⟨gg, g1, g2, rfl, hg, hgv, hb⟩
 have H14 := zH (H13.out.below hb)
 have HB14 := zH (below_more HB13.out hb HGl.out)
 have hlt := Ga.out.row.lt
 have hag : ga < gg := by omega
 clear hlt
 replace Ga := zH (Ga.out.below hb)
 have hlt := Gb.out.row.lt
 have hbg : gb < gg := by omega
 clear hlt
 replace Gb := zH (Gb.out.below hb)
 have hlt := Gd.out.row.lt
 have hdg : gd < gg := by omega
 clear hlt
 replace Gd := zH (Gd.out.below hb)
 have hlt := Gf.out.row.lt
 have hfg : gf < gg := by omega
 clear hlt
 replace Gf := zH (Gf.out.below hb)
 have hcg : gc ≤ gg := by have := H13.out.lt; omega
 have Gg := zH hgv.gv
 clear hg hgv hb H13 HB13
 go_upto_region 6 with fail
 obtain ⟨ca, -⟩ := gcs_at a1 a2 (gr1 50) (gr2 3 0 true [] 1 50) nx
 obtain ⟨-, cb, -⟩ := gcs_at b1 b2 (gr1 50) (gr2 3 0 true [] 1 50) nx
 obtain ⟨-, -, -, cd, -⟩ := gcs_at d1 d2 (gr1 50) (gr2 3 0 true [] 1 50) nx
 obtain ⟨-, -, cf, -⟩ := gcs_at f1 f2 (gr1 50) (gr2 3 0 true [] 1 50) nx
 have ca := Ga.out.row.cell 20 _ ca
 have cb := Gb.out.row.cell 30 _ cb
 have cd := Gd.out.row.cell 32 _ cd
 have cf := Gf.out.row.cell 31 _ cf
 have fa := Ga.out.row.frozen 20
 have fb := Gb.out.row.frozen 30
 have fd := Gd.out.row.frozen 32
 have ff := Gf.out.row.frozen 31
 go_upto_region 7 with fail
 clear ca cb cd cf fa fb fd ff
 have Kb := Gb.out.other Ga.out.row (by omega) 20 (.int .i64 51)
 have Kd := Gd.out.other Ga.out.row (by omega) 20 (.int .i64 51)
 have Kf := Gf.out.other Ga.out.row (by omega) 20 (.int .i64 51)
 have Kg := Gg.out.other Ga.out.row (by omega) 20 (.int .i64 51)
 have Ka := Ga.out.set_ 20 (.int .i64 51) (set_a a1 a2)
 have KH := H14.out.only (Only.set1 w14 ga 20 (.int .i64 51)) (H14.out.ne_ Ga.out.row (by decide))
 have KB := HB14.out.setCell (p := ⟨ga, 20, none⟩) (by dsimp only; omega) (.int .i64 51)
 generalize w14.setCell ⟨ga, 20, none⟩ (.int .i64 51) = u0 at Ka Kb Kd Kf Kg KH KB ⊢
 clear Ga Gb Gd Gf Gg H14 HB14
 have Ga := zH Ka
 have Gb := zH Kb
 have Gd := zH Kd
 have Gf := zH Kf
 have Gg := zH Kg
 have H15 := zH KH
 have HB15 := zH KB
 clear Ka Kb Kd Kf Kg KH KB
 have Ka := Ga.out.other Gb.out.row (by omega) 30 (.int .u64 2)
 have Kd := Gd.out.other Gb.out.row (by omega) 30 (.int .u64 2)
 have Kf := Gf.out.other Gb.out.row (by omega) 30 (.int .u64 2)
 have Kg := Gg.out.other Gb.out.row (by omega) 30 (.int .u64 2)
 have Kb := Gb.out.set_ 30 (.int .u64 2) (set_b b1 b2)
 have KH := H15.out.only (Only.set1 u0 gb 30 (.int .u64 2)) (H15.out.ne_ Gb.out.row (by decide))
 have KB := HB15.out.setCell (p := ⟨gb, 30, none⟩) (by dsimp only; omega) (.int .u64 2)
 generalize u0.setCell ⟨gb, 30, none⟩ (.int .u64 2) = u1 at Ka Kb Kd Kf Kg KH KB ⊢
 clear Ga Gb Gd Gf Gg H15 HB15
 have Ga := zH Ka
 have Gb := zH Kb
 have Gd := zH Kd
 have Gf := zH Kf
 have Gg := zH Kg
 have H16 := zH KH
 have HB16 := zH KB
 clear Ka Kb Kd Kf Kg KH KB
 have Ka := Ga.out.other Gd.out.row (by omega) 32 (.bool false)
 have Kb := Gb.out.other Gd.out.row (by omega) 32 (.bool false)
 have Kf := Gf.out.other Gd.out.row (by omega) 32 (.bool false)
 have Kg := Gg.out.other Gd.out.row (by omega) 32 (.bool false)
 have Kd := Gd.out.set_ 32 (.bool false) (set_d d1 d2)
 have KH := H16.out.only (Only.set1 u1 gd 32 (.bool false)) (H16.out.ne_ Gd.out.row (by decide))
 have KB := HB16.out.setCell (p := ⟨gd, 32, none⟩) (by dsimp only; omega) (.bool false)
 generalize u1.setCell ⟨gd, 32, none⟩ (.bool false) = u2 at Ka Kb Kd Kf Kg KH KB ⊢
 clear Ga Gb Gd Gf Gg H16 HB16
 have Ga := zH Ka
 have Gb := zH Kb
 have Gd := zH Kd
 have Gf := zH Kf
 have Gg := zH Kg
 have H17 := zH KH
 have HB17 := zH KB
 clear Ka Kb Kd Kf Kg KH KB
 have Ka := Ga.out.other Gf.out.row (by omega) 31 (.int .i64 2)
 have Kb := Gb.out.other Gf.out.row (by omega) 31 (.int .i64 2)
 have Kd := Gd.out.other Gf.out.row (by omega) 31 (.int .i64 2)
 have Kg := Gg.out.other Gf.out.row (by omega) 31 (.int .i64 2)
 have Kf := Gf.out.set_ 31 (.int .i64 2) (set_f f1 f2)
 have KH := H17.out.only (Only.set1 u2 gf 31 (.int .i64 2)) (H17.out.ne_ Gf.out.row (by decide))
 have KB := HB17.out.setCell (p := ⟨gf, 31, none⟩) (by dsimp only; omega) (.int .i64 2)
 generalize u2.setCell ⟨gf, 31, none⟩ (.int .i64 2) = u3 at Ka Kb Kd Kf Kg KH KB ⊢
 clear Ga Gb Gd Gf Gg H17 HB17
 have Ga := zH Ka
 have Gb := zH Kb
 have Gd := zH Kd
 have Gf := zH Kf
 have Gg := zH Kg
 have H18 := zH KH
 have HB18 := zH KB
 clear Ka Kb Kd Kf Kg KH KB
 obtain ⟨-, -, -, -, c39, c40, c41⟩ := gcs_at g1 g2 (gr1 50) (gr2 3 0 true [] 1 50) nx
 have c39 := Gg.out.row.cell 39 _ c39
 have c40 := Gg.out.row.cell 40 _ c40
 have c41 := Gg.out.row.cell 41 _ c41
 have f39 := Gg.out.row.frozen 39
 have f40 := Gg.out.row.frozen 40
 have f41 := Gg.out.row.frozen 41
 have hgl := Gg.out.row.lt
 have kc := HKc.out u3
 go_upto_region 8 with fail
 clear c39 c40 c41 f39 f40 f41 hgl kc
 obtain ⟨n3, hn3⟩ : ∃ n, u3.heap.size = n := ⟨_, rfl⟩
 rw [hn3]
 have ho4 : Only (fun k => k = gg) u3 (((u3.setCell ⟨gg, 39, none⟩ (bx' (n3 + 1))).setCell ⟨gg, 40, none⟩ (.int .i64 0)).setCell ⟨gg, 41, none⟩ (.int .i64 0)) :=
  Only.setCell (S := fun k => k = gg) (Only.setCell (S := fun k => k = gg) (Only.set1 u3 gg 39 _) (p := ⟨gg, 40, none⟩) (.inl rfl) _) (p := ⟨gg, 41, none⟩) (.inl rfl) _
 have hsz : (((u3.setCell ⟨gg, 39, none⟩ (bx' (n3 + 1))).setCell ⟨gg, 40, none⟩ (.int .i64 0)).setCell ⟨gg, 41, none⟩ (.int .i64 0)).heap.size = n3 := by simpa [World.setCell] using hn3
 have Kg := ((Gg.out.set_ 39 (bx' (n3 + 1)) (set_g1 g1 g2 _)).set_ 40 _ (set_g2 g1 g2 _)).set_ 41 _ (set_g3 g1 g2 _)
 have Ka := Ga.out.otherO Gg.out.row (by omega) ho4
 have Kb := Gb.out.otherO Gg.out.row (by omega) ho4
 have Kd := Gd.out.otherO Gg.out.row (by omega) ho4
 have Kf := Gf.out.otherO Gg.out.row (by omega) ho4
 have KH := H18.out.only ho4 (H18.out.ne_ Gg.out.row (by decide))
 have KB := ((HB18.out.setCell (p := ⟨gg, 39, none⟩) (by dsimp only; omega) (bx' (n3 + 1))).setCell (p := ⟨gg, 40, none⟩) (by dsimp only; omega) (.int .i64 0)).setCell (p := ⟨gg, 41, none⟩) (by dsimp only; omega) (.int .i64 0)
 unfold bx' at ho4 hsz Kg Ka Kb Kd Kf KH KB
 generalize ((u3.setCell ⟨gg, 39, none⟩ (.slice (some ⟨n3 + 1, 0, none⟩) 1 1)).setCell ⟨gg, 40, none⟩ (.int .i64 0)).setCell ⟨gg, 41, none⟩ (.int .i64 0) = u4 at hsz Kg Ka Kb Kd Kf KH KB ⊢
 clear ho4 Ga Gb Gd Gf Gg H18 HB18 hn3
 have hb4 : Below u4.heap.size u4 ((u4.alloc (.cells #[.int .u8 120] 5 (1, 2))).alloc (.cells #[.int .i64 2, .string ka, .slice (some ⟨n3, 0, none⟩) 1 1, .int .u64 1, .int .u64 18446744073709551615, .int .u64 3] 50)) := below_two _ _ _
 have hv4 : ((u4.alloc (.cells #[.int .u8 120] 5 (1, 2))).alloc (.cells #[.int .i64 2, .string ka, .slice (some ⟨n3, 0, none⟩) 1 1, .int .u64 1, .int .u64 18446744073709551615, .int .u64 3] 50)).heap[n3]? = some (.cells #[.int .u8 120] 5 (1, 2)) := by
  have h := heap_alloc_new u4 (.cells #[.int .u8 120] 5 (1, 2))
  rw [hsz] at h
  exact (Below.heap_alloc _ _ _ (by rw [World.size_alloc]; omega)).trans h
 have he4 := Blk.new2 u4 (.cells #[.int .u8 120] 5 (1, 2)) 50 #[.int .i64 2, .string ka, .slice (some ⟨n3, 0, none⟩) 1 1, .int .u64 1, .int .u64 18446744073709551615, .int .u64 3]
 rw [hsz] at he4
 have hka : (⟨#[97]⟩ : ByteArray) = ka := rfl
 rw [hka]
 clear hka
 generalize (u4.alloc (.cells #[.int .u8 120] 5 (1, 2))).alloc (.cells #[.int .i64 2, .string ka, .slice (some ⟨n3, 0, none⟩) 1 1, .int .u64 1, .int .u64 18446744073709551615, .int .u64 3] 50) = u5 at hb4 hv4 he4 ⊢
 have GX := zH (row_evs hv4 he4)
 have Ga := zH (Ka.below hb4)
 have Gb := zH (Kb.below hb4)
 have Gd := zH (Kd.below hb4)
 have Gf := zH (Kf.below hb4)
 have Gg := zH (Kg.below hb4)
 have H20 := zH (KH.below hb4)
 have HB20 := zH (below_more KB hb4 HGl.out)
 clear Ka Kb Kd Kf Kg KH KB hb4 hv4 he4 hsz
 obtain ⟨x0, x1, x2, x3, x4⟩ := cfg5 H20.out
 go_wp2_with fail
 have HX5 := zH (zN u5.heap.size)
 refine (judge0 Ga.out kc_a).mono ?_
 rintro e2 w20 ⟨rfl, hb⟩
 replace Gb := zH (Gb.out.below hb)
 replace Gd := zH (Gd.out.below hb)
 replace Gf := zH (Gf.out.below hb)
 replace Gg := zH (Gg.out.below hb)
 replace GX := zH (GX.out.below hb)
 have HX6 := zH (Nat.le_trans HX5.out hb.size)
 have H21 := zH (H20.out.below hb)
 have HB21 := zH (below_more HB20.out hb HGl.out)
 clear hb x0 x1 x2 x3 x4 H20 HB20
 obtain ⟨x0, x1, x2, x3, x4⟩ := cfg5 H21.out
 go_wp2_with fail
 refine (judge0 Gb.out kc_b).mono ?_
 rintro e2 w21 ⟨rfl, hb⟩
 replace Gd := zH (Gd.out.below hb)
 replace Gf := zH (Gf.out.below hb)
 replace Gg := zH (Gg.out.below hb)
 replace GX := zH (GX.out.below hb)
 have HX7 := zH (Nat.le_trans HX6.out hb.size)
 have H22 := zH (H21.out.below hb)
 have HB22 := zH (below_more HB21.out hb HGl.out)
 clear hb x0 x1 x2 x3 x4 H21 HB21
 obtain ⟨x0, x1, x2, x3, x4⟩ := cfg5 H22.out
 go_wp2_with fail
 refine (judge0 Gd.out kc_d).mono ?_
 rintro e2 w22 ⟨rfl, hb⟩
 replace Gf := zH (Gf.out.below hb)
 replace Gg := zH (Gg.out.below hb)
 replace Gd := zH (Gd.out.below hb)
 replace GX := zH (GX.out.below hb)
 have HX8 := zH (Nat.le_trans HX7.out hb.size)
 have H23 := zH (H22.out.below hb)
 have HB23 := zH (below_more HB22.out hb HGl.out)
 clear hb x0 x1 x2 x3 x4 H22 HB22
 obtain ⟨x0, x1, x2, x3, x4⟩ := cfg5 H23.out
 go_wp2_with fail
 refine (judge0 Gf.out kc_f).mono ?_
 rintro e2 w23 ⟨rfl, hb⟩
 replace Gg := zH (Gg.out.below hb)
 replace Gd := zH (Gd.out.below hb)
 replace GX := zH (GX.out.below hb)
 have HX9 := zH (Nat.le_trans HX8.out hb.size)
 have H24 := zH (H23.out.below hb)
 have HB24 := zH (below_more HB23.out hb HGl.out)
 clear hb x0 x1 x2 x3 x4 H23 HB23
 obtain ⟨x0, x1, x2, x3, x4⟩ := cfg5 H24.out
 go_wp2_with fail
 refine (judgeG Gg.out GX.out HX9.out).mono ?_
 rintro e2 w24 ⟨rfl, hb⟩
 replace Gd := zH (Gd.out.below hb)
 replace GX := zH (GX.out.below hb)
 have HX10 := zH (Nat.le_trans HX9.out hb.size)
 have H25 := zH (H24.out.below hb)
 have HB25 := zH (below_more HB24.out hb HGl.out)
 clear hb x0 x1 x2 x3 x4 H24 HB24
 obtain ⟨x0, x1, x2, x3, x4⟩ := cfg5 H25.out
 go_wp2_with fail
 refine (check0 _).mono ?_
 rintro e2 w25 ⟨rfl, hb⟩
 have H26 := zH (H25.out.below hb)
 have HB26 := zH (below_more HB25.out hb HGl.out)
 replace Gd := zH (Gd.out.below hb)
 clear hb x0 x1 x2 x3 x4 H25 HB25
 obtain ⟨x0, x1, x2, x3, x4⟩ := cfg5 H26.out
 go_wp2_with fail
 refine (live0 Gd.out).mono ?_
 rintro e2 w26 ⟨⟨v, rfl⟩, hb⟩
 have HB27 := zH (below_more HB26.out hb HGl.out)
 clear hb x0 x1 x2 x3 x4
 go_wp2_with fail
 go_ret
 exact ⟨rfl, by have := HB27.out; rw [← HGe.out] at this; exact this⟩
end Go.Proofs.Ytnabbimompapfaa
namespace Go.Proofs.Ytnabbimompapfaa
open Go Go.RowKit
theorem fulC_lit (k : Nat) : fulC k (-1) = #[.int .i64 10, .int .u64 2, .string ⟨#[]⟩, .slice none 0 0, .int .u64 0, .int .i64 0, .int .i64 0, .int .i64 0, .int .u64 0, .int .u64 (2 * (k : Int) + 2), .int .i64 0, .bool false, .slice none 0 0, .string ⟨#[]⟩, .slice none 0 0, .int .u64 0, .int .u64 0, .int .i64 0, .slice none 0 0, .int .i64 0, .int .i64 0] := by
 unfold fulC
 rw [if_neg (by omega)]
 rfl
def c49c : Array Value := #[.int .i64 1, .int .i64 49, .int .i64 0, .int .u64 0, .bool false]
theorem cfg49 {W : World} {g : Nat} (h : Blk W g 37 c49c) : W.cell? ⟨g, 0, none⟩ = some (.int .i64 1) ∧ W.cell? ⟨g, 1, none⟩ = some (.int .i64 49) ∧ W.cell? ⟨g, 2, none⟩ = some (.int .i64 0) ∧ W.cell? ⟨g, 3, none⟩ = some (.int .u64 0) ∧ W.cell? ⟨g, 4, none⟩ = some (.bool false) :=
 ⟨h.cell 0 _ rfl, h.cell 1 _ rfl, h.cell 2 _ rfl, h.cell 3 _ rfl, h.cell 4 _ rfl⟩
set_option maxRecDepth 100000 in
set_option maxHeartbeats 8000000 in
theorem fulls_walk (m bad : Int) (w : World) : Calls Try.prog 3 #[.int .i64 m, .int .i64 bad] w fun e w' => e = .returned (.bool true) ∧ Below w.heap.size w w' := by
 have HB0 : Hid (Below w.heap.size w w) := zH (zL _ _)
 go_enter Try.func3, Try.ntmps3
 by_cases h1 : m < 4094
 ·have q1 : decide (m < 4094) = true := decide_eq_true h1
  clear h1
  go_wp2_with fail
  refine (known_any _).mono ?_
  rintro e w9 ⟨rfl, hb⟩
  have HB9 := zH ((HB0.out).trans (hb.mono (HB0.out).size))
  clear hb
  go_wp2_with fail
  go_ret
  exact ⟨rfl, HB9.out⟩
 by_cases h2 : 4098 < m
 ·have q1 : decide (m < 4094) = false := decide_eq_false h1
  have q2 : decide (4098 < m) = true := decide_eq_true h2
  clear h1 h2
  go_wp2_with fail
  refine (known_any _).mono ?_
  rintro e w9 ⟨rfl, hb⟩
  have HB9 := zH ((HB0.out).trans (hb.mono (HB0.out).size))
  clear hb
  go_wp2_with fail
  go_ret
  exact ⟨rfl, HB9.out⟩
 have q1 : decide (m < 4094) = false := decide_eq_false h1
 have q2 : decide (4098 < m) = false := decide_eq_false h2
 obtain ⟨n, rfl⟩ : ∃ n : Nat, m = n := ⟨m.toNat, by omega⟩
 have hn : 4094 ≤ n ∧ n ≤ 4098 := by omega
 have HN := zH hn
 have HBm : Hid (4094 ≤ (n : Int) ∧ (n : Int) ≤ 4098) := zH (by omega)
 obtain ⟨C, hC, hmk⟩ : ∃ C : Array Value, C.size = n * 21 ∧ ∀ W : World, (Instr.makeSlice 23 (.int .i64 (n : Int)) (.int .i64 (n : Int))).run Try.prog W = .ok (.slice (some ⟨W.heap.size, 0, none⟩) n n) (W.alloc (.cells C 35)) := by
  have h := fun W : World => run_makeSlice (P := Try.prog) (w := W) 23 35 _ _ Try.underlying23 rfl rfl .i64 .i64 (n : Int) (n : Int) (by omega) (Int.le_refl _) (by have := HN.out; rw [Int.toNat_natCast]; show n * 21 ≤ 16777216; omega) (by have := HN.out; show ((248 : Nat) : Int) * (n : Int) ≤ 281474976710656; omega) (by omega)
  simp only [Int.toNat_natCast] at h
  exact ⟨_, size_madeCells _ _, h⟩
 have HC := zH hC
 clear hC hn h1 h2
 go_upto_region 4 with fail
 have HF0 : Hid (FulM (w.alloc (.cells C 35)) w.heap.size n 0 (-1)) := zH ⟨C, Blk.new _ _ _, HC.out, fun i hi => by omega⟩
 have HB1 : Hid (Below w.heap.size w (w.alloc (.cells C 35))) := zH ((zL _ _).alloc (zN _) _)
 generalize World.alloc _ _ = W1 at HF0 HB1 ⊢
 clear hmk
 go_wp2_with fail
 go_loopw [6] (fun i wr => ∃ k : Nat, k ≤ n ∧ i = .int .i64 k ∧ FulM wr w.heap.size n k (-1) ∧ Below w.heap.size w wr) (fun i _ => n - (intOf i).toNat)
 case atStart => exact ⟨0, Nat.zero_le _, rfl, HF0.out, HB1.out⟩
 case round =>
  obtain ⟨k, hk, rfl, hf, hb⟩ := hrel
  have HBr := zH hb
  obtain ⟨W2, hW2⟩ : ∃ W2, W2 = wr := ⟨_, rfl⟩
  subst hW2
  by_cases hkn : k < n
  ·obtain ⟨cs, hbk, hs, hc⟩ := hf
   have hkI : (k : Int) < (n : Int) := by omega
   have hkJ : (k : Int) ≤ 4098 := by have := HN.out; omega
   have hk0 : (0 : Int) ≤ (k : Int) := by omega
   have r1 : IntKind.i64.wrap (2 * (k : Int)) = 2 * (k : Int) := by rw [IntKind.wrap_i64 _]; omega
   have r2 : IntKind.u64.wrap (2 * (k : Int)) = 2 * (k : Int) := by rw [IntKind.wrap_u64 _]; omega
   have r3 : IntKind.u64.wrap (2 * (k : Int) + 2) = 2 * (k : Int) + 2 := by rw [IntKind.wrap_u64 _]; omega
   obtain ⟨W3, hW3⟩ : ∃ W3, W2.setRow w.heap.size (cs.toList.take (k * 21) ++ (fulC k (-1)).toList ++ cs.toList.drop (k * 21 + (fulC k (-1)).size)).toArray = W3 := ⟨_, rfl⟩
   have HF3 : Hid (FulM W3 w.heap.size n (k + 1) (-1)) := zH (hW3 ▸ FulM.next hbk hs hc hkn)
   have HB3 : Hid (Below w.heap.size w W3) := zH (hW3 ▸ hb.trans ((Only.setRow (S := fun k => k = w.heap.size) (Only.refl _ W2) (g := w.heap.size) (.inl rfl) _).below (fun i hi _ e => by omega) hb.size))
   rw [fulC_lit] at hW3
   have HW3 := zH hW3
   have HBk := zH hbk
   have HS := zH hs
   have HSl : Hid (k * 21 + 21 ≤ n * 21) := zH (by omega)
   clear hb hbk hs hc hW3 HF0 HB1
   go_wp2_with (refine wpList_store_at rfl 35 _ _ rfl w.heap.size (k * 21) _ rfl rfl 35 cs HBk.out (by kernel_rfl) (by rw [HS.out]; exact HSl.out) (by kernel_rfl) HW3.out ?_)
   go_roundw
   case rel => exact ⟨k + 1, by omega, by go_num, HF3.out, HB3.out⟩
   case measure => simp [intOf]; omega
  ·obtain rfl : k = n := by omega
   have HF := zH hf
   clear hf hb HF0 HB1 hk hkn
   have hnJ : (k : Int) ≤ 4098 := by have := HN.out; omega
   by_cases hw : 0 ≤ bad ∧ bad < (k : Int)
   ·obtain ⟨b, rfl⟩ : ∃ b : Nat, bad = b := ⟨bad.toNat, by omega⟩
    have hbk : b < k := by omega
    have t1 : decide ((0 : Int) ≤ (b : Int)) = true := decide_eq_true hw.1
    have t2 : decide ((b : Int) < (k : Int)) = true := decide_eq_true hw.2
    obtain ⟨y1, y2⟩ := HF.out.hole hbk
    have hbI : (b : Int) < (k : Int) := hw.2
    have HF2 := zH (HF.out.bad hbk)
    have HB2 : Hid (Below w.heap.size w (W2.setCell ⟨w.heap.size, b * 21 + 19, none⟩ (.int .i64 1))) := zH (HBr.out.setCell (p := ⟨w.heap.size, b * 21 + 19, none⟩) (zN _) _)
    have HCk : Hid (checkP c49 (fulL b 0 k) = if 4096 < k then (0, 0, 7) else ((b : Int), 5, 0)) := zH (by rw [ful_check _ _ (by have := HN.out; omega)]; simp only [if_pos hw])
    have HLk : Hid (liveP c49 (fulL b 0 k) = ([], if 4096 < k then 7 else 10)) := zH (by rw [ful_live _ _ (by have := HN.out; omega)]; simp only [if_pos hw])
    clear hw
    go_upto_region 11 with fail
    generalize World.setCell _ _ _ = W4 at HF2 HB2 ⊢
    clear y1 y2
    have HRs := zH (HF2.out.rs (by have := HN.out; omega))
    have HC0 : Hid (Blk (W4.alloc (.cells c49c 37)) W4.heap.size 37 c49c) := zH (Blk.new W4 _ _)
    have HBc : Hid (Below W4.heap.size W4 (W4.alloc (.cells c49c 37))) := zH ((zL _ _).alloc (zN _) _)
    clear HF2
    unfold c49c at HC0 HBc
    go_upto_region 12 with fail
    generalize World.alloc _ _ = W5 at HC0 HBc ⊢
    obtain ⟨x0, x1, x2, x3, x4⟩ := cfg49 HC0.out
    go_wp2_with fail
    refine (auditCheck_any W4.heap.size c49 _ ((fulL (b : Int) 0 k).map fulQ) W5 (HRs.out.below HBc.out) (ful_ok _ _) HBc.out.size (by rw [List.length_map, fulL_len]; have := HN.out; omega)).mono ?_
    rintro e w6 ⟨he, hb⟩
    rw [fulQ_map, HCk.out] at he
    have HB6 := zH (HBc.out.trans (hb.mono HBc.out.size))
    have HC6 := zH (HC0.out.below hb)
    clear hb x0 x1 x2 x3 x4 HC0
    obtain ⟨x0, x1, x2, x3, x4⟩ := cfg49 HC6.out
    by_cases hk6 : 4096 < k
    ·rw [if_pos hk6] at he
     dsimp only at he
     subst he
     have u1 : decide (4096 < (k : Int)) = true := decide_eq_true (by omega)
     go_wp2_with fail
     refine (live_any W4.heap.size c49 _ ((fulL (b : Int) 0 k).map fulQ) w6 (HRs.out.below HB6.out) (ful_ok _ _) HB6.out.size (by rw [List.length_map, fulL_len]; have := HN.out; omega)).mono ?_
     rintro e w7 ⟨v, ps, base, he, hbase, hown, hvals, hmap, hb7⟩
     rw [fulQ_map, HLk.out, if_pos hk6] at he hmap
     dsimp only at he hmap
     subst he
     obtain rfl : ps = [] := List.map_eq_nil_iff.1 hmap
     obtain ⟨A7, c7, rfl, hc7, hm7⟩ := own_form hown
     have HB7 := zH (HB6.out.trans (hb7.mono HB6.out.size))
     clear hown hvals hmap hb7 x0 x1 x2 x3 x4
     go_wp2_with fail
     refine (known_any _).mono ?_
     rintro e w9 ⟨rfl, hb⟩
     have HB9 := zH (HB2.out.trans ((HB7.out.trans (hb.mono HB7.out.size)).mono HB2.out.size))
     clear hb
     go_wp2_with fail
     go_ret
     exact ⟨rfl, HB9.out⟩
    ·rw [if_neg hk6] at he
     dsimp only at he
     subst he
     have u1 : decide (4096 < (k : Int)) = false := decide_eq_false (by omega)
     go_wp2_with fail
     refine (live_any W4.heap.size c49 _ ((fulL (b : Int) 0 k).map fulQ) w6 (HRs.out.below HB6.out) (ful_ok _ _) HB6.out.size (by rw [List.length_map, fulL_len]; have := HN.out; omega)).mono ?_
     rintro e w7 ⟨v, ps, base, he, hbase, hown, hvals, hmap, hb7⟩
     rw [fulQ_map, HLk.out, if_neg hk6] at he hmap
     dsimp only at he hmap
     subst he
     obtain rfl : ps = [] := List.map_eq_nil_iff.1 hmap
     obtain ⟨A7, c7, rfl, hc7, hm7⟩ := own_form hown
     have HB7 := zH (HB6.out.trans (hb7.mono HB6.out.size))
     clear hown hvals hmap hb7 x0 x1 x2 x3 x4
     go_wp2_with fail
     refine (known_any _).mono ?_
     rintro e w9 ⟨rfl, hb⟩
     have HB9 := zH (HB2.out.trans ((HB7.out.trans (hb.mono HB7.out.size)).mono HB2.out.size))
     clear hb
     go_wp2_with fail
     go_ret
     exact ⟨rfl, HB9.out⟩
   ·have HF2 := zH (HF.out.none_ hw)
    have HB2 := HBr
    have HCk : Hid (checkP c49 (fulL bad 0 k) = if 4096 < k then (0, 0, 7) else (-1, 0, 0)) := zH (by rw [ful_check _ _ (by have := HN.out; omega)]; simp only [if_neg hw])
    have HLk : Hid (liveP c49 (fulL bad 0 k) = ([], if 4096 < k then 7 else 0)) := zH (by rw [ful_live _ _ (by have := HN.out; omega)]; simp only [if_neg hw])
    by_cases hw1 : 0 ≤ bad
    ·have t1 : decide ((0 : Int) ≤ bad) = true := decide_eq_true hw1
     have t2 : decide (bad < (k : Int)) = false := decide_eq_false (by omega)
     clear hw hw1
     go_upto_region 11 with fail
     obtain ⟨W4, hW4⟩ : ∃ W4, W4 = W2 := ⟨_, rfl⟩
     subst hW4
     have HRs := zH (HF2.out.rs (by have := HN.out; omega))
     have HC0 : Hid (Blk (W4.alloc (.cells c49c 37)) W4.heap.size 37 c49c) := zH (Blk.new W4 _ _)
     have HBc : Hid (Below W4.heap.size W4 (W4.alloc (.cells c49c 37))) := zH ((zL _ _).alloc (zN _) _)
     clear HF2
     unfold c49c at HC0 HBc
     go_upto_region 12 with fail
     generalize World.alloc _ _ = W5 at HC0 HBc ⊢
     obtain ⟨x0, x1, x2, x3, x4⟩ := cfg49 HC0.out
     go_wp2_with fail
     refine (auditCheck_any W4.heap.size c49 _ ((fulL bad 0 k).map fulQ) W5 (HRs.out.below HBc.out) (ful_ok _ _) HBc.out.size (by rw [List.length_map, fulL_len]; have := HN.out; omega)).mono ?_
     rintro e w6 ⟨he, hb⟩
     rw [fulQ_map, HCk.out] at he
     have HB6 := zH (HBc.out.trans (hb.mono HBc.out.size))
     have HC6 := zH (HC0.out.below hb)
     clear hb x0 x1 x2 x3 x4 HC0
     obtain ⟨x0, x1, x2, x3, x4⟩ := cfg49 HC6.out
     by_cases hk6 : 4096 < k
     ·rw [if_pos hk6] at he
      dsimp only at he
      subst he
      have u1 : decide (4096 < (k : Int)) = true := decide_eq_true (by omega)
      go_wp2_with fail
      refine (live_any W4.heap.size c49 _ ((fulL bad 0 k).map fulQ) w6 (HRs.out.below HB6.out) (ful_ok _ _) HB6.out.size (by rw [List.length_map, fulL_len]; have := HN.out; omega)).mono ?_
      rintro e w7 ⟨v, ps, base, he, hbase, hown, hvals, hmap, hb7⟩
      rw [fulQ_map, HLk.out, if_pos hk6] at he hmap
      dsimp only at he hmap
      subst he
      obtain rfl : ps = [] := List.map_eq_nil_iff.1 hmap
      obtain ⟨A7, c7, rfl, hc7, hm7⟩ := own_form hown
      have HB7 := zH (HB6.out.trans (hb7.mono HB6.out.size))
      clear hown hvals hmap hb7 x0 x1 x2 x3 x4
      go_wp2_with fail
      refine (known_any _).mono ?_
      rintro e w9 ⟨rfl, hb⟩
      have HB9 := zH (HB2.out.trans ((HB7.out.trans (hb.mono HB7.out.size)).mono HB2.out.size))
      clear hb
      go_wp2_with fail
      go_ret
      exact ⟨rfl, HB9.out⟩
     ·rw [if_neg hk6] at he
      dsimp only at he
      subst he
      have u1 : decide (4096 < (k : Int)) = false := decide_eq_false (by omega)
      go_wp2_with fail
      refine (live_any W4.heap.size c49 _ ((fulL bad 0 k).map fulQ) w6 (HRs.out.below HB6.out) (ful_ok _ _) HB6.out.size (by rw [List.length_map, fulL_len]; have := HN.out; omega)).mono ?_
      rintro e w7 ⟨v, ps, base, he, hbase, hown, hvals, hmap, hb7⟩
      rw [fulQ_map, HLk.out, if_neg hk6] at he hmap
      dsimp only at he hmap
      subst he
      obtain rfl : ps = [] := List.map_eq_nil_iff.1 hmap
      obtain ⟨A7, c7, rfl, hc7, hm7⟩ := own_form hown
      have HB7 := zH (HB6.out.trans (hb7.mono HB6.out.size))
      clear hown hvals hmap hb7 x0 x1 x2 x3 x4
      go_wp2_with fail
      refine (known_any _).mono ?_
      rintro e w9 ⟨rfl, hb⟩
      have HB9 := zH (HB2.out.trans ((HB7.out.trans (hb.mono HB7.out.size)).mono HB2.out.size))
      clear hb
      go_wp2_with fail
      go_ret
      exact ⟨rfl, HB9.out⟩
    ·have t1 : decide ((0 : Int) ≤ bad) = false := decide_eq_false (by omega)
     clear hw hw1
     go_upto_region 11 with fail
     obtain ⟨W4, hW4⟩ : ∃ W4, W4 = W2 := ⟨_, rfl⟩
     subst hW4
     have HRs := zH (HF2.out.rs (by have := HN.out; omega))
     have HC0 : Hid (Blk (W4.alloc (.cells c49c 37)) W4.heap.size 37 c49c) := zH (Blk.new W4 _ _)
     have HBc : Hid (Below W4.heap.size W4 (W4.alloc (.cells c49c 37))) := zH ((zL _ _).alloc (zN _) _)
     clear HF2
     unfold c49c at HC0 HBc
     go_upto_region 12 with fail
     generalize World.alloc _ _ = W5 at HC0 HBc ⊢
     obtain ⟨x0, x1, x2, x3, x4⟩ := cfg49 HC0.out
     go_wp2_with fail
     refine (auditCheck_any W4.heap.size c49 _ ((fulL bad 0 k).map fulQ) W5 (HRs.out.below HBc.out) (ful_ok _ _) HBc.out.size (by rw [List.length_map, fulL_len]; have := HN.out; omega)).mono ?_
     rintro e w6 ⟨he, hb⟩
     rw [fulQ_map, HCk.out] at he
     have HB6 := zH (HBc.out.trans (hb.mono HBc.out.size))
     have HC6 := zH (HC0.out.below hb)
     clear hb x0 x1 x2 x3 x4 HC0
     obtain ⟨x0, x1, x2, x3, x4⟩ := cfg49 HC6.out
     by_cases hk6 : 4096 < k
     ·rw [if_pos hk6] at he
      dsimp only at he
      subst he
      have u1 : decide (4096 < (k : Int)) = true := decide_eq_true (by omega)
      go_wp2_with fail
      refine (live_any W4.heap.size c49 _ ((fulL bad 0 k).map fulQ) w6 (HRs.out.below HB6.out) (ful_ok _ _) HB6.out.size (by rw [List.length_map, fulL_len]; have := HN.out; omega)).mono ?_
      rintro e w7 ⟨v, ps, base, he, hbase, hown, hvals, hmap, hb7⟩
      rw [fulQ_map, HLk.out, if_pos hk6] at he hmap
      dsimp only at he hmap
      subst he
      obtain rfl : ps = [] := List.map_eq_nil_iff.1 hmap
      obtain ⟨A7, c7, rfl, hc7, hm7⟩ := own_form hown
      have HB7 := zH (HB6.out.trans (hb7.mono HB6.out.size))
      clear hown hvals hmap hb7 x0 x1 x2 x3 x4
      go_wp2_with fail
      refine (known_any _).mono ?_
      rintro e w9 ⟨rfl, hb⟩
      have HB9 := zH (HB2.out.trans ((HB7.out.trans (hb.mono HB7.out.size)).mono HB2.out.size))
      clear hb
      go_wp2_with fail
      go_ret
      exact ⟨rfl, HB9.out⟩
     ·rw [if_neg hk6] at he
      dsimp only at he
      subst he
      have u1 : decide (4096 < (k : Int)) = false := decide_eq_false (by omega)
      go_wp2_with fail
      refine (live_any W4.heap.size c49 _ ((fulL bad 0 k).map fulQ) w6 (HRs.out.below HB6.out) (ful_ok _ _) HB6.out.size (by rw [List.length_map, fulL_len]; have := HN.out; omega)).mono ?_
      rintro e w7 ⟨v, ps, base, he, hbase, hown, hvals, hmap, hb7⟩
      rw [fulQ_map, HLk.out, if_neg hk6] at he hmap
      dsimp only at he hmap
      subst he
      obtain rfl : ps = [] := List.map_eq_nil_iff.1 hmap
      obtain ⟨A7, c7, rfl, hc7, hm7⟩ := own_form hown
      have HB7 := zH (HB6.out.trans (hb7.mono HB6.out.size))
      clear hown hvals hmap hb7 x0 x1 x2 x3 x4
      go_wp2_with fail
      refine (known_any _).mono ?_
      rintro e w9 ⟨rfl, hb⟩
      have HB9 := zH (HB2.out.trans ((HB7.out.trans (hb.mono HB7.out.size)).mono HB2.out.size))
      clear hb
      go_wp2_with fail
      go_ret
      exact ⟨rfl, HB9.out⟩
end Go.Proofs.Ytnabbimompapfaa
