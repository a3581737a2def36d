/- AudLD, AudLE -/
import Derived.Test.YtnabbimompapfaaGreatMg14
namespace Go.Proofs.YtnabbimompapfaaGreat
open Go Go.RowKit
def bx' (h : Nat) : Value := .slice (some ⟨h, 0, none⟩) 1 1
theorem below_more {w W W2 : World} {B : Nat} (h : Below B w W) (k : Below W.heap.size W W2) (hB : B ≤ w.heap.size) : Below B w W2 := h.trans (k.mono (Nat.le_trans hB h.size))
set_option maxRecDepth 100000 in
set_option maxHeartbeats 4000000 in
theorem known_any (w : World) : Calls Tryz.prog 6 #[] w fun e w' => e = .returned (.bool true) ∧ Below w.heap.size w w' := by
 have HKc := zH (fun (w : World) (C : Array Value) (n c : Nat) => Lib.run_convert_bytes_const (P := Tryz.prog) w 37 5 C n c Tryz.underlying37 Tryz.underlying5)
 go_enter Tryz.func6, Tryz.ntmps6
 go_upto_region 2 with fail
 have HC0 : Hid (Blk (w.alloc (.cells cc27 24)) w.heap.size 24 cc27) := zH (Blk.new w _ _)
 have HB0 : Hid (Below w.heap.size w (w.alloc (.cells cc27 24))) := zH ((zL _ _).alloc (zN _) _)
 have hcc : cc27 = #[.int .i64 2, .int .i64 100, .int .i64 0, .int .u64 0, .bool false] := rfl
 rw [← hcc]
 clear hcc
 generalize World.alloc _ _ = W0 at HC0 HB0 ⊢
 generalize hgc : w.heap.size = gc at HC0 HB0 ⊢
 have HGe := zH hgc
 have HGl : Hid (gc ≤ w.heap.size) := zH (Nat.le_of_eq hgc.symm)
 clear hgc
 refine wp_region_noPanic ?_
 refine wp_region_held_drew (S := fun W => Blk W gc 24 cc27) (by kernel_rfl) HC0.out.drew (fun hHeld => ?_)
 have HB1 := zH HB0.out.drew
 generalize W0.drew = W1 at hHeld HB1 ⊢
 have H1 := zH hHeld
 clear HC0 HB0
 refine tk 0 (v := ?_) ?_ ?_
 rotate_left 1
 ·intro W hSw
  obtain ⟨x0, x1, x2, x3, x4⟩ := cfg5 hSw
  clear hSw
  go_simp
  try with_reducible rfl
 try dsimp only [zS, zB, zC]
 refine wpAnyH_ready (rs := [1]) (by kernel_rfl) (by simp) ?_
 refine AllReadyH.cons (o := ⟨_, _, _, _, _, _⟩) rfl (fun F hF => ?_) AllReadyH.nil
 go_simp
 refine (given_any W1).mono ?_
 rintro e2 w2 ⟨g, h1, h2, rfl, hg, hgv, hb2⟩
 have HG2 := zH hgv.gv
 have HC2 := zH (H1.out.below hb2)
 have HB2 := zH (below_more HB1.out hb2 HGl.out)
 clear hg hgv hb2 hHeld H1 HB1
 go_wp2_with fail
 refine hF.out _ _ HC2.out (fun hHeld => ?_)
 clear hF F
 try simp only [Act.put, zA, zB, zC]
 refine wpAnyH_ready (rs := [2]) (by kernel_rfl) (by simp) ?_
 refine AllReadyH.cons (o := ⟨_, _, _, _, _, _⟩) rfl (fun F hF => ?_) AllReadyH.nil
 go_simp
 refine (live_any w2.heap.size c27 _ _ w2 HG2.out.rs0 gqs_ok (zN _) (by show 2 ≤ 60000; omega)).mono ?_
 rintro e3 w3 hl3
 have hlv : liveP c27 ((gqs h1 h2 50 3 0 true).map RQ.r) = ([kent], 0) := kl_ok
 rw [hlv] at hl3
 obtain ⟨v, ps, base, rfl, hbase, hown, hvals, hmap, hb3⟩ := hl3
 obtain ⟨VA, vc, rfl, _, _⟩ := own_form hown
 have HE3 : Hid (EntsAt w3 w3.heap.size (.slice VA ps.length vc) ps) := zH (EntsAt.of_own hown (zN _) (fun p hp => (hvals p hp).1))
 have HMp : Hid (ps.map Prod.fst = [kent]) := zH hmap
 have hpl : ps.length = 1 := by have := congrArg List.length hmap; simpa using this
 have HC3 := zH (HC2.out.below hb3)
 have HB3 := zH (below_more HB2.out hb3 HGl.out)
 rw [hpl] at HE3 ⊢
 have HPl := zH hpl
 clear hlv hbase hown hvals hmap hb3 hHeld HG2 HC2 HB2 hpl
 go_wp2_with fail
 refine hF.out _ _ HC3.out (fun hHeld => ?_)
 clear hF F
 try simp only [Act.put, zA, zB, zC]
 refine Pl.go [3, 4, 5, 6, 7] ?_
 iterate 5
  refine tkl (v := ?_) ?_ ?_
  rotate_left 1
  ·intro W hSw
   obtain ⟨x0, x1, x2, x3, x4⟩ := cfg5 hSw
   clear hSw
   go_simp
   try with_reducible rfl
  try dsimp only [zS, zB, zC]
 refine Pl.stop ?_
 refine wpAnyH_done (by kernel_rfl) ?_ _
 refine NoPanic.normal ?_
 clear hHeld
 go_upto_region 3 with fail
 refine wp_region_noPanic ?_
 refine wp_region_held_drew (S := fun W => Blk W gc 24 cc27 ∧ EntsAt W w3.heap.size (.slice VA 1 vc) ps) (by kernel_rfl) ⟨HC3.out.drew, HE3.out.below (zL _ _).drew⟩ (fun hHeld => ?_)
 have HB4 := zH HB3.out.drew
 generalize w3.drew = w4 at hHeld HB4 ⊢
 have H4 := zH hHeld
 clear HB3 HC3
 refine tk 0 (v := ?_) ?_ ?_
 rotate_left 1
 ·intro W hSw
  obtain ⟨x0, x1, x2, x3, x4⟩ := cfg5 hSw.1
  clear hSw
  go_simp
  try with_reducible rfl
 try dsimp only [zS, zB, zC]
 refine wpAnyH_ready (rs := [1]) (by kernel_rfl) (by simp) ?_
 refine AllReadyH.cons (o := ⟨_, _, _, _, _, _⟩) rfl (fun F hF => ?_) AllReadyH.nil
 go_simp
 refine (given_any w4).mono ?_
 rintro e2 w5 ⟨g5, h5, k5, rfl, hg, hgv, hb⟩
 have HG5 := zH hgv.gv
 have H5 := zH (And.intro (H4.out.1.below hb) (H4.out.2.below hb))
 have HB5 := zH (below_more HB4.out hb HGl.out)
 clear hg hgv hb hHeld H4 HB4
 go_wp2_with fail
 refine hF.out _ _ H5.out (fun hHeld => ?_)
 clear hF F
 try simp only [Act.put, zA, zB, zC]
 refine wpAnyH_ready (rs := [2]) (by kernel_rfl) (by simp) ?_
 refine AllReadyH.cons (o := ⟨_, _, _, _, _, _⟩) rfl (fun F hF => ?_) AllReadyH.nil
 go_simp
 refine (judge0 HG5.out kc_ok).mono ?_
 rintro e3 w6 ⟨rfl, hb⟩
 have H6 := zH (And.intro (H5.out.1.below hb) (H5.out.2.below hb))
 have HB6 := zH (below_more HB5.out hb HGl.out)
 clear hb hHeld H5 HB5 HG5
 go_wp2_with fail
 refine hF.out _ _ H6.out (fun hHeld => ?_)
 clear hF F
 try simp only [Act.put, zA, zB, zC]
 refine Pl.go [3, 4, 5, 6, 7, 8, 9] ?_
 iterate 7
  refine tkl (v := ?_) ?_ ?_
  rotate_left 1
  ·intro W hSw
   obtain ⟨x0, x1, x2, x3, x4⟩ := cfg5 hSw.1
   clear hSw
   go_simp
   try with_reducible rfl
  try dsimp only [zS, zB, zC]
 refine Pl.stop ?_
 refine wpAnyH_ready (rs := [10]) (by kernel_rfl) (by simp) ?_
 refine AllReadyH.cons (o := ⟨_, _, _, _, _, _⟩) rfl (fun F hF => ?_) AllReadyH.nil
 go_simp
 have hb : Below w6.heap.size w6 (w6.alloc (.cells #[.int .u8 120] 5)) := (zL _ _).alloc (zN _) _
 refine hF.out _ _ ⟨H6.out.1.below hb, H6.out.2.below hb⟩ (fun hHeld => ?_)
 clear hF F hHeld hb
 try simp only [Act.put, zA, zB, zC]
 have kc := HKc.out w6
 refine wpAnyH_ready (rs := [11]) (by kernel_rfl) (by simp) ?_
 refine AllReadyH.cons (o := ⟨_, _, _, _, _, _⟩) rfl (fun F hF => ?_) AllReadyH.nil
 go_simp
 clear kc
 have hb : Below w6.heap.size w6 (w6.alloc (.cells #[.int .u8 120] 5 (1, 2))) := (zL _ _).alloc (zN _) _
 have HV7 := zH (heap_alloc_new w6 (.cells #[.int .u8 120] 5 (1, 2)))
 have H7 := zH (And.intro (H6.out.1.below hb) (H6.out.2.below hb))
 have HB7 := zH (below_more HB6.out hb HGl.out)
 generalize World.alloc _ _ = w7 at HV7 H7 HB7 ⊢
 generalize w6.heap.size = gv at HV7 ⊢
 clear hb H6 HB6
 refine hF.out _ _ H7.out (fun hHeld => ?_)
 clear hF F
 try simp only [Act.put, zA, zB, zC]
 refine tk 12 (v := ?_) ?_ ?_
 rotate_left 1
 ·intro W hSw
  obtain ⟨x0, x1, x2, x3, x4⟩ := cfg5 hSw.1
  clear hSw
  go_simp
  try with_reducible rfl
 try dsimp only [zS, zB, zC]
 refine wpAnyH_ready (rs := [13]) (by kernel_rfl) (by simp) ?_
 refine AllReadyH.cons (o := ⟨_, _, _, _, _, _⟩) rfl (fun F hF => ?_) AllReadyH.nil
 go_simp
 have hb : Below w7.heap.size w7 (w7.alloc (.cells #[.string ka, bx gv, .int .u64 18446744073709551615, .int .u64 1] 40)) := (zL _ _).alloc (zN _) _
 have H8 := zH (And.intro (H7.out.1.below hb) (H7.out.2.below hb))
 have HB8 := zH (below_more HB7.out hb HGl.out)
 have HE8 := zH (row_ents ((hb.block gv (lt_of_heap HV7.out)).trans HV7.out) (Blk.new w7 _ _))
 have hcc : #[.string ka, bx gv, .int .u64 18446744073709551615, .int .u64 1] = #[.string ⟨#[97]⟩, .slice (some ⟨gv, 0, none⟩) 1 1, .int .u64 18446744073709551615, .int .u64 1] := rfl
 rw [← hcc]
 generalize World.alloc _ _ = w8 at H8 HB8 HE8 ⊢
 generalize w7.heap.size = ge at HE8 ⊢
 clear hcc hb H7 HB7 HV7
 refine hF.out _ _ H8.out (fun hHeld => ?_)
 clear hF F
 try simp only [Act.put, zA, zB, zC]
 refine wpAnyH_ready (rs := [14]) (by kernel_rfl) (by simp) ?_
 refine AllReadyH.cons (o := ⟨_, _, _, _, _, _⟩) rfl (fun F hF => ?_) AllReadyH.nil
 go_simp
 refine (kSameE_any _ _ _ _ ps [(kent, bx gv)] w8 H8.out.2 HE8.out (by rw [HPl.out]; omega)).mono ?_
 rintro e9 w9 ⟨rfl, hb⟩
 rw [HMp.out]
 have H9 := zH (H8.out.1.below hb)
 have HB9 := zH (below_more HB8.out hb HGl.out)
 have H9b := zH (And.intro H9.out (H8.out.2.below hb))
 clear hb H8 HB8 HE8
 go_wp2_with fail
 refine hF.out _ _ H9b.out (fun hHeld => ?_)
 clear hF F
 try simp only [Act.put, zA, zB, zC]
 refine Pl.go [15, 16] ?_
 iterate 2
  refine tkl (v := ?_) ?_ ?_
  rotate_left 1
  ·intro W hSw
   obtain ⟨x0, x1, x2, x3, x4⟩ := cfg5 hSw.1
   clear hSw
   go_simp
   try with_reducible rfl
  try dsimp only [zS, zB, zC]
 refine Pl.stop ?_
 refine wpAnyH_done (by kernel_rfl) ?_ _
 refine NoPanic.normal ?_
 clear hHeld H9b HMp HPl
 go_wp2_with fail
 refine (given_any w9).mono ?_
 rintro e2 w10 ⟨ga, a1, a2, rfl, hg, hgv, hb⟩
 have H10 := zH (H9.out.below hb)
 have HB10 := zH (below_more HB9.out hb HGl.out)
 have hca : gc ≤ ga := by have := H9.out.lt; omega
 have Ga := zH hgv.gv
 clear hg hgv hb H9 HB9
 go_wp2_with fail
 refine (given_any w10).mono ?_
 rintro e2 w11 ⟨gb, b1, b2, rfl, hg, hgv, hb⟩
 have H11 := zH (H10.out.below hb)
 have HB11 := zH (below_more HB10.out hb HGl.out)
 have hlt := Ga.out.row.lt
 have hab : ga < gb := by omega
 clear hlt
 replace Ga := zH (Ga.out.below hb)
 have hcb : gc ≤ gb := by have := H10.out.lt; omega
 have Gb := zH hgv.gv
 clear hg hgv hb H10 HB10
 go_wp2_with fail
 refine (given_any w11).mono ?_
 rintro e2 w12 ⟨gd, d1, d2, rfl, hg, hgv, hb⟩
 have H12 := zH (H11.out.below hb)
 have HB12 := zH (below_more HB11.out hb HGl.out)
 have hlt := Ga.out.row.lt
 have had : ga < gd := by omega
 clear hlt
 replace Ga := zH (Ga.out.below hb)
 have hlt := Gb.out.row.lt
 have hbd : gb < gd := by omega
 clear hlt
 replace Gb := zH (Gb.out.below hb)
 have hcd : gc ≤ gd := by have := H11.out.lt; omega
 have Gd := zH hgv.gv
 clear hg hgv hb H11 HB11
 go_wp2_with fail
 refine (given_any w12).mono ?_
 rintro e2 w13 ⟨gf, f1, f2, rfl, hg, hgv, hb⟩
 have H13 := zH (H12.out.below hb)
 have HB13 := zH (below_more HB12.out hb HGl.out)
 have hlt := Ga.out.row.lt
 have haf : ga < gf := by omega
 clear hlt
 replace Ga := zH (Ga.out.below hb)
 have hlt := Gb.out.row.lt
 have hbf : gb < gf := by omega
 clear hlt
 replace Gb := zH (Gb.out.below hb)
 have hlt := Gd.out.row.lt
 have hdf : gd < gf := by omega
 clear hlt
 replace Gd := zH (Gd.out.below hb)
 have hcf : gc ≤ gf := by have := H12.out.lt; omega
 have Gf := zH hgv.gv
 clear hg hgv hb H12 HB12
 go_wp2_with fail
 refine (given_any w13).mono ?_
 rintro e2 w14 ⟨gg, g1, g2, rfl, hg, hgv, hb⟩
 have H14 := zH (H13.out.below hb)
 have HB14 := zH (below_more HB13.out hb HGl.out)
 have hlt := Ga.out.row.lt
 have hag : ga < gg := by omega
 clear hlt
 replace Ga := zH (Ga.out.below hb)
 have hlt := Gb.out.row.lt
 have hbg : gb < gg := by omega
 clear hlt
 replace Gb := zH (Gb.out.below hb)
 have hlt := Gd.out.row.lt
 have hdg : gd < gg := by omega
 clear hlt
 replace Gd := zH (Gd.out.below hb)
 have hlt := Gf.out.row.lt
 have hfg : gf < gg := by omega
 clear hlt
 replace Gf := zH (Gf.out.below hb)
 have hcg : gc ≤ gg := by have := H13.out.lt; omega
 have Gg := zH hgv.gv
 clear hg hgv hb H13 HB13
 go_upto_region 6 with fail
 obtain ⟨ca, -⟩ := gcs_at a1 a2 (gr1 50) (gr2 3 0 true [] 1 50) nx
 obtain ⟨-, cb, -⟩ := gcs_at b1 b2 (gr1 50) (gr2 3 0 true [] 1 50) nx
 obtain ⟨-, -, -, cd, -⟩ := gcs_at d1 d2 (gr1 50) (gr2 3 0 true [] 1 50) nx
 obtain ⟨-, -, cf, -⟩ := gcs_at f1 f2 (gr1 50) (gr2 3 0 true [] 1 50) nx
 have ca := Ga.out.row.cell 20 _ ca
 have cb := Gb.out.row.cell 30 _ cb
 have cd := Gd.out.row.cell 32 _ cd
 have cf := Gf.out.row.cell 31 _ cf
 have fa := Ga.out.row.frozen 20
 have fb := Gb.out.row.frozen 30
 have fd := Gd.out.row.frozen 32
 have ff := Gf.out.row.frozen 31
 go_upto_region 7 with fail
 clear ca cb cd cf fa fb fd ff
 have Kb := Gb.out.other Ga.out.row (by omega) 20 (.int .i64 51)
 have Kd := Gd.out.other Ga.out.row (by omega) 20 (.int .i64 51)
 have Kf := Gf.out.other Ga.out.row (by omega) 20 (.int .i64 51)
 have Kg := Gg.out.other Ga.out.row (by omega) 20 (.int .i64 51)
 have Ka := Ga.out.set_ 20 (.int .i64 51) (set_a a1 a2)
 have KH := H14.out.only (Only.set1 w14 ga 20 (.int .i64 51)) (H14.out.ne_ Ga.out.row (by decide))
 have KB := HB14.out.setCell (p := ⟨ga, 20, none⟩) (by dsimp only; omega) (.int .i64 51)
 generalize w14.setCell ⟨ga, 20, none⟩ (.int .i64 51) = u0 at Ka Kb Kd Kf Kg KH KB ⊢
 clear Ga Gb Gd Gf Gg H14 HB14
 have Ga := zH Ka
 have Gb := zH Kb
 have Gd := zH Kd
 have Gf := zH Kf
 have Gg := zH Kg
 have H15 := zH KH
 have HB15 := zH KB
 clear Ka Kb Kd Kf Kg KH KB
 have Ka := Ga.out.other Gb.out.row (by omega) 30 (.int .u64 2)
 have Kd := Gd.out.other Gb.out.row (by omega) 30 (.int .u64 2)
 have Kf := Gf.out.other Gb.out.row (by omega) 30 (.int .u64 2)
 have Kg := Gg.out.other Gb.out.row (by omega) 30 (.int .u64 2)
 have Kb := Gb.out.set_ 30 (.int .u64 2) (set_b b1 b2)
 have KH := H15.out.only (Only.set1 u0 gb 30 (.int .u64 2)) (H15.out.ne_ Gb.out.row (by decide))
 have KB := HB15.out.setCell (p := ⟨gb, 30, none⟩) (by dsimp only; omega) (.int .u64 2)
 generalize u0.setCell ⟨gb, 30, none⟩ (.int .u64 2) = u1 at Ka Kb Kd Kf Kg KH KB ⊢
 clear Ga Gb Gd Gf Gg H15 HB15
 have Ga := zH Ka
 have Gb := zH Kb
 have Gd := zH Kd
 have Gf := zH Kf
 have Gg := zH Kg
 have H16 := zH KH
 have HB16 := zH KB
 clear Ka Kb Kd Kf Kg KH KB
 have Ka := Ga.out.other Gd.out.row (by omega) 32 (.bool false)
 have Kb := Gb.out.other Gd.out.row (by omega) 32 (.bool false)
 have Kf := Gf.out.other Gd.out.row (by omega) 32 (.bool false)
 have Kg := Gg.out.other Gd.out.row (by omega) 32 (.bool false)
 have Kd := Gd.out.set_ 32 (.bool false) (set_d d1 d2)
 have KH := H16.out.only (Only.set1 u1 gd 32 (.bool false)) (H16.out.ne_ Gd.out.row (by decide))
 have KB := HB16.out.setCell (p := ⟨gd, 32, none⟩) (by dsimp only; omega) (.bool false)
 generalize u1.setCell ⟨gd, 32, none⟩ (.bool false) = u2 at Ka Kb Kd Kf Kg KH KB ⊢
 clear Ga Gb Gd Gf Gg H16 HB16
 have Ga := zH Ka
 have Gb := zH Kb
 have Gd := zH Kd
 have Gf := zH Kf
 have Gg := zH Kg
 have H17 := zH KH
 have HB17 := zH KB
 clear Ka Kb Kd Kf Kg KH KB
 have Ka := Ga.out.other Gf.out.row (by omega) 31 (.int .i64 2)
 have Kb := Gb.out.other Gf.out.row (by omega) 31 (.int .i64 2)
 have Kd := Gd.out.other Gf.out.row (by omega) 31 (.int .i64 2)
 have Kg := Gg.out.other Gf.out.row (by omega) 31 (.int .i64 2)
 have Kf := Gf.out.set_ 31 (.int .i64 2) (set_f f1 f2)
 have KH := H17.out.only (Only.set1 u2 gf 31 (.int .i64 2)) (H17.out.ne_ Gf.out.row (by decide))
 have KB := HB17.out.setCell (p := ⟨gf, 31, none⟩) (by dsimp only; omega) (.int .i64 2)
 generalize u2.setCell ⟨gf, 31, none⟩ (.int .i64 2) = u3 at Ka Kb Kd Kf Kg KH KB ⊢
 clear Ga Gb Gd Gf Gg H17 HB17
 have Ga := zH Ka
 have Gb := zH Kb
 have Gd := zH Kd
 have Gf := zH Kf
 have Gg := zH Kg
 have H18 := zH KH
 have HB18 := zH KB
 clear Ka Kb Kd Kf Kg KH KB
 obtain ⟨-, -, -, -, c39, c40, c41⟩ := gcs_at g1 g2 (gr1 50) (gr2 3 0 true [] 1 50) nx
 have c39 := Gg.out.row.cell 39 _ c39
 have c40 := Gg.out.row.cell 40 _ c40
 have c41 := Gg.out.row.cell 41 _ c41
 have f39 := Gg.out.row.frozen 39
 have f40 := Gg.out.row.frozen 40
 have f41 := Gg.out.row.frozen 41
 have hgl := Gg.out.row.lt
 have kc := HKc.out u3
 go_upto_region 8 with fail
 clear c39 c40 c41 f39 f40 f41 hgl kc
 obtain ⟨n3, hn3⟩ : ∃ n, u3.heap.size = n := ⟨_, rfl⟩
 rw [hn3]
 have ho4 : Only (fun k => k = gg) u3 (((u3.setCell ⟨gg, 39, none⟩ (bx' (n3 + 1))).setCell ⟨gg, 40, none⟩ (.int .i64 0)).setCell ⟨gg, 41, none⟩ (.int .i64 0)) :=
  Only.setCell (S := fun k => k = gg) (Only.setCell (S := fun k => k = gg) (Only.set1 u3 gg 39 _) (p := ⟨gg, 40, none⟩) (.inl rfl) _) (p := ⟨gg, 41, none⟩) (.inl rfl) _
 have hsz : (((u3.setCell ⟨gg, 39, none⟩ (bx' (n3 + 1))).setCell ⟨gg, 40, none⟩ (.int .i64 0)).setCell ⟨gg, 41, none⟩ (.int .i64 0)).heap.size = n3 := by simpa [World.setCell] using hn3
 have Kg := ((Gg.out.set_ 39 (bx' (n3 + 1)) (set_g1 g1 g2 _)).set_ 40 _ (set_g2 g1 g2 _)).set_ 41 _ (set_g3 g1 g2 _)
 have Ka := Ga.out.otherO Gg.out.row (by omega) ho4
 have Kb := Gb.out.otherO Gg.out.row (by omega) ho4
 have Kd := Gd.out.otherO Gg.out.row (by omega) ho4
 have Kf := Gf.out.otherO Gg.out.row (by omega) ho4
 have KH := H18.out.only ho4 (H18.out.ne_ Gg.out.row (by decide))
 have KB := ((HB18.out.setCell (p := ⟨gg, 39, none⟩) (by dsimp only; omega) (bx' (n3 + 1))).setCell (p := ⟨gg, 40, none⟩) (by dsimp only; omega) (.int .i64 0)).setCell (p := ⟨gg, 41, none⟩) (by dsimp only; omega) (.int .i64 0)
 unfold bx' at ho4 hsz Kg Ka Kb Kd Kf KH KB
 generalize ((u3.setCell ⟨gg, 39, none⟩ (.slice (some ⟨n3 + 1, 0, none⟩) 1 1)).setCell ⟨gg, 40, none⟩ (.int .i64 0)).setCell ⟨gg, 41, none⟩ (.int .i64 0) = u4 at hsz Kg Ka Kb Kd Kf KH KB ⊢
 clear ho4 Ga Gb Gd Gf Gg H18 HB18 hn3
 have hb4 : Below u4.heap.size u4 ((u4.alloc (.cells #[.int .u8 120] 5 (1, 2))).alloc (.cells #[.int .i64 2, .string ka, .slice (some ⟨n3, 0, none⟩) 1 1, .int .u64 1, .int .u64 18446744073709551615, .int .u64 3] 49)) := below_two _ _ _
 have hv4 : ((u4.alloc (.cells #[.int .u8 120] 5 (1, 2))).alloc (.cells #[.int .i64 2, .string ka, .slice (some ⟨n3, 0, none⟩) 1 1, .int .u64 1, .int .u64 18446744073709551615, .int .u64 3] 49)).heap[n3]? = some (.cells #[.int .u8 120] 5 (1, 2)) := by
  have h := heap_alloc_new u4 (.cells #[.int .u8 120] 5 (1, 2))
  rw [hsz] at h
  exact (Below.heap_alloc _ _ _ (by rw [World.size_alloc]; omega)).trans h
 have he4 := Blk.new2 u4 (.cells #[.int .u8 120] 5 (1, 2)) 49 #[.int .i64 2, .string ka, .slice (some ⟨n3, 0, none⟩) 1 1, .int .u64 1, .int .u64 18446744073709551615, .int .u64 3]
 rw [hsz] at he4
 have hka : (⟨#[97]⟩ : ByteArray) = ka := rfl
 rw [hka]
 clear hka
 generalize (u4.alloc (.cells #[.int .u8 120] 5 (1, 2))).alloc (.cells #[.int .i64 2, .string ka, .slice (some ⟨n3, 0, none⟩) 1 1, .int .u64 1, .int .u64 18446744073709551615, .int .u64 3] 49) = u5 at hb4 hv4 he4 ⊢
 have GX := zH (row_evs hv4 he4)
 have Ga := zH (Ka.below hb4)
 have Gb := zH (Kb.below hb4)
 have Gd := zH (Kd.below hb4)
 have Gf := zH (Kf.below hb4)
 have Gg := zH (Kg.below hb4)
 have H20 := zH (KH.below hb4)
 have HB20 := zH (below_more KB hb4 HGl.out)
 clear Ka Kb Kd Kf Kg KH KB hb4 hv4 he4 hsz
 obtain ⟨x0, x1, x2, x3, x4⟩ := cfg5 H20.out
 go_wp2_with fail
 have HX5 := zH (zN u5.heap.size)
 refine (judge0 Ga.out kc_a).mono ?_
 rintro e2 w20 ⟨rfl, hb⟩
 replace Gb := zH (Gb.out.below hb)
 replace Gd := zH (Gd.out.below hb)
 replace Gf := zH (Gf.out.below hb)
 replace Gg := zH (Gg.out.below hb)
 replace GX := zH (GX.out.below hb)
 have HX6 := zH (Nat.le_trans HX5.out hb.size)
 have H21 := zH (H20.out.below hb)
 have HB21 := zH (below_more HB20.out hb HGl.out)
 clear hb x0 x1 x2 x3 x4 H20 HB20
 obtain ⟨x0, x1, x2, x3, x4⟩ := cfg5 H21.out
 go_wp2_with fail
 refine (judge0 Gb.out kc_b).mono ?_
 rintro e2 w21 ⟨rfl, hb⟩
 replace Gd := zH (Gd.out.below hb)
 replace Gf := zH (Gf.out.below hb)
 replace Gg := zH (Gg.out.below hb)
 replace GX := zH (GX.out.below hb)
 have HX7 := zH (Nat.le_trans HX6.out hb.size)
 have H22 := zH (H21.out.below hb)
 have HB22 := zH (below_more HB21.out hb HGl.out)
 clear hb x0 x1 x2 x3 x4 H21 HB21
 obtain ⟨x0, x1, x2, x3, x4⟩ := cfg5 H22.out
 go_wp2_with fail
 refine (judge0 Gd.out kc_d).mono ?_
 rintro e2 w22 ⟨rfl, hb⟩
 replace Gf := zH (Gf.out.below hb)
 replace Gg := zH (Gg.out.below hb)
 replace Gd := zH (Gd.out.below hb)
 replace GX := zH (GX.out.below hb)
 have HX8 := zH (Nat.le_trans HX7.out hb.size)
 have H23 := zH (H22.out.below hb)
 have HB23 := zH (below_more HB22.out hb HGl.out)
 clear hb x0 x1 x2 x3 x4 H22 HB22
 obtain ⟨x0, x1, x2, x3, x4⟩ := cfg5 H23.out
 go_wp2_with fail
 refine (judge0 Gf.out kc_f).mono ?_
 rintro e2 w23 ⟨rfl, hb⟩
 replace Gg := zH (Gg.out.below hb)
 replace Gd := zH (Gd.out.below hb)
 replace GX := zH (GX.out.below hb)
 have HX9 := zH (Nat.le_trans HX8.out hb.size)
 have H24 := zH (H23.out.below hb)
 have HB24 := zH (below_more HB23.out hb HGl.out)
 clear hb x0 x1 x2 x3 x4 H23 HB23
 obtain ⟨x0, x1, x2, x3, x4⟩ := cfg5 H24.out
 go_wp2_with fail
 refine (judgeG Gg.out GX.out HX9.out).mono ?_
 rintro e2 w24 ⟨rfl, hb⟩
 replace Gd := zH (Gd.out.below hb)
 replace GX := zH (GX.out.below hb)
 have HX10 := zH (Nat.le_trans HX9.out hb.size)
 have H25 := zH (H24.out.below hb)
 have HB25 := zH (below_more HB24.out hb HGl.out)
 clear hb x0 x1 x2 x3 x4 H24 HB24
 obtain ⟨x0, x1, x2, x3, x4⟩ := cfg5 H25.out
 go_wp2_with fail
 refine (check0 _).mono ?_
 rintro e2 w25 ⟨rfl, hb⟩
 have H26 := zH (H25.out.below hb)
 have HB26 := zH (below_more HB25.out hb HGl.out)
 replace Gd := zH (Gd.out.below hb)
 clear hb x0 x1 x2 x3 x4 H25 HB25
 obtain ⟨x0, x1, x2, x3, x4⟩ := cfg5 H26.out
 go_wp2_with fail
 refine (live0 Gd.out).mono ?_
 rintro e2 w26 ⟨⟨v, rfl⟩, hb⟩
 have HB27 := zH (below_more HB26.out hb HGl.out)
 clear hb x0 x1 x2 x3 x4
 go_wp2_with fail
 go_ret
 exact ⟨rfl, by have := HB27.out; rw [← HGe.out] at this; exact this⟩
end Go.Proofs.YtnabbimompapfaaGreat
namespace Go.Proofs.YtnabbimompapfaaGreat
open Go Go.RowKit
theorem cfgB {W : World} {g : Nat} {c : CfgV} (h : Blk W g 24 #[.int .i64 c.count, .int .i64 c.bytes, .int .i64 c.prot, .int .u64 c.seed, .bool c.same]) : W.cell? ⟨g, 0, none⟩ = some (.int .i64 c.count) ∧ W.cell? ⟨g, 1, none⟩ = some (.int .i64 c.bytes) ∧ W.cell? ⟨g, 2, none⟩ = some (.int .i64 c.prot) ∧ W.cell? ⟨g, 3, none⟩ = some (.int .u64 c.seed) ∧ W.cell? ⟨g, 4, none⟩ = some (.bool c.same) :=
 ⟨h.cell 0 _ rfl, h.cell 1 _ rfl, h.cell 2 _ rfl, h.cell 3 _ rfl, h.cell 4 _ rfl⟩
set_option maxRecDepth 100000 in
set_option maxHeartbeats 4000000 in
theorem checks_walk (c : CfgV) (lv : Value) (qs : List RQ) (w : World) (h : RsIn w lv qs) : Calls Tryz.prog 3 #[cfgv c, lv] w fun e w' => e = .returned (.bool true) ∧ Below w.heap.size w w' := by
 obtain ⟨A, cap, rfl, hc, hm⟩ := h.cap
 have HR := zH h.rs
 have HQk := zH h.ok
 have HC0 : Hid (Blk (w.alloc (.cells #[.int .i64 c.count, .int .i64 c.bytes, .int .i64 c.prot, .int .u64 c.seed, .bool c.same] 24)) w.heap.size 24 #[.int .i64 c.count, .int .i64 c.bytes, .int .i64 c.prot, .int .u64 c.seed, .bool c.same]) := zH (Blk.new w _ _)
 have HB0 : Hid (Below w.heap.size w (w.alloc (.cells #[.int .i64 c.count, .int .i64 c.bytes, .int .i64 c.prot, .int .u64 c.seed, .bool c.same] 24))) := zH ((zL _ _).alloc (zN _) _)
 obtain ⟨X, hX⟩ : ∃ X, checkP c (qs.map RQ.r) = X := ⟨_, rfl⟩
 have HX := zH hX
 obtain ⟨X1, X2, X3⟩ := X
 unfold cfgv cfgc
 clear h hc hm hX
 go_enter Tryz.func3, Tryz.ntmps3
 go_upto_region 1 with fail
 generalize World.alloc _ _ = w1 at HC0 HB0 ⊢
 go_wp2_with fail
 refine (small_any w.heap.size _ qs w1 (HR.out.below HB0.out)).mono ?_
 rintro e w2 ⟨b, rfl, hb1, hb⟩
 have HBs := zH hb1
 have HB2 := zH (HB0.out.trans (hb.mono HB0.out.size))
 have HC2 := zH (HC0.out.below hb)
 clear hb1 hb HC0 HB0
 cases b with
 |false =>
  go_wp2_with fail
  refine (known_any w2).mono ?_
  rintro e w3 ⟨rfl, hb⟩
  have HB3 := zH (HB2.out.trans (hb.mono HB2.out.size))
  clear hb
  go_wp2_with fail
  go_ret
  exact ⟨rfl, HB3.out⟩
 |true =>
  obtain ⟨x0, x1, x2, x3, x4⟩ := cfgB HC2.out
  go_wp2_with fail
  refine (auditCheck_any w.heap.size c _ qs w2 (HR.out.below HB2.out) HQk.out HB2.out.size (by have := HBs.out (by trivial); omega)).mono ?_
  rintro e w3 ⟨he, hb⟩
  rw [HX.out] at he
  dsimp only at he
  subst he
  have HB3 := zH (HB2.out.trans (hb.mono HB2.out.size))
  have HC3 := zH (HC2.out.below hb)
  clear hb x0 x1 x2 x3 x4 HC2
  obtain ⟨x0, x1, x2, x3, x4⟩ := cfgB HC3.out
  go_wp2_with fail
  refine (kCheck_any w.heap.size c _ qs w3 (HR.out.below HB3.out) HB3.out.size (by have := HBs.out (by trivial); omega)).mono ?_
  rintro e w4 ⟨he, hb⟩
  rw [HX.out] at he
  dsimp only at he
  subst he
  have HB4 := zH (HB3.out.trans (hb.mono HB3.out.size))
  clear hb x0 x1 x2 x3 x4 HC3
  go_wp2_with fail
  refine (known_any w4).mono ?_
  rintro e w5 ⟨rfl, hb⟩
  have HB5 := zH (HB4.out.trans (hb.mono HB4.out.size))
  clear hb
  go_wp2_with fail
  go_ret
  exact ⟨rfl, HB5.out⟩
end Go.Proofs.YtnabbimompapfaaGreat
