/- AudJW, AudJX, AudJY, AudJZ, AudKA, AudKB -/
import Derived.Test.YtnabbimompapfaaGreatMl10
import Derived.Test.YtnabbimompapfaaGreatMl7
namespace Go.Proofs.YtnabbimompapfaaGreat
open Go Go.RowKit Go.MapKept Go.Maps
theorem setP_new {n : Nat} {s : PJ} {o : OpV} {dl : Int} (hi : PInv n s) (hf : findP s.L o.key = none) : setP s o dl = useP { s with births := s.births + 1, L := s.L ++ [⟨o.key, o.val, dl, s.births + 1⟩] } (s.births + 1) := by
 unfold setP useP
 rw [hf]
 dsimp only
 rw [List.filter_eq_self.2 (fun u hu => by have := hi.lowU u hu; rw [decide_eq_true_eq]; omega)]
structure SnX (w W2 W : World) (g gm gp : Nat) (us : Int) (s : PJ) (o : OpV) (A : Option Addr) (c : Nat) : Prop where
 judge : Blk W g 92 (jc { s with births := s.births + 1 } (costP s.L) us gm gp)
 box : Blk W w.heap.size 43 (opc o (.slice A o.val.length c))
 bel : Below W2.heap.size W2 W
theorem SnX.adv {w W2 W W' : World} {g gm gp : Nat} {us : Int} {s : PJ} {o : OpV} {A : Option Addr} {c : Nat} (h : SnX w W2 W g gm gp us s o A c) (hb : Below W.heap.size W W') : SnX w W2 W' g gm gp us s o A c :=
 ⟨h.judge.below hb, h.box.below hb, h.bel.trans (hb.mono h.bel.size)⟩
set_option maxRecDepth 100000 in
set_option maxHeartbeats 4000000 in
theorem set_new (N B Bv g gm gp : Nat) (us : Int) (s : PJ) (its : List It) (P : List (Int × Int)) (o : OpV) (V : Value) (dl : Int) (w : World) (h : JRep w B g gm gp us s its P) (hv : Bts w Bv 5 V o.val) (hi : PInv N s) (hn : N ≤ 90000) (hB : Bv ≤ B ∧ B ≤ w.heap.size)
  (hko : keyOK o.key = true) (hvl : o.val.length ≤ 65536) (hus : 0 ≤ us ∧ us ≤ 1000000000000) (hdl : 0 ≤ dl ∧ dl ≤ neverT) (hf : findP s.L o.key = none) (hm : mget (its.map fun x => (x.e.key, x.b)) o.key = none) :
  Calls Tryz.prog 97 #[.pointer (some ⟨g, 0, none⟩), opv o V, .int .u64 dl] w (SetRet B g gm gp (us + 1) (setP s o dl) P w) := by
 have HM := zH hm
 have HF := zH hf
 have HS := zH (setP_new (dl := dl) hi hf)
 have HAs : Hid (((setP s o dl).L.map EntV.birth).Pairwise (· < ·)) := zH (hi.set o dl hko hvl hdl).asc
 clear hm hf hdl
 have HLo := zH (LOk.of hi (by omega))
 have HVl : Hid (o.val.length ≤ 1000000000) := zH (by omega)
 have HK : Hid (o.key.size ≤ maxLen) := zH (by unfold keyOK at hko; have := of_decide_eq_true hko; unfold maxLen; omega)
 obtain ⟨nC, hnC⟩ : ∃ n : Int, (48 : Int) + o.key.size + o.val.length = n := ⟨_, rfl⟩
 have HnC := zH hnC
 have hnC2 : 0 ≤ nC ∧ nC ≤ 100000 := by unfold keyOK at hko; have := of_decide_eq_true hko; omega
 have HCo : Hid (∀ W, Bts W Bv 5 V o.val → Calls Tryz.prog 89 #[.string o.key, V] W fun e w' => e = .returned (.tuple #[.int .i64 nC, .int .i64 0]) ∧ Below W.heap.size W w') := zH (fun W hW => by
  have := cost_any Bv o.key V o.val W HK.out hW
  rw [hko, hnC] at this
  simp only [Bool.true_eq_false, if_false] at this
  rw [if_neg (by omega)] at this
  exact this)
 have HBvB : Hid (Bv ≤ B) := zH hB.1
 have HBG : Hid (B ≤ g) := zH h.base.1
 obtain ⟨A, c, rfl⟩ := hv.form
 have hbl : Below w.heap.size w (w.alloc (.cells (opc o (.slice A o.val.length c)) 43)) := (zL _ _).alloc (zN _) _
 have HX : Hid (JRX w (w.alloc (.cells (opc o (.slice A o.val.length c)) 43)) B Bv g gm gp us s its P o A c) := zH ⟨h.below hbl, Blk.new _ _ _, hbl, hv.below hbl⟩
 have HI := zH hi
 have HN := zH hn
 have HBB := zH hB
 clear h hv hbl hn hnC hko
 unfold opv
 unfold opc at HX ⊢
 go_enter Tryz.func97, Tryz.ntmps97
 go_upto_region 1 with fail
 generalize World.alloc _ _ = W0 at HX ⊢
 refine wp_region_noPanic ?_
 refine wp_region_held_drew (S := fun W => JRX w W B Bv g gm gp us s its P o A c) (by kernel_rfl) (HX.out.adv (zL _ _).drew) (fun hHeld => ?_)
 generalize W0.drew = W1 at hHeld ⊢
 have HX1 := zH hHeld
 refine Pl.go [0, 1, 2, 3, 4, 5, 6, 7] ?_
 iterate 8
  refine tkl (v := ?_) ?_ ?_
  rotate_left 1
  ·intro W hSw
   obtain ⟨z0, z1, z2, z3, z4, z5, z6, z7, z8⟩ := op9 hSw.box; obtain ⟨d0, d1, d2, d3, d4, d5, d6, d7, d8, d9, d10⟩ := hSw.rep.cells; have hlk := hSw.rep.lookI_none HK.out HM.out
   clear hSw
   go_simp
   try with_reducible rfl
  try dsimp only [zS, zB, zC]
 refine Pl.stop ?_
 refine wpAnyH_done (by kernel_rfl) ?_ _
 refine NoPanic.normal ?_
 clear hHeld HX
 obtain ⟨hco0, hco⟩ := costP_bound HLo.out.ok
 have hlen := HLo.out.len
 obtain ⟨d6, -⟩ := jc_at HX1.out.rep.blk
 have f6 := HX1.out.rep.blk.frozen 6
 have hw6 : IntKind.u64.wrap (s.births + 1) = s.births + 1 := by
  have := hi.cnt
  have := HN.out
  rw [IntKind.wrap_u64]
  omega
 have HLw := zH hi.lowU
 clear hi
 go_upto_region 4 with fail
 have ho2 := Only.set1 W1 g 6 (.int .u64 (s.births + 1))
 have hbg2 : Blk (W1.setCell ⟨g, 6, none⟩ (.int .u64 (s.births + 1))) g 92 (jc { s with births := s.births + 1 } (costP s.L) us gm gp) := HX1.out.rep.blk.set_ 6 _
 have hbo2 := HX1.out.box.only ho2 (HX1.out.box.ne_ HX1.out.rep.blk (by decide))
 have hit2 := HX1.out.rep.items.only ho2 (fun e => HX1.out.rep.g_m e.symm)
 have hvm2 := HX1.out.val.keep (KeepB.of_blk (U := 5) HX1.out.rep.blk (by decide) (Nat.le_trans HBvB.out HBG.out) ho2)
 generalize W1.setCell ⟨g, 6, none⟩ (.int .u64 (s.births + 1)) = W2 at ho2 hbg2 hbo2 hit2 hvm2 ⊢
 have HO2 := zH ho2
 have HIt2 := zH hit2
 have HVm2 := zH hvm2
 have HSn2 : Hid (SnX w W2 W2 g gm gp us s o A c) := zH ⟨hbg2, hbo2, zL _ _⟩
 clear ho2 hbg2 hbo2 hit2 hvm2 d6 f6
 refine wp_region_noPanic ?_
 refine wp_region_held_drew (S := fun W => SnX w W2 W g gm gp us s o A c) (by kernel_rfl) (HSn2.out.adv (zL _ _).drew) (fun hHeld => ?_)
 have HSn3 := zH (HSn2.out.adv (zL W2.heap.size W2).drew)
 generalize W2.drew = W3 at HSn3 hHeld ⊢
 refine Pl.go [0, 1, 2, 3, 4, 5, 6, 7] ?_
 iterate 8
  refine tkl (v := ?_) ?_ ?_
  rotate_left 1
  ·intro W hSw
   obtain ⟨d6, -, d8, -⟩ := jc_at hSw.judge; obtain ⟨-, -, z2, -⟩ := op9 hSw.box
   clear hSw
   go_simp
   try with_reducible rfl
  try dsimp only [zS, zB, zC]
 refine Pl.stop ?_
 refine wpAnyH_ready (rs := [8]) (by kernel_rfl) (by simp) ?_
 refine AllReadyH.cons (o := ⟨_, _, _, _, _, _⟩) rfl (fun F hF => ?_) AllReadyH.nil
 go_simp
 have HSn4 := zH (HSn3.out.adv ((zL W3.heap.size W3).alloc (zN _) (.cells #[.string o.key, .slice none 0 0, .int .u64 0, .int .u64 (s.births + 1), .int .i64 0, .int .i64 0] 69)))
 have HBi4 : Hid (Blk (W3.alloc (.cells #[.string o.key, .slice none 0 0, .int .u64 0, .int .u64 (s.births + 1), .int .i64 0, .int .i64 0] 69)) W3.heap.size 69 (itc ⟨o.key, [], 0, s.births + 1⟩ (.slice none 0 0) 0 0)) := zH (Blk.new _ _ _)
 refine hF.out _ _ HSn4.out (fun hHeld => ?_)
 clear hF F
 try simp only [Act.put, zA, zB, zC]
 have hgB : W2.heap.size ≤ W3.heap.size := HSn3.out.bel.size
 generalize W3.heap.size = gB at HBi4 hgB ⊢
 generalize World.alloc _ _ = W4 at HSn4 HBi4 hHeld ⊢
 refine tk 9 (v := ?_) ?_ ?_
 rotate_left 1
 ·intro W hSw
  skip
  clear hSw
  go_simp
  try with_reducible rfl
 try dsimp only [zS, zB, zC]
 refine wpAnyH_done (by kernel_rfl) ?_ _
 refine NoPanic.normal ?_
 clear hHeld HSn3
 go_upto_region 5 with fail
 refine wp_region_noPanic ?_
 refine wp_region_till [7] (fun W => SnX w W2 W g gm gp us s o A c) (fun _ => True) (by kernel_rfl) trivial (HSn4.out.adv (zL _ _).drew) (fun hTill => ?_)
 have HSn5 := zH (HSn4.out.adv (zL W4.heap.size W4).drew)
 have HBi5 := zH HBi4.out.drew
 generalize W4.drew = W5 at HSn5 HBi5 hTill ⊢
 refine Pl.go [0, 1, 2] ?_
 iterate 3
  refine tsl (v := ?_) ?_ ?_
  rotate_left 1
  ·intro W hSw
   skip
   clear hSw
   go_simp
   try with_reducible rfl
  try dsimp only [zS, zB, zC]
  clear hTill
  intro hTill
 refine Pl.stop ?_
 refine tt 3 (v := ?_) ?_ ?_
 rotate_left 1
 ·intro W hSw
  obtain ⟨d6, -, d8, -⟩ := jc_at hSw.2.judge; obtain ⟨-, -, z2, -⟩ := op9 hSw.2.box
  clear hSw
  go_simp
  try with_reducible rfl
 try dsimp only [zS, zB, zC]
 clear hTill
 intro hTill
 refine ts 4 (v := ?_) ?_ ?_
 rotate_left 1
 ·intro W hSw
  skip
  clear hSw
  go_simp
  try with_reducible rfl
 try dsimp only [zS, zB, zC]
 clear hTill
 intro hTill
 refine tt 5 (v := ?_) ?_ ?_
 rotate_left 1
 ·intro W hSw
  obtain ⟨d6, -, d8, -⟩ := jc_at hSw.2.judge; obtain ⟨-, -, z2, -⟩ := op9 hSw.2.box
  clear hSw
  go_simp
  try with_reducible rfl
 try dsimp only [zS, zB, zC]
 clear hTill
 intro hTill
 refine tt 6 (v := ?_) ?_ ?_
 rotate_left 1
 ·intro W hSw
  obtain ⟨d6, -, d8, -⟩ := jc_at hSw.2.judge; obtain ⟨-, -, z2, -⟩ := op9 hSw.2.box
  clear hSw
  go_simp
  try with_reducible rfl
 try dsimp only [zS, zB, zC]
 clear hTill
 intro hTill
 obtain ⟨W6, hput, hm6, ht6⟩ := (HIt2.out.below HSn5.out.bel).put (k := o.key) HK.out HM.out gB
 have HIt6 := zH hm6
 have HTu := zH ht6.only
 clear hm6 ht6 hTill
 refine wpTill.only (i := 7) (o := ⟨_, _, _, _, _, _⟩) (by kernel_rfl) rfl (fun F hF => ?_)
 go_simp
 refine hF.out _ _ (Till.stored trivial (by kernel_rfl)) (fun hTill => ?_)
 clear hF F hTill hput
 try simp only [Act.put, zA, zB, zC]
 refine wpTill.done (by kernel_rfl) ?_
 try refine NoPanic.normal ?_
 obtain ⟨c0, hc0⟩ : ∃ c0 : Int, (0 : Int) = c0 := ⟨_, rfl⟩
 have hgm5 := HIt2.out.below HSn5.out.bel
 have HBg := zH (HSn5.out.judge.only HTu.out (HSn5.out.judge.ne_map hgm5))
 have HBi : Hid (ItAt W6 gB ⟨o.key, [], 0, s.births + 1⟩ (.slice none 0 0) 0 c0) := zH ⟨by rw [← hc0]; exact HBi5.out.only HTu.out (HBi5.out.ne_map hgm5)⟩
 have HBo := zH (HSn5.out.box.only HTu.out (HSn5.out.box.ne_map hgm5))
 have HVm := zH ((HVm2.out.below HSn5.out.bel).keep (KeepB.of_only (B := Bv) (U := 5) HTu.out (fun k _ e => ⟨by have := HX1.out.rep.base.2.1; have := HBvB.out; omega, fun cs fr hh => by
  subst e
  obtain ⟨es, clock, hb, _⟩ := hgm5
  rw [hb] at hh
  cases hh⟩)))
 have HXB : Hid (B ≤ gB) := zH (by have := HBB.out.2; have := HX1.out.bel.size; have := HO2.out.size; omega)
 have HOm : Hid (Only (fun k => k = g ∨ k = gB) W6 W6) := zH (Only.refl _ _)
 have HO16 : Hid (Only (fun k => k = g ∨ k = gm) W1 W6) := zH (((HO2.out.mono (fun i _ e => .inl e)).trans (Only.of_below (S := fun _ => False) HSn5.out.bel) (fun _ _ h => h.elim)).trans HTu.out (fun i _ e => .inr e))
 have HGB : Hid (W1.heap.size ≤ gB) := zH (by have := HO2.out.size; omega)
 have HCz := zH hc0
 have hw1 : IntKind.i64.wrap (nC - c0) = nC - c0 := by rw [IntKind.wrap_i64 _]; omega
 have hw2 : IntKind.i64.wrap (costP s.L + (nC - c0)) = costP s.L + (nC - c0) := by rw [IntKind.wrap_i64 _]; omega
 clear hc0 hgm5 HBi4 HSn4 HSn5 HBi5 HVm2 HSn2
 obtain ⟨z0, z1, z2, z3, z4, z5, z6, z7, z8⟩ := op9 HBo.out
 go_wp2_with fail
 refine (HCo.out _ HVm.out).mono ?_
 rintro e w2 ⟨rfl, hb2⟩
 have HBg2 := zH (HBg.out.below hb2)
 have HBi2 : Hid (ItAt w2 (gB) (⟨o.key, [], 0, s.births + 1⟩ : EntV) (.slice none 0 0) 0 c0) := zH ⟨HBi.out.blk.below hb2⟩
 have HBo2 := zH (HBo.out.below hb2)
 have HVm2 := zH (HVm.out.below hb2)
 have HO2 := zH (HOm.out.trans (Only.of_below (S := fun _ => False) hb2) (fun _ _ h => h.elim))
 clear hb2
 go_upto_region 7 with fail
 refine wp_region_noPanic ?_
 refine wp_region_till [13] (fun W => Blk W g 92 (jc { s with births := s.births + 1 } (costP s.L) us gm gp) ∧ ItAt W (gB) (⟨o.key, [], 0, s.births + 1⟩ : EntV) (.slice none 0 0) 0 c0) (fun _ => True) (by kernel_rfl) trivial ⟨HBg2.out.drew, ⟨HBi2.out.blk.drew⟩⟩ (fun hTill => ?_)
 refine Pl.go [0, 1, 2, 3, 4, 5, 6, 7, 8, 9, 10] ?_
 iterate 11
  refine ttl (v := ?_) ?_ ?_
  rotate_left 1
  ·intro W hSw
   obtain ⟨-, -, -, d9, -⟩ := jc_at hSw.2.1; have x5 := hSw.2.2.cells.2.2.2.2.2
   clear hSw
   go_simp
   try with_reducible rfl
  try dsimp only [zS, zB, zC]
  clear hTill
  intro hTill
 refine Pl.stop ?_
 refine ts 11 (v := ?_) ?_ ?_
 rotate_left 1
 ·intro W hSw
  skip
  clear hSw
  go_simp
  try with_reducible rfl
 try dsimp only [zS, zB, zC]
 clear hTill
 intro hTill
 refine tt 12 (v := ?_) ?_ ?_
 rotate_left 1
 ·intro W hSw
  obtain ⟨-, -, -, d9, -⟩ := jc_at hSw.2.1; have x5 := hSw.2.2.cells.2.2.2.2.2
  clear hSw
  go_simp
  try with_reducible rfl
 try dsimp only [zS, zB, zC]
 clear hTill
 intro hTill
 clear hTill
 have HBg3 := zH HBg2.out.drew
 have HBi3 : Hid (ItAt w2.drew (gB) (⟨o.key, [], 0, s.births + 1⟩ : EntV) (.slice none 0 0) 0 c0) := zH ⟨HBi2.out.blk.drew⟩
 have HBo3 := zH HBo2.out.drew
 have HVm3 := zH HVm2.out.drew
 have HO3 := zH HO2.out.drew
 clear HBg2 HBi2 HBo2 HVm2 HO2
 generalize w2.drew = w3 at HBg3 HBi3 HBo3 HVm3 HO3 ⊢
 have d9 : w3.cell? ⟨g, 9, none⟩ = some (.int .i64 (costP s.L)) := (jc_at HBg3.out).2.2.2.1
 have f9 : w3.frozen? ⟨g, 9, none⟩ = false := HBg3.out.frozen 9
 refine wpTill.only (i := 13) (o := ⟨_, _, _, _, _, _⟩) (by kernel_rfl) rfl (fun F hF => ?_)
 go_simp
 refine hF.out _ _ (Till.stored trivial (by kernel_rfl)) (fun hTill => ?_)
 clear hF F hTill
 try simp only [Act.put, zA, zB, zC]
 refine wpTill.done (by kernel_rfl) ?_
 try refine NoPanic.normal ?_
 have ho4 := Only.set1 w3 g 9 (.int .i64 (costP s.L + (nC - c0)))
 have HBg4 : Hid (Blk (w3.setCell ⟨g, 9, none⟩ (.int .i64 (costP s.L + (nC - c0)))) g 92 (jc { s with births := s.births + 1 } (costP s.L + (nC - c0)) us gm gp)) := zH (HBg3.out.set_ 9 _)
 have hneG : ¬ w.heap.size = g := HBo3.out.ne_ HBg3.out (by decide)
 have HBi4 : Hid (ItAt (w3.setCell ⟨g, 9, none⟩ (.int .i64 (costP s.L + (nC - c0)))) (gB) (⟨o.key, [], 0, s.births + 1⟩ : EntV) (.slice none 0 0) 0 c0) := zH ⟨HBi3.out.blk.only ho4 (HBi3.out.blk.ne_ HBg3.out (by decide))⟩
 have HBo4 := zH (HBo3.out.only ho4 hneG)
 have HVm4 := zH (HVm3.out.keep (KeepB.of_blk (U := 5) HBg3.out (by decide) (Nat.le_trans HBvB.out HBG.out) ho4))
 have HO4 := zH (HO3.out.trans ho4 (fun i _ e => .inl e))
 clear HBg3 HBi3 HBo3 HVm3 HO3 ho4 hneG d9 f9
 generalize w3.setCell ⟨g, 9, none⟩ (.int .i64 (costP s.L + (nC - c0))) = w4 at HBg4 HBi4 HBo4 HVm4 HO4 ⊢
 have z3 : w4.cell? ⟨w.heap.size, 3, none⟩ = some (.slice A o.val.length c) := HBo4.out.cell 3 _ rfl
 go_wp2_with fail
 refine (bytesClone_any Bv _ o.val _ HVm4.out HVl.out).mono ?_
 rintro e w5 ⟨v5, rfl, ho5, hb5⟩
 obtain ⟨A5, c5, rfl, _, _⟩ := own_form ho5
 have HBg5 := zH (HBg4.out.below hb5)
 have HBi5 : Hid (ItAt w5 (gB) (⟨o.key, [], 0, s.births + 1⟩ : EntV) (.slice none 0 0) 0 c0) := zH ⟨HBi4.out.blk.below hb5⟩
 have HBv5 := zH (Bts.of_own ho5 B)
 have HO5 := zH (HO4.out.trans (Only.of_below (S := fun _ => False) hb5) (fun _ _ h => h.elim))
 have HOv5 : Hid (OwnV w5 B (.slice A5 o.val.length c5)) := zH (OwnV.of_own ho5 (by have := HBB.out.2; have := HX1.out.bel.size; have := HO4.out.size; first | omega | (have := HO16.out.size; omega)))
 clear HBg4 HBi4 HBo4 HVm4 HO4 ho5 hb5 z3
 obtain ⟨x0, x1, x2, x3, x4, x5⟩ := HBi5.out.cells
 have xf1 := HBi5.out.blk.frozen 1
 have xf2 := HBi5.out.blk.frozen 2
 have xf5 := HBi5.out.blk.frozen 5
 go_upto_region 9 with fail
 have ho6 : Only (fun k => k = (gB)) w5 (((w5.setCell ⟨(gB), 1, none⟩ (.slice A5 o.val.length c5)).setCell ⟨(gB), 2, none⟩ (.int .u64 dl)).setCell ⟨(gB), 5, none⟩ (.int .i64 (nC))) :=
  Only.setCell (S := fun k => k = (gB)) (Only.setCell (S := fun k => k = (gB)) (Only.set1 w5 (gB) 1 _) (p := ⟨(gB), 2, none⟩) (.inl rfl) _) (p := ⟨(gB), 5, none⟩) (.inl rfl) _
 have hbi6 : Blk (((w5.setCell ⟨(gB), 1, none⟩ (.slice A5 o.val.length c5)).setCell ⟨(gB), 2, none⟩ (.int .u64 dl)).setCell ⟨(gB), 5, none⟩ (.int .i64 (nC))) (gB) 69 (itc ⟨((⟨o.key, [], 0, s.births + 1⟩ : EntV)).key, o.val, dl, ((⟨o.key, [], 0, s.births + 1⟩ : EntV)).birth⟩ (.slice A5 o.val.length c5) (0) (nC)) :=
  ((HBi5.out.blk.set_ 1 (.slice A5 o.val.length c5)).set_ 2 (.int .u64 dl)).set_ 5 (.int .i64 (nC))
 have HBi6 := zH hbi6
 have HBg6 := zH (HBg5.out.only ho6 (HBg5.out.ne_ HBi5.out.blk (by decide)))
 have HBv6 := zH (HBv5.out.keep (KeepB.of_blk (U := 5) HBi5.out.blk (by decide) HXB.out ho6))
 have HOv6 := zH (HOv5.out.keep (KeepB.of_blk (B := B) (U := 5) HBi5.out.blk (by decide) HXB.out ho6))
 have HO6 := zH (HO5.out.trans ho6 (fun i hi e => .inr e))
 clear HBg5 HBi5 HBv5 HOv5 HO5 ho6 hbi6 x0 x1 x2 x3 x4 x5 xf1 xf2 xf5
 generalize World.setCell _ _ _ = w6 at HBi6 HBg6 HBv6 HOv6 HO6 ⊢
 have hce' : costE (⟨o.key, o.val, dl, s.births + 1⟩ : EntV) = nC := by
  rw [← HnC.out]
  rfl
 obtain ⟨hj6, hoo6⟩ := HX1.out.rep.added (e' := ⟨o.key, o.val, dl, s.births + 1⟩) (W := w6) (xb := gB) hus.1 rfl HLw.out (by
  rw [hce']
  have := HBg6.out
  rw [← HCz.out, Int.sub_zero] at this
  exact this) (HIt6.out.only HO6.out (fun e => by
   rcases e with e | e
   ·exact HX1.out.rep.g_m e.symm
   ·have := HX1.out.rep.items.lt; have := HGB.out; omega)) ⟨by rw [hce']; exact HBi6.out⟩ HBv6.out HOv6.out HGB.out (HO16.out.trans HO6.out (fun i hi e => by
   rcases e with e | e
   ·exact .inl e
   ·have := HGB.out; omega)) (by have := HBB.out.2; have := HX1.out.bel.size; omega)
 have HJ6 := zH hj6
 have HOO6 := zH hoo6
 have HU := zH (use_any B g gm gp us { s with births := s.births + 1, L := s.L ++ [⟨o.key, o.val, dl, s.births + 1⟩] } _ P ⟨⟨o.key, o.val, dl, s.births + 1⟩, .slice A5 o.val.length c5, gB, 0⟩ w6 hj6 (List.mem_append.2 (.inr (List.mem_singleton.2 rfl))) (by
  have := HAs.out
  rw [HS.out] at this
  exact this) hus)
 clear hj6 hoo6
 go_wp2_with fail
 refine HU.out.mono ?_
 rintro e w7 ⟨rfl, hj7, ho7⟩
 have HJ7 := zH hj7
 have HO7 := zH ho7
 clear hj7 ho7
 go_wp2_with fail
 go_end0
 exact ⟨_, rfl, by rw [HS.out]; exact HJ7.out, KJ.trans (KJ.trans (KJ.of_below HX1.out.bel) HOO6.out) HO7.out⟩
theorem set_any (N B Bv g gm gp : Nat) (us : Int) (s : PJ) (its : List It) (P : List (Int × Int)) (o : OpV) (V : Value) (dl : Int) (w : World) (h : JRep w B g gm gp us s its P) (hv : Bts w Bv 5 V o.val) (hi : PInv N s) (hn : N ≤ 90000) (hB : Bv ≤ B ∧ B ≤ w.heap.size)
  (hko : keyOK o.key = true) (hvl : o.val.length ≤ 65536) (hus : 0 ≤ us ∧ us ≤ 1000000000000) (hdl : 0 ≤ dl ∧ dl ≤ neverT) :
  Calls Tryz.prog 97 #[.pointer (some ⟨g, 0, none⟩), opv o V, .int .u64 dl] w (SetRet B g gm gp (us + 1) (setP s o dl) P w) := by
 rcases h.find hi.keys o.key with ⟨h1, h2⟩ | ⟨x, hx, h1, _, h2⟩
 ·exact set_new N B Bv g gm gp us s its P o V dl w h hv hi hn hB hko hvl hus hdl h1 h2
 ·exact set_old N B Bv g gm gp us s its P o V dl x w h hv hi hn hB hko hvl hus hx h1 h2
end Go.Proofs.YtnabbimompapfaaGreat
namespace Go.Proofs.YtnabbimompapfaaGreat
open Go Go.RowKit Go.MapKept Go.Maps
theorem gones_eq : ∀ (bs : List Int) (s : PJ), bs.foldl goneP s = { s with L := s.L.filter (fun e => decide (e.birth ∉ bs)), U := s.U.filter (fun u => decide (u ∉ bs)) }
 |[], s => by
  rw [List.filter_eq_self.2 (fun e _ => by simp), List.filter_eq_self.2 (fun e _ => by simp)]
  rfl
 |b :: bs, s => by
  rw [List.foldl_cons, gones_eq bs]
  unfold goneP
  dsimp only
  rw [List.filter_filter, List.filter_filter]
  congr 1
  ·refine List.filter_congr (fun e _ => ?_)
   rw [Bool.eq_iff_iff, Bool.and_eq_true, decide_eq_true_eq, decide_eq_true_eq, decide_eq_true_eq, List.mem_cons, not_or]
   exact And.comm
  ·refine List.filter_congr (fun e _ => ?_)
   rw [Bool.eq_iff_iff, Bool.and_eq_true, decide_eq_true_eq, decide_eq_true_eq, decide_eq_true_eq, List.mem_cons, not_or]
   exact And.comm
theorem leftS_gones {k : Int} (hk : k ≠ 3) (s : PJ) (xs : List It) : leftS k s xs = ((xs.map It.e).map EntV.birth).foldl goneP s := by
 unfold leftS
 rw [if_neg hk, List.map_map, List.foldl_map]
 rfl
theorem leftS_all {n : Nat} {k : Int} (hk : k ≠ 3) {s : PJ} (hi : PInv n s) {xs : List It} (hx : xs.map It.e = s.L) : leftS k s xs = { s with L := [], U := [] } := by
 rw [leftS_gones hk, hx, gones_eq]
 congr 1
 ·refine List.filter_eq_nil_iff.2 (fun e he => ?_)
  rw [decide_eq_true_eq]
  exact fun h => h (List.mem_map_of_mem he)
 ·refine List.filter_eq_nil_iff.2 (fun u hu => ?_)
  rw [decide_eq_true_eq]
  obtain ⟨e, he, rfl⟩ := (hi.mem u).1 hu
  exact fun h => h (List.mem_map_of_mem he)
theorem leftS_due {n : Nat} {s : PJ} (hi : PInv n s) {xs : List It} (hx : xs.map It.e = dueL s.L s.now) : leftS 1 s xs = expireP s s.now := by
 rw [leftS_gones (by decide), hx, gones_eq]
 unfold expireP
 have key : ∀ b : Int, b ∈ (dueL s.L s.now).map EntV.birth ↔ ∃ e ∈ s.L, e.birth = b ∧ dueP e.dl s.now = true := fun b => by
  rw [List.mem_map]
  constructor
  ·rintro ⟨e, he, rfl⟩
   obtain ⟨h1, h2⟩ := dueL_mem.1 he
   exact ⟨e, h1, rfl, h2⟩
  ·rintro ⟨e, he, rfl, hd⟩
   exact ⟨e, dueL_mem.2 ⟨he, hd⟩, rfl⟩
 congr 1
 ·refine List.filter_congr (fun e he => ?_)
  rw [Bool.eq_iff_iff, decide_eq_true_eq, key, Bool.not_eq_true']
  constructor
  ·intro h
   cases hd : dueP e.dl s.now with
   |false => rfl
   |true => exact absurd ⟨e, he, rfl, hd⟩ h
  ·rintro hd ⟨e2, he2, hb, hd2⟩
   rw [pair_inj hi.asc e2 he2 e he hb, hd] at hd2
   cases hd2
 ·refine List.filter_congr (fun u _ => ?_)
  rw [Bool.eq_iff_iff, decide_eq_true_eq, key, Bool.not_eq_true', List.any_eq_false]
  constructor
  ·intro h e he hh
   rw [Bool.and_eq_true, decide_eq_true_eq] at hh
   exact h ⟨e, he, hh.1, hh.2⟩
  ·rintro h ⟨e, he, hb, hd⟩
   exact h e he (by rw [hd, decide_eq_true hb]; rfl)
def ownS (s : PJ) (o : OpV) : PJ :=
 if o.kind = 7 then { s with L := [], U := [] } else if o.kind = 6 then (match findP s.L o.key with | some x => goneP s x.birth | none => s) else s
def OwnRet2 (s : PJ) (its : List It) (o : OpV) (w : World) (e : Ending) (w' : World) : Prop :=
 ∃ (k : Int) (A : Option Addr) (n c : Nat) (xs : List It), e = .returned (.tuple #[.int .i64 k, .slice A n c]) ∧ PRow w' w.heap.size A n c (xs.map It.b) ∧ (∀ x ∈ xs, x ∈ its) ∧ (xs.map fun x => x.e.key).Nodup ∧
  (xs.map fun x => eventP k x.e s.now) = ownE s o ∧ leftS k s xs = ownS s o ∧ Below w.heap.size w w'
set_option maxHeartbeats 1000000 in
theorem own1_any (w : World) (its : List It) : PredIs w 96 #[] its (fun _ => true) := by
 refine ⟨enters_of Tryz.func96 (by kernel_rfl) rfl, fun x hx W hW => ?_⟩
 clear hx hW
 show Calls Tryz.prog _ #[ptrI x.b] W _
 unfold ptrI
 go_enter Tryz.func96, Tryz.ntmps96
 go_wp2_with fail
 go_ret
 exact ⟨rfl, Gr.refl _⟩
set_option maxRecDepth 100000 in
set_option maxHeartbeats 4000000 in
theorem own_none (N B Bv g gm gp : Nat) (us : Int) (s : PJ) (its : List It) (P : List (Int × Int)) (o : OpV) (V : Value) (w : World) (h : JRep w B g gm gp us s its P) (hv : Bts w Bv 5 V o.val) (hk : o.key.size ≤ maxLen) (hi : PInv N s)
  (h7 : o.kind ≠ 7) (hf : findP s.L o.key = none) (hm : mget (its.map fun x => (x.e.key, x.b)) o.key = none) :
  Calls Tryz.prog 72 #[.pointer (some ⟨g, 0, none⟩), opv o V] w (OwnRet2 s its o w) := by
 have HM := zH hm
 have HOe : Hid (ownE s o = []) := zH (by unfold ownE; rw [if_neg h7, hf])
 have HSs : Hid (ownS s o = leftS 0 s []) := zH (by rw [leftS_nil]; unfold ownS; rw [if_neg h7, hf]; dsimp only; split <;> rfl)
 have q7 : (o.kind == 7) = false := by simp [h7]
 clear hm hf h7
 obtain ⟨A, c, rfl⟩ := hv.form
 have HK := zH hk
 have hbl : Below w.heap.size w (w.alloc (.cells (opc o (.slice A o.val.length c)) 43)) := (zL _ _).alloc (zN _) _
 have HX : Hid (JRX w (w.alloc (.cells (opc o (.slice A o.val.length c)) 43)) B Bv g gm gp us s its P o A c) := zH ⟨h.below hbl, Blk.new _ _ _, hbl, hv.below hbl⟩
 have HI := zH hi
 clear h hv hbl hk hi
 unfold opv
 unfold opc at HX ⊢
 go_enter Tryz.func72, Tryz.ntmps72
 go_upto_region 1 with fail
 generalize World.alloc _ _ = W0 at HX ⊢
 refine wp_region_noPanic ?_
 refine wp_region_held_drew (S := fun W => JRX w W B Bv g gm gp us s its P o A c) (by kernel_rfl) (HX.out.adv (zL _ _).drew) (fun hHeld => ?_)
 generalize W0.drew = W1 at hHeld ⊢
 have HX1 := zH hHeld
 refine Pl.go [0, 1, 2, 3, 4, 5, 6, 7] ?_
 iterate 8
  refine tkl (v := ?_) ?_ ?_
  rotate_left 1
  ·intro W hSw
   obtain ⟨z0, z1, z2, z3, z4, z5, z6, z7, z8⟩ := op9 hSw.box; obtain ⟨d0, d1, d2, d3, d4, d5, d6, d7, d8, d9, d10⟩ := hSw.rep.cells; have hlk := hSw.rep.lookI_none HK.out HM.out
   clear hSw
   go_simp
   try with_reducible rfl
  try dsimp only [zS, zB, zC]
 refine Pl.stop ?_
 refine wpAnyH_done (by kernel_rfl) ?_ _
 refine NoPanic.normal ?_
 clear hHeld HX
 obtain ⟨z0, z1, z2, z3, z4, z5, z6, z7, z8⟩ := op9 HX1.out.box
 go_wp2_with fail
 go_ret2
 exact ⟨0, none, 0, 0, [], rfl, ⟨rfl, zN _, by omega, .inl rfl⟩, (fun y hy => by cases hy), List.nodup_nil, HOe.out.symm, HSs.out.symm, HX1.out.bel⟩
set_option maxRecDepth 100000 in
set_option maxHeartbeats 4000000 in
theorem own_some (N B Bv g gm gp : Nat) (us : Int) (s : PJ) (its : List It) (P : List (Int × Int)) (o : OpV) (V : Value) (x : It) (w : World) (h : JRep w B g gm gp us s its P) (hv : Bts w Bv 5 V o.val) (hk : o.key.size ≤ maxLen) (hi : PInv N s)
  (h7 : o.kind ≠ 7) (hx : x ∈ its) (hf : findP s.L o.key = some x.e) (hm : mget (its.map fun x => (x.e.key, x.b)) o.key = some x.b) :
  Calls Tryz.prog 72 #[.pointer (some ⟨g, 0, none⟩), opv o V] w (OwnRet2 s its o w) := by
 have HM := zH hm
 have HXm := zH hx
 have q7 : (o.kind == 7) = false := by simp [h7]
 by_cases k1 : o.kind = 1
 ·have HOe : Hid (ownE s o = [eventP 3 x.e s.now]) := zH (by unfold ownE; rw [if_neg h7, hf]; dsimp only; rw [if_pos (.inl k1)])
  have HSs : Hid (ownS s o = leftS 3 s [x]) := zH (by unfold ownS leftS; rw [if_neg h7, if_neg (by omega), if_pos rfl])
  have q1 : (o.kind == 1) = true := by simp [k1]
  clear hm hx hf h7 k1
  obtain ⟨A, c, rfl⟩ := hv.form
  have HK := zH hk
  have hbl : Below w.heap.size w (w.alloc (.cells (opc o (.slice A o.val.length c)) 43)) := (zL _ _).alloc (zN _) _
  have HX : Hid (JRX w (w.alloc (.cells (opc o (.slice A o.val.length c)) 43)) B Bv g gm gp us s its P o A c) := zH ⟨h.below hbl, Blk.new _ _ _, hbl, hv.below hbl⟩
  have HI := zH hi
  clear h hv hbl hk hi
  unfold opv
  unfold opc at HX ⊢
  go_enter Tryz.func72, Tryz.ntmps72
  go_upto_region 1 with fail
  generalize World.alloc _ _ = W0 at HX ⊢
  refine wp_region_noPanic ?_
  refine wp_region_held_drew (S := fun W => JRX w W B Bv g gm gp us s its P o A c) (by kernel_rfl) (HX.out.adv (zL _ _).drew) (fun hHeld => ?_)
  generalize W0.drew = W1 at hHeld ⊢
  have HX1 := zH hHeld
  refine Pl.go [0, 1, 2, 3, 4, 5, 6, 7] ?_
  iterate 8
   refine tkl (v := ?_) ?_ ?_
   rotate_left 1
   ·intro W hSw
    obtain ⟨z0, z1, z2, z3, z4, z5, z6, z7, z8⟩ := op9 hSw.box; obtain ⟨d0, d1, d2, d3, d4, d5, d6, d7, d8, d9, d10⟩ := hSw.rep.cells; have hlk := hSw.rep.lookI_some HK.out HM.out
    clear hSw
    go_simp
    try with_reducible rfl
   try dsimp only [zS, zB, zC]
  refine Pl.stop ?_
  refine wpAnyH_done (by kernel_rfl) ?_ _
  refine NoPanic.normal ?_
  clear hHeld HX
  obtain ⟨z0, z1, z2, z3, z4, z5, z6, z7, z8⟩ := op9 HX1.out.box
  have hb2 : Below W1.heap.size W1 (W1.alloc (.cells #[.pointer (some ⟨x.b, 0, none⟩)] 65)) := (zL _ _).alloc (zN _) _
  have HB2 := zH (HX1.out.bel.trans (hb2.mono HX1.out.bel.size))
  have HRw : Hid (PRow (W1.alloc (.cells #[.pointer (some ⟨x.b, 0, none⟩)] 65)) w.heap.size (some ⟨W1.heap.size, 0, none⟩) 1 1 [x.b]) := zH ⟨rfl, zN _, by omega, .inr ⟨_, rfl, HX1.out.bel.size, ⟨_, Blk.new _ _ _⟩, fun i b hi => by
   have : i = 0 := by have := (List.getElem?_eq_some_iff.1 hi).1; simp at this; exact this
   subst this
   have : b = x.b := by simpa using hi.symm
   subst this
   have hn := Blk.new W1 65 #[.pointer (some ⟨x.b, 0, none⟩)]
   exact ⟨hn.cell 0 _ rfl, hn.frozen 0⟩⟩⟩
  clear hb2
  go_wp2_with fail
  go_ret2
  exact ⟨3, _, 1, 1, [x], rfl, HRw.out, fun y hy => by rw [List.mem_singleton.1 hy]; exact HXm.out, by simp, HOe.out.symm, HSs.out.symm, HB2.out⟩
 ·have q1 : (o.kind == 1) = false := by simp [k1]
  by_cases k2 : o.kind = 2
  ·have HOe : Hid (ownE s o = [eventP 3 x.e s.now]) := zH (by unfold ownE; rw [if_neg h7, hf]; dsimp only; rw [if_pos (.inr k2)])
   have HSs : Hid (ownS s o = leftS 3 s [x]) := zH (by unfold ownS leftS; rw [if_neg h7, if_neg (by omega), if_pos rfl])
   have q2 : (o.kind == 2) = true := by simp [k2]
   clear hm hx hf h7 k1 k2
   obtain ⟨A, c, rfl⟩ := hv.form
   have HK := zH hk
   have hbl : Below w.heap.size w (w.alloc (.cells (opc o (.slice A o.val.length c)) 43)) := (zL _ _).alloc (zN _) _
   have HX : Hid (JRX w (w.alloc (.cells (opc o (.slice A o.val.length c)) 43)) B Bv g gm gp us s its P o A c) := zH ⟨h.below hbl, Blk.new _ _ _, hbl, hv.below hbl⟩
   have HI := zH hi
   clear h hv hbl hk hi
   unfold opv
   unfold opc at HX ⊢
   go_enter Tryz.func72, Tryz.ntmps72
   go_upto_region 1 with fail
   generalize World.alloc _ _ = W0 at HX ⊢
   refine wp_region_noPanic ?_
   refine wp_region_held_drew (S := fun W => JRX w W B Bv g gm gp us s its P o A c) (by kernel_rfl) (HX.out.adv (zL _ _).drew) (fun hHeld => ?_)
   generalize W0.drew = W1 at hHeld ⊢
   have HX1 := zH hHeld
   refine Pl.go [0, 1, 2, 3, 4, 5, 6, 7] ?_
   iterate 8
    refine tkl (v := ?_) ?_ ?_
    rotate_left 1
    ·intro W hSw
     obtain ⟨z0, z1, z2, z3, z4, z5, z6, z7, z8⟩ := op9 hSw.box; obtain ⟨d0, d1, d2, d3, d4, d5, d6, d7, d8, d9, d10⟩ := hSw.rep.cells; have hlk := hSw.rep.lookI_some HK.out HM.out
     clear hSw
     go_simp
     try with_reducible rfl
    try dsimp only [zS, zB, zC]
   refine Pl.stop ?_
   refine wpAnyH_done (by kernel_rfl) ?_ _
   refine NoPanic.normal ?_
   clear hHeld HX
   obtain ⟨z0, z1, z2, z3, z4, z5, z6, z7, z8⟩ := op9 HX1.out.box
   have hb2 : Below W1.heap.size W1 (W1.alloc (.cells #[.pointer (some ⟨x.b, 0, none⟩)] 65)) := (zL _ _).alloc (zN _) _
   have HB2 := zH (HX1.out.bel.trans (hb2.mono HX1.out.bel.size))
   have HRw : Hid (PRow (W1.alloc (.cells #[.pointer (some ⟨x.b, 0, none⟩)] 65)) w.heap.size (some ⟨W1.heap.size, 0, none⟩) 1 1 [x.b]) := zH ⟨rfl, zN _, by omega, .inr ⟨_, rfl, HX1.out.bel.size, ⟨_, Blk.new _ _ _⟩, fun i b hi => by
    have : i = 0 := by have := (List.getElem?_eq_some_iff.1 hi).1; simp at this; exact this
    subst this
    have : b = x.b := by simpa using hi.symm
    subst this
    have hn := Blk.new W1 65 #[.pointer (some ⟨x.b, 0, none⟩)]
    exact ⟨hn.cell 0 _ rfl, hn.frozen 0⟩⟩⟩
   clear hb2
   go_wp2_with fail
   go_ret2
   exact ⟨3, _, 1, 1, [x], rfl, HRw.out, fun y hy => by rw [List.mem_singleton.1 hy]; exact HXm.out, by simp, HOe.out.symm, HSs.out.symm, HB2.out⟩
  ·have q2 : (o.kind == 2) = false := by simp [k2]
   by_cases k6 : o.kind = 6
   ·have HOe : Hid (ownE s o = [eventP 4 x.e s.now]) := zH (by unfold ownE; rw [if_neg h7, hf]; dsimp only; rw [if_neg (by omega), if_pos k6])
    have HSs : Hid (ownS s o = leftS 4 s [x]) := zH (by unfold ownS leftS; rw [if_neg h7, if_pos k6, if_neg (by decide), hf]; rfl)
    have q6 : (o.kind == 6) = true := by simp [k6]
    clear hm hx hf h7 k1 k2 k6
    obtain ⟨A, c, rfl⟩ := hv.form
    have HK := zH hk
    have hbl : Below w.heap.size w (w.alloc (.cells (opc o (.slice A o.val.length c)) 43)) := (zL _ _).alloc (zN _) _
    have HX : Hid (JRX w (w.alloc (.cells (opc o (.slice A o.val.length c)) 43)) B Bv g gm gp us s its P o A c) := zH ⟨h.below hbl, Blk.new _ _ _, hbl, hv.below hbl⟩
    have HI := zH hi
    clear h hv hbl hk hi
    unfold opv
    unfold opc at HX ⊢
    go_enter Tryz.func72, Tryz.ntmps72
    go_upto_region 1 with fail
    generalize World.alloc _ _ = W0 at HX ⊢
    refine wp_region_noPanic ?_
    refine wp_region_held_drew (S := fun W => JRX w W B Bv g gm gp us s its P o A c) (by kernel_rfl) (HX.out.adv (zL _ _).drew) (fun hHeld => ?_)
    generalize W0.drew = W1 at hHeld ⊢
    have HX1 := zH hHeld
    refine Pl.go [0, 1, 2, 3, 4, 5, 6, 7] ?_
    iterate 8
     refine tkl (v := ?_) ?_ ?_
     rotate_left 1
     ·intro W hSw
      obtain ⟨z0, z1, z2, z3, z4, z5, z6, z7, z8⟩ := op9 hSw.box; obtain ⟨d0, d1, d2, d3, d4, d5, d6, d7, d8, d9, d10⟩ := hSw.rep.cells; have hlk := hSw.rep.lookI_some HK.out HM.out
      clear hSw
      go_simp
      try with_reducible rfl
     try dsimp only [zS, zB, zC]
    refine Pl.stop ?_
    refine wpAnyH_done (by kernel_rfl) ?_ _
    refine NoPanic.normal ?_
    clear hHeld HX
    obtain ⟨z0, z1, z2, z3, z4, z5, z6, z7, z8⟩ := op9 HX1.out.box
    have hb2 : Below W1.heap.size W1 (W1.alloc (.cells #[.pointer (some ⟨x.b, 0, none⟩)] 65)) := (zL _ _).alloc (zN _) _
    have HB2 := zH (HX1.out.bel.trans (hb2.mono HX1.out.bel.size))
    have HRw : Hid (PRow (W1.alloc (.cells #[.pointer (some ⟨x.b, 0, none⟩)] 65)) w.heap.size (some ⟨W1.heap.size, 0, none⟩) 1 1 [x.b]) := zH ⟨rfl, zN _, by omega, .inr ⟨_, rfl, HX1.out.bel.size, ⟨_, Blk.new _ _ _⟩, fun i b hi => by
     have : i = 0 := by have := (List.getElem?_eq_some_iff.1 hi).1; simp at this; exact this
     subst this
     have : b = x.b := by simpa using hi.symm
     subst this
     have hn := Blk.new W1 65 #[.pointer (some ⟨x.b, 0, none⟩)]
     exact ⟨hn.cell 0 _ rfl, hn.frozen 0⟩⟩⟩
    clear hb2
    go_wp2_with fail
    go_ret2
    exact ⟨4, _, 1, 1, [x], rfl, HRw.out, fun y hy => by rw [List.mem_singleton.1 hy]; exact HXm.out, by simp, HOe.out.symm, HSs.out.symm, HB2.out⟩
   ·have HOe : Hid (ownE s o = []) := zH (by unfold ownE; rw [if_neg h7, hf]; dsimp only; rw [if_neg (by omega), if_neg k6])
    have HSs : Hid (ownS s o = leftS 0 s []) := zH (by rw [leftS_nil]; unfold ownS; rw [if_neg h7, if_neg k6])
    have q6 : (o.kind == 6) = false := by simp [k6]
    clear hm hx hf h7 k1 k2 k6
    obtain ⟨A, c, rfl⟩ := hv.form
    have HK := zH hk
    have hbl : Below w.heap.size w (w.alloc (.cells (opc o (.slice A o.val.length c)) 43)) := (zL _ _).alloc (zN _) _
    have HX : Hid (JRX w (w.alloc (.cells (opc o (.slice A o.val.length c)) 43)) B Bv g gm gp us s its P o A c) := zH ⟨h.below hbl, Blk.new _ _ _, hbl, hv.below hbl⟩
    have HI := zH hi
    clear h hv hbl hk hi
    unfold opv
    unfold opc at HX ⊢
    go_enter Tryz.func72, Tryz.ntmps72
    go_upto_region 1 with fail
    generalize World.alloc _ _ = W0 at HX ⊢
    refine wp_region_noPanic ?_
    refine wp_region_held_drew (S := fun W => JRX w W B Bv g gm gp us s its P o A c) (by kernel_rfl) (HX.out.adv (zL _ _).drew) (fun hHeld => ?_)
    generalize W0.drew = W1 at hHeld ⊢
    have HX1 := zH hHeld
    refine Pl.go [0, 1, 2, 3, 4, 5, 6, 7] ?_
    iterate 8
     refine tkl (v := ?_) ?_ ?_
     rotate_left 1
     ·intro W hSw
      obtain ⟨z0, z1, z2, z3, z4, z5, z6, z7, z8⟩ := op9 hSw.box; obtain ⟨d0, d1, d2, d3, d4, d5, d6, d7, d8, d9, d10⟩ := hSw.rep.cells; have hlk := hSw.rep.lookI_some HK.out HM.out
      clear hSw
      go_simp
      try with_reducible rfl
     try dsimp only [zS, zB, zC]
    refine Pl.stop ?_
    refine wpAnyH_done (by kernel_rfl) ?_ _
    refine NoPanic.normal ?_
    clear hHeld HX
    obtain ⟨z0, z1, z2, z3, z4, z5, z6, z7, z8⟩ := op9 HX1.out.box
    go_wp2_with fail
    go_ret2
    exact ⟨0, none, 0, 0, [], rfl, ⟨rfl, zN _, by omega, .inl rfl⟩, (fun y hy => by cases hy), List.nodup_nil, HOe.out.symm, HSs.out.symm, HX1.out.bel⟩
set_option maxRecDepth 100000 in
set_option maxHeartbeats 4000000 in
theorem own_clear (N B Bv g gm gp : Nat) (us : Int) (s : PJ) (its : List It) (P : List (Int × Int)) (o : OpV) (V : Value) (w : World) (h : JRep w B g gm gp us s its P) (hv : Bts w Bv 5 V o.val) (hk : o.key.size ≤ maxLen) (hi : PInv N s) (hn : N ≤ 100000)
  (h7 : o.kind = 7) :
  Calls Tryz.prog 72 #[.pointer (some ⟨g, 0, none⟩), opv o V] w (OwnRet2 s its o w) := by
 have hlen : its.length ≤ 1000000 := by have := h.lenI; have := hi.lenL; omega
 have HLe := zH hlen
 have HOe : Hid (ownE s o = s.L.map fun e => eventP 5 e s.now) := zH (by unfold ownE; rw [if_pos h7])
 have HSs : Hid (ownS s o = { s with L := [], U := [] }) := zH (by unfold ownS; rw [if_pos h7])
 have q7 : (o.kind == 7) = true := by simp [h7]
 have hfin : ∀ ys : List It, ys.Perm (its.filter fun _ => true) → ys.Pairwise (fun a b => ¬ cmpB b.e a.e < 0) → (∀ x ∈ ys, x ∈ its) ∧ (ys.map fun x => x.e.key).Nodup ∧ (ys.map fun x => eventP 5 x.e s.now) = ownE s o ∧ leftS 5 s ys = ownS s o := fun ys hp ho => by
  have he := sortB_eq (q := fun _ => true) hi.asc h.perm (fun _ => rfl) hp ho
  have hft : s.L.filter (fun _ => true) = s.L := List.filter_eq_self.2 (fun _ _ => rfl)
  rw [hft] at he
  have hfi : its.filter (fun _ => true) = its := List.filter_eq_self.2 (fun _ _ => rfl)
  rw [hfi] at hp
  refine ⟨fun x hx => hp.mem_iff.1 hx, (hp.map _).nodup_iff.2 h.keysN, ?_, ?_⟩
  ·rw [HOe.out, ← he, List.map_map]; rfl
  ·rw [leftS_all (by decide) hi he, HSs.out]
 have HFin := zH hfin
 clear h7 hlen hfin
 cases hm : mget (its.map fun x => (x.e.key, x.b)) o.key with
 |none =>
  have HM := zH hm
  clear hm
  obtain ⟨A, c, rfl⟩ := hv.form
  have HK := zH hk
  have hbl : Below w.heap.size w (w.alloc (.cells (opc o (.slice A o.val.length c)) 43)) := (zL _ _).alloc (zN _) _
  have HX : Hid (JRX w (w.alloc (.cells (opc o (.slice A o.val.length c)) 43)) B Bv g gm gp us s its P o A c) := zH ⟨h.below hbl, Blk.new _ _ _, hbl, hv.below hbl⟩
  have HI := zH hi
  clear h hv hbl hk hi
  unfold opv
  unfold opc at HX ⊢
  go_enter Tryz.func72, Tryz.ntmps72
  go_upto_region 1 with fail
  generalize World.alloc _ _ = W0 at HX ⊢
  refine wp_region_noPanic ?_
  refine wp_region_held_drew (S := fun W => JRX w W B Bv g gm gp us s its P o A c) (by kernel_rfl) (HX.out.adv (zL _ _).drew) (fun hHeld => ?_)
  generalize W0.drew = W1 at hHeld ⊢
  have HX1 := zH hHeld
  refine Pl.go [0, 1, 2, 3, 4, 5, 6, 7] ?_
  iterate 8
   refine tkl (v := ?_) ?_ ?_
   rotate_left 1
   ·intro W hSw
    obtain ⟨z0, z1, z2, z3, z4, z5, z6, z7, z8⟩ := op9 hSw.box; obtain ⟨d0, d1, d2, d3, d4, d5, d6, d7, d8, d9, d10⟩ := hSw.rep.cells; have hlk := hSw.rep.lookI_none HK.out HM.out
    clear hSw
    go_simp
    try with_reducible rfl
   try dsimp only [zS, zB, zC]
  refine Pl.stop ?_
  refine wpAnyH_done (by kernel_rfl) ?_ _
  refine NoPanic.normal ?_
  clear hHeld HX
  obtain ⟨z0, z1, z2, z3, z4, z5, z6, z7, z8⟩ := op9 HX1.out.box
  have HS := zH (sorted_any B g gm gp us s its P W1 HX1.out.rep HLe.out _ _ _ (own1_any W1 its) _ _ cmpIs_birth)
  go_wp2_with fail
  refine HS.out.mono ?_
  rintro e w2 ⟨A2, n2, c2, ys, rfl, hrow, hperm, hord, hb2⟩
  obtain ⟨f1, f2, f3, f4⟩ := HFin.out ys hperm (hord.imp (fun h => by omega))
  have HF1 := zH f1
  have HF2 := zH f2
  have HF3 := zH f3
  have HF4 := zH f4
  have HB2 := zH (HX1.out.bel.trans (hb2.mono HX1.out.bel.size))
  have hr2 : PRow w2 w.heap.size A2 n2 c2 (ys.map It.b) := ⟨hrow.len, hrow.cap, hrow.small, by
   rcases hrow.row with e | ⟨gr, q1, q2, q3⟩
   ·exact .inl e
   ·exact .inr ⟨gr, q1, Nat.le_trans HX1.out.bel.size q2, q3⟩⟩
  have HR2 := zH hr2
  clear hrow hr2 hperm hord hb2 f1 f2 f3 f4 HS
  go_wp2_with fail
  go_ret2
  exact ⟨5, A2, n2, c2, ys, rfl, HR2.out, HF1.out, HF2.out, HF3.out, HF4.out, HB2.out⟩
 |some bx =>
  have HM := zH hm
  clear hm
  obtain ⟨A, c, rfl⟩ := hv.form
  have HK := zH hk
  have hbl : Below w.heap.size w (w.alloc (.cells (opc o (.slice A o.val.length c)) 43)) := (zL _ _).alloc (zN _) _
  have HX : Hid (JRX w (w.alloc (.cells (opc o (.slice A o.val.length c)) 43)) B Bv g gm gp us s its P o A c) := zH ⟨h.below hbl, Blk.new _ _ _, hbl, hv.below hbl⟩
  have HI := zH hi
  clear h hv hbl hk hi
  unfold opv
  unfold opc at HX ⊢
  go_enter Tryz.func72, Tryz.ntmps72
  go_upto_region 1 with fail
  generalize World.alloc _ _ = W0 at HX ⊢
  refine wp_region_noPanic ?_
  refine wp_region_held_drew (S := fun W => JRX w W B Bv g gm gp us s its P o A c) (by kernel_rfl) (HX.out.adv (zL _ _).drew) (fun hHeld => ?_)
  generalize W0.drew = W1 at hHeld ⊢
  have HX1 := zH hHeld
  refine Pl.go [0, 1, 2, 3, 4, 5, 6, 7] ?_
  iterate 8
   refine tkl (v := ?_) ?_ ?_
   rotate_left 1
   ·intro W hSw
    obtain ⟨z0, z1, z2, z3, z4, z5, z6, z7, z8⟩ := op9 hSw.box; obtain ⟨d0, d1, d2, d3, d4, d5, d6, d7, d8, d9, d10⟩ := hSw.rep.cells; have hlk := hSw.rep.lookI_some HK.out HM.out
    clear hSw
    go_simp
    try with_reducible rfl
   try dsimp only [zS, zB, zC]
  refine Pl.stop ?_
  refine wpAnyH_done (by kernel_rfl) ?_ _
  refine NoPanic.normal ?_
  clear hHeld HX
  obtain ⟨z0, z1, z2, z3, z4, z5, z6, z7, z8⟩ := op9 HX1.out.box
  have HS := zH (sorted_any B g gm gp us s its P W1 HX1.out.rep HLe.out _ _ _ (own1_any W1 its) _ _ cmpIs_birth)
  go_wp2_with fail
  refine HS.out.mono ?_
  rintro e w2 ⟨A2, n2, c2, ys, rfl, hrow, hperm, hord, hb2⟩
  obtain ⟨f1, f2, f3, f4⟩ := HFin.out ys hperm (hord.imp (fun h => by omega))
  have HF1 := zH f1
  have HF2 := zH f2
  have HF3 := zH f3
  have HF4 := zH f4
  have HB2 := zH (HX1.out.bel.trans (hb2.mono HX1.out.bel.size))
  have hr2 : PRow w2 w.heap.size A2 n2 c2 (ys.map It.b) := ⟨hrow.len, hrow.cap, hrow.small, by
   rcases hrow.row with e | ⟨gr, q1, q2, q3⟩
   ·exact .inl e
   ·exact .inr ⟨gr, q1, Nat.le_trans HX1.out.bel.size q2, q3⟩⟩
  have HR2 := zH hr2
  clear hrow hr2 hperm hord hb2 f1 f2 f3 f4 HS
  go_wp2_with fail
  go_ret2
  exact ⟨5, A2, n2, c2, ys, rfl, HR2.out, HF1.out, HF2.out, HF3.out, HF4.out, HB2.out⟩
theorem own_any (N B Bv g gm gp : Nat) (us : Int) (s : PJ) (its : List It) (P : List (Int × Int)) (o : OpV) (V : Value) (w : World) (h : JRep w B g gm gp us s its P) (hv : Bts w Bv 5 V o.val) (hk : o.key.size ≤ maxLen) (hi : PInv N s) (hn : N ≤ 100000) :
  Calls Tryz.prog 72 #[.pointer (some ⟨g, 0, none⟩), opv o V] w (OwnRet2 s its o w) := by
 by_cases h7 : o.kind = 7
 ·exact own_clear N B Bv g gm gp us s its P o V w h hv hk hi hn h7
 ·rcases h.find hi.keys o.key with ⟨h1, h2⟩ | ⟨x, hx, h1, _, h2⟩
  ·exact own_none N B Bv g gm gp us s its P o V w h hv hk hi h7 h1 h2
  ·exact own_some N B Bv g gm gp us s its P o V x w h hv hk hi h7 hx h1 h2
end Go.Proofs.YtnabbimompapfaaGreat
namespace Go.Proofs.YtnabbimompapfaaGreat
open Go Go.RowKit Go.MapKept Go.Maps
theorem JRep.lookI {w : World} {B g gm gp : Nat} {us : Int} {s : PJ} {its : List It} {P : List (Int × Int)} (h : JRep w B g gm gp us s its P) {k : ByteArray} (hk : k.size ≤ maxLen) :
  (Instr.lookup 89 (.map (some gm)) (.string k) false).run Tryz.prog w = .ok (.pointer ((mget (its.map fun x => (x.e.key, x.b)) k).map fun b => ⟨b, 0, none⟩)) w := by
 have := h.items.look1 (P := Tryz.prog) (k := k) hk
 rw [this]
 cases mget (its.map fun x => (x.e.key, x.b)) k <;> rfl
def effD (s : PJ) (o : OpV) : PJ := if o.kind = 6 ∨ o.kind = 7 then s else effA s o
def effC (s : PJ) (o : OpV) (e : Int) : PJ := if e = 0 then effB (effD s o) o else effD s o
theorem effC_own (s : PJ) (o : OpV) (e : Int) : effC (ownS s o) o e = effP s o e := by
 unfold effC effP
 have : effD (ownS s o) o = effA s o := by
  unfold effD ownS effA
  by_cases h7 : o.kind = 7
  ·rw [if_pos (.inr h7), if_pos h7, if_neg (by omega), if_neg (by omega), if_pos h7]
  ·by_cases h6 : o.kind = 6
   ·rw [if_pos (.inl h6), if_neg h7, if_pos h6, if_neg (by omega), if_neg (by omega), if_neg h7, if_neg (by omega)]
    cases findP s.L o.key with
    |none => rfl
    |some x => dsimp only; rw [if_neg (by omega), if_neg (by omega), if_pos h6]
   ·rw [if_neg (by omega), if_neg h7, if_neg h6]
 rw [this]
def EffRetJ (B g gm gp : Nat) (us : Int) (s : PJ) (w : World) (e : Ending) (w' : World) : Prop :=
 e = .returned (.tuple #[]) ∧ ∃ (us' : Int) (its' : List It) (P' : List (Int × Int)), (us ≤ us' ∧ us' ≤ us + 1) ∧ JRep w' B g gm gp us' s its' P' ∧ Only (KJ B w) w w'
set_option maxRecDepth 100000 in
set_option maxHeartbeats 4000000 in
theorem eff_plain (B Bv g gm gp : Nat) (us : Int) (s : PJ) (its : List It) (P : List (Int × Int)) (o : OpV) (V : Value) (w : World) (h : JRep w B g gm gp us s its P) (hv : Bts w Bv 5 V o.val) (hk : o.key.size ≤ maxLen)
  (hkd : o.kind = 4 ∨ o.kind = 6 ∨ o.kind = 7 ∨ o.kind = 9 ∨ o.kind = 10) :
  Calls Tryz.prog 73 #[.pointer (some ⟨g, 0, none⟩), opv o V, .int .i64 0] w (EffRetJ B g gm gp us (effC s o 0) w) := by
 have HS : Hid (s = effC s o 0) := zH (by
  unfold effC effD
  rw [if_pos rfl]
  have hB : effB s o = s := by unfold effB; rw [if_neg (by omega), if_neg (by omega), if_neg (by omega), if_neg (by omega)]
  by_cases h67 : o.kind = 6 ∨ o.kind = 7
  ·rw [if_pos h67, hB]
  ·rw [if_neg h67]
   have : effA s o = s := by
    unfold effA
    rw [if_neg (by omega), if_neg (by omega), if_neg (by omega), if_neg (by omega)]
    cases findP s.L o.key with
    |none => rfl
    |some x => dsimp only; rw [if_neg (by omega), if_neg (by omega), if_neg (by omega)]
   rw [this, hB])
 have q1 : (o.kind == 1) = false := by rw [beq_eq_false_iff_ne]; omega
 have q2 : (o.kind == 2) = false := by rw [beq_eq_false_iff_ne]; omega
 have q3 : (o.kind == 3) = false := by rw [beq_eq_false_iff_ne]; omega
 have q5 : (o.kind == 5) = false := by rw [beq_eq_false_iff_ne]; omega
 have q8 : (o.kind == 8) = false := by rw [beq_eq_false_iff_ne]; omega
 have q11 : (o.kind == 11) = false := by rw [beq_eq_false_iff_ne]; omega
 have q12 : (o.kind == 12) = false := by rw [beq_eq_false_iff_ne]; omega
 have q13 : (o.kind == 13) = false := by rw [beq_eq_false_iff_ne]; omega
 have q14 : (o.kind == 14) = false := by rw [beq_eq_false_iff_ne]; omega
 clear hkd
 obtain ⟨px, hpx⟩ : ∃ px, ((mget (its.map fun x => (x.e.key, x.b)) o.key).map fun b => (⟨b, 0, none⟩ : Addr)) = px := ⟨_, rfl⟩
 have HPx := zH hpx
 clear hpx
 obtain ⟨A, c, rfl⟩ := hv.form
 have HK := zH hk
 have hbl : Below w.heap.size w (w.alloc (.cells (opc o (.slice A o.val.length c)) 43)) := (zL _ _).alloc (zN _) _
 have HX : Hid (JRX w (w.alloc (.cells (opc o (.slice A o.val.length c)) 43)) B Bv g gm gp us s its P o A c) := zH ⟨h.below hbl, Blk.new _ _ _, hbl, hv.below hbl⟩
 clear h hv hbl hk
 unfold opv
 unfold opc at HX ⊢
 go_enter Tryz.func73, Tryz.ntmps73
 go_upto_region 1 with fail
 generalize World.alloc _ _ = W0 at HX ⊢
 refine wp_region_noPanic ?_
 refine wp_region_held_drew (S := fun W => JRX w W B Bv g gm gp us s its P o A c) (by kernel_rfl) (HX.out.adv (zL _ _).drew) (fun hHeld => ?_)
 generalize W0.drew = W1 at hHeld ⊢
 have HX1 := zH hHeld
 refine Pl.go [0, 1, 2, 3, 4, 5, 6, 7] ?_
 iterate 8
  refine tkl (v := ?_) ?_ ?_
  rotate_left 1
  ·intro W hSw
   obtain ⟨z0, z1, z2, z3, z4, z5, z6, z7, z8⟩ := op9 hSw.box; obtain ⟨d0, d1, d2, d3, d4, d5, d6, d7, d8, d9, d10⟩ := hSw.rep.cells; have hlk := hSw.rep.lookI HK.out; rw [HPx.out] at hlk
   clear hSw
   go_simp
   try with_reducible rfl
  try dsimp only [zS, zB, zC]
 refine Pl.stop ?_
 refine wpAnyH_done (by kernel_rfl) ?_ _
 refine NoPanic.normal ?_
 clear hHeld HX
 obtain ⟨z0, z1, z2, z3, z4, z5, z6, z7, z8⟩ := op9 HX1.out.box
 go_wp2_with fail
 go_end0
 exact ⟨rfl, us, its, P, ⟨Int.le_refl _, by omega⟩, HS.out ▸ HX1.out.rep, KJ.of_below HX1.out.bel⟩
set_option maxRecDepth 100000 in
set_option maxHeartbeats 4000000 in
theorem eff_err (B Bv g gm gp : Nat) (us : Int) (s : PJ) (its : List It) (P : List (Int × Int)) (o : OpV) (V : Value) (e0 : Int) (w : World) (h : JRep w B g gm gp us s its P) (hv : Bts w Bv 5 V o.val) (hk : o.key.size ≤ maxLen)
  (hkd : 11 ≤ o.kind ∧ o.kind ≤ 14) (he : e0 ≠ 0) :
  Calls Tryz.prog 73 #[.pointer (some ⟨g, 0, none⟩), opv o V, .int .i64 e0] w (EffRetJ B g gm gp us (effC s o e0) w) := by
 have HS : Hid (s = effC s o e0) := zH (by
  unfold effC effD
  rw [if_neg he, if_neg (by omega)]
  unfold effA
  rw [if_neg (by omega), if_neg (by omega), if_neg (by omega), if_neg (by omega)]
  cases findP s.L o.key with
  |none => rfl
  |some x => dsimp only; rw [if_neg (by omega), if_neg (by omega), if_neg (by omega)])
 have qe : (e0 != 0) = true := by simp [he]
 have q1 : (o.kind == 1) = false := by rw [beq_eq_false_iff_ne]; omega
 have q2 : (o.kind == 2) = false := by rw [beq_eq_false_iff_ne]; omega
 have q3 : (o.kind == 3) = false := by rw [beq_eq_false_iff_ne]; omega
 have q5 : (o.kind == 5) = false := by rw [beq_eq_false_iff_ne]; omega
 have q8 : (o.kind == 8) = false := by rw [beq_eq_false_iff_ne]; omega
 clear hkd he
 obtain ⟨px, hpx⟩ : ∃ px, ((mget (its.map fun x => (x.e.key, x.b)) o.key).map fun b => (⟨b, 0, none⟩ : Addr)) = px := ⟨_, rfl⟩
 have HPx := zH hpx
 clear hpx
 obtain ⟨A, c, rfl⟩ := hv.form
 have HK := zH hk
 have hbl : Below w.heap.size w (w.alloc (.cells (opc o (.slice A o.val.length c)) 43)) := (zL _ _).alloc (zN _) _
 have HX : Hid (JRX w (w.alloc (.cells (opc o (.slice A o.val.length c)) 43)) B Bv g gm gp us s its P o A c) := zH ⟨h.below hbl, Blk.new _ _ _, hbl, hv.below hbl⟩
 clear h hv hbl hk
 unfold opv
 unfold opc at HX ⊢
 go_enter Tryz.func73, Tryz.ntmps73
 go_upto_region 1 with fail
 generalize World.alloc _ _ = W0 at HX ⊢
 refine wp_region_noPanic ?_
 refine wp_region_held_drew (S := fun W => JRX w W B Bv g gm gp us s its P o A c) (by kernel_rfl) (HX.out.adv (zL _ _).drew) (fun hHeld => ?_)
 generalize W0.drew = W1 at hHeld ⊢
 have HX1 := zH hHeld
 refine Pl.go [0, 1, 2, 3, 4, 5, 6, 7] ?_
 iterate 8
  refine tkl (v := ?_) ?_ ?_
  rotate_left 1
  ·intro W hSw
   obtain ⟨z0, z1, z2, z3, z4, z5, z6, z7, z8⟩ := op9 hSw.box; obtain ⟨d0, d1, d2, d3, d4, d5, d6, d7, d8, d9, d10⟩ := hSw.rep.cells; have hlk := hSw.rep.lookI HK.out; rw [HPx.out] at hlk
   clear hSw
   go_simp
   try with_reducible rfl
  try dsimp only [zS, zB, zC]
 refine Pl.stop ?_
 refine wpAnyH_done (by kernel_rfl) ?_ _
 refine NoPanic.normal ?_
 clear hHeld HX
 obtain ⟨z0, z1, z2, z3, z4, z5, z6, z7, z8⟩ := op9 HX1.out.box
 go_wp2_with fail
 go_end0
 exact ⟨rfl, us, its, P, ⟨Int.le_refl _, by omega⟩, HS.out ▸ HX1.out.rep, KJ.of_below HX1.out.bel⟩
set_option maxRecDepth 100000 in
set_option maxHeartbeats 4000000 in
theorem eff_set (N B Bv g gm gp : Nat) (us : Int) (s : PJ) (its : List It) (P : List (Int × Int)) (o : OpV) (V : Value) (w : World) (h : JRep w B g gm gp us s its P) (hv : Bts w Bv 5 V o.val) (hk : o.key.size ≤ maxLen) (hi : PInv N s) (hn : N ≤ 90000) (hB : Bv ≤ B ∧ B ≤ w.heap.size)
  (hko : keyOK o.key = true) (hvl : o.val.length ≤ 65536) (hus : 0 ≤ us ∧ us ≤ 1000000000000) (hkd : o.kind = 1) :
  Calls Tryz.prog 73 #[.pointer (some ⟨g, 0, none⟩), opv o V, .int .i64 0] w (EffRetJ B g gm gp us (effC s o 0) w) := by
 have HS : Hid (setP s o neverT = effC s o 0) := zH (by
  unfold effC effD
  rw [if_pos rfl, if_neg (by omega)]
  have : effA s o = setP s o neverT := by unfold effA; rw [if_pos hkd]
  rw [this]
  unfold effB
  rw [if_neg (by omega), if_neg (by omega), if_neg (by omega), if_neg (by omega)])
 have q1 : (o.kind == 1) = true := by simp [hkd]
 have q11 : (o.kind == 11) = false := by rw [beq_eq_false_iff_ne]; omega
 have q12 : (o.kind == 12) = false := by rw [beq_eq_false_iff_ne]; omega
 have q13 : (o.kind == 13) = false := by rw [beq_eq_false_iff_ne]; omega
 have q14 : (o.kind == 14) = false := by rw [beq_eq_false_iff_ne]; omega
 have HI := zH hi
 have HN := zH hn
 have HBB := zH hB
 have HKo := zH hko
 have HVl := zH hvl
 have HU := zH hus
 clear hkd hi hn hB hko hvl hus
 obtain ⟨px, hpx⟩ : ∃ px, ((mget (its.map fun x => (x.e.key, x.b)) o.key).map fun b => (⟨b, 0, none⟩ : Addr)) = px := ⟨_, rfl⟩
 have HPx := zH hpx
 clear hpx
 obtain ⟨A, c, rfl⟩ := hv.form
 have HK := zH hk
 have hbl : Below w.heap.size w (w.alloc (.cells (opc o (.slice A o.val.length c)) 43)) := (zL _ _).alloc (zN _) _
 have HX : Hid (JRX w (w.alloc (.cells (opc o (.slice A o.val.length c)) 43)) B Bv g gm gp us s its P o A c) := zH ⟨h.below hbl, Blk.new _ _ _, hbl, hv.below hbl⟩
 clear h hv hbl hk
 unfold opv
 unfold opc at HX ⊢
 go_enter Tryz.func73, Tryz.ntmps73
 go_upto_region 1 with fail
 generalize World.alloc _ _ = W0 at HX ⊢
 refine wp_region_noPanic ?_
 refine wp_region_held_drew (S := fun W => JRX w W B Bv g gm gp us s its P o A c) (by kernel_rfl) (HX.out.adv (zL _ _).drew) (fun hHeld => ?_)
 generalize W0.drew = W1 at hHeld ⊢
 have HX1 := zH hHeld
 refine Pl.go [0, 1, 2, 3, 4, 5, 6, 7] ?_
 iterate 8
  refine tkl (v := ?_) ?_ ?_
  rotate_left 1
  ·intro W hSw
   obtain ⟨z0, z1, z2, z3, z4, z5, z6, z7, z8⟩ := op9 hSw.box; obtain ⟨d0, d1, d2, d3, d4, d5, d6, d7, d8, d9, d10⟩ := hSw.rep.cells; have hlk := hSw.rep.lookI HK.out; rw [HPx.out] at hlk
   clear hSw
   go_simp
   try with_reducible rfl
  try dsimp only [zS, zB, zC]
 refine Pl.stop ?_
 refine wpAnyH_done (by kernel_rfl) ?_ _
 refine NoPanic.normal ?_
 clear hHeld HX
 obtain ⟨z0, z1, z2, z3, z4, z5, z6, z7, z8⟩ := op9 HX1.out.box
 have HSt := zH (set_any N B Bv g gm gp us s its P o (.slice A o.val.length c) neverT W1 HX1.out.rep HX1.out.val HI.out HN.out ⟨HBB.out.1, Nat.le_trans HBB.out.2 HX1.out.bel.size⟩ HKo.out HVl.out HU.out (by unfold neverT; omega))
 unfold opv opc neverT at HSt
 go_wp2_with fail
 refine HSt.out.mono ?_
 rintro e w2 ⟨its2, rfl, hj2, ho2⟩
 have HJ2 := zH hj2
 have HO2 := zH ho2
 have hbx2 := HX1.out.box.only ho2 (KJ.not_ HX1.out.box (by decide) (by decide))
 clear hj2 ho2 z0 z1 z2 z3 z4 z5 z6 z7 z8
 obtain ⟨z0, z1, z2, z3, z4, z5, z6, z7, z8⟩ := op9 hbx2
 clear hbx2
 go_wp2_with fail
 go_end0
 exact ⟨rfl, us + 1, its2, P, ⟨by omega, by omega⟩, HS.out ▸ HJ2.out, KJ.trans (KJ.of_below HX1.out.bel) HO2.out⟩
end Go.Proofs.YtnabbimompapfaaGreat
namespace Go.Proofs.YtnabbimompapfaaGreat
open Go Go.RowKit Go.MapKept Go.Maps
structure EfS (w W : World) (g : Nat) (now : Int) (o : OpV) (A : Option Addr) (c : Nat) : Prop where
 box : Blk W w.heap.size 43 (opc o (.slice A o.val.length c))
 now : W.cell? ⟨g, 5, none⟩ = some (.int .u64 now)
theorem EfS.of {w W : World} {B Bv g gm gp : Nat} {us : Int} {s : PJ} {its : List It} {P : List (Int × Int)} {o : OpV} {A : Option Addr} {c : Nat} (h : JRX w W B Bv g gm gp us s its P o A c) : EfS w W g s.now o A c :=
 ⟨h.box, by obtain ⟨-, -, -, -, -, c5, -⟩ := h.rep.cells; exact c5⟩
set_option maxRecDepth 100000 in
set_option maxHeartbeats 4000000 in
theorem eff_setttl (N B Bv g gm gp : Nat) (us : Int) (s : PJ) (its : List It) (P : List (Int × Int)) (o : OpV) (V : Value) (w : World) (h : JRep w B g gm gp us s its P) (hv : Bts w Bv 5 V o.val) (hk : o.key.size ≤ maxLen) (hi : PInv N s) (hn : N ≤ 90000) (hB : Bv ≤ B ∧ B ≤ w.heap.size)
  (hko : keyOK o.key = true) (hvl : o.val.length ≤ 65536) (hus : 0 ≤ us ∧ us ≤ 1000000000000) (htt : 0 ≤ o.ttl) (hkd : o.kind = 2) :
  Calls Tryz.prog 73 #[.pointer (some ⟨g, 0, none⟩), opv o V, .int .i64 0] w (EffRetJ B g gm gp us (effC s o 0) w) := by
 have HS : Hid (setP s o (addP s.now o.ttl) = effC s o 0) := zH (by
  unfold effC effD
  rw [if_pos rfl, if_neg (by omega)]
  have : effA s o = setP s o (addP s.now o.ttl) := by unfold effA; rw [if_neg (by omega), if_pos hkd]
  rw [this]
  unfold effB
  rw [if_neg (by omega), if_neg (by omega), if_neg (by omega), if_neg (by omega)])
 have q1 : (o.kind == 1) = false := by simp [hkd]
 have q2 : (o.kind == 2) = true := by simp [hkd]
 have q11 : (o.kind == 11) = false := by rw [beq_eq_false_iff_ne]; omega
 have q12 : (o.kind == 12) = false := by rw [beq_eq_false_iff_ne]; omega
 have q13 : (o.kind == 13) = false := by rw [beq_eq_false_iff_ne]; omega
 have q14 : (o.kind == 14) = false := by rw [beq_eq_false_iff_ne]; omega
 have HI := zH hi
 have HN := zH hn
 have HBB := zH hB
 have HKo := zH hko
 have HVl := zH hvl
 have HU := zH hus
 have HTt := zH htt
 have HNw : Hid (s.now = s.now ∧ (setP s o (addP s.now o.ttl)).now = s.now) := zH ⟨rfl, setP_now _ _ _⟩
 clear hkd hi hn hB hko hvl hus htt
 obtain ⟨px, hpx⟩ : ∃ px, ((mget (its.map fun x => (x.e.key, x.b)) o.key).map fun b => (⟨b, 0, none⟩ : Addr)) = px := ⟨_, rfl⟩
 have HPx := zH hpx
 clear hpx
 obtain ⟨A, c, rfl⟩ := hv.form
 have HK := zH hk
 have hbl : Below w.heap.size w (w.alloc (.cells (opc o (.slice A o.val.length c)) 43)) := (zL _ _).alloc (zN _) _
 have HX : Hid (JRX w (w.alloc (.cells (opc o (.slice A o.val.length c)) 43)) B Bv g gm gp us s its P o A c) := zH ⟨h.below hbl, Blk.new _ _ _, hbl, hv.below hbl⟩
 clear h hv hbl hk
 unfold opv
 unfold opc at HX ⊢
 go_enter Tryz.func73, Tryz.ntmps73
 go_upto_region 1 with fail
 generalize World.alloc _ _ = W0 at HX ⊢
 refine wp_region_noPanic ?_
 refine wp_region_held_drew (S := fun W => JRX w W B Bv g gm gp us s its P o A c) (by kernel_rfl) (HX.out.adv (zL _ _).drew) (fun hHeld => ?_)
 generalize W0.drew = W1 at hHeld ⊢
 have HX1 := zH hHeld
 refine Pl.go [0, 1, 2, 3, 4, 5, 6, 7] ?_
 iterate 8
  refine tkl (v := ?_) ?_ ?_
  rotate_left 1
  ·intro W hSw
   obtain ⟨z0, z1, z2, z3, z4, z5, z6, z7, z8⟩ := op9 hSw.box; obtain ⟨d0, d1, d2, d3, d4, d5, d6, d7, d8, d9, d10⟩ := hSw.rep.cells; have hlk := hSw.rep.lookI HK.out; rw [HPx.out] at hlk
   clear hSw
   go_simp
   try with_reducible rfl
  try dsimp only [zS, zB, zC]
 refine Pl.stop ?_
 refine wpAnyH_done (by kernel_rfl) ?_ _
 refine NoPanic.normal ?_
 clear hHeld HX
 obtain ⟨z0, z1, z2, z3, z4, z5, z6, z7, z8⟩ := op9 HX1.out.box
 go_upto_region 6 with fail
 clear z0 z1 z2 z3 z4 z5 z6 z7 z8
 refine wp_region_noPanic ?_
 refine wp_region_held_drew (S := fun W => EfS w W g s.now o A c) (by kernel_rfl) (EfS.of (HX1.out.adv (zL _ _).drew)) (fun hHeld => ?_)
 have HX2 := zH (HX1.out.adv (zL W1.heap.size W1).drew)
 generalize W1.drew = W2 at HX2 hHeld ⊢
 refine Pl.go [0, 1, 2, 3, 4, 5, 6, 7] ?_
 iterate 8
  refine tkl (v := ?_) ?_ ?_
  rotate_left 1
  ·intro W hSw
   obtain ⟨z0, z1, z2, z3, z4, z5, z6, z7, z8⟩ := op9 hSw.box; have d5 := hSw.now
   clear hSw
   go_simp
   try with_reducible rfl
  try dsimp only [zS, zB, zC]
 refine Pl.stop ?_
 refine wpAnyH_ready (rs := [8]) (by kernel_rfl) (by simp) ?_
 refine AllReadyH.cons (o := ⟨_, _, _, _, _, _⟩) rfl (fun F hF => ?_) AllReadyH.nil
 go_simp
 refine (tickAdd_any s.now o.ttl _ HI.out.now.1 HI.out.now.2 HTt.out).mono ?_
 rintro e w' ⟨rfl, hww⟩
 subst hww
 go_wp2_with fail
 refine hF.out _ _ (EfS.of HX2.out) (fun hHeld => ?_)
 clear hF F
 try simp only [Act.put, zA, zB, zC]
 have HSt := zH (set_any N B Bv g gm gp us s its P o (.slice A o.val.length c) (addP s.now o.ttl) W2 HX2.out.rep HX2.out.val HI.out HN.out ⟨HBB.out.1, Nat.le_trans HBB.out.2 HX2.out.bel.size⟩ HKo.out HVl.out HU.out (addP_range HI.out.now.1 HTt.out))
 unfold opv opc at HSt
 refine wpAnyH_ready (rs := [9]) (by kernel_rfl) (by simp) ?_
 refine AllReadyH.cons (o := ⟨_, _, _, _, _, _⟩) rfl (fun F hF => ?_) AllReadyH.nil
 go_simp
 refine HSt.out.mono ?_
 rintro e w2 ⟨its2, rfl, hj2, ho2⟩
 have HJ2 := zH hj2
 have HO2 := zH ho2
 have hbx2 := HX2.out.box.only ho2 (KJ.not_ HX2.out.box (by decide) (by decide))
 have HE2 : Hid (EfS w w2 g s.now o A c) := zH ⟨hbx2, by
  obtain ⟨-, -, -, -, -, c5, -⟩ := hj2.cells
  rw [HNw.out.2] at c5; exact c5⟩
 clear hj2 ho2
 go_wp2_with fail
 refine hF.out _ _ HE2.out (fun hHeld => ?_)
 clear hF F
 try simp only [Act.put, zA, zB, zC]
 refine wpAnyH_done (by kernel_rfl) ?_ _
 refine NoPanic.normal ?_
 clear hHeld
 obtain ⟨z0, z1, z2, z3, z4, z5, z6, z7, z8⟩ := op9 HE2.out.box
 go_wp2_with fail
 go_end0
 exact ⟨rfl, us + 1, its2, P, ⟨by omega, by omega⟩, HS.out ▸ HJ2.out, KJ.trans (KJ.of_below HX2.out.bel) HO2.out⟩
set_option maxRecDepth 100000 in
set_option maxHeartbeats 4000000 in
theorem eff_miss (B Bv g gm gp : Nat) (us : Int) (s : PJ) (its : List It) (P : List (Int × Int)) (o : OpV) (V : Value) (w : World) (h : JRep w B g gm gp us s its P) (hv : Bts w Bv 5 V o.val) (hk : o.key.size ≤ maxLen)
  (hkd : o.kind = 3 ∨ o.kind = 5) (hf : findP s.L o.key = none) (hm : mget (its.map fun x => (x.e.key, x.b)) o.key = none) :
  Calls Tryz.prog 73 #[.pointer (some ⟨g, 0, none⟩), opv o V, .int .i64 0] w (EffRetJ B g gm gp us (effC s o 0) w) := by
 have HS : Hid (s = effC s o 0) := zH (by
  unfold effC effD
  rw [if_pos rfl, if_neg (by omega)]
  have : effA s o = s := by
   unfold effA
   rw [if_neg (by omega), if_neg (by omega), if_neg (by omega), if_neg (by omega), hf]
  rw [this]
  unfold effB
  rw [if_neg (by omega), if_neg (by omega), if_neg (by omega), if_neg (by omega)])
 have q1 : (o.kind == 1) = false := by rw [beq_eq_false_iff_ne]; omega
 have q2 : (o.kind == 2) = false := by rw [beq_eq_false_iff_ne]; omega
 have q8 : (o.kind == 8) = false := by rw [beq_eq_false_iff_ne]; omega
 have q11 : (o.kind == 11) = false := by rw [beq_eq_false_iff_ne]; omega
 have q12 : (o.kind == 12) = false := by rw [beq_eq_false_iff_ne]; omega
 have q13 : (o.kind == 13) = false := by rw [beq_eq_false_iff_ne]; omega
 have q14 : (o.kind == 14) = false := by rw [beq_eq_false_iff_ne]; omega
 have HPx : Hid (((mget (its.map fun x => (x.e.key, x.b)) o.key).map fun b => (⟨b, 0, none⟩ : Addr)) = none) := zH (by rw [hm]; rfl)
 rcases hkd with hk3 | hk5
 ·have q3 : (o.kind == 3) = true := by simp [hk3]
  have q5 : (o.kind == 5) = false := by simp [hk3]
  clear hk3 hf hm
  obtain ⟨A, c, rfl⟩ := hv.form
  have HK := zH hk
  have hbl : Below w.heap.size w (w.alloc (.cells (opc o (.slice A o.val.length c)) 43)) := (zL _ _).alloc (zN _) _
  have HX : Hid (JRX w (w.alloc (.cells (opc o (.slice A o.val.length c)) 43)) B Bv g gm gp us s its P o A c) := zH ⟨h.below hbl, Blk.new _ _ _, hbl, hv.below hbl⟩
  clear h hv hbl hk
  unfold opv
  unfold opc at HX ⊢
  go_enter Tryz.func73, Tryz.ntmps73
  go_upto_region 1 with fail
  generalize World.alloc _ _ = W0 at HX ⊢
  refine wp_region_noPanic ?_
  refine wp_region_held_drew (S := fun W => JRX w W B Bv g gm gp us s its P o A c) (by kernel_rfl) (HX.out.adv (zL _ _).drew) (fun hHeld => ?_)
  generalize W0.drew = W1 at hHeld ⊢
  have HX1 := zH hHeld
  refine Pl.go [0, 1, 2, 3, 4, 5, 6, 7] ?_
  iterate 8
   refine tkl (v := ?_) ?_ ?_
   rotate_left 1
   ·intro W hSw
    obtain ⟨z0, z1, z2, z3, z4, z5, z6, z7, z8⟩ := op9 hSw.box; obtain ⟨d0, d1, d2, d3, d4, d5, d6, d7, d8, d9, d10⟩ := hSw.rep.cells; have hlk := hSw.rep.lookI HK.out; rw [HPx.out] at hlk
    clear hSw
    go_simp
    try with_reducible rfl
   try dsimp only [zS, zB, zC]
  refine Pl.stop ?_
  refine wpAnyH_done (by kernel_rfl) ?_ _
  refine NoPanic.normal ?_
  clear hHeld HX
  obtain ⟨z0, z1, z2, z3, z4, z5, z6, z7, z8⟩ := op9 HX1.out.box
  go_wp2_with fail
  go_end0
  exact ⟨rfl, us, its, P, ⟨Int.le_refl _, by omega⟩, HS.out ▸ HX1.out.rep, KJ.of_below HX1.out.bel⟩
 ·have q3 : (o.kind == 3) = false := by simp [hk5]
  have q5 : (o.kind == 5) = true := by simp [hk5]
  clear hk5 hf hm
  obtain ⟨A, c, rfl⟩ := hv.form
  have HK := zH hk
  have hbl : Below w.heap.size w (w.alloc (.cells (opc o (.slice A o.val.length c)) 43)) := (zL _ _).alloc (zN _) _
  have HX : Hid (JRX w (w.alloc (.cells (opc o (.slice A o.val.length c)) 43)) B Bv g gm gp us s its P o A c) := zH ⟨h.below hbl, Blk.new _ _ _, hbl, hv.below hbl⟩
  clear h hv hbl hk
  unfold opv
  unfold opc at HX ⊢
  go_enter Tryz.func73, Tryz.ntmps73
  go_upto_region 1 with fail
  generalize World.alloc _ _ = W0 at HX ⊢
  refine wp_region_noPanic ?_
  refine wp_region_held_drew (S := fun W => JRX w W B Bv g gm gp us s its P o A c) (by kernel_rfl) (HX.out.adv (zL _ _).drew) (fun hHeld => ?_)
  generalize W0.drew = W1 at hHeld ⊢
  have HX1 := zH hHeld
  refine Pl.go [0, 1, 2, 3, 4, 5, 6, 7] ?_
  iterate 8
   refine tkl (v := ?_) ?_ ?_
   rotate_left 1
   ·intro W hSw
    obtain ⟨z0, z1, z2, z3, z4, z5, z6, z7, z8⟩ := op9 hSw.box; obtain ⟨d0, d1, d2, d3, d4, d5, d6, d7, d8, d9, d10⟩ := hSw.rep.cells; have hlk := hSw.rep.lookI HK.out; rw [HPx.out] at hlk
    clear hSw
    go_simp
    try with_reducible rfl
   try dsimp only [zS, zB, zC]
  refine Pl.stop ?_
  refine wpAnyH_done (by kernel_rfl) ?_ _
  refine NoPanic.normal ?_
  clear hHeld HX
  obtain ⟨z0, z1, z2, z3, z4, z5, z6, z7, z8⟩ := op9 HX1.out.box
  go_wp2_with fail
  go_end0
  exact ⟨rfl, us, its, P, ⟨Int.le_refl _, by omega⟩, HS.out ▸ HX1.out.rep, KJ.of_below HX1.out.bel⟩
set_option maxRecDepth 100000 in
set_option maxHeartbeats 4000000 in
theorem eff_get (B Bv g gm gp : Nat) (us : Int) (s : PJ) (its : List It) (P : List (Int × Int)) (o : OpV) (V : Value) (x : It) (w : World) (h : JRep w B g gm gp us s its P) (hv : Bts w Bv 5 V o.val) (hk : o.key.size ≤ maxLen)
  (hasc : (s.L.map EntV.birth).Pairwise (· < ·)) (hus : 0 ≤ us ∧ us ≤ 1000000000000) (hkd : o.kind = 3) (hx : x ∈ its) (hf : findP s.L o.key = some x.e) (hm : mget (its.map fun x => (x.e.key, x.b)) o.key = some x.b) :
  Calls Tryz.prog 73 #[.pointer (some ⟨g, 0, none⟩), opv o V, .int .i64 0] w (EffRetJ B g gm gp us (effC s o 0) w) := by
 have HS : Hid (useP s x.e.birth = effC s o 0) := zH (by
  unfold effC effD
  rw [if_pos rfl, if_neg (by omega)]
  have : effA s o = useP s x.e.birth := by
   unfold effA
   rw [if_neg (by omega), if_neg (by omega), if_neg (by omega), if_neg (by omega), hf]
   dsimp only
   rw [if_pos hkd]
  rw [this]
  unfold effB
  rw [if_neg (by omega), if_neg (by omega), if_neg (by omega), if_neg (by omega)])
 have HPx : Hid (((mget (its.map fun x => (x.e.key, x.b)) o.key).map fun b => (⟨b, 0, none⟩ : Addr)) = some ⟨x.b, 0, none⟩) := zH (by rw [hm]; rfl)
 have q1 : (o.kind == 1) = false := by rw [beq_eq_false_iff_ne]; omega
 have q2 : (o.kind == 2) = false := by rw [beq_eq_false_iff_ne]; omega
 have q8 : (o.kind == 8) = false := by rw [beq_eq_false_iff_ne]; omega
 have q11 : (o.kind == 11) = false := by rw [beq_eq_false_iff_ne]; omega
 have q12 : (o.kind == 12) = false := by rw [beq_eq_false_iff_ne]; omega
 have q13 : (o.kind == 13) = false := by rw [beq_eq_false_iff_ne]; omega
 have q14 : (o.kind == 14) = false := by rw [beq_eq_false_iff_ne]; omega
 have HXm := zH hx
 have HA := zH hasc
 have HU := zH hus
 have q3 : (o.kind == 3) = true := by simp [hkd]
 have q5 : (o.kind == 5) = false := by simp [hkd]
 clear hkd hf hm hx hasc hus
 obtain ⟨A, c, rfl⟩ := hv.form
 have HK := zH hk
 have hbl : Below w.heap.size w (w.alloc (.cells (opc o (.slice A o.val.length c)) 43)) := (zL _ _).alloc (zN _) _
 have HX : Hid (JRX w (w.alloc (.cells (opc o (.slice A o.val.length c)) 43)) B Bv g gm gp us s its P o A c) := zH ⟨h.below hbl, Blk.new _ _ _, hbl, hv.below hbl⟩
 clear h hv hbl hk
 unfold opv
 unfold opc at HX ⊢
 go_enter Tryz.func73, Tryz.ntmps73
 go_upto_region 1 with fail
 generalize World.alloc _ _ = W0 at HX ⊢
 refine wp_region_noPanic ?_
 refine wp_region_held_drew (S := fun W => JRX w W B Bv g gm gp us s its P o A c) (by kernel_rfl) (HX.out.adv (zL _ _).drew) (fun hHeld => ?_)
 generalize W0.drew = W1 at hHeld ⊢
 have HX1 := zH hHeld
 refine Pl.go [0, 1, 2, 3, 4, 5, 6, 7] ?_
 iterate 8
  refine tkl (v := ?_) ?_ ?_
  rotate_left 1
  ·intro W hSw
   obtain ⟨z0, z1, z2, z3, z4, z5, z6, z7, z8⟩ := op9 hSw.box; obtain ⟨d0, d1, d2, d3, d4, d5, d6, d7, d8, d9, d10⟩ := hSw.rep.cells; have hlk := hSw.rep.lookI HK.out; rw [HPx.out] at hlk
   clear hSw
   go_simp
   try with_reducible rfl
  try dsimp only [zS, zB, zC]
 refine Pl.stop ?_
 refine wpAnyH_done (by kernel_rfl) ?_ _
 refine NoPanic.normal ?_
 clear hHeld HX
 obtain ⟨z0, z1, z2, z3, z4, z5, z6, z7, z8⟩ := op9 HX1.out.box
 have HUs := zH (use_any B g gm gp us s its P x W1 HX1.out.rep HXm.out HA.out HU.out)
 go_wp2_with fail
 refine HUs.out.mono ?_
 rintro e w2 ⟨rfl, hj2, ho2⟩
 have HJ2 := zH hj2
 have HO2 := zH ho2
 have HBx2 := zH (HX1.out.box.only ho2 (KJ.not_ HX1.out.box (by decide) (by decide)))
 clear hj2 ho2 z0 z1 z2 z3 z4 z5 z6 z7 z8 HUs
 obtain ⟨z0, z1, z2, z3, z4, z5, z6, z7, z8⟩ := op9 HBx2.out
 go_wp2_with fail
 go_end0
 exact ⟨rfl, us + 1, useI its x.b (us + 1), P, ⟨by omega, by omega⟩, HS.out ▸ HJ2.out, KJ.trans (KJ.of_below HX1.out.bel) HO2.out⟩
set_option maxRecDepth 100000 in
set_option maxHeartbeats 4000000 in
theorem eff_touch (N B Bv g gm gp : Nat) (us : Int) (s : PJ) (its : List It) (P : List (Int × Int)) (o : OpV) (V : Value) (x : It) (w : World) (h : JRep w B g gm gp us s its P) (hv : Bts w Bv 5 V o.val) (hk : o.key.size ≤ maxLen)
  (hi : PInv N s) (hus : 0 ≤ us ∧ us ≤ 1000000000000) (htt : 0 ≤ o.ttl) (hkd : o.kind = 5) (hx : x ∈ its) (hf : findP s.L o.key = some x.e) (hm : mget (its.map fun x => (x.e.key, x.b)) o.key = some x.b) :
  Calls Tryz.prog 73 #[.pointer (some ⟨g, 0, none⟩), opv o V, .int .i64 0] w (EffRetJ B g gm gp us (effC s o 0) w) := by
 have hasc := hi.asc
 have HS : Hid ({ useP s x.e.birth with L := altL s.L x.e.birth { x.e with dl := addP s.now o.ttl } } = effC s o 0) := zH (by
  unfold effC effD
  rw [if_pos rfl, if_neg (by omega)]
  have : effA s o = { useP s x.e.birth with L := altL s.L x.e.birth { x.e with dl := addP s.now o.ttl } } := by
   unfold effA
   rw [if_neg (by omega), if_neg (by omega), if_neg (by omega), if_neg (by omega), hf]
   dsimp only
   rw [if_neg (by omega), if_pos hkd]
   unfold useP altL
   dsimp only
   congr 1
   refine List.map_congr_left (fun y hy => ?_)
   split
   ·rename_i e
    rw [pair_inj hasc y hy x.e (findP_some hf).1 e]
   ·rfl
  rw [this]
  unfold effB
  rw [if_neg (by omega), if_neg (by omega), if_neg (by omega), if_neg (by omega)])
 have HPx : Hid (((mget (its.map fun x => (x.e.key, x.b)) o.key).map fun b => (⟨b, 0, none⟩ : Addr)) = some ⟨x.b, 0, none⟩) := zH (by rw [hm]; rfl)
 have q1 : (o.kind == 1) = false := by rw [beq_eq_false_iff_ne]; omega
 have q2 : (o.kind == 2) = false := by rw [beq_eq_false_iff_ne]; omega
 have q8 : (o.kind == 8) = false := by rw [beq_eq_false_iff_ne]; omega
 have q11 : (o.kind == 11) = false := by rw [beq_eq_false_iff_ne]; omega
 have q12 : (o.kind == 12) = false := by rw [beq_eq_false_iff_ne]; omega
 have q13 : (o.kind == 13) = false := by rw [beq_eq_false_iff_ne]; omega
 have q14 : (o.kind == 14) = false := by rw [beq_eq_false_iff_ne]; omega
 have HXm := zH hx
 have HA := zH hasc
 have HU := zH hus
 have HI := zH hi
 have HTt := zH htt
 have q3 : (o.kind == 3) = false := by simp [hkd]
 have q5 : (o.kind == 5) = true := by simp [hkd]
 clear hkd hf hm hx hasc hus hi htt
 obtain ⟨A, c, rfl⟩ := hv.form
 have HK := zH hk
 have hbl : Below w.heap.size w (w.alloc (.cells (opc o (.slice A o.val.length c)) 43)) := (zL _ _).alloc (zN _) _
 have HX : Hid (JRX w (w.alloc (.cells (opc o (.slice A o.val.length c)) 43)) B Bv g gm gp us s its P o A c) := zH ⟨h.below hbl, Blk.new _ _ _, hbl, hv.below hbl⟩
 clear h hv hbl hk
 unfold opv
 unfold opc at HX ⊢
 go_enter Tryz.func73, Tryz.ntmps73
 go_upto_region 1 with fail
 generalize World.alloc _ _ = W0 at HX ⊢
 refine wp_region_noPanic ?_
 refine wp_region_held_drew (S := fun W => JRX w W B Bv g gm gp us s its P o A c) (by kernel_rfl) (HX.out.adv (zL _ _).drew) (fun hHeld => ?_)
 generalize W0.drew = W1 at hHeld ⊢
 have HX1 := zH hHeld
 refine Pl.go [0, 1, 2, 3, 4, 5, 6, 7] ?_
 iterate 8
  refine tkl (v := ?_) ?_ ?_
  rotate_left 1
  ·intro W hSw
   obtain ⟨z0, z1, z2, z3, z4, z5, z6, z7, z8⟩ := op9 hSw.box; obtain ⟨d0, d1, d2, d3, d4, d5, d6, d7, d8, d9, d10⟩ := hSw.rep.cells; have hlk := hSw.rep.lookI HK.out; rw [HPx.out] at hlk
   clear hSw
   go_simp
   try with_reducible rfl
  try dsimp only [zS, zB, zC]
 refine Pl.stop ?_
 refine wpAnyH_done (by kernel_rfl) ?_ _
 refine NoPanic.normal ?_
 clear hHeld HX
 obtain ⟨z0, z1, z2, z3, z4, z5, z6, z7, z8⟩ := op9 HX1.out.box
 have HUs := zH (use_any B g gm gp us s its P x W1 HX1.out.rep HXm.out HA.out HU.out)
 go_wp2_with fail
 refine HUs.out.mono ?_
 rintro e w2 ⟨rfl, hj2, ho2⟩
 have HJ2 := zH hj2
 have HO2 := zH ho2
 have HBx2 := zH (HX1.out.box.only ho2 (KJ.not_ HX1.out.box (by decide) (by decide)))
 clear hj2 ho2 z0 z1 z2 z3 z4 z5 z6 z7 z8 HUs
 obtain ⟨z0, z1, z2, z3, z4, z5, z6, z7, z8⟩ := op9 HBx2.out
 go_upto_region 12 with fail
 clear z0 z1 z2 z3 z4 z5 z6 z7 z8
 have HX3 := zH (HJ2.out.below (zL w2.heap.size w2).drew)
 have HE3 : Hid (EfS w w2.drew g s.now o A c) := zH ⟨HBx2.out.drew, by
  obtain ⟨-, -, -, -, -, c5, -⟩ := HX3.out.cells
  exact c5⟩
 have HO3 := zH (KJ.trans (KJ.of_below HX1.out.bel) HO2.out.drew)
 refine wp_region_noPanic ?_
 refine wp_region_held_drew (S := fun W => EfS w W g s.now o A c) (by kernel_rfl) HE3.out (fun hHeld => ?_)
 clear HJ2 HO2 HBx2
 generalize w2.drew = w3 at HX3 HE3 HO3 hHeld ⊢
 refine Pl.go [0, 1, 2, 3, 4, 5, 6] ?_
 iterate 7
  refine tkl (v := ?_) ?_ ?_
  rotate_left 1
  ·intro W hSw
   obtain ⟨z0, z1, z2, z3, z4, z5, z6, z7, z8⟩ := op9 hSw.box; have d5 := hSw.now
   clear hSw
   go_simp
   try with_reducible rfl
  try dsimp only [zS, zB, zC]
 refine Pl.stop ?_
 refine wpAnyH_ready (rs := [7]) (by kernel_rfl) (by simp) ?_
 refine AllReadyH.cons (o := ⟨_, _, _, _, _, _⟩) rfl (fun F hF => ?_) AllReadyH.nil
 go_simp
 refine (tickAdd_any s.now o.ttl _ HI.out.now.1 HI.out.now.2 HTt.out).mono ?_
 rintro e w' ⟨rfl, hww⟩
 subst hww
 go_wp2_with fail
 refine hF.out _ _ HE3.out (fun hHeld => ?_)
 clear hF F
 try simp only [Act.put, zA, zB, zC]
 refine Pl.go [8, 9, 10] ?_
 iterate 3
  refine tkl (v := ?_) ?_ ?_
  rotate_left 1
  ·intro W hSw
   obtain ⟨z0, z1, z2, z3, z4, z5, z6, z7, z8⟩ := op9 hSw.box; have d5 := hSw.now
   clear hSw
   go_simp
   try with_reducible rfl
  try dsimp only [zS, zB, zC]
 refine Pl.stop ?_
 have hxu : (⟨x.e, x.v, x.b, us + 1⟩ : It) ∈ useI its x.b (us + 1) := List.mem_map.2 ⟨x, HXm.out, by rw [if_pos rfl]⟩
 have hib := HX3.out.ib _ hxu
 have x2 := hib.cells.2.2.1
 have xf := hib.blk.frozen 2
 dsimp only at hib x2 xf
 have ho4 := Only.set1 w3 x.b 2 (.int .u64 (addP s.now o.ttl))
 have hne := HX3.out.ne_g hxu
 dsimp only at hne
 have hi4 : ItAt (w3.setCell ⟨x.b, 2, none⟩ (.int .u64 (addP s.now o.ttl))) x.b { x.e with dl := addP s.now o.ttl } x.v (us + 1) (costE x.e) := ⟨hib.blk.set_ 2 _⟩
 have hg4 := HX3.out.blk.only ho4 (fun e => hne e.symm)
 obtain ⟨hj4, hoo4⟩ := HX3.out.reset HI.out.asc hxu (e' := { x.e with dl := addP s.now o.ttl }) (v' := x.v) (W := w3.setCell ⟨x.b, 2, none⟩ (.int .u64 (addP s.now o.ttl))) rfl rfl (by
  have hc : costP (useP s x.e.birth).L - costE x.e + costE { x.e with dl := addP s.now o.ttl } = costP (useP s x.e.birth).L := by
   have : costE { x.e with dl := addP s.now o.ttl } = costE x.e := rfl
   rw [this]; omega
  rw [hc]
  exact hg4) hi4 ((HX3.out.vals _ hxu).keep (KeepB.of_blk (U := 5) hib.blk (by decide) (HX3.out.base.2.2.2 (⟨x.e, x.v, x.b, us + 1⟩ : It) hxu) ho4)) ((HX3.out.apart.2 (⟨x.e, x.v, x.b, us + 1⟩ : It) hxu).keep (KeepB.of_blk (U := 5) hib.blk (by decide) (HX3.out.base.2.2.2 (⟨x.e, x.v, x.b, us + 1⟩ : It) hxu) ho4)) (ho4.mono (fun i _ e => .inr e))
 have HJ4 := zH hj4
 have HOO4 := zH hoo4
 have HE4 : Hid (EfS w (w3.setCell ⟨x.b, 2, none⟩ (.int .u64 (addP s.now o.ttl))) g s.now o A c) := zH ⟨HE3.out.box.only ho4 (HE3.out.box.ne_ hib.blk (by decide)), by
  obtain ⟨-, -, -, -, -, c5, -⟩ := hj4.cells
  exact c5⟩
 clear hib ho4 hi4 hg4 hj4 hoo4 hxu hne
 refine wpAnyH_ready (rs := [11]) (by kernel_rfl) (by simp) ?_
 refine AllReadyH.cons (o := ⟨_, _, _, _, _, _⟩) rfl (fun F hF => ?_) AllReadyH.nil
 go_simp
 refine hF.out _ _ HE4.out (fun hHeld => ?_)
 clear hF F x2 xf
 try simp only [Act.put, zA, zB, zC]
 refine wpAnyH_done (by kernel_rfl) ?_ _
 refine NoPanic.normal ?_
 clear hHeld
 generalize w3.setCell ⟨x.b, 2, none⟩ (.int .u64 (addP s.now o.ttl)) = w4 at HJ4 HOO4 HE4 ⊢
 obtain ⟨z0, z1, z2, z3, z4, z5, z6, z7, z8⟩ := op9 HE4.out.box
 go_wp2_with fail
 go_end0
 exact ⟨rfl, us + 1, _, P, ⟨by omega, by omega⟩, HS.out ▸ HJ4.out, KJ.trans HO3.out HOO4.out⟩
end Go.Proofs.YtnabbimompapfaaGreat
namespace Go.Proofs.YtnabbimompapfaaGreat
open Go Go.RowKit Go.MapKept Go.Maps
theorem mget_snoc {α β : Type} [DecidableEq α] (L : List (α × β)) (k : α) (v : β) (h : mget L k = none) (c : α) : mget (L ++ [(k, v)]) c = if c = k then some v else mget L c := by
 unfold mget at *
 rw [List.find?_append]
 by_cases e : c = k
 ·subst e
  rw [if_pos rfl]
  cases hf : L.find? fun x => decide (x.1 = c) with
  |none => simp
  |some y => rw [hf] at h; cases h
 ·rw [if_neg e]
  cases hf : L.find? fun x => decide (x.1 = c) with
  |none => simp [Ne.symm e]
  |some y => rfl
theorem mget_map {α β : Type} [DecidableEq α] : ∀ (L : List (α × β)) (k : α) (v : β), (mget L k).isSome = true → ∀ c, mget (L.map fun x => if x.1 = k then (k, v) else x) c = if c = k then some v else mget L c
 |[], k, v, h, c => by cases h
 |x :: L, k, v, h, c => by
  unfold mget at *
  rw [List.map_cons]
  by_cases ex : x.1 = k
  ·rw [if_pos ex]
   by_cases e : c = k
   ·subst e; simp
   ·have e2 : ¬ k = c := fun e3 => e e3.symm
    have e3 : ¬ x.1 = c := fun e3 => e (e3.symm.trans ex)
    rw [List.find?_cons_of_neg (by simpa using e2), List.find?_cons_of_neg (by simpa using e3), if_neg e]
    by_cases hs : ((L.find? fun x => decide (x.1 = k)).map Prod.snd).isSome = true
    ·have := mget_map L k v hs c
     unfold mget at this
     rw [this, if_neg e]
    ·have hl : ∀ y ∈ L, ¬ y.1 = k := by
      intro y hy e4
      cases hf : L.find? fun x => decide (x.1 = k) with
      |none => have := List.find?_eq_none.1 hf y hy; simp [e4] at this
      |some z => rw [hf] at hs; exact hs rfl
     have : (L.map fun x => if x.1 = k then (k, v) else x) = L := (List.map_congr_left (fun y hy => if_neg (hl y hy))).trans (List.map_id _)
     rw [this]
  ·rw [if_neg ex]
   have hs : ((L.find? fun x => decide (x.1 = k)).map Prod.snd).isSome = true := by
    rw [List.find?_cons_of_neg (by simpa using ex)] at h
    exact h
   by_cases e : x.1 = c
   ·rw [List.find?_cons_of_pos (by simpa using e), List.find?_cons_of_pos (by simpa using e), if_neg (fun e2 => ex (e.trans e2))]
   ·rw [List.find?_cons_of_neg (by simpa using e), List.find?_cons_of_neg (by simpa using e)]
    exact mget_map L k v hs c
theorem mget_del {α β : Type} [DecidableEq α] : ∀ (L : List (α × β)) (k c : α), mget (mdel L k) c = if c = k then none else mget L c
 |[], k, c => by unfold mdel mget; simp
 |x :: L, k, c => by
  have ih := mget_del L k c
  unfold mdel mget at *
  by_cases ex : x.1 = k
  ·rw [List.filter_cons_of_neg (by simpa using ex), ih]
   by_cases e : c = k
   ·rw [if_pos e, if_pos e]
   ·rw [if_neg e, if_neg e, List.find?_cons_of_neg (by simpa using fun e2 => e (e2.symm.trans ex))]
  ·rw [List.filter_cons_of_pos (by simpa using ex)]
   by_cases e : x.1 = c
   ·rw [List.find?_cons_of_pos (by simpa using e), List.find?_cons_of_pos (by simpa using e), if_neg (fun e2 => ex (e.trans e2))]
   ·rw [List.find?_cons_of_neg (by simpa using e), List.find?_cons_of_neg (by simpa using e)]
    exact ih
theorem openP_set (pl : List (Option Int)) (n : Nat) (v : Option Int) (hn : n < pl.length) (c : Int) : openP (pl.set n v) c = if c = (n : Int) then v else openP pl c := by
 unfold openP
 by_cases hc : c < 0
 ·rw [if_pos hc, if_pos hc, if_neg (by omega)]
 ·rw [if_neg hc, if_neg hc]
  by_cases e : c = (n : Int)
  ·subst e
   rw [if_pos rfl, Int.toNat_natCast, List.getD_eq_getElem?_getD, List.getElem?_set_self hn]
   rfl
  ·rw [if_neg e, List.getD_eq_getElem?_getD, List.getD_eq_getElem?_getD, List.getElem?_set_ne (by omega)]
theorem openP_range {pl : List (Option Int)} {c b : Int} (h : openP pl c = some b) : 0 ≤ c ∧ c.toNat < pl.length := by
 unfold openP at h
 split at h
 ·cases h
 ·refine ⟨by omega, ?_⟩
  rcases Nat.lt_or_ge c.toNat pl.length with hl | hl
  ·exact hl
  ·rw [List.getD_eq_getElem?_getD, List.getElem?_eq_none hl] at h
   cases h
theorem openP_free {pl : List (Option Int)} (hp : pl.length = 64) (h : freeP pl < 64) : openP pl (freeP pl : Int) = none := by
 unfold openP
 rw [if_neg (by omega), Int.toNat_natCast]
 unfold freeP at *
 cases hf : pl.findIdx? fun x => x.isNone with
 |none => rw [hf] at h; simp at h
 |some i =>
  rw [Option.getD_some]
  obtain ⟨hi, h2, _⟩ := List.findIdx?_eq_some_iff_getElem.1 hf
  rw [List.getD_eq_getElem?_getD, List.getElem?_eq_getElem hi]
  simpa using h2
theorem JRep.setPl {w w' : World} {B g gm gp : Nat} {us : Int} {s : PJ} {its : List It} {P P' : List (Int × Int)} {pl' : List (Option Int)} (h : JRep w B g gm gp us s its P) (hm : MRep KP w' gp P') (ho : Only (fun k => k = gp) w w') (hp : ∀ c, mget P' c = openP pl' c) :
  JRep w' B g gm gp us { s with pl := pl' } its P' ∧ Only (KJ B w) w w' := by
 have hoo := KJ.one h.kj_p ho
 exact ⟨⟨h.blk.only ho h.g_p, h.items.only ho (fun e => h.apart.1 e), fun x hx => (h.ib x hx).only ho (h.ne_p hx), fun x hx => (h.vals x hx).keep (KJ.keepB hoo (zN _)), h.nd, h.perm, h.ub, h.ord, hm, hp, h.base, ⟨h.apart.1, fun x hx => (h.apart.2 x hx).keep (KJ.keepB hoo (zN _))⟩⟩, hoo⟩
theorem JRep.setCfg {w : World} {B g gm gp : Nat} {us : Int} {s : PJ} {its : List It} {P : List (Int × Int)} (h : JRep w B g gm gp us s its P) (a b : Int) :
  JRep ((w.setCell ⟨g, 0, none⟩ (.int .i64 a)).setCell ⟨g, 1, none⟩ (.int .i64 b)) B g gm gp us { s with cfg := { s.cfg with count := a, bytes := b } } its P ∧ Only (KJ B w) w ((w.setCell ⟨g, 0, none⟩ (.int .i64 a)).setCell ⟨g, 1, none⟩ (.int .i64 b)) := by
 have ho : Only (fun k => k = g) w ((w.setCell ⟨g, 0, none⟩ (.int .i64 a)).setCell ⟨g, 1, none⟩ (.int .i64 b)) := Only.setCell (S := fun k => k = g) (Only.set1 w g 0 _) (p := ⟨g, 1, none⟩) (.inl rfl) _
 have hoo := KJ.one h.kj_g ho
 exact ⟨⟨(h.blk.set_ 0 (.int .i64 a)).set_ 1 (.int .i64 b), h.items.only ho (fun e => h.g_m e.symm), fun x hx => (h.ib x hx).only ho (h.ne_g hx), fun x hx => (h.vals x hx).keep (KJ.keepB hoo (zN _)), h.nd, h.perm, h.ub, h.ord, h.places.only ho (fun e => h.g_p e.symm), h.pl, h.base, ⟨h.apart.1, fun x hx => (h.apart.2 x hx).keep (KJ.keepB hoo (zN _))⟩⟩, hoo⟩
set_option maxRecDepth 100000 in
set_option maxHeartbeats 4000000 in
theorem eff_cfg (B Bv g gm gp : Nat) (us : Int) (s : PJ) (its : List It) (P : List (Int × Int)) (o : OpV) (V : Value) (w : World) (h : JRep w B g gm gp us s its P) (hv : Bts w Bv 5 V o.val) (hk : o.key.size ≤ maxLen)
  (hkd : o.kind = 8) :
  Calls Tryz.prog 73 #[.pointer (some ⟨g, 0, none⟩), opv o V, .int .i64 0] w (EffRetJ B g gm gp us (effC s o 0) w) := by
 have HS : Hid ({ s with cfg := { s.cfg with count := o.count, bytes := o.bytes } } = effC s o 0) := zH (by
  unfold effC effD
  rw [if_pos rfl, if_neg (by omega)]
  have : effA s o = { s with cfg := { s.cfg with count := o.count, bytes := o.bytes } } := by
   unfold effA
   rw [if_neg (by omega), if_neg (by omega), if_neg (by omega), if_pos hkd]
  rw [this]
  unfold effB
  rw [if_neg (by omega), if_neg (by omega), if_neg (by omega), if_neg (by omega)])
 have q1 : (o.kind == 1) = false := by rw [beq_eq_false_iff_ne]; omega
 have q2 : (o.kind == 2) = false := by rw [beq_eq_false_iff_ne]; omega
 have q3 : (o.kind == 3) = false := by rw [beq_eq_false_iff_ne]; omega
 have q5 : (o.kind == 5) = false := by rw [beq_eq_false_iff_ne]; omega
 have q8 : (o.kind == 8) = true := by simp [hkd]
 have q11 : (o.kind == 11) = false := by rw [beq_eq_false_iff_ne]; omega
 have q12 : (o.kind == 12) = false := by rw [beq_eq_false_iff_ne]; omega
 have q13 : (o.kind == 13) = false := by rw [beq_eq_false_iff_ne]; omega
 have q14 : (o.kind == 14) = false := by rw [beq_eq_false_iff_ne]; omega
 clear hkd
 obtain ⟨px, hpx⟩ : ∃ px, ((mget (its.map fun x => (x.e.key, x.b)) o.key).map fun b => (⟨b, 0, none⟩ : Addr)) = px := ⟨_, rfl⟩
 have HPx := zH hpx
 clear hpx
 obtain ⟨A, c, rfl⟩ := hv.form
 have HK := zH hk
 have hbl : Below w.heap.size w (w.alloc (.cells (opc o (.slice A o.val.length c)) 43)) := (zL _ _).alloc (zN _) _
 have HX : Hid (JRX w (w.alloc (.cells (opc o (.slice A o.val.length c)) 43)) B Bv g gm gp us s its P o A c) := zH ⟨h.below hbl, Blk.new _ _ _, hbl, hv.below hbl⟩
 clear h hv hbl hk
 unfold opv
 unfold opc at HX ⊢
 go_enter Tryz.func73, Tryz.ntmps73
 go_upto_region 1 with fail
 generalize World.alloc _ _ = W0 at HX ⊢
 refine wp_region_noPanic ?_
 refine wp_region_held_drew (S := fun W => JRX w W B Bv g gm gp us s its P o A c) (by kernel_rfl) (HX.out.adv (zL _ _).drew) (fun hHeld => ?_)
 generalize W0.drew = W1 at hHeld ⊢
 have HX1 := zH hHeld
 refine Pl.go [0, 1, 2, 3, 4, 5, 6, 7] ?_
 iterate 8
  refine tkl (v := ?_) ?_ ?_
  rotate_left 1
  ·intro W hSw
   obtain ⟨z0, z1, z2, z3, z4, z5, z6, z7, z8⟩ := op9 hSw.box; obtain ⟨d0, d1, d2, d3, d4, d5, d6, d7, d8, d9, d10⟩ := hSw.rep.cells; have hlk := hSw.rep.lookI HK.out; rw [HPx.out] at hlk
   clear hSw
   go_simp
   try with_reducible rfl
  try dsimp only [zS, zB, zC]
 refine Pl.stop ?_
 refine wpAnyH_done (by kernel_rfl) ?_ _
 refine NoPanic.normal ?_
 clear hHeld HX
 obtain ⟨z0, z1, z2, z3, z4, z5, z6, z7, z8⟩ := op9 HX1.out.box
 go_upto_region 14 with fail
 clear z0 z1 z2 z3 z4 z5 z6 z7 z8
 refine wp_region_noPanic ?_
 refine wp_region_held_drew (S := fun W => Blk W w.heap.size 43 (opc o (.slice A o.val.length c))) (by kernel_rfl) HX1.out.box.drew (fun hHeld => ?_)
 have HX2 := zH (HX1.out.adv (zL W1.heap.size W1).drew)
 generalize W1.drew = W2 at HX2 hHeld ⊢
 refine Pl.go [0, 1, 2, 3, 4, 5, 6, 7, 8] ?_
 iterate 9
  refine tkl (v := ?_) ?_ ?_
  rotate_left 1
  ·intro W hSw
   obtain ⟨z0, z1, z2, z3, z4, z5, z6, z7, z8⟩ := op9 hSw
   clear hSw
   go_simp
   try with_reducible rfl
  try dsimp only [zS, zB, zC]
 refine Pl.stop ?_
 have c0 : W2.cell? ⟨g, 0, none⟩ = some (.int .i64 s.cfg.count) := HX2.out.rep.cells.1
 have f0 := HX2.out.rep.blk.frozen 0
 have hbg : ¬ w.heap.size = g := HX2.out.box.ne_ HX2.out.rep.blk (by decide)
 have HBx3 := zH (HX2.out.box.only (Only.set1 W2 g 0 (.int .i64 o.count)) hbg)
 refine wpAnyH_ready (rs := [9]) (by kernel_rfl) (by simp) ?_
 refine AllReadyH.cons (o := ⟨_, _, _, _, _, _⟩) rfl (fun F hF => ?_) AllReadyH.nil
 go_simp
 refine hF.out _ _ HBx3.out (fun hHeld => ?_)
 clear hF F c0 f0
 try simp only [Act.put, zA, zB, zC]
 refine Pl.go [10, 11, 12] ?_
 iterate 3
  refine tkl (v := ?_) ?_ ?_
  rotate_left 1
  ·intro W hSw
   obtain ⟨z0, z1, z2, z3, z4, z5, z6, z7, z8⟩ := op9 hSw
   clear hSw
   go_simp
   try with_reducible rfl
  try dsimp only [zS, zB, zC]
 refine Pl.stop ?_
 have c1 : (W2.setCell ⟨g, 0, none⟩ (.int .i64 o.count)).cell? ⟨g, 1, none⟩ = some (.int .i64 s.cfg.bytes) := (HX2.out.rep.blk.set_ 0 (.int .i64 o.count)).cell 1 _ rfl
 have f1 : (W2.setCell ⟨g, 0, none⟩ (.int .i64 o.count)).frozen? ⟨g, 1, none⟩ = false := (HX2.out.rep.blk.set_ 0 (.int .i64 o.count)).frozen 1
 obtain ⟨hj3, hoo3⟩ := HX2.out.rep.setCfg o.count o.bytes
 have HJ3 := zH hj3
 have HOO3 := zH hoo3
 have HBx4 := zH (HBx3.out.only (Only.set1 (W2.setCell ⟨g, 0, none⟩ (.int .i64 o.count)) g 1 (.int .i64 o.bytes)) hbg)
 clear hj3 hoo3
 generalize W2.setCell ⟨g, 0, none⟩ (.int .i64 o.count) = W3 at c1 f1 HJ3 HOO3 HBx4 hHeld ⊢
 refine wpAnyH_ready (rs := [13]) (by kernel_rfl) (by simp) ?_
 refine AllReadyH.cons (o := ⟨_, _, _, _, _, _⟩) rfl (fun F hF => ?_) AllReadyH.nil
 go_simp
 refine hF.out _ _ HBx4.out (fun hHeld => ?_)
 clear hF F c1 f1
 try simp only [Act.put, zA, zB, zC]
 refine wpAnyH_done (by kernel_rfl) ?_ _
 refine NoPanic.normal ?_
 clear hHeld
 generalize W3.setCell ⟨g, 1, none⟩ (.int .i64 o.bytes) = W4 at HJ3 HOO3 HBx4 ⊢
 obtain ⟨z0, z1, z2, z3, z4, z5, z6, z7, z8⟩ := op9 HBx4.out
 go_wp2_with fail
 go_end0
 exact ⟨rfl, us, its, P, ⟨Int.le_refl _, by omega⟩, HS.out ▸ HJ3.out, KJ.trans (KJ.of_below HX2.out.bel) HOO3.out⟩
end Go.Proofs.YtnabbimompapfaaGreat
namespace Go.Proofs.YtnabbimompapfaaGreat
open Go Go.RowKit Go.MapKept Go.Maps
set_option maxRecDepth 100000 in
set_option maxHeartbeats 4000000 in
theorem eff_open (B Bv g gm gp : Nat) (us : Int) (s : PJ) (its : List It) (P : List (Int × Int)) (o : OpV) (V : Value) (w : World) (h : JRep w B g gm gp us s its P) (hv : Bts w Bv 5 V o.val) (hk : o.key.size ≤ maxLen)
  (hkd : o.kind = 11) (hp : s.pl.length = 64) (hfr : freeP s.pl < 64) :
  Calls Tryz.prog 73 #[.pointer (some ⟨g, 0, none⟩), opv o V, .int .i64 0] w (EffRetJ B g gm gp us (effC s o 0) w) := by
 have HS : Hid ({ s with pl := s.pl.set (freeP s.pl) (some 0) } = effC s o 0) := zH (by
  unfold effC effD
  rw [if_pos rfl, if_neg (by omega)]
  have : effA s o = s := by
   unfold effA
   rw [if_neg (by omega), if_neg (by omega), if_neg (by omega), if_neg (by omega)]
   cases findP s.L o.key with
   |none => rfl
   |some x => dsimp only; rw [if_neg (by omega), if_neg (by omega), if_neg (by omega)]
  rw [this]
  unfold effB
  rw [if_pos hkd])
 have q1 : (o.kind == 1) = false := by rw [beq_eq_false_iff_ne]; omega
 have q2 : (o.kind == 2) = false := by rw [beq_eq_false_iff_ne]; omega
 have q3 : (o.kind == 3) = false := by rw [beq_eq_false_iff_ne]; omega
 have q5 : (o.kind == 5) = false := by rw [beq_eq_false_iff_ne]; omega
 have q8 : (o.kind == 8) = false := by rw [beq_eq_false_iff_ne]; omega
 have q11 : (o.kind == 11) = true := by simp [hkd]
 have hno : mget P (freeP s.pl : Int) = none := by rw [h.pl, openP_free hp hfr]
 have HNo := zH hno
 have HQ : Hid (∀ c, mget (P ++ [((freeP s.pl : Int), (0 : Int))]) c = openP (s.pl.set (freeP s.pl) (some 0)) c) := zH (fun c => by
  rw [mget_snoc _ _ _ hno, openP_set _ _ _ (by omega), h.pl c])
 have HP := zH hp
 have HFr := zH hfr
 clear hkd hp hfr hno
 obtain ⟨px, hpx⟩ : ∃ px, ((mget (its.map fun x => (x.e.key, x.b)) o.key).map fun b => (⟨b, 0, none⟩ : Addr)) = px := ⟨_, rfl⟩
 have HPx := zH hpx
 clear hpx
 obtain ⟨A, c, rfl⟩ := hv.form
 have HK := zH hk
 have hbl : Below w.heap.size w (w.alloc (.cells (opc o (.slice A o.val.length c)) 43)) := (zL _ _).alloc (zN _) _
 have HX : Hid (JRX w (w.alloc (.cells (opc o (.slice A o.val.length c)) 43)) B Bv g gm gp us s its P o A c) := zH ⟨h.below hbl, Blk.new _ _ _, hbl, hv.below hbl⟩
 clear h hv hbl hk
 unfold opv
 unfold opc at HX ⊢
 go_enter Tryz.func73, Tryz.ntmps73
 go_upto_region 1 with fail
 generalize World.alloc _ _ = W0 at HX ⊢
 refine wp_region_noPanic ?_
 refine wp_region_held_drew (S := fun W => JRX w W B Bv g gm gp us s its P o A c) (by kernel_rfl) (HX.out.adv (zL _ _).drew) (fun hHeld => ?_)
 generalize W0.drew = W1 at hHeld ⊢
 have HX1 := zH hHeld
 refine Pl.go [0, 1, 2, 3, 4, 5, 6, 7] ?_
 iterate 8
  refine tkl (v := ?_) ?_ ?_
  rotate_left 1
  ·intro W hSw
   obtain ⟨z0, z1, z2, z3, z4, z5, z6, z7, z8⟩ := op9 hSw.box; obtain ⟨d0, d1, d2, d3, d4, d5, d6, d7, d8, d9, d10⟩ := hSw.rep.cells; have hlk := hSw.rep.lookI HK.out; rw [HPx.out] at hlk
   clear hSw
   go_simp
   try with_reducible rfl
  try dsimp only [zS, zB, zC]
 refine Pl.stop ?_
 refine wpAnyH_done (by kernel_rfl) ?_ _
 refine NoPanic.normal ?_
 clear hHeld HX
 obtain ⟨z0, z1, z2, z3, z4, z5, z6, z7, z8⟩ := op9 HX1.out.box
 go_upto_region 18 with fail
 clear z0 z1 z2 z3 z4 z5 z6 z7 z8
 refine wp_region_noPanic ?_
 refine wp_region_till [6] (fun W => JRX w W B Bv g gm gp us s its P o A c) (fun _ => True) (by kernel_rfl) trivial (HX1.out.adv (zL _ _).drew) (fun hTill => ?_)
 have HX2 := zH (HX1.out.adv (zL W1.heap.size W1).drew)
 generalize W1.drew = W2 at HX2 hTill ⊢
 refine Pl.go [0, 1, 2] ?_
 iterate 3
  refine tsl (v := ?_) ?_ ?_
  rotate_left 1
  ·intro W hSw
   skip
   clear hSw
   go_simp
   try with_reducible rfl
  try dsimp only [zS, zB, zC]
  clear hTill
  intro hTill
 refine Pl.stop ?_
 refine tt 3 (v := ?_) ?_ ?_
 rotate_left 1
 ·intro W hSw
  obtain ⟨z0, z1, z2, z3, z4, z5, z6, z7, z8⟩ := op9 hSw.2.box; obtain ⟨-, -, -, -, -, d5, -, -, -, -, d10⟩ := hSw.2.rep.cells; skip
  clear hSw
  go_simp
  try with_reducible rfl
 try dsimp only [zS, zB, zC]
 clear hTill
 intro hTill
 refine ts 4 (v := ?_) ?_ ?_
 rotate_left 1
 ·intro W hSw
  skip
  clear hSw
  go_simp
  try with_reducible rfl
 try dsimp only [zS, zB, zC]
 clear hTill
 intro hTill
 refine wpTill.only (i := 5) (o := ⟨_, _, _, _, _, _⟩) (by kernel_rfl) rfl (fun F hF => ?_)
 go_simp
 refine (free_any B g gm gp us s its P W2 HX2.out.rep HP.out).mono ?_
 rintro e w' ⟨rfl, hww⟩
 subst hww
 go_wp2_with fail
 refine hF.out _ _ (Till.of trivial HX2.out) (fun hTill => ?_)
 clear hF F
 try simp only [Act.put, zA, zB, zC]
 clear hTill
 obtain ⟨W3, hput, hm3, ht3⟩ := HX2.out.rep.places.put (k := (freeP s.pl : Int)) (int_wf (by have := HFr.out; omega)) HNo.out 0
 have HM3 := zH hm3
 have HO3 := zH ht3.only
 clear hm3 ht3
 refine wpTill.only (i := 6) (o := ⟨_, _, _, _, _, _⟩) (by kernel_rfl) rfl (fun F hF => ?_)
 go_simp
 refine hF.out _ _ (Till.stored trivial (by kernel_rfl)) (fun hTill => ?_)
 clear hF F hTill
 try simp only [Act.put, zA, zB, zC]
 refine wpTill.done (by kernel_rfl) ?_
 try refine NoPanic.normal ?_
 have HBx3 := zH (HX2.out.box.only HO3.out (HX2.out.box.ne_map HX2.out.rep.places))
 obtain ⟨hj3, hoo3⟩ := HX2.out.rep.setPl (pl' := s.pl.set (freeP s.pl) (some 0)) HM3.out HO3.out HQ.out
 have HJ3 := zH hj3
 have HOO3 := zH hoo3
 clear hj3 hoo3
 obtain ⟨z0, z1, z2, z3, z4, z5, z6, z7, z8⟩ := op9 HBx3.out
 go_wp2_with fail
 go_end0
 exact ⟨rfl, us, its, _, ⟨Int.le_refl _, by omega⟩, HS.out ▸ HJ3.out, KJ.trans (KJ.of_below HX2.out.bel) HOO3.out⟩
set_option maxRecDepth 100000 in
set_option maxHeartbeats 4000000 in
theorem eff_seek (B Bv g gm gp : Nat) (us : Int) (s : PJ) (its : List It) (P : List (Int × Int)) (o : OpV) (V : Value) (b : Int) (w : World) (h : JRep w B g gm gp us s its P) (hv : Bts w Bv 5 V o.val) (hk : o.key.size ≤ maxLen)
  (hkd : o.kind = 13) (hc : -9223372036854775808 ≤ o.cursor ∧ o.cursor ≤ 9223372036854775807) (hop : openP s.pl o.cursor = some b) :
  Calls Tryz.prog 73 #[.pointer (some ⟨g, 0, none⟩), opv o V, .int .i64 0] w (EffRetJ B g gm gp us (effC s o 0) w) := by
 have HS : Hid ({ s with pl := s.pl.set o.cursor.toNat (some o.birth) } = effC s o 0) := zH (by
  unfold effC effD
  rw [if_pos rfl, if_neg (by omega)]
  have : effA s o = s := by
   unfold effA
   rw [if_neg (by omega), if_neg (by omega), if_neg (by omega), if_neg (by omega)]
   cases findP s.L o.key with
   |none => rfl
   |some x => dsimp only; rw [if_neg (by omega), if_neg (by omega), if_neg (by omega)]
  rw [this]
  unfold effB
  rw [if_neg (by omega), if_neg (by omega), if_pos hkd])
 have q1 : (o.kind == 1) = false := by rw [beq_eq_false_iff_ne]; omega
 have q2 : (o.kind == 2) = false := by rw [beq_eq_false_iff_ne]; omega
 have q3 : (o.kind == 3) = false := by rw [beq_eq_false_iff_ne]; omega
 have q5 : (o.kind == 5) = false := by rw [beq_eq_false_iff_ne]; omega
 have q8 : (o.kind == 8) = false := by rw [beq_eq_false_iff_ne]; omega
 have q11 : (o.kind == 11) = false := by simp [hkd]
 have q12 : (o.kind == 12) = false := by simp [hkd]
 have q13 : (o.kind == 13) = true := by simp [hkd]
 have hyes : mget P o.cursor = some b := by rw [h.pl, hop]
 have HYes := zH hyes
 have hrg := openP_range hop
 have HQ : Hid (∀ c, mget (P.map fun x => if x.1 = o.cursor then (o.cursor, o.birth) else x) c = openP (s.pl.set o.cursor.toNat (some o.birth)) c) := zH (fun c => by
  rw [mget_map _ _ _ (by rw [hyes]; rfl), openP_set _ _ _ hrg.2, h.pl c, Int.toNat_of_nonneg hrg.1])
 have HC := zH hc
 clear hkd hc hop hyes hrg
 obtain ⟨px, hpx⟩ : ∃ px, ((mget (its.map fun x => (x.e.key, x.b)) o.key).map fun b => (⟨b, 0, none⟩ : Addr)) = px := ⟨_, rfl⟩
 have HPx := zH hpx
 clear hpx
 obtain ⟨A, c, rfl⟩ := hv.form
 have HK := zH hk
 have hbl : Below w.heap.size w (w.alloc (.cells (opc o (.slice A o.val.length c)) 43)) := (zL _ _).alloc (zN _) _
 have HX : Hid (JRX w (w.alloc (.cells (opc o (.slice A o.val.length c)) 43)) B Bv g gm gp us s its P o A c) := zH ⟨h.below hbl, Blk.new _ _ _, hbl, hv.below hbl⟩
 clear h hv hbl hk
 unfold opv
 unfold opc at HX ⊢
 go_enter Tryz.func73, Tryz.ntmps73
 go_upto_region 1 with fail
 generalize World.alloc _ _ = W0 at HX ⊢
 refine wp_region_noPanic ?_
 refine wp_region_held_drew (S := fun W => JRX w W B Bv g gm gp us s its P o A c) (by kernel_rfl) (HX.out.adv (zL _ _).drew) (fun hHeld => ?_)
 generalize W0.drew = W1 at hHeld ⊢
 have HX1 := zH hHeld
 refine Pl.go [0, 1, 2, 3, 4, 5, 6, 7] ?_
 iterate 8
  refine tkl (v := ?_) ?_ ?_
  rotate_left 1
  ·intro W hSw
   obtain ⟨z0, z1, z2, z3, z4, z5, z6, z7, z8⟩ := op9 hSw.box; obtain ⟨d0, d1, d2, d3, d4, d5, d6, d7, d8, d9, d10⟩ := hSw.rep.cells; have hlk := hSw.rep.lookI HK.out; rw [HPx.out] at hlk
   clear hSw
   go_simp
   try with_reducible rfl
  try dsimp only [zS, zB, zC]
 refine Pl.stop ?_
 refine wpAnyH_done (by kernel_rfl) ?_ _
 refine NoPanic.normal ?_
 clear hHeld HX
 obtain ⟨z0, z1, z2, z3, z4, z5, z6, z7, z8⟩ := op9 HX1.out.box
 go_upto_region 22 with fail
 clear z0 z1 z2 z3 z4 z5 z6 z7 z8
 refine wp_region_noPanic ?_
 refine wp_region_till [8] (fun W => JRX w W B Bv g gm gp us s its P o A c) (fun _ => True) (by kernel_rfl) trivial (HX1.out.adv (zL _ _).drew) (fun hTill => ?_)
 have HX2 := zH (HX1.out.adv (zL W1.heap.size W1).drew)
 generalize W1.drew = W2 at HX2 hTill ⊢
 refine Pl.go [0, 1, 2] ?_
 iterate 3
  refine tsl (v := ?_) ?_ ?_
  rotate_left 1
  ·intro W hSw
   skip
   clear hSw
   go_simp
   try with_reducible rfl
  try dsimp only [zS, zB, zC]
  clear hTill
  intro hTill
 refine Pl.stop ?_
 refine tt 3 (v := ?_) ?_ ?_
 rotate_left 1
 ·intro W hSw
  obtain ⟨z0, z1, z2, z3, z4, z5, z6, z7, z8⟩ := op9 hSw.2.box; obtain ⟨-, -, -, -, -, d5, -, -, -, -, d10⟩ := hSw.2.rep.cells; skip
  clear hSw
  go_simp
  try with_reducible rfl
 try dsimp only [zS, zB, zC]
 clear hTill
 intro hTill
 refine ts 4 (v := ?_) ?_ ?_
 rotate_left 1
 ·intro W hSw
  skip
  clear hSw
  go_simp
  try with_reducible rfl
 try dsimp only [zS, zB, zC]
 clear hTill
 intro hTill
 refine tt 5 (v := ?_) ?_ ?_
 rotate_left 1
 ·intro W hSw
  obtain ⟨z0, z1, z2, z3, z4, z5, z6, z7, z8⟩ := op9 hSw.2.box; obtain ⟨-, -, -, -, -, d5, -, -, -, -, d10⟩ := hSw.2.rep.cells; skip
  clear hSw
  go_simp
  try with_reducible rfl
 try dsimp only [zS, zB, zC]
 clear hTill
 intro hTill
 refine ts 6 (v := ?_) ?_ ?_
 rotate_left 1
 ·intro W hSw
  skip
  clear hSw
  go_simp
  try with_reducible rfl
 try dsimp only [zS, zB, zC]
 clear hTill
 intro hTill
 refine tt 7 (v := ?_) ?_ ?_
 rotate_left 1
 ·intro W hSw
  obtain ⟨z0, z1, z2, z3, z4, z5, z6, z7, z8⟩ := op9 hSw.2.box; obtain ⟨-, -, -, -, -, d5, -, -, -, -, d10⟩ := hSw.2.rep.cells; skip
  clear hSw
  go_simp
  try with_reducible rfl
 try dsimp only [zS, zB, zC]
 clear hTill
 intro hTill
 clear hTill
 obtain ⟨W3, hput, hm3, ht3⟩ := HX2.out.rep.places.over (k := o.cursor) (int_wf HC.out) HYes.out o.birth
 have HM3 := zH hm3
 have HO3 := zH ht3.only
 clear hm3 ht3
 refine wpTill.only (i := 8) (o := ⟨_, _, _, _, _, _⟩) (by kernel_rfl) rfl (fun F hF => ?_)
 go_simp
 refine hF.out _ _ (Till.stored trivial (by kernel_rfl)) (fun hTill => ?_)
 clear hF F hTill
 try simp only [Act.put, zA, zB, zC]
 refine wpTill.done (by kernel_rfl) ?_
 try refine NoPanic.normal ?_
 have HBx3 := zH (HX2.out.box.only HO3.out (HX2.out.box.ne_map HX2.out.rep.places))
 obtain ⟨hj3, hoo3⟩ := HX2.out.rep.setPl (pl' := s.pl.set o.cursor.toNat (some o.birth)) HM3.out HO3.out HQ.out
 have HJ3 := zH hj3
 have HOO3 := zH hoo3
 clear hj3 hoo3
 obtain ⟨z0, z1, z2, z3, z4, z5, z6, z7, z8⟩ := op9 HBx3.out
 go_wp2_with fail
 go_end0
 exact ⟨rfl, us, its, _, ⟨Int.le_refl _, by omega⟩, HS.out ▸ HJ3.out, KJ.trans (KJ.of_below HX2.out.bel) HOO3.out⟩
set_option maxRecDepth 100000 in
set_option maxHeartbeats 4000000 in
theorem eff_close (B Bv g gm gp : Nat) (us : Int) (s : PJ) (its : List It) (P : List (Int × Int)) (o : OpV) (V : Value) (b : Int) (w : World) (h : JRep w B g gm gp us s its P) (hv : Bts w Bv 5 V o.val) (hk : o.key.size ≤ maxLen)
  (hkd : o.kind = 14) (hc : -9223372036854775808 ≤ o.cursor ∧ o.cursor ≤ 9223372036854775807) (hop : openP s.pl o.cursor = some b) :
  Calls Tryz.prog 73 #[.pointer (some ⟨g, 0, none⟩), opv o V, .int .i64 0] w (EffRetJ B g gm gp us (effC s o 0) w) := by
 have HS : Hid ({ s with pl := s.pl.set o.cursor.toNat none } = effC s o 0) := zH (by
  unfold effC effD
  rw [if_pos rfl, if_neg (by omega)]
  have : effA s o = s := by
   unfold effA
   rw [if_neg (by omega), if_neg (by omega), if_neg (by omega), if_neg (by omega)]
   cases findP s.L o.key with
   |none => rfl
   |some x => dsimp only; rw [if_neg (by omega), if_neg (by omega), if_neg (by omega)]
  rw [this]
  unfold effB
  rw [if_neg (by omega), if_neg (by omega), if_neg (by omega), if_pos hkd])
 have q1 : (o.kind == 1) = false := by rw [beq_eq_false_iff_ne]; omega
 have q2 : (o.kind == 2) = false := by rw [beq_eq_false_iff_ne]; omega
 have q3 : (o.kind == 3) = false := by rw [beq_eq_false_iff_ne]; omega
 have q5 : (o.kind == 5) = false := by rw [beq_eq_false_iff_ne]; omega
 have q8 : (o.kind == 8) = false := by rw [beq_eq_false_iff_ne]; omega
 have q11 : (o.kind == 11) = false := by simp [hkd]
 have q12 : (o.kind == 12) = false := by simp [hkd]
 have q13 : (o.kind == 13) = false := by simp [hkd]
 have q14 : (o.kind == 14) = true := by simp [hkd]
 have hrg := openP_range hop
 have HQ : Hid (∀ c, mget (mdel P o.cursor) c = openP (s.pl.set o.cursor.toNat none) c) := zH (fun c => by
  rw [mget_del, openP_set _ _ _ hrg.2, h.pl c, Int.toNat_of_nonneg hrg.1])
 have HC := zH hc
 clear hkd hc hop hrg
 obtain ⟨px, hpx⟩ : ∃ px, ((mget (its.map fun x => (x.e.key, x.b)) o.key).map fun b => (⟨b, 0, none⟩ : Addr)) = px := ⟨_, rfl⟩
 have HPx := zH hpx
 clear hpx
 obtain ⟨A, c, rfl⟩ := hv.form
 have HK := zH hk
 have hbl : Below w.heap.size w (w.alloc (.cells (opc o (.slice A o.val.length c)) 43)) := (zL _ _).alloc (zN _) _
 have HX : Hid (JRX w (w.alloc (.cells (opc o (.slice A o.val.length c)) 43)) B Bv g gm gp us s its P o A c) := zH ⟨h.below hbl, Blk.new _ _ _, hbl, hv.below hbl⟩
 clear h hv hbl hk
 unfold opv
 unfold opc at HX ⊢
 go_enter Tryz.func73, Tryz.ntmps73
 go_upto_region 1 with fail
 generalize World.alloc _ _ = W0 at HX ⊢
 refine wp_region_noPanic ?_
 refine wp_region_held_drew (S := fun W => JRX w W B Bv g gm gp us s its P o A c) (by kernel_rfl) (HX.out.adv (zL _ _).drew) (fun hHeld => ?_)
 generalize W0.drew = W1 at hHeld ⊢
 have HX1 := zH hHeld
 refine Pl.go [0, 1, 2, 3, 4, 5, 6, 7] ?_
 iterate 8
  refine tkl (v := ?_) ?_ ?_
  rotate_left 1
  ·intro W hSw
   obtain ⟨z0, z1, z2, z3, z4, z5, z6, z7, z8⟩ := op9 hSw.box; obtain ⟨d0, d1, d2, d3, d4, d5, d6, d7, d8, d9, d10⟩ := hSw.rep.cells; have hlk := hSw.rep.lookI HK.out; rw [HPx.out] at hlk
   clear hSw
   go_simp
   try with_reducible rfl
  try dsimp only [zS, zB, zC]
 refine Pl.stop ?_
 refine wpAnyH_done (by kernel_rfl) ?_ _
 refine NoPanic.normal ?_
 clear hHeld HX
 obtain ⟨z0, z1, z2, z3, z4, z5, z6, z7, z8⟩ := op9 HX1.out.box
 go_upto_region 24 with fail
 clear z0 z1 z2 z3 z4 z5 z6 z7 z8
 refine wp_region_noPanic ?_
 refine wp_region_till [6] (fun W => JRX w W B Bv g gm gp us s its P o A c) (fun _ => True) (by kernel_rfl) trivial (HX1.out.adv (zL _ _).drew) (fun hTill => ?_)
 have HX2 := zH (HX1.out.adv (zL W1.heap.size W1).drew)
 generalize W1.drew = W2 at HX2 hTill ⊢
 refine Pl.go [0, 1, 2] ?_
 iterate 3
  refine tsl (v := ?_) ?_ ?_
  rotate_left 1
  ·intro W hSw
   skip
   clear hSw
   go_simp
   try with_reducible rfl
  try dsimp only [zS, zB, zC]
  clear hTill
  intro hTill
 refine Pl.stop ?_
 refine tt 3 (v := ?_) ?_ ?_
 rotate_left 1
 ·intro W hSw
  obtain ⟨z0, z1, z2, z3, z4, z5, z6, z7, z8⟩ := op9 hSw.2.box; obtain ⟨-, -, -, -, -, d5, -, -, -, -, d10⟩ := hSw.2.rep.cells; skip
  clear hSw
  go_simp
  try with_reducible rfl
 try dsimp only [zS, zB, zC]
 clear hTill
 intro hTill
 refine ts 4 (v := ?_) ?_ ?_
 rotate_left 1
 ·intro W hSw
  skip
  clear hSw
  go_simp
  try with_reducible rfl
 try dsimp only [zS, zB, zC]
 clear hTill
 intro hTill
 refine tt 5 (v := ?_) ?_ ?_
 rotate_left 1
 ·intro W hSw
  obtain ⟨z0, z1, z2, z3, z4, z5, z6, z7, z8⟩ := op9 hSw.2.box; obtain ⟨-, -, -, -, -, d5, -, -, -, -, d10⟩ := hSw.2.rep.cells; skip
  clear hSw
  go_simp
  try with_reducible rfl
 try dsimp only [zS, zB, zC]
 clear hTill
 intro hTill
 clear hTill
 obtain ⟨W3, hput, hm3, ht3⟩ := HX2.out.rep.places.del (k := o.cursor) (int_wf HC.out)
 have HM3 := zH hm3
 have HO3 := zH ht3.only
 clear hm3 ht3
 refine wpTill.only (i := 6) (o := ⟨_, _, _, _, _, _⟩) (by kernel_rfl) rfl (fun F hF => ?_)
 go_simp
 refine hF.out _ _ (Till.stored trivial (by kernel_rfl)) (fun hTill => ?_)
 clear hF F hTill
 try simp only [Act.put, zA, zB, zC]
 refine wpTill.done (by kernel_rfl) ?_
 try refine NoPanic.normal ?_
 have HBx3 := zH (HX2.out.box.only HO3.out (HX2.out.box.ne_map HX2.out.rep.places))
 obtain ⟨hj3, hoo3⟩ := HX2.out.rep.setPl (pl' := s.pl.set o.cursor.toNat none) HM3.out HO3.out HQ.out
 have HJ3 := zH hj3
 have HOO3 := zH hoo3
 clear hj3 hoo3
 obtain ⟨z0, z1, z2, z3, z4, z5, z6, z7, z8⟩ := op9 HBx3.out
 go_wp2_with fail
 go_end0
 exact ⟨rfl, us, its, _, ⟨Int.le_refl _, by omega⟩, HS.out ▸ HJ3.out, KJ.trans (KJ.of_below HX2.out.bel) HOO3.out⟩
theorem JRep.lookPl1 {w : World} {B g gm gp : Nat} {us : Int} {s : PJ} {its : List It} {P : List (Int × Int)} (h : JRep w B g gm gp us s its P) {c b : Int} (hc : -9223372036854775808 ≤ c ∧ c ≤ 9223372036854775807) (hb : openP s.pl c = some b) :
  (Instr.lookup 90 (.map (some gp)) (.int .i64 c) false).run Tryz.prog w = .ok (.int .u64 b) w := by
 have := h.places.look1 (P := Tryz.prog) (k := c) (int_wf hc)
 rw [h.pl c, hb] at this
 exact this
set_option maxRecDepth 100000 in
set_option maxHeartbeats 4000000 in
theorem eff_next (B Bv g gm gp : Nat) (us : Int) (s : PJ) (its : List It) (P : List (Int × Int)) (o : OpV) (V : Value) (b : Int) (y : EntV) (w : World) (h : JRep w B g gm gp us s its P) (hv : Bts w Bv 5 V o.val) (hk : o.key.size ≤ maxLen)
  (hkd : o.kind = 12) (hc : -9223372036854775808 ≤ o.cursor ∧ o.cursor ≤ 9223372036854775807) (hop : openP s.pl o.cursor = some b) (hy : afterP s.L b s.now = some y) (hlen : its.length ≤ 1000000) (hasc : (s.L.map EntV.birth).Pairwise (· < ·)) :
  Calls Tryz.prog 73 #[.pointer (some ⟨g, 0, none⟩), opv o V, .int .i64 0] w (EffRetJ B g gm gp us (effC s o 0) w) := by
 have HS : Hid ({ s with pl := s.pl.set o.cursor.toNat (some y.birth) } = effC s o 0) := zH (by
  unfold effC effD
  rw [if_pos rfl, if_neg (by omega)]
  have : effA s o = s := by
   unfold effA
   rw [if_neg (by omega), if_neg (by omega), if_neg (by omega), if_neg (by omega)]
   cases findP s.L o.key with
   |none => rfl
   |some x => dsimp only; rw [if_neg (by omega), if_neg (by omega), if_neg (by omega)]
  rw [this]
  unfold effB
  rw [if_neg (by omega), if_pos hkd, hop]
  dsimp only
  rw [hy])
 have q1 : (o.kind == 1) = false := by rw [beq_eq_false_iff_ne]; omega
 have q2 : (o.kind == 2) = false := by rw [beq_eq_false_iff_ne]; omega
 have q3 : (o.kind == 3) = false := by rw [beq_eq_false_iff_ne]; omega
 have q5 : (o.kind == 5) = false := by rw [beq_eq_false_iff_ne]; omega
 have q8 : (o.kind == 8) = false := by rw [beq_eq_false_iff_ne]; omega
 have q11 : (o.kind == 11) = false := by simp [hkd]
 have q12 : (o.kind == 12) = true := by simp [hkd]
 have hyes : mget P o.cursor = some b := by rw [h.pl, hop]
 have HYes := zH hyes
 have hrg := openP_range hop
 have HQ : Hid (∀ c, mget (P.map fun x => if x.1 = o.cursor then (o.cursor, y.birth) else x) c = openP (s.pl.set o.cursor.toNat (some y.birth)) c) := zH (fun c => by
  rw [mget_map _ _ _ (by rw [hyes]; rfl), openP_set _ _ _ hrg.2, h.pl c, Int.toNat_of_nonneg hrg.1])
 have HC := zH hc
 have HOp := zH hop
 have HY := zH hy
 have HLe := zH hlen
 have HA := zH hasc
 clear hkd hc hop hyes hrg hy hlen hasc
 obtain ⟨px, hpx⟩ : ∃ px, ((mget (its.map fun x => (x.e.key, x.b)) o.key).map fun b => (⟨b, 0, none⟩ : Addr)) = px := ⟨_, rfl⟩
 have HPx := zH hpx
 clear hpx
 obtain ⟨A, c, rfl⟩ := hv.form
 have HK := zH hk
 have hbl : Below w.heap.size w (w.alloc (.cells (opc o (.slice A o.val.length c)) 43)) := (zL _ _).alloc (zN _) _
 have HX : Hid (JRX w (w.alloc (.cells (opc o (.slice A o.val.length c)) 43)) B Bv g gm gp us s its P o A c) := zH ⟨h.below hbl, Blk.new _ _ _, hbl, hv.below hbl⟩
 clear h hv hbl hk
 unfold opv
 unfold opc at HX ⊢
 go_enter Tryz.func73, Tryz.ntmps73
 go_upto_region 1 with fail
 generalize World.alloc _ _ = W0 at HX ⊢
 refine wp_region_noPanic ?_
 refine wp_region_held_drew (S := fun W => JRX w W B Bv g gm gp us s its P o A c) (by kernel_rfl) (HX.out.adv (zL _ _).drew) (fun hHeld => ?_)
 generalize W0.drew = W1 at hHeld ⊢
 have HX1 := zH hHeld
 refine Pl.go [0, 1, 2, 3, 4, 5, 6, 7] ?_
 iterate 8
  refine tkl (v := ?_) ?_ ?_
  rotate_left 1
  ·intro W hSw
   obtain ⟨z0, z1, z2, z3, z4, z5, z6, z7, z8⟩ := op9 hSw.box; obtain ⟨d0, d1, d2, d3, d4, d5, d6, d7, d8, d9, d10⟩ := hSw.rep.cells; have hlk := hSw.rep.lookI HK.out; rw [HPx.out] at hlk
   clear hSw
   go_simp
   try with_reducible rfl
  try dsimp only [zS, zB, zC]
 refine Pl.stop ?_
 refine wpAnyH_done (by kernel_rfl) ?_ _
 refine NoPanic.normal ?_
 clear hHeld HX
 obtain ⟨z0, z1, z2, z3, z4, z5, z6, z7, z8⟩ := op9 HX1.out.box
 go_upto_region 20 with fail
 clear z0 z1 z2 z3 z4 z5 z6 z7 z8
 refine wp_region_noPanic ?_
 refine wp_region_till [23] (fun W => JRX w W B Bv g gm gp us s its P o A c) (fun _ => True) (by kernel_rfl) trivial (HX1.out.adv (zL _ _).drew) (fun hTill => ?_)
 have HX2 := zH (HX1.out.adv (zL W1.heap.size W1).drew)
 generalize W1.drew = W2 at HX2 hTill ⊢
 refine Pl.go [0, 1, 2] ?_
 iterate 3
  refine tsl (v := ?_) ?_ ?_
  rotate_left 1
  ·intro W hSw
   skip
   clear hSw
   go_simp
   try with_reducible rfl
  try dsimp only [zS, zB, zC]
  clear hTill
  intro hTill
 refine Pl.stop ?_
 refine tt 3 (v := ?_) ?_ ?_
 rotate_left 1
 ·intro W hSw
  obtain ⟨z0, z1, z2, z3, z4, z5, z6, z7, z8⟩ := op9 hSw.2.box; obtain ⟨-, -, -, -, -, d5, -, -, -, -, d10⟩ := hSw.2.rep.cells; skip
  clear hSw
  go_simp
  try with_reducible rfl
 try dsimp only [zS, zB, zC]
 clear hTill
 intro hTill
 refine ts 4 (v := ?_) ?_ ?_
 rotate_left 1
 ·intro W hSw
  skip
  clear hSw
  go_simp
  try with_reducible rfl
 try dsimp only [zS, zB, zC]
 clear hTill
 intro hTill
 refine tt 5 (v := ?_) ?_ ?_
 rotate_left 1
 ·intro W hSw
  obtain ⟨z0, z1, z2, z3, z4, z5, z6, z7, z8⟩ := op9 hSw.2.box; obtain ⟨-, -, -, -, -, d5, -, -, -, -, d10⟩ := hSw.2.rep.cells; skip
  clear hSw
  go_simp
  try with_reducible rfl
 try dsimp only [zS, zB, zC]
 clear hTill
 intro hTill
 refine Pl.go [6, 7, 8, 9] ?_
 iterate 4
  refine tsl (v := ?_) ?_ ?_
  rotate_left 1
  ·intro W hSw
   skip
   clear hSw
   go_simp
   try with_reducible rfl
  try dsimp only [zS, zB, zC]
  clear hTill
  intro hTill
 refine Pl.stop ?_
 refine tt 10 (v := ?_) ?_ ?_
 rotate_left 1
 ·intro W hSw
  obtain ⟨z0, z1, z2, z3, z4, z5, z6, z7, z8⟩ := op9 hSw.2.box; obtain ⟨-, -, -, -, -, d5, -, -, -, -, d10⟩ := hSw.2.rep.cells; skip
  clear hSw
  go_simp
  try with_reducible rfl
 try dsimp only [zS, zB, zC]
 clear hTill
 intro hTill
 refine ts 11 (v := ?_) ?_ ?_
 rotate_left 1
 ·intro W hSw
  skip
  clear hSw
  go_simp
  try with_reducible rfl
 try dsimp only [zS, zB, zC]
 clear hTill
 intro hTill
 refine tt 12 (v := ?_) ?_ ?_
 rotate_left 1
 ·intro W hSw
  obtain ⟨z0, z1, z2, z3, z4, z5, z6, z7, z8⟩ := op9 hSw.2.box; obtain ⟨-, -, -, -, -, d5, -, -, -, -, d10⟩ := hSw.2.rep.cells; skip
  clear hSw
  go_simp
  try with_reducible rfl
 try dsimp only [zS, zB, zC]
 clear hTill
 intro hTill
 refine tt 13 (v := ?_) ?_ ?_
 rotate_left 1
 ·intro W hSw
  obtain ⟨z0, z1, z2, z3, z4, z5, z6, z7, z8⟩ := op9 hSw.2.box; obtain ⟨-, -, -, -, -, d5, -, -, -, -, d10⟩ := hSw.2.rep.cells; have hlk := hSw.2.rep.lookPl1 HC.out HOp.out
  clear hSw
  go_simp
  try with_reducible rfl
 try dsimp only [zS, zB, zC]
 clear hTill
 intro hTill
 refine Pl.go [14, 15, 16] ?_
 iterate 3
  refine tsl (v := ?_) ?_ ?_
  rotate_left 1
  ·intro W hSw
   skip
   clear hSw
   go_simp
   try with_reducible rfl
  try dsimp only [zS, zB, zC]
  clear hTill
  intro hTill
 refine Pl.stop ?_
 refine tt 17 (v := ?_) ?_ ?_
 rotate_left 1
 ·intro W hSw
  obtain ⟨z0, z1, z2, z3, z4, z5, z6, z7, z8⟩ := op9 hSw.2.box; obtain ⟨-, -, -, -, -, d5, -, -, -, -, d10⟩ := hSw.2.rep.cells; skip
  clear hSw
  go_simp
  try with_reducible rfl
 try dsimp only [zS, zB, zC]
 clear hTill
 intro hTill
 refine wpTill.only (i := 18) (o := ⟨_, _, _, _, _, _⟩) (by kernel_rfl) rfl (fun F hF => ?_)
 go_simp
 refine (after_any B g gm gp us s its P b s.now W2 HX2.out.rep HLe.out HA.out).mono ?_
 rintro e w3 ⟨hb3, ⟨hno, _⟩ | ⟨x, hx, hsome, rfl⟩⟩
 ·rw [HY.out] at hno
  cases hno
 ·have hxy : y = x.e := by rw [HY.out] at hsome; injection hsome
  subst hxy
  have HX3 := zH (HX2.out.adv hb3)
  have HXm := zH hx
  clear hb3 hsome hx
  go_wp2_with fail
  refine hF.out _ _ (Till.of trivial HX3.out) (fun hTill => ?_)
  clear hF F HX2
  try simp only [Act.put, zA, zB, zC]
  refine Pl.go [19, 20, 21] ?_
  iterate 3
   refine tsl (v := ?_) ?_ ?_
   rotate_left 1
   ·intro W hSw
    skip
    clear hSw
    go_simp
    try with_reducible rfl
   try dsimp only [zS, zB, zC]
   clear hTill
   intro hTill
  refine Pl.stop ?_
  refine tt 22 (v := ?_) ?_ ?_
  rotate_left 1
  ·intro W hSw
   obtain ⟨z0, z1, z2, z3, z4, z5, z6, z7, z8⟩ := op9 hSw.2.box; obtain ⟨-, -, -, -, -, d5, -, -, -, -, d10⟩ := hSw.2.rep.cells; have x3 := (hSw.2.rep.ib x HXm.out).cells.2.2.2.1
   clear hSw
   go_simp
   try with_reducible rfl
  try dsimp only [zS, zB, zC]
  clear hTill
  intro hTill
  clear hTill
  have HX2 := HX3
  obtain ⟨W3, hput, hm3, ht3⟩ := HX3.out.rep.places.over (k := o.cursor) (int_wf HC.out) HYes.out x.e.birth
  have HM3 := zH hm3
  have HO3 := zH ht3.only
  clear hm3 ht3
  refine wpTill.only (i := 23) (o := ⟨_, _, _, _, _, _⟩) (by kernel_rfl) rfl (fun F hF => ?_)
  go_simp
  refine hF.out _ _ (Till.stored trivial (by kernel_rfl)) (fun hTill => ?_)
  clear hF F hTill
  try simp only [Act.put, zA, zB, zC]
  refine wpTill.done (by kernel_rfl) ?_
  try refine NoPanic.normal ?_
  have HBx3 := zH (HX2.out.box.only HO3.out (HX2.out.box.ne_map HX2.out.rep.places))
  obtain ⟨hj3, hoo3⟩ := HX2.out.rep.setPl (pl' := s.pl.set o.cursor.toNat (some x.e.birth)) HM3.out HO3.out HQ.out
  have HJ3 := zH hj3
  have HOO3 := zH hoo3
  clear hj3 hoo3
  obtain ⟨z0, z1, z2, z3, z4, z5, z6, z7, z8⟩ := op9 HBx3.out
  go_wp2_with fail
  go_end0
  exact ⟨rfl, us, its, _, ⟨Int.le_refl _, by omega⟩, HS.out ▸ HJ3.out, KJ.trans (KJ.of_below HX2.out.bel) HOO3.out⟩
theorem effect_any (N B Bv g gm gp : Nat) (us : Int) (s : PJ) (its : List It) (P : List (Int × Int)) (o : OpV) (V : Value) (e0 : Int) (w : World) (h : JRep w B g gm gp us s its P) (hv : Bts w Bv 5 V o.val) (hk : o.key.size ≤ maxLen) (hi : PInv N s) (hn : N ≤ 90000) (hB : Bv ≤ B ∧ B ≤ w.heap.size)
  (hs : o.kind = 1 ∨ o.kind = 2 → keyOK o.key = true ∧ o.val.length ≤ 65536) (hus : 0 ≤ us ∧ us ≤ 1000000000000) (htt : 0 ≤ o.ttl) (hc : -9223372036854775808 ≤ o.cursor ∧ o.cursor ≤ 9223372036854775807) (hkd : 1 ≤ o.kind ∧ o.kind ≤ 14) (he : EffOk s o e0) :
  Calls Tryz.prog 73 #[.pointer (some ⟨g, 0, none⟩), opv o V, .int .i64 e0] w (EffRetJ B g gm gp us (effC s o e0) w) := by
 have hlen : its.length ≤ 1000000 := by have := h.lenI; have := hi.lenL; omega
 by_cases h11 : 11 ≤ o.kind
 ·by_cases he0 : e0 = 0
  ·subst he0
   by_cases k11 : o.kind = 11
   ·exact eff_open B Bv g gm gp us s its P o V w h hv hk k11 hi.pls (he.h11 k11 rfl)
   ·by_cases k12 : o.kind = 12
    ·obtain ⟨b, y, h1, h2⟩ := he.h12 k12 rfl
     exact eff_next B Bv g gm gp us s its P o V b y w h hv hk k12 hc h1 h2 hlen hi.asc
    ·have h3 := he.h13 (by omega) rfl
     cases hop : openP s.pl o.cursor with
     |none => rw [hop] at h3; cases h3
     |some b =>
      by_cases k13 : o.kind = 13
      ·exact eff_seek B Bv g gm gp us s its P o V b w h hv hk k13 hc hop
      ·exact eff_close B Bv g gm gp us s its P o V b w h hv hk (by omega) hc hop
  ·exact eff_err B Bv g gm gp us s its P o V e0 w h hv hk ⟨h11, hkd.2⟩ he0
 ·have he0 := he.h0 (by omega)
  subst he0
  by_cases k1 : o.kind = 1
  ·exact eff_set N B Bv g gm gp us s its P o V w h hv hk hi hn hB (hs (.inl k1)).1 (hs (.inl k1)).2 hus k1
  ·by_cases k2 : o.kind = 2
   ·exact eff_setttl N B Bv g gm gp us s its P o V w h hv hk hi hn hB (hs (.inr k2)).1 (hs (.inr k2)).2 hus htt k2
   ·by_cases k8 : o.kind = 8
    ·exact eff_cfg B Bv g gm gp us s its P o V w h hv hk k8
    ·by_cases k35 : o.kind = 3 ∨ o.kind = 5
     ·rcases h.find hi.keys o.key with ⟨h1, h2⟩ | ⟨x, hx, h1, _, h2⟩
      ·exact eff_miss B Bv g gm gp us s its P o V w h hv hk k35 h1 h2
      ·rcases k35 with k3 | k5
       ·exact eff_get B Bv g gm gp us s its P o V x w h hv hk hi.asc hus k3 hx h1 h2
       ·exact eff_touch N B Bv g gm gp us s its P o V x w h hv hk hi hus htt k5 hx h1 h2
     ·exact eff_plain B Bv g gm gp us s its P o V w h hv hk (by omega)
end Go.Proofs.YtnabbimompapfaaGreat
