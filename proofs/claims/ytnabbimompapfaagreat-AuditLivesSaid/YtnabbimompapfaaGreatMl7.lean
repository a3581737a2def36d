/- AudRXd, AudRY, AudRZ -/
import Derived.Test.YtnabbimompapfaaGreatMl5
import Derived.Test.YtnabbimompapfaaGreatMl6
namespace Go.Proofs.YtnabbimompapfaaGreat
open Go Go.RowKit
set_option maxHeartbeats 8000000 in
set_option maxRecDepth 100000 in
theorem kEffect_setd (B Bv g : Nat) (vL vU : Value) (pv : Nat → Int) (s : PJ) (ps : List (EntV × Value)) (o : OpV) (A : Option Addr) (c : Nat) (w : World) (P : EfP w B g vL vU pv s ps) (hk : o.kind = 2) (ht : 0 ≤ s.now ∧ s.now ≤ neverT) (htt : 0 ≤ o.ttl)
  (hv : Bts w Bv 5 (.slice A o.val.length c) o.val) (hBv : Bv ≤ B) (hvl : o.val.length ≤ 100000) (hbi : 0 ≤ s.births ∧ s.births ≤ 100000) (hnu : ∀ u ∈ s.U, u ≤ s.births) (hf : findP s.L o.key ≠ none) :
  Calls Tryz.prog 32 #[.pointer (some ⟨g, 0, none⟩), opv o (.slice A o.val.length c), .int .i64 0, .int .u64 s.now] w (EfRet B g (effP s o 0) w) := by
 have HFi := zH (fun ob => kFind_any B g vL vU pv s ps o.key (w.alloc ob) (P.k.below ((zL _ _).alloc (zN _) _)) (by have := P.n; omega))
 have HX : Hid (EfX w (w.alloc (.cells (opc o (.slice A o.val.length c)) 43)) B g vL vU pv s ps o (.slice A o.val.length c)) := zH (EfX.new P.k)
 have HIx := zH (idx_find P.k.map o.key)
 unfold opv
 unfold opc at HX ⊢
 have HP := zH P
 have hnI : (ps.length : Int) ≤ 90000 := by have := P.n; omega
 obtain ⟨LA, lc, rfl, hlc, _⟩ := own_form P.k.L
 have hlcI : (ps.length : Int) ≤ (lc : Int) := by omega
 clear P hlc
 obtain ⟨i, hi⟩ : ∃ i, idxI (fun p : EntV × Value => decide (p.1.key = o.key)) ps = i := ⟨_, rfl⟩
 rw [hi] at HFi HIx
 clear hi
 have q1 : (o.kind == 1) = false := by simp [hk]
 have q2 : (o.kind == 2) = true := by simp [hk]
 have q3 : (o.kind == 3) = false := by simp [hk]
 have q5 : (o.kind == 5) = false := by simp [hk]
 have q6 : (o.kind == 6) = false := by simp [hk]
 have q7 : (o.kind == 7) = false := by simp [hk]
 have q8 : (o.kind == 8) = false := by simp [hk]
 have q11 : (o.kind == 11) = false := by simp [hk]
 have q12 : (o.kind == 12) = false := by simp [hk]
 have q13 : (o.kind == 13) = false := by simp [hk]
 have q14 : (o.kind == 14) = false := by simp [hk]
 rcases HIx.out with ⟨h1, h2⟩ | ⟨j, ⟨ev, V⟩, hj, h1, h2, h3⟩
 ·exact absurd h1 hf
 ·subst h2
  have HVk : Hid (∀ W, Only (KS B w) w W → Bts W Bv 5 (.slice A o.val.length c) o.val) := zH (fun W ho => hv.keep (KeepB.of_only ho (fun k _ hk => ⟨Nat.le_trans hBv hk.1, fun c fr e => by obtain ⟨_, cs, t, fr2, e2, h3⟩ := hk; rw [e] at e2; injection e2 with e2; injection e2 with _ e2 _; subst e2; rcases h3 with h3 | h3 <;> exact absurd h3 (by decide)⟩)))
  have HVl := zH hvl
  have HEf : Hid (effP s o 0 = setP s o (addP s.now o.ttl)) := zH (by rw [effP_set (by omega)]; simp [hk])
  have HFs := zH h1
  have HKs := zH h3
  have HAd := zH (fun W => refAdd_any s.now o.ttl W ht.1 ht.2 htt)
  obtain ⟨VA, vc, hV⟩ := (HP.out.k.vals _ (List.mem_of_getElem? hj)).form
  dsimp only at hV
  subst hV
  have HJ := zH hj
  have hj0 : (0 : Int) ≤ (j : Int) := by omega
  have hjI : (j : Int) < (ps.length : Int) := by have := (List.getElem?_eq_some_iff.1 hj).1; omega
  obtain ⟨gL, rfl⟩ : ∃ gL, LA = some ⟨gL, 0, none⟩ := by
   rcases HP.out.k.L.2 with ⟨_, h0⟩ | ⟨q, c, cur, eq, _⟩
   ·omega
   ·injection eq with eq _ _
    exact ⟨q, eq⟩
  have HIl := zH (List.getElem?_eq_some_iff.1 hj).1
  have HLc : Hid (ps.length ≤ lc) := zH (by omega)
  clear h1 h3 hk hj hv hvl hbi hnu hBv ht htt
  go_enter Tryz.func32, Tryz.ntmps32
  go_wp2_with fail
  refine (HFi.out _).mono ?_
  rintro e w1 ⟨rfl, hw⟩
  subst hw
  obtain ⟨W0, hW0⟩ : ∃ W0, w.alloc (.cells #[.int .i64 o.kind, .int .u64 o.ticks, .string o.key, .slice A o.val.length c, .int .u64 o.ttl, .int .i64 o.count, .int .i64 o.bytes, .int .i64 o.cursor, .int .u64 o.birth] 43) = W0 := ⟨_, rfl⟩
  rw [hW0] at HX ⊢
  clear hW0 HFi HIx
  obtain ⟨z0, z2, z3, z4, z7⟩ := op_cells' HX.out.box
  obtain ⟨ek, el, ed, eb⟩ := ev
  dsimp only at HJ HFs HKs
  go_upto_region 9 with fail
  have HN1 : Hid (ps.length ≤ 100000) := zH (by have := HP.out.n; omega)
  obtain ⟨ps1, hps1⟩ : ∃ ps1, ps1 = ps := ⟨_, rfl⟩
  obtain ⟨s1, hs1⟩ : ∃ s1, s1 = s := ⟨_, rfl⟩
  obtain ⟨vU1, hvU1⟩ : ∃ vU1, vU1 = vU := ⟨_, rfl⟩
  obtain ⟨W6, hW6⟩ : ∃ W6, W6 = W0 := ⟨_, rfl⟩
  subst hW6
  obtain ⟨s9, hs9⟩ : ∃ s9, effP s o 0 = s9 := ⟨_, rfl⟩
  have H9n : Hid (useP { s1 with L := s1.L.set j ⟨o.key, o.val, addP s.now o.ttl, eb⟩ } eb = s9) := zH (by
   rw [hs1, ← hs9, HEf.out]
   exact set_some_eq HFs.out HKs.out (by rw [← HP.out.k.map, List.getElem?_map, HJ.out]; rfl) HP.out.asc _)
  have HUn : Hid (s1.U.length ≤ 100000) := zH (by rw [hs1]; have := HP.out.u; omega)
  have HX6 := zH HX.out
  rw [← hps1] at HX6 HN1 HIl HLc hjI hlcI hnI HJ
  rw [← hs1, ← hvU1] at HX6
  have HS := zH hs9
  clear hps1 hs1 hvU1 hs9 hnI HX z0 z2 z3 z4 z7
  obtain ⟨ti, kti, zt0, zt1, zt2⟩ := info_parts entI_info
  obtain ⟨i0, hi0, hz0, hz1, hz2⟩ := info_parts u8_info
  refine wp_region_noPanic ?_
  have HXd := zH (EfX.adv HX6.out (zL _ _).drew)
  have HBd : Hid (Below W6.heap.size W6 W6.drew) := zH (zL _ _).drew
  refine wp_region_till [15] (fun W => EfX w W B g (.slice (some ⟨gL, 0, none⟩) ps1.length lc) vU1 pv s1 ps1 o (.slice A o.val.length c)) (fun _ => True) (by kernel_rfl) trivial HXd.out (fun hTill => ?_)
  generalize W6.drew = W7 at HXd HBd hTill ⊢
  refine Pl.go [0, 1, 2, 3] ?_
  iterate 4
   refine ttl (v := ?_) ?_ ?_
   rotate_left 1
   ·intro W hSw
    obtain ⟨z0, z2, z3, z4, z7⟩ := op_cells' hSw.2.box; have x7 : W.cell? ⟨g, 7, none⟩ = some (.slice (some ⟨gL, 0, none⟩) ps1.length lc) := hSw.2.k.cell 7 (by omega); obtain ⟨y0, y1, y2, y3⟩ := hSw.2.k.entAt HJ.out; dsimp only at y0 y1 y2 y3
    clear hSw
    go_simp
    try with_reducible rfl
   try dsimp only [zS, zB, zC]
   clear hTill
   intro hTill
  refine Pl.stop ?_
  refine Pl.go [5, 6, 7, 8, 9, 10, 11, 12] ?_
  iterate 8
   refine ttl (v := ?_) ?_ ?_
   rotate_left 1
   ·intro W hSw
    obtain ⟨z0, z2, z3, z4, z7⟩ := op_cells' hSw.2.box; have x7 : W.cell? ⟨g, 7, none⟩ = some (.slice (some ⟨gL, 0, none⟩) ps1.length lc) := hSw.2.k.cell 7 (by omega); obtain ⟨y0, y1, y2, y3⟩ := hSw.2.k.entAt HJ.out; dsimp only at y0 y1 y2 y3
    clear hSw
    go_simp
    try with_reducible rfl
   try dsimp only [zS, zB, zC]
   clear hTill
   intro hTill
  refine Pl.stop ?_
  have HV7 : Hid (Bts W7 Bv 5 (.slice A o.val.length c) o.val) := zH (HVk.out W7 HXd.out.only)
  have HB7 : Hid (B ≤ W7.heap.size) := zH (Nat.le_trans HP.out.hB HXd.out.only.size)
  generalize hxd : (18446744073709551615 : Int) = xn
  have HXd2 : Hid (neverT = xn) := zH hxd
  clear hxd
  refine wpTill.two (i := 4) (j := 14) (o := ⟨_, _, _, _, _, _⟩) (o2 := ⟨_, _, _, _, _, _⟩) (by kernel_rfl) rfl rfl (fun F hF => ?_) (fun F hF => ?_)
  ·refine step_append_src _ rfl (.const (.slice none 0 0)) (.tmp 55) 37 rfl W7.heap.size 5 i0 _ 1 1 Tryz.underlying37 hi0 hz0 hz1 hz2 rfl (by decide) _ 0 [] rfl (World.ownsRow_nil _ _ _ _) A o.val.length c (bcells o.val) rfl (Bts.src_at HV7.out).2 (bcells_one _) (by have := HVl.out; unfold maxLen; omega) (by have := HVl.out; omega) (zN _) ?_
   intro v8 w8 hown8 hg8 hat8
   rw [Nat.zero_add, List.nil_append] at hown8
   have HX8 := zH (HXd.out.adv (below_grown hg8))
   have HB8 := zH (HBd.out.trans ((below_grown hg8).mono HBd.out.size))
   have HO8 := zH hown8
   obtain ⟨A8, c8, rfl, _, _⟩ := own_form hown8
   clear hown8 hg8 hat8
   refine hF.out _ _ (Till.of trivial HX8.out) (fun hTill => ?_)
   clear hF F
   try simp only [Act.put, zA, zB, zC]
   refine ts 13 (v := ?_) ?_ ?_
   rotate_left 1
   ·intro W hSw
    skip
    clear hSw
    go_simp
    try with_reducible rfl
   try dsimp only [zS, zB, zC]
   clear hTill
   intro hTill
   refine wpTill.only (i := 14) (o := ⟨_, _, _, _, _, _⟩) (by kernel_rfl) rfl (fun F hF => ?_)
   go_simp
   have HX9 := zH (HX8.out.adv ((zL _ _).alloc (zN _) (.cells #[.string ⟨#[]⟩, .slice none 0 0, .int .u64 0, .int .u64 0] 40)))
   have HB9 := zH (HB8.out.alloc HB8.out.size (.cells #[.string ⟨#[]⟩, .slice none 0 0, .int .u64 0, .int .u64 0] 40))
   have HO9 := zH (own_later' HO8.out ((zL _ _).alloc (zN _) (.cells #[.string ⟨#[]⟩, .slice none 0 0, .int .u64 0, .int .u64 0] 40)))
   have HZ9 := zH (Blk.new w8 40 #[.string ⟨#[]⟩, .slice none 0 0, .int .u64 0, .int .u64 0])
   have HG9 : Hid (W6.heap.size ≤ w8.heap.size) := zH HB8.out.size
   refine hF.out _ _ (Till.of trivial HX9.out) (fun hTill => ?_)
   clear hF F
   try simp only [Act.put, zA, zB, zC]
   generalize w8.heap.size = gx at HZ9 HG9 ⊢
   generalize w8.alloc _ = w9 at HX9 HB9 HO9 HZ9 ⊢
   have c0 := HZ9.out.cell 0 _ rfl
   have c1 := HZ9.out.cell 1 _ rfl
   have c2 := HZ9.out.cell 2 _ rfl
   have c3 := HZ9.out.cell 3 _ rfl
   have cf := HZ9.out.frozen
   refine wpTill.only (i := 15) (o := ⟨_, _, _, _, _, _⟩) (by kernel_rfl) rfl (fun F hF => ?_)
   go_simp
   refine hF.out _ _ (Till.stored trivial (by kernel_rfl)) (fun hTill => ?_)
   clear hF F
   try simp only [Act.put, zA, zB, zC]
   refine wpTill.done (by kernel_rfl) ?_
   try refine NoPanic.normal ?_
   have HBx : Hid (Blk ((((w9.setCell ⟨gx, 0, none⟩ (.string o.key)).setCell ⟨gx, 1, none⟩ (.slice A8 o.val.length c8)).setCell ⟨gx, 2, none⟩ (.int .u64 xn)).setCell ⟨gx, 3, none⟩ (.int .u64 eb)) gx 40 (entc ⟨o.key, o.val, xn, eb⟩ (.slice A8 o.val.length c8))) := zH ((((HZ9.out.set_ 0 _).set_ 1 _).set_ 2 _).set_ 3 _)
   have HB10 : Hid (Below W6.heap.size W6 ((((w9.setCell ⟨gx, 0, none⟩ (.string o.key)).setCell ⟨gx, 1, none⟩ (.slice A8 o.val.length c8)).setCell ⟨gx, 2, none⟩ (.int .u64 xn)).setCell ⟨gx, 3, none⟩ (.int .u64 eb))) := zH ((((HB9.out.setCell (p := ⟨gx, 0, none⟩) HG9.out _).setCell (p := ⟨gx, 1, none⟩) HG9.out _).setCell (p := ⟨gx, 2, none⟩) HG9.out _).setCell (p := ⟨gx, 3, none⟩) HG9.out _)
   have HVx0 : Hid (Bts ((((w9.setCell ⟨gx, 0, none⟩ (.string o.key)).setCell ⟨gx, 1, none⟩ (.slice A8 o.val.length c8)).setCell ⟨gx, 2, none⟩ (.int .u64 xn)).setCell ⟨gx, 3, none⟩ (.int .u64 eb)) B 5 (.slice A8 o.val.length c8) o.val) := zH ((Bts.of_own HO9.out B).keep (KeepB.of_blk HZ9.out (by decide) (by have := HG9.out; have := HX6.out.only.size; have := HP.out.hB; omega) ((((Only.set1 _ _ _ _).setCell (S := fun k => k = gx) (p := ⟨gx, 1, none⟩) (.inl rfl) _).setCell (p := ⟨gx, 2, none⟩) (.inl rfl) _).setCell (p := ⟨gx, 3, none⟩) (.inl rfl) _)))
   clear c0 c1 c2 c3 cf hTill HZ9 HO9 HB9 HX9
   generalize World.setCell _ _ _ = w10 at HBx HB10 HVx0 ⊢
   have HX10 := zH (HX6.out.adv HB10.out)
   obtain ⟨z0, z2, z3, z4, z7⟩ := op_cells' HX10.out.box
   clear hj0
   go_wp2_with fail
   refine (HAd.out _).mono ?_
   rintro e2 w4 ⟨rfl, hw4⟩
   subst hw4
   obtain ⟨c0, c1, c2, c3⟩ := ent_cells HBx.out
   have cf := HBx.out.frozen
   go_upto_region 12 with fail
   have HLt : Hid (g < gx) := zH (by have := HG9.out; have := HX6.out.only.size; have := HX6.out.lt; omega)
   have HNx : Hid (gx ≠ g) := zH (fun h => by have := HLt.out; omega)
   obtain ⟨xd, hxd⟩ : ∃ xd, addP s.now o.ttl = xd := ⟨_, rfl⟩
   have H9 : Hid (useP { s1 with L := s1.L.set j ⟨o.key, o.val, xd, eb⟩ } eb = s9) := zH (hxd ▸ H9n.out)
   rw [hxd]
   have HB11 : Hid (Below W6.heap.size W6 (w10.setCell ⟨gx, 2, none⟩ (.int .u64 xd))) := zH (HB10.out.setCell (p := ⟨gx, 2, none⟩) HG9.out _)
   have HBy : Hid (Blk (w10.setCell ⟨gx, 2, none⟩ (.int .u64 xd)) gx 40 (entc ⟨o.key, o.val, xd, eb⟩ (.slice A8 o.val.length c8))) := zH (HBx.out.set_ 2 _)
   have HLy : Hid (LyX w (w10.setCell ⟨gx, 2, none⟩ (.int .u64 xd)) (w10.setCell ⟨gx, 2, none⟩ (.int .u64 xd)) B g (.slice (some ⟨gL, 0, none⟩) ps1.length lc) vU1 pv s1 ps1 o (.slice A o.val.length c) gx ⟨o.key, o.val, xd, eb⟩ (.slice A8 o.val.length c8)) := zH ⟨HX6.out.adv HB11.out, HBy.out, zL _ _⟩
   have HVx : Hid (Bts (w10.setCell ⟨gx, 2, none⟩ (.int .u64 xd)) B 5 (.slice A8 o.val.length c8) o.val) := zH (HVx0.out.keep (KeepB.of_blk HBx.out (by decide) (by have := HG9.out; have := HX6.out.only.size; have := HP.out.hB; omega) (Only.set1 _ _ _ _)))
   clear HBx HBy HB10 HB11 HVx0 HX10 H9n HXd2 z0 z2 z3 z4 z7 c0 c1 c2 c3 cf hxd
   generalize w10.setCell _ _ = w2 at HLy HVx ⊢
   refine wp_region_noPanic ?_
   have HLd := zH (HLy.out.adv (zL _ _).drew)
   refine wp_region_till [21] (fun W => LyX w w2 W B g (.slice (some ⟨gL, 0, none⟩) ps1.length lc) vU1 pv s1 ps1 o (.slice A o.val.length c) gx ⟨o.key, o.val, xd, eb⟩ (.slice A8 (o.val).length c8)) (fun _ => True) (by kernel_rfl) trivial HLd.out (fun hTill => ?_)
   generalize w2.drew = w3 at HLd hTill ⊢
   have hj1 : j ≤ lc := by have := HIl.out; have := HLc.out; omega
   have hj2 : j + 1 ≤ ps1.length := HIl.out
   have hj3 : ps1.length ≤ lc := HLc.out
   have hj4 : j + 1 ≤ lc := by omega
   have HWr : Hid (IntKind.i64.wrap ((j : Int) + 1) = (j : Int) + 1 ∧ ((j : Int) + 1).toNat = j + 1) := zH ⟨by rw [IntKind.wrap_i64 _]; have := HN1.out; omega, by omega⟩
   have hj6 : (0 : Int) ≤ (j : Int) + 1 := by omega
   have hj5 : (j : Int) + 1 ≤ (ps1.length : Int) := by omega
   refine Pl.go [0, 1, 2, 3] ?_
   iterate 4
    refine tsl (v := ?_) ?_ ?_
    rotate_left 1
    ·intro W hSw
     skip
     clear hSw
     go_simp
     try with_reducible rfl
    try dsimp only [zS, zB, zC]
    clear hTill
    intro hTill
   refine Pl.stop ?_
   refine tt 4 (v := ?_) ?_ ?_
   rotate_left 1
   ·intro W hSw
    have x7 : W.cell? ⟨g, 7, none⟩ = some (.slice (some ⟨gL, 0, none⟩) ps1.length lc) := hSw.2.e.k.cell 7 (by omega); obtain ⟨c0, c1, c2, c3⟩ := ent_cells hSw.2.x
    clear hSw
    go_simp
    try with_reducible rfl
   try dsimp only [zS, zB, zC]
   clear hTill
   intro hTill
   refine Pl.go [5, 6] ?_
   iterate 2
    refine tsl (v := ?_) ?_ ?_
    rotate_left 1
    ·intro W hSw
     skip
     clear hSw
     go_simp
     try with_reducible rfl
    try dsimp only [zS, zB, zC]
    clear hTill
    intro hTill
   refine Pl.stop ?_
   refine tt 8 (v := ?_) ?_ ?_
   rotate_left 1
   ·intro W hSw
    have x7 : W.cell? ⟨g, 7, none⟩ = some (.slice (some ⟨gL, 0, none⟩) ps1.length lc) := hSw.2.e.k.cell 7 (by omega); obtain ⟨c0, c1, c2, c3⟩ := ent_cells hSw.2.x
    clear hSw
    go_simp
    try with_reducible rfl
   try dsimp only [zS, zB, zC]
   clear hTill
   intro hTill
   refine Pl.go [11, 12, 13] ?_
   iterate 3
    refine tsl (v := ?_) ?_ ?_
    rotate_left 1
    ·intro W hSw
     skip
     clear hSw
     go_simp
     try with_reducible rfl
    try dsimp only [zS, zB, zC]
    clear hTill
    intro hTill
   refine Pl.stop ?_
   refine tt 14 (v := ?_) ?_ ?_
   rotate_left 1
   ·intro W hSw
    have x7 : W.cell? ⟨g, 7, none⟩ = some (.slice (some ⟨gL, 0, none⟩) ps1.length lc) := hSw.2.e.k.cell 7 (by omega); obtain ⟨c0, c1, c2, c3⟩ := ent_cells hSw.2.x
    clear hSw
    go_simp
    try with_reducible rfl
   try dsimp only [zS, zB, zC]
   clear hTill
   intro hTill
   refine ts 15 (v := ?_) ?_ ?_
   rotate_left 1
   ·intro W hSw
    skip
    clear hSw
    go_simp
    try with_reducible rfl
   try dsimp only [zS, zB, zC]
   clear hTill
   intro hTill
   refine ts 16 (v := ?_) ?_ ?_
   rotate_left 1
   ·intro W hSw
    have hwr := HWr.out.1
    clear hSw
    go_simp
    try with_reducible rfl
   try dsimp only [zS, zB, zC]
   clear hTill
   intro hTill
   refine ts 17 (v := ?_) ?_ ?_
   rotate_left 1
   ·intro W hSw
    have hwr := HWr.out.2
    clear hSw
    go_simp
    try with_reducible rfl
   try dsimp only [zS, zB, zC]
   clear hTill
   intro hTill
   have HSa : Hid (∀ W, KRep W B g (.slice (some ⟨gL, 0, none⟩) ps1.length lc) vU1 pv s1 ps1 → Src W 4 (some ⟨gL, 0, none⟩) j (ecs (ps1.take j))) := zH (fun W hW => by
    have := row_src hW.L rfl 0 j (by omega)
    rwa [List.drop_zero, Nat.zero_mul] at this)
   have HSb : Hid (∀ W, KRep W B g (.slice (some ⟨gL, 0, none⟩) ps1.length lc) vU1 pv s1 ps1 → Src W 4 (if lc = j + 1 then (some ⟨gL, 0, none⟩ : Option Addr) else some ⟨gL, (j + 1) * 4, none⟩) (ps1.length - (j + 1)) (ecs (ps1.drop (j + 1)))) := zH (fun W hW => by
    split
    ·rename_i hl
     have e0 : ps1.length - (j + 1) = 0 := by omega
     have e1 : ps1.drop (j + 1) = [] := List.drop_eq_nil_of_le (by omega)
     rw [e0, e1]
     exact ⟨rfl, (fun _ => rfl), fun q _ j u hu => by simp [ecs] at hu⟩
    ·have := row_src hW.L rfl (j + 1) (ps1.length - (j + 1)) (by omega)
     rw [List.take_of_length_le (by rw [List.length_drop]; exact zN _)] at this
     exact this)
   have HOn : Hid (∀ qs : List (EntV × Value), (∀ q ∈ qs, q ∈ ps1) → ∀ u ∈ ecs qs, u.oneCell' = true) := zH (fun qs hq => ecs_one qs (fun q hm => by
    obtain ⟨A, c, e⟩ := (HLy.out.e.k.vals q (hq q hm)).form
    exact ⟨A, _, c, e⟩))
   generalize (if lc = j + 1 then (some ⟨gL, 0, none⟩ : Option Addr) else some ⟨gL, (j + 1) * 4, none⟩) = A14 at HSb ⊢
   have HB3 : Hid (B ≤ w3.heap.size) := zH (Nat.le_trans HP.out.hB HLd.out.e.only.size)
   clear hj1 hj2 hj3 hj4 hj5 hj6 HWr
   refine wpTill.two (i := 7) (j := 9) (o := ⟨_, _, _, _, _, _⟩) (o2 := ⟨_, _, _, _, _, _⟩) (by kernel_rfl) rfl rfl (fun F hF => ?_) (fun F hF => ?_)
   ·refine step_append_src _ rfl (.const (.slice none 0 0)) (.tmp 80) 33 rfl w3.heap.size 40 ti _ 4 56 Tryz.underlying33 kti zt0 zt1 zt2 rfl (by decide) _ 0 [] rfl (World.ownsRow_nil _ _ _ _) (some ⟨gL, 0, none⟩) j lc (ecs (ps1.take j)) rfl (HSa.out _ HLd.out.e.k) (HOn.out _ (fun q hq => List.mem_of_mem_take hq)) (by have := HIl.out; have := HN1.out; unfold maxLen; omega) (by have := HIl.out; have := HN1.out; omega) (zN _) ?_
    intro v7 w7 hown7 hg7 hat7
    have hb7 : Below w3.heap.size w3 w7 := (zL _ _).grown hg7 (zN _) (fun k hk => by cases hk)
    have HL7 := zH (HLd.out.adv hb7)
    rw [Nat.zero_add, List.nil_append] at hown7
    have HO7 := zH hown7
    have HB7 := zH hb7
    obtain ⟨A7, c7, rfl, _, _⟩ := own_form hown7
    clear hown7 hg7 hat7 hb7
    refine hF.out _ _ (Till.of trivial HL7.out) (fun hTill => ?_)
    clear hF F
    try simp only [Act.put, zA, zB, zC]
    refine wpTill.only (i := 9) (o := ⟨_, _, _, _, _, _⟩) (by kernel_rfl) rfl (fun F hF => ?_)
    go_simp
    have HL9 := zH (HL7.out.adv ((zL _ _).alloc (zN _) (.cells #[.string o.key, .slice A8 (o.val).length c8, .int .u64 xd, .int .u64 eb] 40)))
    have HO9 := zH (own_later' HO7.out ((zL _ _).alloc (zN _) (.cells #[.string o.key, .slice A8 (o.val).length c8, .int .u64 xd, .int .u64 eb] 40)))
    have HB9 := zH (HB7.out.alloc HB7.out.size (.cells #[.string o.key, .slice A8 (o.val).length c8, .int .u64 xd, .int .u64 eb] 40))
    have HX9 := zH (Blk.new w7 40 #[.string o.key, .slice A8 (o.val).length c8, .int .u64 xd, .int .u64 eb])
    refine hF.out _ _ (Till.of trivial HL9.out) (fun hTill => ?_)
    clear hF F
    try simp only [Act.put, zA, zB, zC]
    generalize hw9 : w7.alloc _ = w9 at HL9 HO9 HB9 HX9 ⊢
    clear hw9
    generalize w7.heap.size = gB at HX9 ⊢
    refine wpTill.only (i := 10) (o := ⟨_, _, _, _, _, _⟩) (by kernel_rfl) rfl (fun F hF => ?_)
    refine step_append_src _ rfl (.tmp 81) (.tmp 83) 33 rfl w3.heap.size 40 ti _ 4 56 Tryz.underlying33 kti zt0 zt1 zt2 rfl (by decide) _ j (ecs (ps1.take j)) rfl HO9.out (some ⟨gB, 0, none⟩) 1 1 (entc ⟨o.key, o.val, xd, eb⟩ (.slice A8 (o.val).length c8)).toList rfl (src_blk HX9.out) (by intro u hu; simp [entc] at hu; rcases hu with rfl | rfl | rfl | rfl <;> rfl) (by have := HIl.out; have := HN1.out; unfold maxLen; omega) (by have := HIl.out; have := HN1.out; omega) HB9.out.size ?_
    intro v10 w10 hown10 hg10 hat10
    have hb10 : Below w3.heap.size w3 w10 := HB9.out.grown hg10 HB9.out.size (fun k hk => (row_heap' HO9.out hk).1)
    have HL10 := zH (HLd.out.adv hb10)
    have HO10 := zH hown10
    have HB10 := zH hb10
    obtain ⟨A10, c10, rfl, _, _⟩ := own_form hown10
    clear hown10 hg10 hat10 hb10 HX9 HB9 HO9 HL9
    refine hF.out _ _ (Till.of trivial HL10.out) (fun hTill => ?_)
    clear hF F
    try simp only [Act.put, zA, zB, zC]
    refine wpTill.only (i := 18) (o := ⟨_, _, _, _, _, _⟩) (by kernel_rfl) rfl (fun F hF => ?_)
    refine step_append_src _ rfl (.tmp 84) (.tmp 91) 33 rfl w3.heap.size 40 ti _ 4 56 Tryz.underlying33 kti zt0 zt1 zt2 rfl (by decide) _ (j + 1) (ecs (ps1.take j) ++ (entc ⟨o.key, o.val, xd, eb⟩ (.slice A8 (o.val).length c8)).toList) rfl HO10.out A14 (ps1.length - (j + 1)) (lc - (j + 1)) (ecs (ps1.drop (j + 1))) rfl (HSb.out _ HL10.out.e.k) (HOn.out _ (fun q hq => List.mem_of_mem_drop hq)) (by have := HIl.out; have := HN1.out; unfold maxLen; omega) (by have := HIl.out; have := HN1.out; omega) HB10.out.size ?_
    intro v11 w11 hown11 hg11 hat11
    have hb11 : Below w3.heap.size w3 w11 := HB10.out.grown hg11 HB10.out.size (fun k hk => (row_heap' HO10.out hk).1)
    have HL11 := zH (HLd.out.adv hb11)
    have HO11 : Hid (w11.ownsRow B 40 4 v11 ps1.length (ecs (ps1.set j (⟨o.key, o.val, xd, eb⟩, .slice A8 (o.val).length c8)))) := zH (by
     have h := ownsRow_base hown11 HB3.out
     rw [← ecs_set _ _ _ _ HIl.out] at h
     have e : j + 1 + (ps1.length - (j + 1)) = ps1.length := by have := HIl.out; omega
     rw [e] at h
     exact h)
    obtain ⟨A11, c11, rfl, _, _⟩ := own_form HO11.out
    clear hown11 hg11 hat11 hb11 HL10 HO10 HB10
    refine hF.out _ _ (Till.of trivial HL11.out) (fun hTill => ?_)
    clear hF F
    try simp only [Act.put, zA, zB, zC]
    refine ts 19 (v := ?_) ?_ ?_
    rotate_left 1
    ·intro W hSw
     skip
     clear hSw
     go_simp
     try with_reducible rfl
    try dsimp only [zS, zB, zC]
    clear hTill
    intro hTill
    refine ts 20 (v := ?_) ?_ ?_
    rotate_left 1
    ·intro W hSw
     skip
     clear hSw
     go_simp
     try with_reducible rfl
    try dsimp only [zS, zB, zC]
    clear hTill
    intro hTill
    have x7 : w11.cell? ⟨g, 7, none⟩ = some (.slice (some ⟨gL, 0, none⟩) ps1.length lc) := HL11.out.e.k.cell 7 (by omega)
    have f7 := HL11.out.e.k.frozen 7
    refine wpTill.only (i := 21) (o := ⟨_, _, _, _, _, _⟩) (by kernel_rfl) rfl (fun F hF => ?_)
    go_simp
    have HK12 : Hid (KRep (w11.setCell ⟨g, 7, none⟩ (.slice A11 ps1.length c11)) B g (.slice A11 ps1.length c11) vU1 pv { s1 with L := s1.L.set j ⟨o.key, o.val, xd, eb⟩ } (ps1.set j (⟨o.key, o.val, xd, eb⟩, .slice A8 (o.val).length c8))) := zH (by
     refine HL11.out.e.k.setL (by rw [List.length_set]; exact HO11.out) ?_ (fun p hp => ?_)
     ·rw [← HL11.out.e.k.map, List.map_set]
     ·rcases List.mem_or_eq_of_mem_set hp with h | h
      ·exact HL11.out.e.k.vals p h
      ·rw [h]; exact HVx.out.below HL11.out.below)
    have HX12 := zH ((HL11.out.e).next HK12.out (Only.set1 _ _ _ _))
    have HXb12 := zH (HL11.out.x.far (p := ⟨g, 7, none⟩) (HNx.out) (.slice A11 ps1.length c11))
    refine hF.out _ _ (Till.stored trivial (by kernel_rfl)) (fun hTill => ?_)
    clear hF F x7 f7
    try simp only [Act.put, zA, zB, zC]
    refine wpTill.done (by kernel_rfl) ?_
    try refine NoPanic.normal ?_
    clear hTill HL11 HLd HK12 HO11
    generalize w11.setCell ⟨g, 7, none⟩ _ = w12 at HX12 HXb12 ⊢
    clear HB3 HSa HSb HOn
    obtain ⟨c0, c1, c2, c3⟩ := ent_cells HXb12.out
    dsimp only at c0 c1 c2 c3
    go_wp2_with fail
    refine (kUse_any B g _ _ pv _ _ eb w12 HX12.out.k HUn.out (Nat.le_trans HP.out.hB HX12.out.only.size)).mono ?_
    rintro e w13 ⟨vU2, rfl, hk13, ho13⟩
    have HX13 := zH (HX12.out.next (H9.out ▸ hk13) ho13)
    clear hk13 ho13 c0 c1 c2 c3 HXb12 HX12
    obtain ⟨z0, z2, z3, z4, z7⟩ := op_cells' HX13.out.box
    go_wp2_with fail
    refine bodyPost_end (v := .tuple #[]) (results_none rfl _ _ _) rfl ?_
    rw [HS.out]
    exact ⟨_, _, _, _, rfl, (HX13).out.k, (HX13).out.only⟩
   ·go_simp
    have HL8 := zH (HLd.out.adv ((zL _ _).alloc (zN _) (.cells #[.string o.key, .slice A8 (o.val).length c8, .int .u64 xd, .int .u64 eb] 40)))
    have HB8 := zH ((zL w3.heap.size w3).alloc (zN _) (.cells #[.string o.key, .slice A8 (o.val).length c8, .int .u64 xd, .int .u64 eb] 40))
    have HX8 := zH (Blk.new w3 40 #[.string o.key, .slice A8 (o.val).length c8, .int .u64 xd, .int .u64 eb])
    refine hF.out _ _ (Till.of trivial HL8.out) (fun hTill => ?_)
    clear hF F
    try simp only [Act.put, zA, zB, zC]
    generalize hw8 : w3.alloc _ = w8 at HL8 HB8 HX8 ⊢
    clear hw8
    refine wpTill.only (i := 7) (o := ⟨_, _, _, _, _, _⟩) (by kernel_rfl) rfl (fun F hF => ?_)
    refine step_append_src _ rfl (.const (.slice none 0 0)) (.tmp 80) 33 rfl w8.heap.size 40 ti _ 4 56 Tryz.underlying33 kti zt0 zt1 zt2 rfl (by decide) _ 0 [] rfl (World.ownsRow_nil _ _ _ _) (some ⟨gL, 0, none⟩) j lc (ecs (ps1.take j)) rfl (HSa.out _ HL8.out.e.k) (HOn.out _ (fun q hq => List.mem_of_mem_take hq)) (by have := HIl.out; have := HN1.out; unfold maxLen; omega) (by have := HIl.out; have := HN1.out; omega) (zN _) ?_
    intro v7 w9 hown7 hg7 hat7
    have hb7 : Below w8.heap.size w8 w9 := (zL _ _).grown hg7 (zN _) (fun k hk => by cases hk)
    have HL9 := zH (HL8.out.adv hb7)
    rw [Nat.zero_add, List.nil_append] at hown7
    have HO9 := zH (ownsRow_base hown7 HB8.out.size)
    have HB9 : Hid (Below w3.heap.size w3 w9) := zH (HB8.out.trans (hb7.mono HB8.out.size))
    have HX9 := zH (HX8.out.below hb7)
    obtain ⟨A7, c7, rfl, _, _⟩ := own_form hown7
    clear hown7 hg7 hat7 hb7 HX8
    refine hF.out _ _ (Till.of trivial HL9.out) (fun hTill => ?_)
    clear hF F
    try simp only [Act.put, zA, zB, zC]
    generalize w3.heap.size = gB at HX9 ⊢
    refine wpTill.only (i := 10) (o := ⟨_, _, _, _, _, _⟩) (by kernel_rfl) rfl (fun F hF => ?_)
    refine step_append_src _ rfl (.tmp 81) (.tmp 83) 33 rfl w3.heap.size 40 ti _ 4 56 Tryz.underlying33 kti zt0 zt1 zt2 rfl (by decide) _ j (ecs (ps1.take j)) rfl HO9.out (some ⟨gB, 0, none⟩) 1 1 (entc ⟨o.key, o.val, xd, eb⟩ (.slice A8 (o.val).length c8)).toList rfl (src_blk HX9.out) (by intro u hu; simp [entc] at hu; rcases hu with rfl | rfl | rfl | rfl <;> rfl) (by have := HIl.out; have := HN1.out; unfold maxLen; omega) (by have := HIl.out; have := HN1.out; omega) HB9.out.size ?_
    intro v10 w10 hown10 hg10 hat10
    have hb10 : Below w3.heap.size w3 w10 := HB9.out.grown hg10 HB9.out.size (fun k hk => (row_heap' HO9.out hk).1)
    have HL10 := zH (HLd.out.adv hb10)
    have HO10 := zH hown10
    have HB10 := zH hb10
    obtain ⟨A10, c10, rfl, _, _⟩ := own_form hown10
    clear hown10 hg10 hat10 hb10 HX9 HB9 HO9 HL9
    refine hF.out _ _ (Till.of trivial HL10.out) (fun hTill => ?_)
    clear hF F
    try simp only [Act.put, zA, zB, zC]
    refine wpTill.only (i := 18) (o := ⟨_, _, _, _, _, _⟩) (by kernel_rfl) rfl (fun F hF => ?_)
    refine step_append_src _ rfl (.tmp 84) (.tmp 91) 33 rfl w3.heap.size 40 ti _ 4 56 Tryz.underlying33 kti zt0 zt1 zt2 rfl (by decide) _ (j + 1) (ecs (ps1.take j) ++ (entc ⟨o.key, o.val, xd, eb⟩ (.slice A8 (o.val).length c8)).toList) rfl HO10.out A14 (ps1.length - (j + 1)) (lc - (j + 1)) (ecs (ps1.drop (j + 1))) rfl (HSb.out _ HL10.out.e.k) (HOn.out _ (fun q hq => List.mem_of_mem_drop hq)) (by have := HIl.out; have := HN1.out; unfold maxLen; omega) (by have := HIl.out; have := HN1.out; omega) HB10.out.size ?_
    intro v11 w11 hown11 hg11 hat11
    have hb11 : Below w3.heap.size w3 w11 := HB10.out.grown hg11 HB10.out.size (fun k hk => (row_heap' HO10.out hk).1)
    have HL11 := zH (HLd.out.adv hb11)
    have HO11 : Hid (w11.ownsRow B 40 4 v11 ps1.length (ecs (ps1.set j (⟨o.key, o.val, xd, eb⟩, .slice A8 (o.val).length c8)))) := zH (by
     have h := ownsRow_base hown11 HB3.out
     rw [← ecs_set _ _ _ _ HIl.out] at h
     have e : j + 1 + (ps1.length - (j + 1)) = ps1.length := by have := HIl.out; omega
     rw [e] at h
     exact h)
    obtain ⟨A11, c11, rfl, _, _⟩ := own_form HO11.out
    clear hown11 hg11 hat11 hb11 HL10 HO10 HB10
    refine hF.out _ _ (Till.of trivial HL11.out) (fun hTill => ?_)
    clear hF F
    try simp only [Act.put, zA, zB, zC]
    refine ts 19 (v := ?_) ?_ ?_
    rotate_left 1
    ·intro W hSw
     skip
     clear hSw
     go_simp
     try with_reducible rfl
    try dsimp only [zS, zB, zC]
    clear hTill
    intro hTill
    refine ts 20 (v := ?_) ?_ ?_
    rotate_left 1
    ·intro W hSw
     skip
     clear hSw
     go_simp
     try with_reducible rfl
    try dsimp only [zS, zB, zC]
    clear hTill
    intro hTill
    have x7 : w11.cell? ⟨g, 7, none⟩ = some (.slice (some ⟨gL, 0, none⟩) ps1.length lc) := HL11.out.e.k.cell 7 (by omega)
    have f7 := HL11.out.e.k.frozen 7
    refine wpTill.only (i := 21) (o := ⟨_, _, _, _, _, _⟩) (by kernel_rfl) rfl (fun F hF => ?_)
    go_simp
    have HK12 : Hid (KRep (w11.setCell ⟨g, 7, none⟩ (.slice A11 ps1.length c11)) B g (.slice A11 ps1.length c11) vU1 pv { s1 with L := s1.L.set j ⟨o.key, o.val, xd, eb⟩ } (ps1.set j (⟨o.key, o.val, xd, eb⟩, .slice A8 (o.val).length c8))) := zH (by
     refine HL11.out.e.k.setL (by rw [List.length_set]; exact HO11.out) ?_ (fun p hp => ?_)
     ·rw [← HL11.out.e.k.map, List.map_set]
     ·rcases List.mem_or_eq_of_mem_set hp with h | h
      ·exact HL11.out.e.k.vals p h
      ·rw [h]; exact HVx.out.below HL11.out.below)
    have HX12 := zH ((HL11.out.e).next HK12.out (Only.set1 _ _ _ _))
    have HXb12 := zH (HL11.out.x.far (p := ⟨g, 7, none⟩) (HNx.out) (.slice A11 ps1.length c11))
    refine hF.out _ _ (Till.stored trivial (by kernel_rfl)) (fun hTill => ?_)
    clear hF F x7 f7
    try simp only [Act.put, zA, zB, zC]
    refine wpTill.done (by kernel_rfl) ?_
    try refine NoPanic.normal ?_
    clear hTill HL11 HLd HK12 HO11
    generalize w11.setCell ⟨g, 7, none⟩ _ = w12 at HX12 HXb12 ⊢
    clear HB3 HSa HSb HOn
    obtain ⟨c0, c1, c2, c3⟩ := ent_cells HXb12.out
    dsimp only at c0 c1 c2 c3
    go_wp2_with fail
    refine (kUse_any B g _ _ pv _ _ eb w12 HX12.out.k HUn.out (Nat.le_trans HP.out.hB HX12.out.only.size)).mono ?_
    rintro e w13 ⟨vU2, rfl, hk13, ho13⟩
    have HX13 := zH (HX12.out.next (H9.out ▸ hk13) ho13)
    clear hk13 ho13 c0 c1 c2 c3 HXb12 HX12
    obtain ⟨z0, z2, z3, z4, z7⟩ := op_cells' HX13.out.box
    go_wp2_with fail
    refine bodyPost_end (v := .tuple #[]) (results_none rfl _ _ _) rfl ?_
    rw [HS.out]
    exact ⟨_, _, _, _, rfl, (HX13).out.k, (HX13).out.only⟩
  ·go_simp
   have HX8 := zH (HXd.out.adv ((zL _ _).alloc (zN _) (.cells #[.string ⟨#[]⟩, .slice none 0 0, .int .u64 0, .int .u64 0] 40)))
   have HB8 := zH (HBd.out.alloc HBd.out.size (.cells #[.string ⟨#[]⟩, .slice none 0 0, .int .u64 0, .int .u64 0] 40))
   have HZ8 := zH (Blk.new W7 40 #[.string ⟨#[]⟩, .slice none 0 0, .int .u64 0, .int .u64 0])
   have HV8 := zH (HV7.out.alloc (.cells #[.string ⟨#[]⟩, .slice none 0 0, .int .u64 0, .int .u64 0] 40))
   have HG9 : Hid (W6.heap.size ≤ W7.heap.size) := zH HBd.out.size
   have HG8 : Hid (W7.heap.size ≤ (W7.alloc (.cells #[.string ⟨#[]⟩, .slice none 0 0, .int .u64 0, .int .u64 0] 40)).heap.size) := zH (by simp)
   refine hF.out _ _ (Till.of trivial HX8.out) (fun hTill => ?_)
   clear hF F
   try simp only [Act.put, zA, zB, zC]
   generalize W7.alloc _ = w8 at HX8 HB8 HZ8 HV8 HG8 ⊢
   refine wpTill.only (i := 4) (o := ⟨_, _, _, _, _, _⟩) (by kernel_rfl) rfl (fun F hF => ?_)
   refine step_append_src _ rfl (.const (.slice none 0 0)) (.tmp 55) 37 rfl w8.heap.size 5 i0 _ 1 1 Tryz.underlying37 hi0 hz0 hz1 hz2 rfl (by decide) _ 0 [] rfl (World.ownsRow_nil _ _ _ _) A o.val.length c (bcells o.val) rfl (Bts.src_at HV8.out).2 (bcells_one _) (by have := HVl.out; unfold maxLen; omega) (by have := HVl.out; omega) (zN _) ?_
   intro v8 w9 hown8 hg8 hat8
   rw [Nat.zero_add, List.nil_append] at hown8
   have HX9 := zH (HX8.out.adv (below_grown hg8))
   have HB9 := zH (HB8.out.trans ((below_grown hg8).mono HB8.out.size))
   have HO9 := zH (ownsRow_base hown8 HG8.out)
   have HZ9 := zH (HZ8.out.below (below_grown hg8))
   obtain ⟨A8, c8, rfl, _, _⟩ := own_form hown8
   clear hown8 hg8 hat8 HZ8
   refine hF.out _ _ (Till.of trivial HX9.out) (fun hTill => ?_)
   clear hF F
   try simp only [Act.put, zA, zB, zC]
   refine ts 13 (v := ?_) ?_ ?_
   rotate_left 1
   ·intro W hSw
    skip
    clear hSw
    go_simp
    try with_reducible rfl
   try dsimp only [zS, zB, zC]
   clear hTill
   intro hTill
   generalize W7.heap.size = gx at HZ9 HG9 ⊢
   have c0 := HZ9.out.cell 0 _ rfl
   have c1 := HZ9.out.cell 1 _ rfl
   have c2 := HZ9.out.cell 2 _ rfl
   have c3 := HZ9.out.cell 3 _ rfl
   have cf := HZ9.out.frozen
   refine wpTill.only (i := 15) (o := ⟨_, _, _, _, _, _⟩) (by kernel_rfl) rfl (fun F hF => ?_)
   go_simp
   refine hF.out _ _ (Till.stored trivial (by kernel_rfl)) (fun hTill => ?_)
   clear hF F
   try simp only [Act.put, zA, zB, zC]
   refine wpTill.done (by kernel_rfl) ?_
   try refine NoPanic.normal ?_
   have HBx : Hid (Blk ((((w9.setCell ⟨gx, 0, none⟩ (.string o.key)).setCell ⟨gx, 1, none⟩ (.slice A8 o.val.length c8)).setCell ⟨gx, 2, none⟩ (.int .u64 xn)).setCell ⟨gx, 3, none⟩ (.int .u64 eb)) gx 40 (entc ⟨o.key, o.val, xn, eb⟩ (.slice A8 o.val.length c8))) := zH ((((HZ9.out.set_ 0 _).set_ 1 _).set_ 2 _).set_ 3 _)
   have HB10 : Hid (Below W6.heap.size W6 ((((w9.setCell ⟨gx, 0, none⟩ (.string o.key)).setCell ⟨gx, 1, none⟩ (.slice A8 o.val.length c8)).setCell ⟨gx, 2, none⟩ (.int .u64 xn)).setCell ⟨gx, 3, none⟩ (.int .u64 eb))) := zH ((((HB9.out.setCell (p := ⟨gx, 0, none⟩) HG9.out _).setCell (p := ⟨gx, 1, none⟩) HG9.out _).setCell (p := ⟨gx, 2, none⟩) HG9.out _).setCell (p := ⟨gx, 3, none⟩) HG9.out _)
   have HVx0 : Hid (Bts ((((w9.setCell ⟨gx, 0, none⟩ (.string o.key)).setCell ⟨gx, 1, none⟩ (.slice A8 o.val.length c8)).setCell ⟨gx, 2, none⟩ (.int .u64 xn)).setCell ⟨gx, 3, none⟩ (.int .u64 eb)) B 5 (.slice A8 o.val.length c8) o.val) := zH ((Bts.of_own HO9.out B).keep (KeepB.of_blk HZ9.out (by decide) (by have := HG9.out; have := HX6.out.only.size; have := HP.out.hB; omega) ((((Only.set1 _ _ _ _).setCell (S := fun k => k = gx) (p := ⟨gx, 1, none⟩) (.inl rfl) _).setCell (p := ⟨gx, 2, none⟩) (.inl rfl) _).setCell (p := ⟨gx, 3, none⟩) (.inl rfl) _)))
   clear c0 c1 c2 c3 cf hTill HZ9 HO9 HB9 HX9
   generalize World.setCell _ _ _ = w10 at HBx HB10 HVx0 ⊢
   have HX10 := zH (HX6.out.adv HB10.out)
   obtain ⟨z0, z2, z3, z4, z7⟩ := op_cells' HX10.out.box
   clear hj0
   go_wp2_with fail
   refine (HAd.out _).mono ?_
   rintro e2 w4 ⟨rfl, hw4⟩
   subst hw4
   obtain ⟨c0, c1, c2, c3⟩ := ent_cells HBx.out
   have cf := HBx.out.frozen
   go_upto_region 12 with fail
   have HLt : Hid (g < gx) := zH (by have := HG9.out; have := HX6.out.only.size; have := HX6.out.lt; omega)
   have HNx : Hid (gx ≠ g) := zH (fun h => by have := HLt.out; omega)
   obtain ⟨xd, hxd⟩ : ∃ xd, addP s.now o.ttl = xd := ⟨_, rfl⟩
   have H9 : Hid (useP { s1 with L := s1.L.set j ⟨o.key, o.val, xd, eb⟩ } eb = s9) := zH (hxd ▸ H9n.out)
   rw [hxd]
   have HB11 : Hid (Below W6.heap.size W6 (w10.setCell ⟨gx, 2, none⟩ (.int .u64 xd))) := zH (HB10.out.setCell (p := ⟨gx, 2, none⟩) HG9.out _)
   have HBy : Hid (Blk (w10.setCell ⟨gx, 2, none⟩ (.int .u64 xd)) gx 40 (entc ⟨o.key, o.val, xd, eb⟩ (.slice A8 o.val.length c8))) := zH (HBx.out.set_ 2 _)
   have HLy : Hid (LyX w (w10.setCell ⟨gx, 2, none⟩ (.int .u64 xd)) (w10.setCell ⟨gx, 2, none⟩ (.int .u64 xd)) B g (.slice (some ⟨gL, 0, none⟩) ps1.length lc) vU1 pv s1 ps1 o (.slice A o.val.length c) gx ⟨o.key, o.val, xd, eb⟩ (.slice A8 o.val.length c8)) := zH ⟨HX6.out.adv HB11.out, HBy.out, zL _ _⟩
   have HVx : Hid (Bts (w10.setCell ⟨gx, 2, none⟩ (.int .u64 xd)) B 5 (.slice A8 o.val.length c8) o.val) := zH (HVx0.out.keep (KeepB.of_blk HBx.out (by decide) (by have := HG9.out; have := HX6.out.only.size; have := HP.out.hB; omega) (Only.set1 _ _ _ _)))
   clear HBx HBy HB10 HB11 HVx0 HX10 H9n HXd2 z0 z2 z3 z4 z7 c0 c1 c2 c3 cf hxd
   generalize w10.setCell _ _ = w2 at HLy HVx ⊢
   refine wp_region_noPanic ?_
   have HLd := zH (HLy.out.adv (zL _ _).drew)
   refine wp_region_till [21] (fun W => LyX w w2 W B g (.slice (some ⟨gL, 0, none⟩) ps1.length lc) vU1 pv s1 ps1 o (.slice A o.val.length c) gx ⟨o.key, o.val, xd, eb⟩ (.slice A8 (o.val).length c8)) (fun _ => True) (by kernel_rfl) trivial HLd.out (fun hTill => ?_)
   generalize w2.drew = w3 at HLd hTill ⊢
   have hj1 : j ≤ lc := by have := HIl.out; have := HLc.out; omega
   have hj2 : j + 1 ≤ ps1.length := HIl.out
   have hj3 : ps1.length ≤ lc := HLc.out
   have hj4 : j + 1 ≤ lc := by omega
   have HWr : Hid (IntKind.i64.wrap ((j : Int) + 1) = (j : Int) + 1 ∧ ((j : Int) + 1).toNat = j + 1) := zH ⟨by rw [IntKind.wrap_i64 _]; have := HN1.out; omega, by omega⟩
   have hj6 : (0 : Int) ≤ (j : Int) + 1 := by omega
   have hj5 : (j : Int) + 1 ≤ (ps1.length : Int) := by omega
   refine Pl.go [0, 1, 2, 3] ?_
   iterate 4
    refine tsl (v := ?_) ?_ ?_
    rotate_left 1
    ·intro W hSw
     skip
     clear hSw
     go_simp
     try with_reducible rfl
    try dsimp only [zS, zB, zC]
    clear hTill
    intro hTill
   refine Pl.stop ?_
   refine tt 4 (v := ?_) ?_ ?_
   rotate_left 1
   ·intro W hSw
    have x7 : W.cell? ⟨g, 7, none⟩ = some (.slice (some ⟨gL, 0, none⟩) ps1.length lc) := hSw.2.e.k.cell 7 (by omega); obtain ⟨c0, c1, c2, c3⟩ := ent_cells hSw.2.x
    clear hSw
    go_simp
    try with_reducible rfl
   try dsimp only [zS, zB, zC]
   clear hTill
   intro hTill
   refine Pl.go [5, 6] ?_
   iterate 2
    refine tsl (v := ?_) ?_ ?_
    rotate_left 1
    ·intro W hSw
     skip
     clear hSw
     go_simp
     try with_reducible rfl
    try dsimp only [zS, zB, zC]
    clear hTill
    intro hTill
   refine Pl.stop ?_
   refine tt 8 (v := ?_) ?_ ?_
   rotate_left 1
   ·intro W hSw
    have x7 : W.cell? ⟨g, 7, none⟩ = some (.slice (some ⟨gL, 0, none⟩) ps1.length lc) := hSw.2.e.k.cell 7 (by omega); obtain ⟨c0, c1, c2, c3⟩ := ent_cells hSw.2.x
    clear hSw
    go_simp
    try with_reducible rfl
   try dsimp only [zS, zB, zC]
   clear hTill
   intro hTill
   refine Pl.go [11, 12, 13] ?_
   iterate 3
    refine tsl (v := ?_) ?_ ?_
    rotate_left 1
    ·intro W hSw
     skip
     clear hSw
     go_simp
     try with_reducible rfl
    try dsimp only [zS, zB, zC]
    clear hTill
    intro hTill
   refine Pl.stop ?_
   refine tt 14 (v := ?_) ?_ ?_
   rotate_left 1
   ·intro W hSw
    have x7 : W.cell? ⟨g, 7, none⟩ = some (.slice (some ⟨gL, 0, none⟩) ps1.length lc) := hSw.2.e.k.cell 7 (by omega); obtain ⟨c0, c1, c2, c3⟩ := ent_cells hSw.2.x
    clear hSw
    go_simp
    try with_reducible rfl
   try dsimp only [zS, zB, zC]
   clear hTill
   intro hTill
   refine ts 15 (v := ?_) ?_ ?_
   rotate_left 1
   ·intro W hSw
    skip
    clear hSw
    go_simp
    try with_reducible rfl
   try dsimp only [zS, zB, zC]
   clear hTill
   intro hTill
   refine ts 16 (v := ?_) ?_ ?_
   rotate_left 1
   ·intro W hSw
    have hwr := HWr.out.1
    clear hSw
    go_simp
    try with_reducible rfl
   try dsimp only [zS, zB, zC]
   clear hTill
   intro hTill
   refine ts 17 (v := ?_) ?_ ?_
   rotate_left 1
   ·intro W hSw
    have hwr := HWr.out.2
    clear hSw
    go_simp
    try with_reducible rfl
   try dsimp only [zS, zB, zC]
   clear hTill
   intro hTill
   have HSa : Hid (∀ W, KRep W B g (.slice (some ⟨gL, 0, none⟩) ps1.length lc) vU1 pv s1 ps1 → Src W 4 (some ⟨gL, 0, none⟩) j (ecs (ps1.take j))) := zH (fun W hW => by
    have := row_src hW.L rfl 0 j (by omega)
    rwa [List.drop_zero, Nat.zero_mul] at this)
   have HSb : Hid (∀ W, KRep W B g (.slice (some ⟨gL, 0, none⟩) ps1.length lc) vU1 pv s1 ps1 → Src W 4 (if lc = j + 1 then (some ⟨gL, 0, none⟩ : Option Addr) else some ⟨gL, (j + 1) * 4, none⟩) (ps1.length - (j + 1)) (ecs (ps1.drop (j + 1)))) := zH (fun W hW => by
    split
    ·rename_i hl
     have e0 : ps1.length - (j + 1) = 0 := by omega
     have e1 : ps1.drop (j + 1) = [] := List.drop_eq_nil_of_le (by omega)
     rw [e0, e1]
     exact ⟨rfl, (fun _ => rfl), fun q _ j u hu => by simp [ecs] at hu⟩
    ·have := row_src hW.L rfl (j + 1) (ps1.length - (j + 1)) (by omega)
     rw [List.take_of_length_le (by rw [List.length_drop]; exact zN _)] at this
     exact this)
   have HOn : Hid (∀ qs : List (EntV × Value), (∀ q ∈ qs, q ∈ ps1) → ∀ u ∈ ecs qs, u.oneCell' = true) := zH (fun qs hq => ecs_one qs (fun q hm => by
    obtain ⟨A, c, e⟩ := (HLy.out.e.k.vals q (hq q hm)).form
    exact ⟨A, _, c, e⟩))
   generalize (if lc = j + 1 then (some ⟨gL, 0, none⟩ : Option Addr) else some ⟨gL, (j + 1) * 4, none⟩) = A14 at HSb ⊢
   have HB3 : Hid (B ≤ w3.heap.size) := zH (Nat.le_trans HP.out.hB HLd.out.e.only.size)
   clear hj1 hj2 hj3 hj4 hj5 hj6 HWr
   refine wpTill.two (i := 7) (j := 9) (o := ⟨_, _, _, _, _, _⟩) (o2 := ⟨_, _, _, _, _, _⟩) (by kernel_rfl) rfl rfl (fun F hF => ?_) (fun F hF => ?_)
   ·refine step_append_src _ rfl (.const (.slice none 0 0)) (.tmp 80) 33 rfl w3.heap.size 40 ti _ 4 56 Tryz.underlying33 kti zt0 zt1 zt2 rfl (by decide) _ 0 [] rfl (World.ownsRow_nil _ _ _ _) (some ⟨gL, 0, none⟩) j lc (ecs (ps1.take j)) rfl (HSa.out _ HLd.out.e.k) (HOn.out _ (fun q hq => List.mem_of_mem_take hq)) (by have := HIl.out; have := HN1.out; unfold maxLen; omega) (by have := HIl.out; have := HN1.out; omega) (zN _) ?_
    intro v7 w7 hown7 hg7 hat7
    have hb7 : Below w3.heap.size w3 w7 := (zL _ _).grown hg7 (zN _) (fun k hk => by cases hk)
    have HL7 := zH (HLd.out.adv hb7)
    rw [Nat.zero_add, List.nil_append] at hown7
    have HO7 := zH hown7
    have HB7 := zH hb7
    obtain ⟨A7, c7, rfl, _, _⟩ := own_form hown7
    clear hown7 hg7 hat7 hb7
    refine hF.out _ _ (Till.of trivial HL7.out) (fun hTill => ?_)
    clear hF F
    try simp only [Act.put, zA, zB, zC]
    refine wpTill.only (i := 9) (o := ⟨_, _, _, _, _, _⟩) (by kernel_rfl) rfl (fun F hF => ?_)
    go_simp
    have HL9 := zH (HL7.out.adv ((zL _ _).alloc (zN _) (.cells #[.string o.key, .slice A8 (o.val).length c8, .int .u64 xd, .int .u64 eb] 40)))
    have HO9 := zH (own_later' HO7.out ((zL _ _).alloc (zN _) (.cells #[.string o.key, .slice A8 (o.val).length c8, .int .u64 xd, .int .u64 eb] 40)))
    have HB9 := zH (HB7.out.alloc HB7.out.size (.cells #[.string o.key, .slice A8 (o.val).length c8, .int .u64 xd, .int .u64 eb] 40))
    have HX9 := zH (Blk.new w7 40 #[.string o.key, .slice A8 (o.val).length c8, .int .u64 xd, .int .u64 eb])
    refine hF.out _ _ (Till.of trivial HL9.out) (fun hTill => ?_)
    clear hF F
    try simp only [Act.put, zA, zB, zC]
    generalize hw9 : w7.alloc _ = w9 at HL9 HO9 HB9 HX9 ⊢
    clear hw9
    generalize w7.heap.size = gB at HX9 ⊢
    refine wpTill.only (i := 10) (o := ⟨_, _, _, _, _, _⟩) (by kernel_rfl) rfl (fun F hF => ?_)
    refine step_append_src _ rfl (.tmp 81) (.tmp 83) 33 rfl w3.heap.size 40 ti _ 4 56 Tryz.underlying33 kti zt0 zt1 zt2 rfl (by decide) _ j (ecs (ps1.take j)) rfl HO9.out (some ⟨gB, 0, none⟩) 1 1 (entc ⟨o.key, o.val, xd, eb⟩ (.slice A8 (o.val).length c8)).toList rfl (src_blk HX9.out) (by intro u hu; simp [entc] at hu; rcases hu with rfl | rfl | rfl | rfl <;> rfl) (by have := HIl.out; have := HN1.out; unfold maxLen; omega) (by have := HIl.out; have := HN1.out; omega) HB9.out.size ?_
    intro v10 w10 hown10 hg10 hat10
    have hb10 : Below w3.heap.size w3 w10 := HB9.out.grown hg10 HB9.out.size (fun k hk => (row_heap' HO9.out hk).1)
    have HL10 := zH (HLd.out.adv hb10)
    have HO10 := zH hown10
    have HB10 := zH hb10
    obtain ⟨A10, c10, rfl, _, _⟩ := own_form hown10
    clear hown10 hg10 hat10 hb10 HX9 HB9 HO9 HL9
    refine hF.out _ _ (Till.of trivial HL10.out) (fun hTill => ?_)
    clear hF F
    try simp only [Act.put, zA, zB, zC]
    refine wpTill.only (i := 18) (o := ⟨_, _, _, _, _, _⟩) (by kernel_rfl) rfl (fun F hF => ?_)
    refine step_append_src _ rfl (.tmp 84) (.tmp 91) 33 rfl w3.heap.size 40 ti _ 4 56 Tryz.underlying33 kti zt0 zt1 zt2 rfl (by decide) _ (j + 1) (ecs (ps1.take j) ++ (entc ⟨o.key, o.val, xd, eb⟩ (.slice A8 (o.val).length c8)).toList) rfl HO10.out A14 (ps1.length - (j + 1)) (lc - (j + 1)) (ecs (ps1.drop (j + 1))) rfl (HSb.out _ HL10.out.e.k) (HOn.out _ (fun q hq => List.mem_of_mem_drop hq)) (by have := HIl.out; have := HN1.out; unfold maxLen; omega) (by have := HIl.out; have := HN1.out; omega) HB10.out.size ?_
    intro v11 w11 hown11 hg11 hat11
    have hb11 : Below w3.heap.size w3 w11 := HB10.out.grown hg11 HB10.out.size (fun k hk => (row_heap' HO10.out hk).1)
    have HL11 := zH (HLd.out.adv hb11)
    have HO11 : Hid (w11.ownsRow B 40 4 v11 ps1.length (ecs (ps1.set j (⟨o.key, o.val, xd, eb⟩, .slice A8 (o.val).length c8)))) := zH (by
     have h := ownsRow_base hown11 HB3.out
     rw [← ecs_set _ _ _ _ HIl.out] at h
     have e : j + 1 + (ps1.length - (j + 1)) = ps1.length := by have := HIl.out; omega
     rw [e] at h
     exact h)
    obtain ⟨A11, c11, rfl, _, _⟩ := own_form HO11.out
    clear hown11 hg11 hat11 hb11 HL10 HO10 HB10
    refine hF.out _ _ (Till.of trivial HL11.out) (fun hTill => ?_)
    clear hF F
    try simp only [Act.put, zA, zB, zC]
    refine ts 19 (v := ?_) ?_ ?_
    rotate_left 1
    ·intro W hSw
     skip
     clear hSw
     go_simp
     try with_reducible rfl
    try dsimp only [zS, zB, zC]
    clear hTill
    intro hTill
    refine ts 20 (v := ?_) ?_ ?_
    rotate_left 1
    ·intro W hSw
     skip
     clear hSw
     go_simp
     try with_reducible rfl
    try dsimp only [zS, zB, zC]
    clear hTill
    intro hTill
    have x7 : w11.cell? ⟨g, 7, none⟩ = some (.slice (some ⟨gL, 0, none⟩) ps1.length lc) := HL11.out.e.k.cell 7 (by omega)
    have f7 := HL11.out.e.k.frozen 7
    refine wpTill.only (i := 21) (o := ⟨_, _, _, _, _, _⟩) (by kernel_rfl) rfl (fun F hF => ?_)
    go_simp
    have HK12 : Hid (KRep (w11.setCell ⟨g, 7, none⟩ (.slice A11 ps1.length c11)) B g (.slice A11 ps1.length c11) vU1 pv { s1 with L := s1.L.set j ⟨o.key, o.val, xd, eb⟩ } (ps1.set j (⟨o.key, o.val, xd, eb⟩, .slice A8 (o.val).length c8))) := zH (by
     refine HL11.out.e.k.setL (by rw [List.length_set]; exact HO11.out) ?_ (fun p hp => ?_)
     ·rw [← HL11.out.e.k.map, List.map_set]
     ·rcases List.mem_or_eq_of_mem_set hp with h | h
      ·exact HL11.out.e.k.vals p h
      ·rw [h]; exact HVx.out.below HL11.out.below)
    have HX12 := zH ((HL11.out.e).next HK12.out (Only.set1 _ _ _ _))
    have HXb12 := zH (HL11.out.x.far (p := ⟨g, 7, none⟩) (HNx.out) (.slice A11 ps1.length c11))
    refine hF.out _ _ (Till.stored trivial (by kernel_rfl)) (fun hTill => ?_)
    clear hF F x7 f7
    try simp only [Act.put, zA, zB, zC]
    refine wpTill.done (by kernel_rfl) ?_
    try refine NoPanic.normal ?_
    clear hTill HL11 HLd HK12 HO11
    generalize w11.setCell ⟨g, 7, none⟩ _ = w12 at HX12 HXb12 ⊢
    clear HB3 HSa HSb HOn
    obtain ⟨c0, c1, c2, c3⟩ := ent_cells HXb12.out
    dsimp only at c0 c1 c2 c3
    go_wp2_with fail
    refine (kUse_any B g _ _ pv _ _ eb w12 HX12.out.k HUn.out (Nat.le_trans HP.out.hB HX12.out.only.size)).mono ?_
    rintro e w13 ⟨vU2, rfl, hk13, ho13⟩
    have HX13 := zH (HX12.out.next (H9.out ▸ hk13) ho13)
    clear hk13 ho13 c0 c1 c2 c3 HXb12 HX12
    obtain ⟨z0, z2, z3, z4, z7⟩ := op_cells' HX13.out.box
    go_wp2_with fail
    refine bodyPost_end (v := .tuple #[]) (results_none rfl _ _ _) rfl ?_
    rw [HS.out]
    exact ⟨_, _, _, _, rfl, (HX13).out.k, (HX13).out.only⟩
   ·go_simp
    have HL8 := zH (HLd.out.adv ((zL _ _).alloc (zN _) (.cells #[.string o.key, .slice A8 (o.val).length c8, .int .u64 xd, .int .u64 eb] 40)))
    have HB8 := zH ((zL w3.heap.size w3).alloc (zN _) (.cells #[.string o.key, .slice A8 (o.val).length c8, .int .u64 xd, .int .u64 eb] 40))
    have HX8 := zH (Blk.new w3 40 #[.string o.key, .slice A8 (o.val).length c8, .int .u64 xd, .int .u64 eb])
    refine hF.out _ _ (Till.of trivial HL8.out) (fun hTill => ?_)
    clear hF F
    try simp only [Act.put, zA, zB, zC]
    generalize hw8 : w3.alloc _ = w8 at HL8 HB8 HX8 ⊢
    clear hw8
    refine wpTill.only (i := 7) (o := ⟨_, _, _, _, _, _⟩) (by kernel_rfl) rfl (fun F hF => ?_)
    refine step_append_src _ rfl (.const (.slice none 0 0)) (.tmp 80) 33 rfl w8.heap.size 40 ti _ 4 56 Tryz.underlying33 kti zt0 zt1 zt2 rfl (by decide) _ 0 [] rfl (World.ownsRow_nil _ _ _ _) (some ⟨gL, 0, none⟩) j lc (ecs (ps1.take j)) rfl (HSa.out _ HL8.out.e.k) (HOn.out _ (fun q hq => List.mem_of_mem_take hq)) (by have := HIl.out; have := HN1.out; unfold maxLen; omega) (by have := HIl.out; have := HN1.out; omega) (zN _) ?_
    intro v7 w9 hown7 hg7 hat7
    have hb7 : Below w8.heap.size w8 w9 := (zL _ _).grown hg7 (zN _) (fun k hk => by cases hk)
    have HL9 := zH (HL8.out.adv hb7)
    rw [Nat.zero_add, List.nil_append] at hown7
    have HO9 := zH (ownsRow_base hown7 HB8.out.size)
    have HB9 : Hid (Below w3.heap.size w3 w9) := zH (HB8.out.trans (hb7.mono HB8.out.size))
    have HX9 := zH (HX8.out.below hb7)
    obtain ⟨A7, c7, rfl, _, _⟩ := own_form hown7
    clear hown7 hg7 hat7 hb7 HX8
    refine hF.out _ _ (Till.of trivial HL9.out) (fun hTill => ?_)
    clear hF F
    try simp only [Act.put, zA, zB, zC]
    generalize w3.heap.size = gB at HX9 ⊢
    refine wpTill.only (i := 10) (o := ⟨_, _, _, _, _, _⟩) (by kernel_rfl) rfl (fun F hF => ?_)
    refine step_append_src _ rfl (.tmp 81) (.tmp 83) 33 rfl w3.heap.size 40 ti _ 4 56 Tryz.underlying33 kti zt0 zt1 zt2 rfl (by decide) _ j (ecs (ps1.take j)) rfl HO9.out (some ⟨gB, 0, none⟩) 1 1 (entc ⟨o.key, o.val, xd, eb⟩ (.slice A8 (o.val).length c8)).toList rfl (src_blk HX9.out) (by intro u hu; simp [entc] at hu; rcases hu with rfl | rfl | rfl | rfl <;> rfl) (by have := HIl.out; have := HN1.out; unfold maxLen; omega) (by have := HIl.out; have := HN1.out; omega) HB9.out.size ?_
    intro v10 w10 hown10 hg10 hat10
    have hb10 : Below w3.heap.size w3 w10 := HB9.out.grown hg10 HB9.out.size (fun k hk => (row_heap' HO9.out hk).1)
    have HL10 := zH (HLd.out.adv hb10)
    have HO10 := zH hown10
    have HB10 := zH hb10
    obtain ⟨A10, c10, rfl, _, _⟩ := own_form hown10
    clear hown10 hg10 hat10 hb10 HX9 HB9 HO9 HL9
    refine hF.out _ _ (Till.of trivial HL10.out) (fun hTill => ?_)
    clear hF F
    try simp only [Act.put, zA, zB, zC]
    refine wpTill.only (i := 18) (o := ⟨_, _, _, _, _, _⟩) (by kernel_rfl) rfl (fun F hF => ?_)
    refine step_append_src _ rfl (.tmp 84) (.tmp 91) 33 rfl w3.heap.size 40 ti _ 4 56 Tryz.underlying33 kti zt0 zt1 zt2 rfl (by decide) _ (j + 1) (ecs (ps1.take j) ++ (entc ⟨o.key, o.val, xd, eb⟩ (.slice A8 (o.val).length c8)).toList) rfl HO10.out A14 (ps1.length - (j + 1)) (lc - (j + 1)) (ecs (ps1.drop (j + 1))) rfl (HSb.out _ HL10.out.e.k) (HOn.out _ (fun q hq => List.mem_of_mem_drop hq)) (by have := HIl.out; have := HN1.out; unfold maxLen; omega) (by have := HIl.out; have := HN1.out; omega) HB10.out.size ?_
    intro v11 w11 hown11 hg11 hat11
    have hb11 : Below w3.heap.size w3 w11 := HB10.out.grown hg11 HB10.out.size (fun k hk => (row_heap' HO10.out hk).1)
    have HL11 := zH (HLd.out.adv hb11)
    have HO11 : Hid (w11.ownsRow B 40 4 v11 ps1.length (ecs (ps1.set j (⟨o.key, o.val, xd, eb⟩, .slice A8 (o.val).length c8)))) := zH (by
     have h := ownsRow_base hown11 HB3.out
     rw [← ecs_set _ _ _ _ HIl.out] at h
     have e : j + 1 + (ps1.length - (j + 1)) = ps1.length := by have := HIl.out; omega
     rw [e] at h
     exact h)
    obtain ⟨A11, c11, rfl, _, _⟩ := own_form HO11.out
    clear hown11 hg11 hat11 hb11 HL10 HO10 HB10
    refine hF.out _ _ (Till.of trivial HL11.out) (fun hTill => ?_)
    clear hF F
    try simp only [Act.put, zA, zB, zC]
    refine ts 19 (v := ?_) ?_ ?_
    rotate_left 1
    ·intro W hSw
     skip
     clear hSw
     go_simp
     try with_reducible rfl
    try dsimp only [zS, zB, zC]
    clear hTill
    intro hTill
    refine ts 20 (v := ?_) ?_ ?_
    rotate_left 1
    ·intro W hSw
     skip
     clear hSw
     go_simp
     try with_reducible rfl
    try dsimp only [zS, zB, zC]
    clear hTill
    intro hTill
    have x7 : w11.cell? ⟨g, 7, none⟩ = some (.slice (some ⟨gL, 0, none⟩) ps1.length lc) := HL11.out.e.k.cell 7 (by omega)
    have f7 := HL11.out.e.k.frozen 7
    refine wpTill.only (i := 21) (o := ⟨_, _, _, _, _, _⟩) (by kernel_rfl) rfl (fun F hF => ?_)
    go_simp
    have HK12 : Hid (KRep (w11.setCell ⟨g, 7, none⟩ (.slice A11 ps1.length c11)) B g (.slice A11 ps1.length c11) vU1 pv { s1 with L := s1.L.set j ⟨o.key, o.val, xd, eb⟩ } (ps1.set j (⟨o.key, o.val, xd, eb⟩, .slice A8 (o.val).length c8))) := zH (by
     refine HL11.out.e.k.setL (by rw [List.length_set]; exact HO11.out) ?_ (fun p hp => ?_)
     ·rw [← HL11.out.e.k.map, List.map_set]
     ·rcases List.mem_or_eq_of_mem_set hp with h | h
      ·exact HL11.out.e.k.vals p h
      ·rw [h]; exact HVx.out.below HL11.out.below)
    have HX12 := zH ((HL11.out.e).next HK12.out (Only.set1 _ _ _ _))
    have HXb12 := zH (HL11.out.x.far (p := ⟨g, 7, none⟩) (HNx.out) (.slice A11 ps1.length c11))
    refine hF.out _ _ (Till.stored trivial (by kernel_rfl)) (fun hTill => ?_)
    clear hF F x7 f7
    try simp only [Act.put, zA, zB, zC]
    refine wpTill.done (by kernel_rfl) ?_
    try refine NoPanic.normal ?_
    clear hTill HL11 HLd HK12 HO11
    generalize w11.setCell ⟨g, 7, none⟩ _ = w12 at HX12 HXb12 ⊢
    clear HB3 HSa HSb HOn
    obtain ⟨c0, c1, c2, c3⟩ := ent_cells HXb12.out
    dsimp only at c0 c1 c2 c3
    go_wp2_with fail
    refine (kUse_any B g _ _ pv _ _ eb w12 HX12.out.k HUn.out (Nat.le_trans HP.out.hB HX12.out.only.size)).mono ?_
    rintro e w13 ⟨vU2, rfl, hk13, ho13⟩
    have HX13 := zH (HX12.out.next (H9.out ▸ hk13) ho13)
    clear hk13 ho13 c0 c1 c2 c3 HXb12 HX12
    obtain ⟨z0, z2, z3, z4, z7⟩ := op_cells' HX13.out.box
    go_wp2_with fail
    refine bodyPost_end (v := .tuple #[]) (results_none rfl _ _ _) rfl ?_
    rw [HS.out]
    exact ⟨_, _, _, _, rfl, (HX13).out.k, (HX13).out.only⟩
end Go.Proofs.YtnabbimompapfaaGreat
namespace Go.Proofs.YtnabbimompapfaaGreat
open Go Go.RowKit
theorem KS.keepB {B Bv : Nat} {w W : World} (ho : Only (KS B w) w W) (hBv : Bv ≤ B) : KeepB Bv 5 w W :=
 KeepB.of_only ho (fun k _ hk => ⟨Nat.le_trans hBv hk.1, fun c fr e => by
  obtain ⟨_, cs, t, fr2, e2, h3⟩ := hk
  rw [e] at e2
  injection e2 with e2
  injection e2 with _ e2 _
  subst e2
  rcases h3 with h3 | h3 <;> exact absurd h3 (by decide)⟩)
structure EffOk (s : PJ) (o : OpV) (e : Int) : Prop where
 h0 : ¬ (o.kind = 11 ∨ o.kind = 12 ∨ o.kind = 13 ∨ o.kind = 14) → e = 0
 h11 : o.kind = 11 → e = 0 → freeP s.pl < 64
 h12 : o.kind = 12 → e = 0 → ∃ b x, openP s.pl o.cursor = some b ∧ afterP s.L b s.now = some x
 h13 : o.kind = 13 ∨ o.kind = 14 → e = 0 → (openP s.pl o.cursor).isSome = true
theorem kEffect_any (B Bv g : Nat) (vL vU : Value) (pv : Nat → Int) (s : PJ) (ps : List (EntV × Value)) (o : OpV) (V : Value) (e : Int) (w : World) (P : EfP w B g vL vU pv s ps) (ht : 0 ≤ s.now ∧ s.now ≤ neverT) (htt : 0 ≤ o.ttl)
  (hv : Bts w Bv 5 V o.val) (hBv : Bv ≤ B) (hvl : o.kind = 1 ∨ o.kind = 2 → o.val.length ≤ 100000) (hbi : 0 ≤ s.births ∧ s.births ≤ 100000) (hnu : ∀ u ∈ s.U, u ≤ s.births) (he : EffOk s o e) :
  Calls Tryz.prog 32 #[.pointer (some ⟨g, 0, none⟩), opv o V, .int .i64 e, .int .u64 s.now] w (EfRet B g (effP s o e) w) := by
 obtain ⟨A, c, rfl⟩ := hv.form
 by_cases hc : o.kind = 11 ∨ o.kind = 12 ∨ o.kind = 13 ∨ o.kind = 14
 ·by_cases he0 : e = 0
  ·subst he0
   rcases hc with h | h | h | h
   ·exact kEffect_k11 B g vL vU pv s ps o A _ c w P _ h (he.h11 h rfl)
   ·obtain ⟨b, x, h1, h2⟩ := he.h12 h rfl
    exact kEffect_k12 B g vL vU pv s ps o A _ c w P h b x h1 h2
   ·exact kEffect_k13 B g vL vU pv s ps o A _ c w P _ h (he.h13 (.inl h) rfl)
   ·exact kEffect_k14 B g vL vU pv s ps o A _ c w P _ h (he.h13 (.inr h) rfl)
  ·exact kEffect_none B g vL vU pv s ps o A _ c e w P _ (by omega) (.inl he0)
 ·have he0 := he.h0 hc
  subst he0
  by_cases k1 : o.kind = 1
  ·by_cases hf : findP s.L o.key = none
   ·exact kEffect_seta B Bv g vL vU pv s ps o A c w P k1 ht htt hv hBv (hvl (.inl k1)) hbi hnu hf
   ·exact kEffect_setb B Bv g vL vU pv s ps o A c w P k1 ht htt hv hBv (hvl (.inl k1)) hbi hnu hf
  ·by_cases k2 : o.kind = 2
   ·by_cases hf : findP s.L o.key = none
    ·exact kEffect_setc B Bv g vL vU pv s ps o A c w P k2 ht htt hv hBv (hvl (.inr k2)) hbi hnu hf
    ·exact kEffect_setd B Bv g vL vU pv s ps o A c w P k2 ht htt hv hBv (hvl (.inr k2)) hbi hnu hf
   ·by_cases k3 : o.kind = 3
    ·exact kEffect_k3 B g vL vU pv s ps o A _ c w P _ k3
    ·by_cases k5 : o.kind = 5
     ·exact kEffect_k5 B g vL vU pv s ps o A _ c w P k5 ht htt
     ·by_cases k6 : o.kind = 6
      ·exact kEffect_k6 B g vL vU pv s ps o A _ c w P _ k6
      ·by_cases k7 : o.kind = 7
       ·exact kEffect_k7 B g vL vU pv s ps o A _ c w P _ k7
       ·by_cases k8 : o.kind = 8
        ·exact kEffect_k8 B g vL vU pv s ps o A _ c w P _ k8
        ·exact kEffect_none B g vL vU pv s ps o A _ c 0 w P _ (by omega) (.inr hc)
end Go.Proofs.YtnabbimompapfaaGreat
namespace Go.Proofs.YtnabbimompapfaaGreat
open Go Go.RowKit
theorem asc_len : ∀ {l : List Int} {a b : Int}, l.Pairwise (· < ·) → (∀ x ∈ l, a < x ∧ x ≤ b) → a ≤ b → (l.length : Int) ≤ b - a
 |[], a, b, _, _, h => by simp; omega
 |x :: l, a, b, hp, hm, _ => by
  rw [List.pairwise_cons] at hp
  have h1 := hm x (List.mem_cons_self ..)
  have := asc_len (l := l) (a := x) (b := b) hp.2 (fun y hy => ⟨hp.1 y hy, (hm y (List.mem_cons_of_mem _ hy)).2⟩) h1.2
  rw [List.length_cons]; omega
theorem nodup_len {α : Type} [BEq α] [LawfulBEq α] : ∀ {l l2 : List α}, l.Nodup → (∀ x ∈ l, x ∈ l2) → l.length ≤ l2.length
 |[], _, _, _ => Nat.zero_le _
 |x :: l, l2, hn, hs => by
  rw [List.nodup_cons] at hn
  have hx := hs x (List.mem_cons_self ..)
  have h1 := nodup_len (l := l) (l2 := l2.erase x) hn.2 (fun y hy => by
   refine (List.mem_erase_of_ne ?_).2 (hs y (List.mem_cons_of_mem _ hy))
   rintro rfl; exact hn.1 hy)
  rw [List.length_erase_of_mem hx] at h1
  have := List.length_pos_of_mem hx
  rw [List.length_cons]; omega
theorem PInv.lenL {n : Nat} {s : PJ} (h : PInv n s) : s.L.length ≤ n := by
 have := asc_len (a := 0) (b := s.births) h.asc (fun x hx => by
  obtain ⟨e, he, rfl⟩ := List.mem_map.1 hx
  have := h.low e he; omega) h.cnt.1
 rw [List.length_map] at this
 have := h.cnt.2
 omega
theorem PInv.lenU {n : Nat} {s : PJ} (h : PInv n s) : s.U.length ≤ n := by
 refine Nat.le_trans (nodup_len (l2 := s.L.map EntV.birth) h.und (fun x hx => ?_)) (by rw [List.length_map]; exact h.lenL)
 obtain ⟨e, he, rfl⟩ := (h.mem x).1 hx
 exact List.mem_map_of_mem he
theorem PInv.lowU {n : Nat} {s : PJ} (h : PInv n s) : ∀ u ∈ s.U, u ≤ s.births := fun u hu => by
 obtain ⟨e, he, rfl⟩ := (h.mem u).1 hu
 exact (h.low e he).2
theorem EfP.of {w : World} {B g : Nat} {vL vU : Value} {pv : Nat → Int} {s : PJ} {ps : List (EntV × Value)} (h : KRep w B g vL vU pv s ps) {n : Nat} (hi : PInv n s) (hn : n ≤ 90000) (hB : B ≤ w.heap.size) : EfP w B g vL vU pv s ps :=
 ⟨h, by have := hi.lenL; rw [← h.map, List.length_map] at this; omega, Nat.le_trans hi.lenU hn, hB, hi.asc, hi.pls⟩
theorem findP_mem {L : List EntV} (hk : (L.map EntV.key).Nodup) {x : EntV} (hx : x ∈ L) : findP L x.key = some x := by
 cases h : findP L x.key with
 |none => exact absurd rfl (findP_none h x hx)
 |some y =>
  obtain ⟨h1, h2⟩ := findP_some h
  rw [nodup_inj hk y h1 x hx h2]
def HitE (v : EvV) (t : Int) (ps : List (EntV × Value)) (m : Nat) (f : Int) : Prop :=
 (f = -1 ∧ ∀ j p, j < m → ps[j]? = some p → v ≠ eventP 2 p.1 t) ∨ ∃ (k : Nat) (p : EntV × Value), f = k ∧ k < m ∧ ps[k]? = some p ∧ v = eventP 2 p.1 t
section
variable {v : EvV} {t : Int} {ps : List (EntV × Value)} {m : Nat} {f : Int} {e : EntV × Value}
theorem HitE.skip (h : HitE v t ps m f) (he : ps[m]? = some e) (hv : v ≠ eventP 2 e.1 t) : HitE v t ps (m + 1) f := by
 rcases h with ⟨h1, h2⟩ | ⟨k, p, h1, h2, h3, h4⟩
 ·refine .inl ⟨h1, fun j p hj hp => ?_⟩
  rcases (by omega : j < m ∨ j = m) with h | rfl
  ·exact h2 j p h hp
  ·rw [he] at hp; cases hp; exact hv
 ·exact .inr ⟨k, p, h1, by omega, h3, h4⟩
theorem HitE.take (he : ps[m]? = some e) (hv : v = eventP 2 e.1 t) : HitE v t ps (m + 1) m := .inr ⟨m, e, rfl, by omega, he, hv⟩
end
def EvtRet (B g : Nat) (r : Except Int PJ) (w : World) (e : Ending) (w' : World) : Prop :=
 Only (KS B w) w w' ∧ (∀ x, r = .error x → e = .returned (.int .i64 x)) ∧ ∀ s2, r = .ok s2 → e = .returned (.int .i64 0) ∧ ∃ vL vU pv ps, KRep w' B g vL vU pv s2 ps
theorem EvtRet.err {B g : Nat} {r : Except Int PJ} {w w' : World} {x : Int} (h : r = .error x) (ho : Only (KS B w) w w') : EvtRet B g r w (.returned (.int .i64 x)) w' :=
 ⟨ho, fun y hy => by rw [h] at hy; injection hy with hy; rw [hy], fun s2 h2 => by rw [h] at h2; cases h2⟩
theorem EvtRet.ok {B g : Nat} {r : Except Int PJ} {w w' : World} {s2 : PJ} (h : r = .ok s2) {vL vU : Value} {pv : Nat → Int} {ps : List (EntV × Value)} (hk : KRep w' B g vL vU pv s2 ps) (ho : Only (KS B w) w w') : EvtRet B g r w (.returned (.int .i64 0)) w' :=
 ⟨ho, fun y hy => (by rw [h] at hy; cases hy), fun s3 h3 => (by rw [h] at h3; injection h3 with h3; subst h3; exact ⟨rfl, _, _, _, _, hk⟩)⟩
theorem evict_cons {o : OpV} {v : EvV} {l : List EvV} {s : PJ} {x : EntV} (hf : findP s.L v.key = some x) (hv : v = eventP 2 x s.now) :
  evictP o (v :: l) s = if withinP s ∨ ((o.kind = 1 ∨ o.kind = 2) ∧ x.key = o.key) then .error 4 else if s.cfg.prot = 0 ∧ s.U.head? ≠ some x.birth then .error 4 else evictP o l (goneP s x.birth) := by
 rw [evictP, hf]
 dsimp only
 rw [if_neg (fun h => h hv)]
theorem evict_miss {o : OpV} {v : EvV} {l : List EvV} {s : PJ} (h : ∀ x ∈ s.L, v ≠ eventP 2 x s.now) : evictP o (v :: l) s = .error 2 := by
 rw [evictP]
 cases hf : findP s.L v.key with
 |none => rfl
 |some x =>
  dsimp only
  rw [if_pos (h x (findP_some hf).1)]
theorem drewN_below (w : World) (n : Nat) : Below w.heap.size w (w.drewN n) := ⟨rfl, rfl, rfl, zN _, fun _ _ => rfl⟩
structure EvI (w W : World) (B Bv g : Nat) (vL vU : Value) (pv : Nat → Int) (s1 : PJ) (ps1 : List (EntV × Value)) (o : OpV) (V lv : Value) (xs : List (EvV × Value)) : Prop where
 e : EfX w W B g vL vU pv s1 ps1 o V
 ev : EvsAt W Bv lv xs
section
variable {w W W2 : World} {B Bv g : Nat} {vL vU : Value} {pv : Nat → Int} {s1 : PJ} {ps1 : List (EntV × Value)} {o : OpV} {V lv : Value} {xs : List (EvV × Value)}
theorem EvI.adv (h : EvI w W B Bv g vL vU pv s1 ps1 o V lv xs) (hb : Below W.heap.size W W2) : EvI w W2 B Bv g vL vU pv s1 ps1 o V lv xs := ⟨h.e.adv hb, h.ev.below hb⟩
theorem EvI.next (h : EvI w W B Bv g vL vU pv s1 ps1 o V lv xs) {vL2 vU2 : Value} {s2 : PJ} {ps2 : List (EntV × Value)} (hk : KRep W2 B g vL2 vU2 pv s2 ps2) (ho : Only (fun k => k = g) W W2) (hBv : Bv ≤ B) : EvI w W2 B Bv g vL2 vU2 pv s2 ps2 o V lv xs :=
 ⟨h.e.next hk ho, h.ev.keep (KS.keepB (KS.of_g h.e.k ho) hBv)⟩
end
theorem ev_cells {W : World} {Bv q off n cap : Nat} {xs : List (EvV × Value)} (h : EvsAt W Bv (.slice (some ⟨q, off, none⟩) n cap) xs) {i : Nat} {p : EvV × Value} (hi : xs[i]? = some p) :
  W.cell? ⟨q, off + i * 6, none⟩ = some (.int .i64 p.1.kind) ∧ W.cell? ⟨q, off + i * 6 + 1, none⟩ = some (.string p.1.key) ∧ W.cell? ⟨q, off + i * 6 + 2, none⟩ = some p.2 ∧ W.cell? ⟨q, off + i * 6 + 3, none⟩ = some (.int .u64 p.1.birth) ∧ W.cell? ⟨q, off + i * 6 + 4, none⟩ = some (.int .u64 p.1.dl) ∧ W.cell? ⟨q, off + i * 6 + 5, none⟩ = some (.int .u64 p.1.at_) := by
 obtain ⟨b, o2, e, _, h1⟩ := h.at_ hi
 cases e
 exact h1
set_option maxRecDepth 100000 in
set_option maxHeartbeats 8000000 in
theorem kEvict_any (B Bv g : Nat) (vL vU : Value) (pv : Nat → Int) (s : PJ) (ps : List (EntV × Value)) (o : OpV) (A : Option Addr) (n c : Nat) (lv : Value) (xs : List (EvV × Value)) (N : Nat) (w : World) (h : KRep w B g vL vU pv s ps) (hi : PInv N s) (hN : N ≤ 90000) (hB : B ≤ w.heap.size) (hl : EvsAt w Bv lv xs) (hBv : Bv ≤ B) :
  Calls Tryz.prog 33 #[.pointer (some ⟨g, 0, none⟩), opv o (.slice A n c), lv, .int .u64 s.now] w (EvtRet B g (evictP o (xs.map Prod.fst) s) w) := by
 have HI0 : Hid (EvI w (w.alloc (.cells (opc o (.slice A n c)) 43)) B Bv g vL vU pv s ps o (.slice A n c) lv xs) := zH ⟨EfX.new h, hl.below ((zL _ _).alloc (zN _) _)⟩
 obtain ⟨LA, lc0, rfl, hlc0, hlm⟩ := hl.cap
 have HBs := zH hB
 have HBv := zH hBv
 have HP0 := zH hi
 have HN := zH hN
 unfold maxLen at hlm
 have hxI : (xs.length : Int) ≤ 9223372036854775807 := by omega
 have hxc : (xs.length : Int) ≤ (lc0 : Int) := by omega
 unfold opv
 unfold opc at HI0 ⊢
 clear h hi hB hl hBv hN hlm hlc0
 go_enter Tryz.func33, Tryz.ntmps33
 go_upto_region 1 with fail
 obtain ⟨W0, hW0⟩ : ∃ W0, w.alloc (.cells #[.int .i64 o.kind, .int .u64 o.ticks, .string o.key, .slice A n c, .int .u64 o.ttl, .int .i64 o.count, .int .i64 o.bytes, .int .i64 o.cursor, .int .u64 o.birth] 43) = W0 := ⟨_, rfl⟩
 rw [hW0] at HI0 ⊢
 clear hW0
 go_wp2_with fail
 go_loopw [9] (fun i wr => ∃ (k : Nat) (vL1 vU1 : Value) (s1 : PJ) (ps1 : List (EntV × Value)), k ≤ xs.length ∧ i = .int .i64 k ∧ evictP o ((xs.drop k).map Prod.fst) s1 = evictP o (xs.map Prod.fst) s ∧ PInv N s1 ∧ s1.now = s.now ∧ EvI w wr B Bv g vL1 vU1 pv s1 ps1 o (.slice A n c) (.slice LA xs.length lc0) xs) (fun i _ => xs.length - (intOf i).toNat)
 case atStart => exact ⟨0, _, _, _, _, by omega, rfl, rfl, HP0.out, rfl, HI0.out⟩
 case round =>
  obtain ⟨k, vL1, vU1, s1, ps1, hk, rfl, hev, hpi, hnow, hI⟩ := hrel
  obtain ⟨w1, hw1⟩ : ∃ w1, w1 = wr := ⟨_, rfl⟩
  subst hw1
  have HI := zH hI
  have HEv := zH hev
  have HPi := zH hpi
  have HNw := zH hnow
  obtain ⟨gA, lc, hvL, hlc, _⟩ := own_form hI.e.k.L
  subst hvL
  have hpn : ps1.length ≤ 90000 := (EfP.of hI.e.k hpi HN.out (Nat.le_trans HBs.out hI.e.only.size)).n
  have hpnI : (ps1.length : Int) ≤ 90000 := by omega
  have hlcI : (ps1.length : Int) ≤ (lc : Int) := by omega
  have HPn : Hid (ps1.length ≤ 100000) := zH (by omega)
  clear hev hpi hnow hlc hpn
  by_cases hkl : k < xs.length
  ·obtain ⟨⟨v, Vv⟩, hx⟩ : ∃ p, xs[k]? = some p := ⟨_, List.getElem?_eq_getElem hkl⟩
   obtain ⟨q, off, hLA, -, -⟩ := hI.ev.at_ hx
   subst hLA
   have HE := zH hx
   obtain ⟨YA, yc, hVy⟩ := (hI.ev.vals _ (List.mem_of_getElem? hx)).form
   dsimp only at hVy
   subst hVy
   have hkI : (k : Int) < (xs.length : Int) := by omega
   have hk0 : (0 : Int) ≤ (k : Int) := by omega
   have HCons : Hid ((xs.drop k).map Prod.fst = v :: (xs.drop (k + 1)).map Prod.fst) := zH (by
    obtain ⟨h1, h2⟩ := List.getElem?_eq_some_iff.1 hx
    rw [List.drop_eq_getElem_cons h1, h2]; rfl)
   clear hI hx
   go_wp2_with fail
   go_loopw [10, 11] (fun i m wr => ∃ (j : Nat) (f : Int), j ≤ ps1.length ∧ m = .int .i64 j ∧ i = .int .i64 f ∧ HitE v s.now ps1 j f ∧ EvI w wr B Bv g (.slice gA ps1.length lc) vU1 pv s1 ps1 o (.slice A n c) (.slice (some ⟨q, off, none⟩) xs.length lc0) xs) (fun _ m _ => ps1.length - (intOf m).toNat)
   case atStart => exact ⟨0, -1, by omega, rfl, rfl, .inl ⟨rfl, fun j p hj => by omega⟩, HI.out⟩
   case round =>
    obtain ⟨m, f, hm, rfl, rfl, hf, hI⟩ := hrel
    have HF := zH hf
    have HJ0 := zH hI
    have x7 : World.cell? wr ⟨g, 7, none⟩ = some (.slice gA ps1.length lc) := hI.e.k.cell 7 (by omega)
    by_cases hml : m < ps1.length
    ·obtain ⟨⟨ev, V⟩, hj⟩ : ∃ p, ps1[m]? = some p := ⟨_, List.getElem?_eq_getElem hml⟩
     obtain ⟨VA, vc, hV⟩ := (hI.e.k.vals _ (List.mem_of_getElem? hj)).form
     dsimp only at hV
     subst hV
     have HJ := zH hj
     have hmI : (m : Int) < (ps1.length : Int) := by omega
     obtain ⟨gL, rfl⟩ : ∃ gL, gA = some ⟨gL, 0, none⟩ := by
      rcases hI.e.k.L.2 with ⟨_, h0⟩ | ⟨q, c, cur, eq, _⟩
      ·omega
      ·injection eq with eq _ _
       exact ⟨q, eq⟩
     clear hf hI hj
     go_upto_region 8 with fail
     refine wp_region_noPanic ?_
     refine wp_region_held_drew (S := fun W => EvI w W B Bv g (.slice (some ⟨gL, 0, none⟩) ps1.length lc) vU1 pv s1 ps1 o (.slice A n c) (.slice (some ⟨q, off, none⟩) xs.length lc0) xs) (by kernel_rfl) (HJ0.out.adv (zL _ _).drew) (fun hHeld => ?_)
     generalize wr.drew = W3 at hHeld ⊢
     have H3 := zH hHeld
     clear x7
     refine Pl.go [0, 1, 2, 3, 4, 5, 6, 7, 8, 9, 10, 11] ?_
     iterate 12
      refine tkl (v := ?_) ?_ ?_
      rotate_left 1
      ·intro W hSw
       have x7 : W.cell? ⟨g, 7, none⟩ = some (.slice (some ⟨gL, 0, none⟩) ps1.length lc) := hSw.e.k.cell 7 (by omega); obtain ⟨y0, y1, y2, y3⟩ := hSw.e.k.entAt HJ.out; dsimp only at y0 y1 y2 y3; obtain ⟨c0, c1, c2, c3, c4, c5⟩ := ev_cells hSw.ev HE.out; dsimp only at c0 c1 c2 c3 c4 c5
       clear hSw
       go_simp
       try with_reducible rfl
      try dsimp only [zS, zB, zC]
     refine Pl.stop ?_
     refine wpAnyH_ready (rs := [12]) (by kernel_rfl) (by simp) ?_
     refine AllReadyH.cons (o := ⟨_, _, _, _, _, _⟩) rfl (fun F hF => ?_) AllReadyH.nil
     go_simp
     refine (kEvent_any 2 ev VA ev.val.length vc s.now W3).mono ?_
     rintro e2 w5 ⟨rfl, hb5⟩
     have H5 := zH (H3.out.adv hb5)
     clear hb5 hHeld
     go_wp2_with fail
     refine hF.out _ _ H5.out (fun hHeld => ?_)
     clear hF F
     try simp only [Act.put, zA, zB, zC]
     refine wpAnyH_ready (rs := [13]) (by kernel_rfl) (by simp) ?_
     refine AllReadyH.cons (o := ⟨_, _, _, _, _, _⟩) rfl (fun F hF => ?_) AllReadyH.nil
     go_simp
     refine (kSame_any Bv B v (eventP 2 ev s.now) _ _ w5 (H5.out.ev.vals (v, _) (List.mem_of_getElem? HE.out)) (H5.out.e.k.vals (ev, _) (List.mem_of_getElem? HJ.out))).mono ?_
     rintro e2 w6 ⟨rfl, hb6⟩
     have H6 := zH (H5.out.adv hb6)
     clear hb6 hHeld
     by_cases hye : v = eventP 2 ev s.now
     ·rw [decide_eq_true hye]
      have HY := zH hye
      clear hye
      go_wp2_with fail
      refine hF.out _ _ H6.out (fun hHeld => ?_)
      clear hF F
      try simp only [Act.put, zA, zB, zC]
      refine wpAnyH_done (by kernel_rfl) ?_ _
      refine NoPanic.normal ?_
      go_wp2_with fail
      go_roundw
      case rel => exact ⟨m + 1, (m : Int), by omega, by go_num, rfl, HitE.take HJ.out HY.out, hHeld⟩
      case measure => simp [intOf]; omega
     ·rw [decide_eq_false hye]
      have HY := zH hye
      clear hye
      go_wp2_with fail
      refine hF.out _ _ H6.out (fun hHeld => ?_)
      clear hF F
      try simp only [Act.put, zA, zB, zC]
      refine wpAnyH_done (by kernel_rfl) ?_ _
      refine NoPanic.normal ?_
      go_wp2_with fail
      go_roundw
      case rel => exact ⟨m + 1, f, by omega, by go_num, rfl, HF.out.skip HJ.out HY.out, hHeld⟩
      case measure => simp [intOf]; omega
    ·obtain rfl : m = ps1.length := by omega
     clear hf hI
     rcases HF.out with ⟨hf1, hf2⟩ | ⟨k2, ⟨ev, V⟩, hf1, hf2, hf3, hf4⟩
     ·subst hf1
      have HS : Hid (evictP o (xs.map Prod.fst) s = .error 2) := zH (by
       rw [← HEv.out, HCons.out]
       refine evict_miss (fun x hx => ?_)
       rw [← HJ0.out.e.k.map] at hx
       obtain ⟨p, hp, rfl⟩ := List.mem_map.1 hx
       obtain ⟨j, hj⟩ := List.getElem?_of_mem hp
       rw [HNw.out]
       exact hf2 j p (List.getElem?_eq_some_iff.1 hj).1 hj)
      clear hf2
      go_wp2_with fail
      go_ret
      exact EvtRet.err HS.out HJ0.out.e.only
     ·subst hf1
      have hxL : ev ∈ s1.L := by rw [← HJ0.out.e.k.map]; exact List.mem_map_of_mem (List.mem_of_getElem? hf3)
      have hvk : v.key = ev.key := by rw [hf4]; rfl
      have hev : evictP o (xs.map Prod.fst) s = if withinP s1 ∨ ((o.kind = 1 ∨ o.kind = 2) ∧ ev.key = o.key) then .error 4 else if s1.cfg.prot = 0 ∧ s1.U.head? ≠ some ev.birth then .error 4 else evictP o ((xs.drop (k + 1)).map Prod.fst) (goneP s1 ev.birth) := by
       rw [← HEv.out, HCons.out, evict_cons (by rw [hvk]; exact findP_mem HPi.out.keys hxL) (by rw [HNw.out]; exact hf4)]
      have HV := zH hev
      have HXL := zH hxL
      obtain ⟨VA, vc, hV⟩ := (HJ0.out.e.k.vals _ (List.mem_of_getElem? hf3)).form
      dsimp only at hV
      subst hV
      have HJ := zH hf3
      have hmI : (k2 : Int) < (ps1.length : Int) := by omega
      have hk20 : ¬ (k2 : Int) < 0 := by omega
      have hk21 : (0 : Int) ≤ (k2 : Int) := by omega
      obtain ⟨gL, rfl⟩ : ∃ gL, gA = some ⟨gL, 0, none⟩ := by
       rcases HJ0.out.e.k.L.2 with ⟨_, h0⟩ | ⟨q, c, cur, eq, _⟩
       ·omega
       ·injection eq with eq _ _
        exact ⟨q, eq⟩
      have HCo := zH (fun W hW => kCost_any B g (.slice (some ⟨gL, 0, none⟩) ps1.length lc) vU1 pv s1 ps1 W hW HPn.out (fun e he => by
       have h1 := (HPi.out.ok e he).1
       have h2 := (HPi.out.ok e he).2.1
       unfold keyOK at h1
       rw [decide_eq_true_eq] at h1
       exact ⟨h1.2, h2⟩))
      have hwi : withinP s1 ↔ ((ps1.length : Int) ≤ s1.cfg.count ∧ costP s1.L ≤ s1.cfg.bytes) := by
       unfold withinP
       rw [← HJ0.out.e.k.map, List.length_map]
      obtain ⟨cn, hcn⟩ : ∃ cn, s1.cfg.count = cn := ⟨_, rfl⟩
      obtain ⟨by_, hby⟩ : ∃ by_, s1.cfg.bytes = by_ := ⟨_, rfl⟩
      obtain ⟨C, hC⟩ : ∃ C, costP s1.L = C := ⟨_, rfl⟩
      have HC0 : Hid (∀ W, KRep W B g (.slice (some ⟨gL, 0, none⟩) ps1.length lc) vU1 pv s1 ps1 → W.cell? ⟨g, 0, none⟩ = some (.int .i64 cn)) := zH (fun W hW => hcn ▸ hW.cell 0 (by omega))
      have HC1 : Hid (∀ W, KRep W B g (.slice (some ⟨gL, 0, none⟩) ps1.length lc) vU1 pv s1 ps1 → W.cell? ⟨g, 1, none⟩ = some (.int .i64 by_)) := zH (fun W hW => hby ▸ hW.cell 1 (by omega))
      rw [hcn, hby, hC] at hwi
      rw [hC] at HCo
      have HWi := zH hwi
      clear hf2 hf3 hf4 hvk hev hxL hcn hby hC hwi
      by_cases hw1 : (ps1.length : Int) ≤ cn
      ·go_upto_region 12 with fail
       refine wp_region_noPanic ?_
       refine wp_region_held_drew (S := fun W => EvI w W B Bv g (.slice (some ⟨gL, 0, none⟩) ps1.length lc) vU1 pv s1 ps1 o (.slice A n c) (.slice (some ⟨q, off, none⟩) xs.length lc0) xs) (by kernel_rfl) (HJ0.out.adv (zL _ _).drew) (fun hHeld => ?_)
       generalize wr.drew = W3 at hHeld ⊢
       have H3 := zH hHeld
       clear x7
       refine Pl.go [0, 1, 2, 3, 4, 5, 6, 7, 8, 9, 10, 11] ?_
       iterate 12
        refine tkl (v := ?_) ?_ ?_
        rotate_left 1
        ·intro W hSw
         have x7 : W.cell? ⟨g, 7, none⟩ = some (.slice (some ⟨gL, 0, none⟩) ps1.length lc) := hSw.e.k.cell 7 (by omega); have x0 := HC0.out _ hSw.e.k; have x1 := HC1.out _ hSw.e.k
         clear hSw
         go_simp
         try with_reducible rfl
        try dsimp only [zS, zB, zC]
       refine Pl.stop ?_
       refine tk 12 (v := ?_) ?_ ?_
       rotate_left 1
       ·intro W hSw
        skip
        clear hSw
        go_simp
        try with_reducible rfl
       try dsimp only [zS, zB, zC]
       refine Pl.go [14, 15, 16, 17, 18] ?_
       iterate 5
        refine tkl (v := ?_) ?_ ?_
        rotate_left 1
        ·intro W hSw
         have x7 : W.cell? ⟨g, 7, none⟩ = some (.slice (some ⟨gL, 0, none⟩) ps1.length lc) := hSw.e.k.cell 7 (by omega); have x0 := HC0.out _ hSw.e.k; have x1 := HC1.out _ hSw.e.k
         clear hSw
         go_simp
         try with_reducible rfl
        try dsimp only [zS, zB, zC]
       refine Pl.stop ?_
       refine wpAnyH_ready (rs := [13]) (by kernel_rfl) (by simp) ?_
       refine AllReadyH.cons (o := ⟨_, _, _, _, _, _⟩) rfl (fun F hF => ?_) AllReadyH.nil
       go_simp
       refine (HCo.out _ H3.out.e.k).mono ?_
       rintro e2 w5 ⟨rfl, hb5⟩
       have H5 := zH (H3.out.adv hb5)
       clear hb5 hHeld
       by_cases hw2 : C ≤ by_
       ·have HS : Hid (evictP o (xs.map Prod.fst) s = .error 4) := zH (by rw [HV.out, if_pos (.inl (HWi.out.2 ⟨hw1, hw2⟩))])
        go_wp2_with fail
        refine hF.out _ _ H5.out (fun hHeld => ?_)
        clear hF F
        try simp only [Act.put, zA, zB, zC]
        refine tk 19 (v := ?_) ?_ ?_
        rotate_left 1
        ·intro W hSw
         skip
         clear hSw
         go_simp
         try with_reducible rfl
        try dsimp only [zS, zB, zC]
        refine tk 20 (v := ?_) ?_ ?_
        rotate_left 1
        ·intro W hSw
         skip
         clear hSw
         go_simp
         try with_reducible rfl
        try dsimp only [zS, zB, zC]
        refine wpAnyH_done (by kernel_rfl) ?_ _
        refine NoPanic.normal ?_
        go_wp2_with fail
        go_ret
        exact EvtRet.err HS.out hHeld.e.only
       ·have HNW : Hid (¬ withinP s1) := zH (fun h => hw2 (HWi.out.1 h).2)
        go_wp2_with fail
        refine hF.out _ _ H5.out (fun hHeld => ?_)
        clear hF F
        try simp only [Act.put, zA, zB, zC]
        refine tk 19 (v := ?_) ?_ ?_
        rotate_left 1
        ·intro W hSw
         skip
         clear hSw
         go_simp
         try with_reducible rfl
        try dsimp only [zS, zB, zC]
        refine tk 20 (v := ?_) ?_ ?_
        rotate_left 1
        ·intro W hSw
         skip
         clear hSw
         go_simp
         try with_reducible rfl
        try dsimp only [zS, zB, zC]
        refine wpAnyH_done (by kernel_rfl) ?_ _
        refine NoPanic.normal ?_
        have H9 := zH hHeld
        clear hHeld H3 H5
        generalize w5 = w9 at H9 ⊢
        go_upto_region 14 with fail
        clear hw1
        have hUne : s1.U ≠ [] := fun h => by
         have := (HPi.out.mem ev.birth).2 ⟨ev, HXL.out, rfl⟩
         rw [h] at this; cases this
        obtain ⟨u0, us, hU⟩ : ∃ u0 us, s1.U = u0 :: us := by
         cases hU : s1.U with
         |nil => exact absurd hU hUne
         |cons a b => exact ⟨a, b, rfl⟩
        have HU := zH hU
        obtain ⟨gU, cU, hvU⟩ : ∃ gU cU, vU1 = .slice (some ⟨gU, 0, none⟩) s1.U.length cU := by
         rcases H9.out.e.k.U.2 with ⟨_, h0⟩ | ⟨q, c, cur, eq, _⟩
         ·rw [hU] at h0; simp at h0
         ·exact ⟨q, c, eq⟩
        subst hvU
        have HU0 : Hid (∀ W, KRep W B g (.slice (some ⟨gL, 0, none⟩) ps1.length lc) (.slice (some ⟨gU, 0, none⟩) s1.U.length cU) pv s1 ps1 → W.cell? ⟨gU, 0, none⟩ = some (.int .u64 u0)) := zH (fun W hW => by
         have := hW.U.cells (g := gU) rfl 0 (.int .u64 u0) (by rw [HU.out]; rfl)
         rw [add_plain] at this
         exact this)
        have HUl : Hid (s1.U.length = us.length + 1) := zH (by rw [HU.out]; rfl)
        obtain ⟨nU, hnU⟩ : ∃ nU, s1.U.length = nU := ⟨_, rfl⟩
        have hUp : (0 : Int) < (nU : Int) := by have := HUl.out; omega
        clear hUne hU
        rw [hnU] at HU0 H9
        clear hnU HUl
        have x7 : World.cell? w9 ⟨g, 7, none⟩ = some (.slice (some ⟨gL, 0, none⟩) ps1.length lc) := H9.out.e.k.cell 7 (by omega)
        obtain ⟨y0, y1, y2, y3⟩ := H9.out.e.k.entAt HJ.out
        obtain ⟨z0, z2, z3, z4, z7⟩ := op_cells' H9.out.e.box
        dsimp only at y0 y1 y2 y3
        by_cases k1 : o.kind = 1
        ·have q1 : (o.kind == 1) = true := by simp [k1]
         have q2 : (o.kind == 2) = false := by simp [k1]
         by_cases hk : ev.key = o.key
         ·have HS : Hid (evictP o (xs.map Prod.fst) s = .error 4) := zH (by rw [HV.out, if_pos (.inr ⟨.inl k1, hk⟩)])
          have hkb : (o.key.toList == ev.key.toList) = true := by rw [key_eq]; simp [hk]
          clear k1 hk
          go_quiet (fail)
          go_wp2_with fail
          go_ret
          exact EvtRet.err HS.out (H9.out.adv (drewN_below w9 nq)).e.only
         ·have HV2 : Hid (evictP o (xs.map Prod.fst) s = if s1.cfg.prot = 0 ∧ s1.U.head? ≠ some ev.birth then .error 4 else evictP o ((xs.drop (k + 1)).map Prod.fst) (goneP s1 ev.birth)) := zH (by rw [HV.out, if_neg (by rintro (h | ⟨_, h⟩); exact HNW.out h; exact hk h)])
          have hkb : (o.key.toList == ev.key.toList) = false := by rw [key_eq]; exact decide_eq_false (fun h => hk h.symm)
          clear k1 hk
          go_quiet (fail)
          have HBq : Below w9.heap.size w9 (w9.drewN nq) := ⟨rfl, rfl, rfl, zN _, fun _ _ => rfl⟩
          have H10 := zH (H9.out.adv HBq)
          clear x7 y0 y1 y2 y3 z0 z2 z3 z4 z7 HBq
          generalize w9.drewN nq = w10 at H10 ⊢
          have x7 : World.cell? w10 ⟨g, 7, none⟩ = some (.slice (some ⟨gL, 0, none⟩) ps1.length lc) := H10.out.e.k.cell 7 (by omega)
          have x8 : World.cell? w10 ⟨g, 8, none⟩ = some (.slice (some ⟨gU, 0, none⟩) nU cU) := H10.out.e.k.cell 8 (by omega)
          have x2 : World.cell? w10 ⟨g, 2, none⟩ = some (.int .i64 s1.cfg.prot) := H10.out.e.k.cell 2 (by omega)
          have xu := HU0.out _ H10.out.e.k
          obtain ⟨y0, y1, y2, y3⟩ := H10.out.e.k.entAt HJ.out
          dsimp only at y0 y1 y2 y3
          go_upto_region 16 with fail
          by_cases hp : s1.cfg.prot = 0
          ·have hpb : (s1.cfg.prot == 0) = true := by simp [hp]
           by_cases hu : u0 = ev.birth
           ·have HS : Hid (evictP o (xs.map Prod.fst) s = evictP o ((xs.drop (k + 1)).map Prod.fst) (goneP s1 ev.birth)) := zH (by rw [HV2.out, if_neg (by rintro ⟨_, h⟩; rw [HU.out] at h; exact h (by rw [List.head?_cons, hu]))])
            have hub : (u0 != ev.birth) = false := by simp [hu]
            clear hp hu
            go_quiet (fail)
            have HBq : Below w10.heap.size w10 (w10.drewN nq) := ⟨rfl, rfl, rfl, zN _, fun _ _ => rfl⟩
            have H11 := zH (H10.out.adv HBq)
            clear x7 x8 x2 xu y0 y1 y2 y3 HBq
            generalize w10.drewN nq = w11 at H11 ⊢
            go_wp2_with fail
            refine (kGone_any B g _ _ pv s1 ps1 k2 _ w11 H11.out.e.k HJ.out HPn.out (by have := HPi.out.lenU; have := HN.out; omega) (Nat.le_trans HBs.out H11.out.e.only.size) HPi.out.asc).mono ?_
            rintro e2 w12 ⟨vL', vU', rfl, hk12, ho12⟩
            have H12 := zH (H11.out.next hk12 ho12 HBv.out)
            clear hk12 ho12
            go_wp2_with fail
            go_roundw
            case rel => exact ⟨k + 1, _, _, _, _, by omega, by go_num, HS.out.symm, HPi.out.gone _, HNw.out, H12.out⟩
            case measure => simp [intOf]; omega
           ·have HS : Hid (evictP o (xs.map Prod.fst) s = .error 4) := zH (by rw [HV2.out, if_pos ⟨hp, fun h => (by rw [HU.out, List.head?_cons] at h; injection h with h; exact hu h)⟩])
            have hub : (u0 != ev.birth) = true := by simp [hu]
            clear hp hu
            go_quiet (fail)
            go_wp2_with fail
            go_ret
            exact EvtRet.err HS.out (H10.out.adv (drewN_below w10 nq)).e.only
          ·have HS : Hid (evictP o (xs.map Prod.fst) s = evictP o ((xs.drop (k + 1)).map Prod.fst) (goneP s1 ev.birth)) := zH (by rw [HV2.out, if_neg (fun h => hp h.1)])
           have hpb : (s1.cfg.prot == 0) = false := by simp [hp]
           clear hp
           go_quiet (fail)
           have HBq : Below w10.heap.size w10 (w10.drewN nq) := ⟨rfl, rfl, rfl, zN _, fun _ _ => rfl⟩
           have H11 := zH (H10.out.adv HBq)
           clear x7 x8 x2 xu y0 y1 y2 y3 HBq
           generalize w10.drewN nq = w11 at H11 ⊢
           go_wp2_with fail
           refine (kGone_any B g _ _ pv s1 ps1 k2 _ w11 H11.out.e.k HJ.out HPn.out (by have := HPi.out.lenU; have := HN.out; omega) (Nat.le_trans HBs.out H11.out.e.only.size) HPi.out.asc).mono ?_
           rintro e2 w12 ⟨vL', vU', rfl, hk12, ho12⟩
           have H12 := zH (H11.out.next hk12 ho12 HBv.out)
           clear hk12 ho12
           go_wp2_with fail
           go_roundw
           case rel => exact ⟨k + 1, _, _, _, _, by omega, by go_num, HS.out.symm, HPi.out.gone _, HNw.out, H12.out⟩
           case measure => simp [intOf]; omega
        ·have q1 : (o.kind == 1) = false := by simp [k1]
         by_cases k2k : o.kind = 2
         ·have q2 : (o.kind == 2) = true := by simp [k2k]
          by_cases hk : ev.key = o.key
          ·have HS : Hid (evictP o (xs.map Prod.fst) s = .error 4) := zH (by rw [HV.out, if_pos (.inr ⟨.inr k2k, hk⟩)])
           have hkb : (o.key.toList == ev.key.toList) = true := by rw [key_eq]; simp [hk]
           clear k1 hk k2k
           go_quiet (fail)
           go_wp2_with fail
           go_ret
           exact EvtRet.err HS.out (H9.out.adv (drewN_below w9 nq)).e.only
          ·have HV2 : Hid (evictP o (xs.map Prod.fst) s = if s1.cfg.prot = 0 ∧ s1.U.head? ≠ some ev.birth then .error 4 else evictP o ((xs.drop (k + 1)).map Prod.fst) (goneP s1 ev.birth)) := zH (by rw [HV.out, if_neg (by rintro (h | ⟨_, h⟩); exact HNW.out h; exact hk h)])
           have hkb : (o.key.toList == ev.key.toList) = false := by rw [key_eq]; exact decide_eq_false (fun h => hk h.symm)
           clear k1 hk k2k
           go_quiet (fail)
           have HBq : Below w9.heap.size w9 (w9.drewN nq) := ⟨rfl, rfl, rfl, zN _, fun _ _ => rfl⟩
           have H10 := zH (H9.out.adv HBq)
           clear x7 y0 y1 y2 y3 z0 z2 z3 z4 z7 HBq
           generalize w9.drewN nq = w10 at H10 ⊢
           have x7 : World.cell? w10 ⟨g, 7, none⟩ = some (.slice (some ⟨gL, 0, none⟩) ps1.length lc) := H10.out.e.k.cell 7 (by omega)
           have x8 : World.cell? w10 ⟨g, 8, none⟩ = some (.slice (some ⟨gU, 0, none⟩) nU cU) := H10.out.e.k.cell 8 (by omega)
           have x2 : World.cell? w10 ⟨g, 2, none⟩ = some (.int .i64 s1.cfg.prot) := H10.out.e.k.cell 2 (by omega)
           have xu := HU0.out _ H10.out.e.k
           obtain ⟨y0, y1, y2, y3⟩ := H10.out.e.k.entAt HJ.out
           dsimp only at y0 y1 y2 y3
           go_upto_region 16 with fail
           by_cases hp : s1.cfg.prot = 0
           ·have hpb : (s1.cfg.prot == 0) = true := by simp [hp]
            by_cases hu : u0 = ev.birth
            ·have HS : Hid (evictP o (xs.map Prod.fst) s = evictP o ((xs.drop (k + 1)).map Prod.fst) (goneP s1 ev.birth)) := zH (by rw [HV2.out, if_neg (by rintro ⟨_, h⟩; rw [HU.out] at h; exact h (by rw [List.head?_cons, hu]))])
             have hub : (u0 != ev.birth) = false := by simp [hu]
             clear hp hu
             go_quiet (fail)
             have HBq : Below w10.heap.size w10 (w10.drewN nq) := ⟨rfl, rfl, rfl, zN _, fun _ _ => rfl⟩
             have H11 := zH (H10.out.adv HBq)
             clear x7 x8 x2 xu y0 y1 y2 y3 HBq
             generalize w10.drewN nq = w11 at H11 ⊢
             go_wp2_with fail
             refine (kGone_any B g _ _ pv s1 ps1 k2 _ w11 H11.out.e.k HJ.out HPn.out (by have := HPi.out.lenU; have := HN.out; omega) (Nat.le_trans HBs.out H11.out.e.only.size) HPi.out.asc).mono ?_
             rintro e2 w12 ⟨vL', vU', rfl, hk12, ho12⟩
             have H12 := zH (H11.out.next hk12 ho12 HBv.out)
             clear hk12 ho12
             go_wp2_with fail
             go_roundw
             case rel => exact ⟨k + 1, _, _, _, _, by omega, by go_num, HS.out.symm, HPi.out.gone _, HNw.out, H12.out⟩
             case measure => simp [intOf]; omega
            ·have HS : Hid (evictP o (xs.map Prod.fst) s = .error 4) := zH (by rw [HV2.out, if_pos ⟨hp, fun h => (by rw [HU.out, List.head?_cons] at h; injection h with h; exact hu h)⟩])
             have hub : (u0 != ev.birth) = true := by simp [hu]
             clear hp hu
             go_quiet (fail)
             go_wp2_with fail
             go_ret
             exact EvtRet.err HS.out (H10.out.adv (drewN_below w10 nq)).e.only
           ·have HS : Hid (evictP o (xs.map Prod.fst) s = evictP o ((xs.drop (k + 1)).map Prod.fst) (goneP s1 ev.birth)) := zH (by rw [HV2.out, if_neg (fun h => hp h.1)])
            have hpb : (s1.cfg.prot == 0) = false := by simp [hp]
            clear hp
            go_quiet (fail)
            have HBq : Below w10.heap.size w10 (w10.drewN nq) := ⟨rfl, rfl, rfl, zN _, fun _ _ => rfl⟩
            have H11 := zH (H10.out.adv HBq)
            clear x7 x8 x2 xu y0 y1 y2 y3 HBq
            generalize w10.drewN nq = w11 at H11 ⊢
            go_wp2_with fail
            refine (kGone_any B g _ _ pv s1 ps1 k2 _ w11 H11.out.e.k HJ.out HPn.out (by have := HPi.out.lenU; have := HN.out; omega) (Nat.le_trans HBs.out H11.out.e.only.size) HPi.out.asc).mono ?_
            rintro e2 w12 ⟨vL', vU', rfl, hk12, ho12⟩
            have H12 := zH (H11.out.next hk12 ho12 HBv.out)
            clear hk12 ho12
            go_wp2_with fail
            go_roundw
            case rel => exact ⟨k + 1, _, _, _, _, by omega, by go_num, HS.out.symm, HPi.out.gone _, HNw.out, H12.out⟩
            case measure => simp [intOf]; omega
         ·have HV2 : Hid (evictP o (xs.map Prod.fst) s = if s1.cfg.prot = 0 ∧ s1.U.head? ≠ some ev.birth then .error 4 else evictP o ((xs.drop (k + 1)).map Prod.fst) (goneP s1 ev.birth)) := zH (by rw [HV.out, if_neg (by rintro (h | ⟨h | h, _⟩); exact HNW.out h; exact k1 h; exact k2k h)])
          have q2 : (o.kind == 2) = false := by simp [k2k]
          clear k1 k2k
          go_quiet (fail)
          have HBq : Below w9.heap.size w9 (w9.drewN nq) := ⟨rfl, rfl, rfl, zN _, fun _ _ => rfl⟩
          have H10 := zH (H9.out.adv HBq)
          clear x7 y0 y1 y2 y3 z0 z2 z3 z4 z7 HBq
          generalize w9.drewN nq = w10 at H10 ⊢
          have x7 : World.cell? w10 ⟨g, 7, none⟩ = some (.slice (some ⟨gL, 0, none⟩) ps1.length lc) := H10.out.e.k.cell 7 (by omega)
          have x8 : World.cell? w10 ⟨g, 8, none⟩ = some (.slice (some ⟨gU, 0, none⟩) nU cU) := H10.out.e.k.cell 8 (by omega)
          have x2 : World.cell? w10 ⟨g, 2, none⟩ = some (.int .i64 s1.cfg.prot) := H10.out.e.k.cell 2 (by omega)
          have xu := HU0.out _ H10.out.e.k
          obtain ⟨y0, y1, y2, y3⟩ := H10.out.e.k.entAt HJ.out
          dsimp only at y0 y1 y2 y3
          go_upto_region 16 with fail
          by_cases hp : s1.cfg.prot = 0
          ·have hpb : (s1.cfg.prot == 0) = true := by simp [hp]
           by_cases hu : u0 = ev.birth
           ·have HS : Hid (evictP o (xs.map Prod.fst) s = evictP o ((xs.drop (k + 1)).map Prod.fst) (goneP s1 ev.birth)) := zH (by rw [HV2.out, if_neg (by rintro ⟨_, h⟩; rw [HU.out] at h; exact h (by rw [List.head?_cons, hu]))])
            have hub : (u0 != ev.birth) = false := by simp [hu]
            clear hp hu
            go_quiet (fail)
            have HBq : Below w10.heap.size w10 (w10.drewN nq) := ⟨rfl, rfl, rfl, zN _, fun _ _ => rfl⟩
            have H11 := zH (H10.out.adv HBq)
            clear x7 x8 x2 xu y0 y1 y2 y3 HBq
            generalize w10.drewN nq = w11 at H11 ⊢
            go_wp2_with fail
            refine (kGone_any B g _ _ pv s1 ps1 k2 _ w11 H11.out.e.k HJ.out HPn.out (by have := HPi.out.lenU; have := HN.out; omega) (Nat.le_trans HBs.out H11.out.e.only.size) HPi.out.asc).mono ?_
            rintro e2 w12 ⟨vL', vU', rfl, hk12, ho12⟩
            have H12 := zH (H11.out.next hk12 ho12 HBv.out)
            clear hk12 ho12
            go_wp2_with fail
            go_roundw
            case rel => exact ⟨k + 1, _, _, _, _, by omega, by go_num, HS.out.symm, HPi.out.gone _, HNw.out, H12.out⟩
            case measure => simp [intOf]; omega
           ·have HS : Hid (evictP o (xs.map Prod.fst) s = .error 4) := zH (by rw [HV2.out, if_pos ⟨hp, fun h => (by rw [HU.out, List.head?_cons] at h; injection h with h; exact hu h)⟩])
            have hub : (u0 != ev.birth) = true := by simp [hu]
            clear hp hu
            go_quiet (fail)
            go_wp2_with fail
            go_ret
            exact EvtRet.err HS.out (H10.out.adv (drewN_below w10 nq)).e.only
          ·have HS : Hid (evictP o (xs.map Prod.fst) s = evictP o ((xs.drop (k + 1)).map Prod.fst) (goneP s1 ev.birth)) := zH (by rw [HV2.out, if_neg (fun h => hp h.1)])
           have hpb : (s1.cfg.prot == 0) = false := by simp [hp]
           clear hp
           go_quiet (fail)
           have HBq : Below w10.heap.size w10 (w10.drewN nq) := ⟨rfl, rfl, rfl, zN _, fun _ _ => rfl⟩
           have H11 := zH (H10.out.adv HBq)
           clear x7 x8 x2 xu y0 y1 y2 y3 HBq
           generalize w10.drewN nq = w11 at H11 ⊢
           go_wp2_with fail
           refine (kGone_any B g _ _ pv s1 ps1 k2 _ w11 H11.out.e.k HJ.out HPn.out (by have := HPi.out.lenU; have := HN.out; omega) (Nat.le_trans HBs.out H11.out.e.only.size) HPi.out.asc).mono ?_
           rintro e2 w12 ⟨vL', vU', rfl, hk12, ho12⟩
           have H12 := zH (H11.out.next hk12 ho12 HBv.out)
           clear hk12 ho12
           go_wp2_with fail
           go_roundw
           case rel => exact ⟨k + 1, _, _, _, _, by omega, by go_num, HS.out.symm, HPi.out.gone _, HNw.out, H12.out⟩
           case measure => simp [intOf]; omega
      ·have HNW : Hid (¬ withinP s1) := zH (fun h => hw1 (HWi.out.1 h).1)
       go_upto_region 12 with fail
       refine wp_region_noPanic ?_
       refine wp_region_held_drew (S := fun W => EvI w W B Bv g (.slice (some ⟨gL, 0, none⟩) ps1.length lc) vU1 pv s1 ps1 o (.slice A n c) (.slice (some ⟨q, off, none⟩) xs.length lc0) xs) (by kernel_rfl) (HJ0.out.adv (zL _ _).drew) (fun hHeld => ?_)
       generalize wr.drew = W3 at hHeld ⊢
       have H3 := zH hHeld
       clear x7
       refine Pl.go [0, 1, 2, 3, 4, 5, 6, 7, 8, 9, 10, 11] ?_
       iterate 12
        refine tkl (v := ?_) ?_ ?_
        rotate_left 1
        ·intro W hSw
         have x7 : W.cell? ⟨g, 7, none⟩ = some (.slice (some ⟨gL, 0, none⟩) ps1.length lc) := hSw.e.k.cell 7 (by omega); have x0 := HC0.out _ hSw.e.k; have x1 := HC1.out _ hSw.e.k
         clear hSw
         go_simp
         try with_reducible rfl
        try dsimp only [zS, zB, zC]
       refine Pl.stop ?_
       refine Pl.go [12, 13, 14, 15, 16, 17, 18, 19] ?_
       iterate 8
        refine skl ?_
        try dsimp only [zS, zB, zC]
       refine Pl.stop ?_
       refine tk 20 (v := ?_) ?_ ?_
       rotate_left 1
       ·intro W hSw
        skip
        clear hSw
        go_simp
        try with_reducible rfl
       try dsimp only [zS, zB, zC]
       refine wpAnyH_done (by kernel_rfl) ?_ _
       refine NoPanic.normal ?_
       have H9 := zH hHeld
       clear hHeld H3
       generalize W3 = w9 at H9 ⊢
       go_upto_region 14 with fail
       clear hw1
       have hUne : s1.U ≠ [] := fun h => by
        have := (HPi.out.mem ev.birth).2 ⟨ev, HXL.out, rfl⟩
        rw [h] at this; cases this
       obtain ⟨u0, us, hU⟩ : ∃ u0 us, s1.U = u0 :: us := by
        cases hU : s1.U with
        |nil => exact absurd hU hUne
        |cons a b => exact ⟨a, b, rfl⟩
       have HU := zH hU
       obtain ⟨gU, cU, hvU⟩ : ∃ gU cU, vU1 = .slice (some ⟨gU, 0, none⟩) s1.U.length cU := by
        rcases H9.out.e.k.U.2 with ⟨_, h0⟩ | ⟨q, c, cur, eq, _⟩
        ·rw [hU] at h0; simp at h0
        ·exact ⟨q, c, eq⟩
       subst hvU
       have HU0 : Hid (∀ W, KRep W B g (.slice (some ⟨gL, 0, none⟩) ps1.length lc) (.slice (some ⟨gU, 0, none⟩) s1.U.length cU) pv s1 ps1 → W.cell? ⟨gU, 0, none⟩ = some (.int .u64 u0)) := zH (fun W hW => by
        have := hW.U.cells (g := gU) rfl 0 (.int .u64 u0) (by rw [HU.out]; rfl)
        rw [add_plain] at this
        exact this)
       have HUl : Hid (s1.U.length = us.length + 1) := zH (by rw [HU.out]; rfl)
       obtain ⟨nU, hnU⟩ : ∃ nU, s1.U.length = nU := ⟨_, rfl⟩
       have hUp : (0 : Int) < (nU : Int) := by have := HUl.out; omega
       clear hUne hU
       rw [hnU] at HU0 H9
       clear hnU HUl
       have x7 : World.cell? w9 ⟨g, 7, none⟩ = some (.slice (some ⟨gL, 0, none⟩) ps1.length lc) := H9.out.e.k.cell 7 (by omega)
       obtain ⟨y0, y1, y2, y3⟩ := H9.out.e.k.entAt HJ.out
       obtain ⟨z0, z2, z3, z4, z7⟩ := op_cells' H9.out.e.box
       dsimp only at y0 y1 y2 y3
       by_cases k1 : o.kind = 1
       ·have q1 : (o.kind == 1) = true := by simp [k1]
        have q2 : (o.kind == 2) = false := by simp [k1]
        by_cases hk : ev.key = o.key
        ·have HS : Hid (evictP o (xs.map Prod.fst) s = .error 4) := zH (by rw [HV.out, if_pos (.inr ⟨.inl k1, hk⟩)])
         have hkb : (o.key.toList == ev.key.toList) = true := by rw [key_eq]; simp [hk]
         clear k1 hk
         go_quiet (fail)
         go_wp2_with fail
         go_ret
         exact EvtRet.err HS.out (H9.out.adv (drewN_below w9 nq)).e.only
        ·have HV2 : Hid (evictP o (xs.map Prod.fst) s = if s1.cfg.prot = 0 ∧ s1.U.head? ≠ some ev.birth then .error 4 else evictP o ((xs.drop (k + 1)).map Prod.fst) (goneP s1 ev.birth)) := zH (by rw [HV.out, if_neg (by rintro (h | ⟨_, h⟩); exact HNW.out h; exact hk h)])
         have hkb : (o.key.toList == ev.key.toList) = false := by rw [key_eq]; exact decide_eq_false (fun h => hk h.symm)
         clear k1 hk
         go_quiet (fail)
         have HBq : Below w9.heap.size w9 (w9.drewN nq) := ⟨rfl, rfl, rfl, zN _, fun _ _ => rfl⟩
         have H10 := zH (H9.out.adv HBq)
         clear x7 y0 y1 y2 y3 z0 z2 z3 z4 z7 HBq
         generalize w9.drewN nq = w10 at H10 ⊢
         have x7 : World.cell? w10 ⟨g, 7, none⟩ = some (.slice (some ⟨gL, 0, none⟩) ps1.length lc) := H10.out.e.k.cell 7 (by omega)
         have x8 : World.cell? w10 ⟨g, 8, none⟩ = some (.slice (some ⟨gU, 0, none⟩) nU cU) := H10.out.e.k.cell 8 (by omega)
         have x2 : World.cell? w10 ⟨g, 2, none⟩ = some (.int .i64 s1.cfg.prot) := H10.out.e.k.cell 2 (by omega)
         have xu := HU0.out _ H10.out.e.k
         obtain ⟨y0, y1, y2, y3⟩ := H10.out.e.k.entAt HJ.out
         dsimp only at y0 y1 y2 y3
         go_upto_region 16 with fail
         by_cases hp : s1.cfg.prot = 0
         ·have hpb : (s1.cfg.prot == 0) = true := by simp [hp]
          by_cases hu : u0 = ev.birth
          ·have HS : Hid (evictP o (xs.map Prod.fst) s = evictP o ((xs.drop (k + 1)).map Prod.fst) (goneP s1 ev.birth)) := zH (by rw [HV2.out, if_neg (by rintro ⟨_, h⟩; rw [HU.out] at h; exact h (by rw [List.head?_cons, hu]))])
           have hub : (u0 != ev.birth) = false := by simp [hu]
           clear hp hu
           go_quiet (fail)
           have HBq : Below w10.heap.size w10 (w10.drewN nq) := ⟨rfl, rfl, rfl, zN _, fun _ _ => rfl⟩
           have H11 := zH (H10.out.adv HBq)
           clear x7 x8 x2 xu y0 y1 y2 y3 HBq
           generalize w10.drewN nq = w11 at H11 ⊢
           go_wp2_with fail
           refine (kGone_any B g _ _ pv s1 ps1 k2 _ w11 H11.out.e.k HJ.out HPn.out (by have := HPi.out.lenU; have := HN.out; omega) (Nat.le_trans HBs.out H11.out.e.only.size) HPi.out.asc).mono ?_
           rintro e2 w12 ⟨vL', vU', rfl, hk12, ho12⟩
           have H12 := zH (H11.out.next hk12 ho12 HBv.out)
           clear hk12 ho12
           go_wp2_with fail
           go_roundw
           case rel => exact ⟨k + 1, _, _, _, _, by omega, by go_num, HS.out.symm, HPi.out.gone _, HNw.out, H12.out⟩
           case measure => simp [intOf]; omega
          ·have HS : Hid (evictP o (xs.map Prod.fst) s = .error 4) := zH (by rw [HV2.out, if_pos ⟨hp, fun h => (by rw [HU.out, List.head?_cons] at h; injection h with h; exact hu h)⟩])
           have hub : (u0 != ev.birth) = true := by simp [hu]
           clear hp hu
           go_quiet (fail)
           go_wp2_with fail
           go_ret
           exact EvtRet.err HS.out (H10.out.adv (drewN_below w10 nq)).e.only
         ·have HS : Hid (evictP o (xs.map Prod.fst) s = evictP o ((xs.drop (k + 1)).map Prod.fst) (goneP s1 ev.birth)) := zH (by rw [HV2.out, if_neg (fun h => hp h.1)])
          have hpb : (s1.cfg.prot == 0) = false := by simp [hp]
          clear hp
          go_quiet (fail)
          have HBq : Below w10.heap.size w10 (w10.drewN nq) := ⟨rfl, rfl, rfl, zN _, fun _ _ => rfl⟩
          have H11 := zH (H10.out.adv HBq)
          clear x7 x8 x2 xu y0 y1 y2 y3 HBq
          generalize w10.drewN nq = w11 at H11 ⊢
          go_wp2_with fail
          refine (kGone_any B g _ _ pv s1 ps1 k2 _ w11 H11.out.e.k HJ.out HPn.out (by have := HPi.out.lenU; have := HN.out; omega) (Nat.le_trans HBs.out H11.out.e.only.size) HPi.out.asc).mono ?_
          rintro e2 w12 ⟨vL', vU', rfl, hk12, ho12⟩
          have H12 := zH (H11.out.next hk12 ho12 HBv.out)
          clear hk12 ho12
          go_wp2_with fail
          go_roundw
          case rel => exact ⟨k + 1, _, _, _, _, by omega, by go_num, HS.out.symm, HPi.out.gone _, HNw.out, H12.out⟩
          case measure => simp [intOf]; omega
       ·have q1 : (o.kind == 1) = false := by simp [k1]
        by_cases k2k : o.kind = 2
        ·have q2 : (o.kind == 2) = true := by simp [k2k]
         by_cases hk : ev.key = o.key
         ·have HS : Hid (evictP o (xs.map Prod.fst) s = .error 4) := zH (by rw [HV.out, if_pos (.inr ⟨.inr k2k, hk⟩)])
          have hkb : (o.key.toList == ev.key.toList) = true := by rw [key_eq]; simp [hk]
          clear k1 hk k2k
          go_quiet (fail)
          go_wp2_with fail
          go_ret
          exact EvtRet.err HS.out (H9.out.adv (drewN_below w9 nq)).e.only
         ·have HV2 : Hid (evictP o (xs.map Prod.fst) s = if s1.cfg.prot = 0 ∧ s1.U.head? ≠ some ev.birth then .error 4 else evictP o ((xs.drop (k + 1)).map Prod.fst) (goneP s1 ev.birth)) := zH (by rw [HV.out, if_neg (by rintro (h | ⟨_, h⟩); exact HNW.out h; exact hk h)])
          have hkb : (o.key.toList == ev.key.toList) = false := by rw [key_eq]; exact decide_eq_false (fun h => hk h.symm)
          clear k1 hk k2k
          go_quiet (fail)
          have HBq : Below w9.heap.size w9 (w9.drewN nq) := ⟨rfl, rfl, rfl, zN _, fun _ _ => rfl⟩
          have H10 := zH (H9.out.adv HBq)
          clear x7 y0 y1 y2 y3 z0 z2 z3 z4 z7 HBq
          generalize w9.drewN nq = w10 at H10 ⊢
          have x7 : World.cell? w10 ⟨g, 7, none⟩ = some (.slice (some ⟨gL, 0, none⟩) ps1.length lc) := H10.out.e.k.cell 7 (by omega)
          have x8 : World.cell? w10 ⟨g, 8, none⟩ = some (.slice (some ⟨gU, 0, none⟩) nU cU) := H10.out.e.k.cell 8 (by omega)
          have x2 : World.cell? w10 ⟨g, 2, none⟩ = some (.int .i64 s1.cfg.prot) := H10.out.e.k.cell 2 (by omega)
          have xu := HU0.out _ H10.out.e.k
          obtain ⟨y0, y1, y2, y3⟩ := H10.out.e.k.entAt HJ.out
          dsimp only at y0 y1 y2 y3
          go_upto_region 16 with fail
          by_cases hp : s1.cfg.prot = 0
          ·have hpb : (s1.cfg.prot == 0) = true := by simp [hp]
           by_cases hu : u0 = ev.birth
           ·have HS : Hid (evictP o (xs.map Prod.fst) s = evictP o ((xs.drop (k + 1)).map Prod.fst) (goneP s1 ev.birth)) := zH (by rw [HV2.out, if_neg (by rintro ⟨_, h⟩; rw [HU.out] at h; exact h (by rw [List.head?_cons, hu]))])
            have hub : (u0 != ev.birth) = false := by simp [hu]
            clear hp hu
            go_quiet (fail)
            have HBq : Below w10.heap.size w10 (w10.drewN nq) := ⟨rfl, rfl, rfl, zN _, fun _ _ => rfl⟩
            have H11 := zH (H10.out.adv HBq)
            clear x7 x8 x2 xu y0 y1 y2 y3 HBq
            generalize w10.drewN nq = w11 at H11 ⊢
            go_wp2_with fail
            refine (kGone_any B g _ _ pv s1 ps1 k2 _ w11 H11.out.e.k HJ.out HPn.out (by have := HPi.out.lenU; have := HN.out; omega) (Nat.le_trans HBs.out H11.out.e.only.size) HPi.out.asc).mono ?_
            rintro e2 w12 ⟨vL', vU', rfl, hk12, ho12⟩
            have H12 := zH (H11.out.next hk12 ho12 HBv.out)
            clear hk12 ho12
            go_wp2_with fail
            go_roundw
            case rel => exact ⟨k + 1, _, _, _, _, by omega, by go_num, HS.out.symm, HPi.out.gone _, HNw.out, H12.out⟩
            case measure => simp [intOf]; omega
           ·have HS : Hid (evictP o (xs.map Prod.fst) s = .error 4) := zH (by rw [HV2.out, if_pos ⟨hp, fun h => (by rw [HU.out, List.head?_cons] at h; injection h with h; exact hu h)⟩])
            have hub : (u0 != ev.birth) = true := by simp [hu]
            clear hp hu
            go_quiet (fail)
            go_wp2_with fail
            go_ret
            exact EvtRet.err HS.out (H10.out.adv (drewN_below w10 nq)).e.only
          ·have HS : Hid (evictP o (xs.map Prod.fst) s = evictP o ((xs.drop (k + 1)).map Prod.fst) (goneP s1 ev.birth)) := zH (by rw [HV2.out, if_neg (fun h => hp h.1)])
           have hpb : (s1.cfg.prot == 0) = false := by simp [hp]
           clear hp
           go_quiet (fail)
           have HBq : Below w10.heap.size w10 (w10.drewN nq) := ⟨rfl, rfl, rfl, zN _, fun _ _ => rfl⟩
           have H11 := zH (H10.out.adv HBq)
           clear x7 x8 x2 xu y0 y1 y2 y3 HBq
           generalize w10.drewN nq = w11 at H11 ⊢
           go_wp2_with fail
           refine (kGone_any B g _ _ pv s1 ps1 k2 _ w11 H11.out.e.k HJ.out HPn.out (by have := HPi.out.lenU; have := HN.out; omega) (Nat.le_trans HBs.out H11.out.e.only.size) HPi.out.asc).mono ?_
           rintro e2 w12 ⟨vL', vU', rfl, hk12, ho12⟩
           have H12 := zH (H11.out.next hk12 ho12 HBv.out)
           clear hk12 ho12
           go_wp2_with fail
           go_roundw
           case rel => exact ⟨k + 1, _, _, _, _, by omega, by go_num, HS.out.symm, HPi.out.gone _, HNw.out, H12.out⟩
           case measure => simp [intOf]; omega
        ·have HV2 : Hid (evictP o (xs.map Prod.fst) s = if s1.cfg.prot = 0 ∧ s1.U.head? ≠ some ev.birth then .error 4 else evictP o ((xs.drop (k + 1)).map Prod.fst) (goneP s1 ev.birth)) := zH (by rw [HV.out, if_neg (by rintro (h | ⟨h | h, _⟩); exact HNW.out h; exact k1 h; exact k2k h)])
         have q2 : (o.kind == 2) = false := by simp [k2k]
         clear k1 k2k
         go_quiet (fail)
         have HBq : Below w9.heap.size w9 (w9.drewN nq) := ⟨rfl, rfl, rfl, zN _, fun _ _ => rfl⟩
         have H10 := zH (H9.out.adv HBq)
         clear x7 y0 y1 y2 y3 z0 z2 z3 z4 z7 HBq
         generalize w9.drewN nq = w10 at H10 ⊢
         have x7 : World.cell? w10 ⟨g, 7, none⟩ = some (.slice (some ⟨gL, 0, none⟩) ps1.length lc) := H10.out.e.k.cell 7 (by omega)
         have x8 : World.cell? w10 ⟨g, 8, none⟩ = some (.slice (some ⟨gU, 0, none⟩) nU cU) := H10.out.e.k.cell 8 (by omega)
         have x2 : World.cell? w10 ⟨g, 2, none⟩ = some (.int .i64 s1.cfg.prot) := H10.out.e.k.cell 2 (by omega)
         have xu := HU0.out _ H10.out.e.k
         obtain ⟨y0, y1, y2, y3⟩ := H10.out.e.k.entAt HJ.out
         dsimp only at y0 y1 y2 y3
         go_upto_region 16 with fail
         by_cases hp : s1.cfg.prot = 0
         ·have hpb : (s1.cfg.prot == 0) = true := by simp [hp]
          by_cases hu : u0 = ev.birth
          ·have HS : Hid (evictP o (xs.map Prod.fst) s = evictP o ((xs.drop (k + 1)).map Prod.fst) (goneP s1 ev.birth)) := zH (by rw [HV2.out, if_neg (by rintro ⟨_, h⟩; rw [HU.out] at h; exact h (by rw [List.head?_cons, hu]))])
           have hub : (u0 != ev.birth) = false := by simp [hu]
           clear hp hu
           go_quiet (fail)
           have HBq : Below w10.heap.size w10 (w10.drewN nq) := ⟨rfl, rfl, rfl, zN _, fun _ _ => rfl⟩
           have H11 := zH (H10.out.adv HBq)
           clear x7 x8 x2 xu y0 y1 y2 y3 HBq
           generalize w10.drewN nq = w11 at H11 ⊢
           go_wp2_with fail
           refine (kGone_any B g _ _ pv s1 ps1 k2 _ w11 H11.out.e.k HJ.out HPn.out (by have := HPi.out.lenU; have := HN.out; omega) (Nat.le_trans HBs.out H11.out.e.only.size) HPi.out.asc).mono ?_
           rintro e2 w12 ⟨vL', vU', rfl, hk12, ho12⟩
           have H12 := zH (H11.out.next hk12 ho12 HBv.out)
           clear hk12 ho12
           go_wp2_with fail
           go_roundw
           case rel => exact ⟨k + 1, _, _, _, _, by omega, by go_num, HS.out.symm, HPi.out.gone _, HNw.out, H12.out⟩
           case measure => simp [intOf]; omega
          ·have HS : Hid (evictP o (xs.map Prod.fst) s = .error 4) := zH (by rw [HV2.out, if_pos ⟨hp, fun h => (by rw [HU.out, List.head?_cons] at h; injection h with h; exact hu h)⟩])
           have hub : (u0 != ev.birth) = true := by simp [hu]
           clear hp hu
           go_quiet (fail)
           go_wp2_with fail
           go_ret
           exact EvtRet.err HS.out (H10.out.adv (drewN_below w10 nq)).e.only
         ·have HS : Hid (evictP o (xs.map Prod.fst) s = evictP o ((xs.drop (k + 1)).map Prod.fst) (goneP s1 ev.birth)) := zH (by rw [HV2.out, if_neg (fun h => hp h.1)])
          have hpb : (s1.cfg.prot == 0) = false := by simp [hp]
          clear hp
          go_quiet (fail)
          have HBq : Below w10.heap.size w10 (w10.drewN nq) := ⟨rfl, rfl, rfl, zN _, fun _ _ => rfl⟩
          have H11 := zH (H10.out.adv HBq)
          clear x7 x8 x2 xu y0 y1 y2 y3 HBq
          generalize w10.drewN nq = w11 at H11 ⊢
          go_wp2_with fail
          refine (kGone_any B g _ _ pv s1 ps1 k2 _ w11 H11.out.e.k HJ.out HPn.out (by have := HPi.out.lenU; have := HN.out; omega) (Nat.le_trans HBs.out H11.out.e.only.size) HPi.out.asc).mono ?_
          rintro e2 w12 ⟨vL', vU', rfl, hk12, ho12⟩
          have H12 := zH (H11.out.next hk12 ho12 HBv.out)
          clear hk12 ho12
          go_wp2_with fail
          go_roundw
          case rel => exact ⟨k + 1, _, _, _, _, by omega, by go_num, HS.out.symm, HPi.out.gone _, HNw.out, H12.out⟩
          case measure => simp [intOf]; omega
  ·obtain rfl : k = xs.length := by omega
   have HS : Hid (evictP o (xs.map Prod.fst) s = .ok s1) := zH (by
    rw [← HEv.out, List.drop_length]; rfl)
   clear hI
   go_wp2_with fail
   go_ret
   exact EvtRet.ok HS.out HI.out.e.k HI.out.e.only
end Go.Proofs.YtnabbimompapfaaGreat
