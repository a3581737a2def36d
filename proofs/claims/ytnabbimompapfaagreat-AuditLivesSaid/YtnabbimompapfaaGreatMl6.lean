/- AudRXb, AudRXc -/
import Derived.Test.YtnabbimompapfaaGreatMl5
namespace Go.Proofs.YtnabbimompapfaaGreat
open Go Go.RowKit
set_option maxHeartbeats 8000000 in
set_option maxRecDepth 100000 in
theorem kEffect_setb (B Bv g : Nat) (vL vU : Value) (pv : Nat → Int) (s : PJ) (ps : List (EntV × Value)) (o : OpV) (A : Option Addr) (c : Nat) (w : World) (P : EfP w B g vL vU pv s ps) (hk : o.kind = 1) (ht : 0 ≤ s.now ∧ s.now ≤ neverT) (htt : 0 ≤ o.ttl)
  (hv : Bts w Bv 5 (.slice A o.val.length c) o.val) (hBv : Bv ≤ B) (hvl : o.val.length ≤ 100000) (hbi : 0 ≤ s.births ∧ s.births ≤ 100000) (hnu : ∀ u ∈ s.U, u ≤ s.births) (hf : findP s.L o.key ≠ none) :
  Calls Tryz.prog 32 #[.pointer (some ⟨g, 0, none⟩), opv o (.slice A o.val.length c), .int .i64 0, .int .u64 s.now] w (EfRet B g (effP s o 0) w) := by
 have HFi := zH (fun ob => kFind_any B g vL vU pv s ps o.key (w.alloc ob) (P.k.below ((zL _ _).alloc (zN _) _)) (by have := P.n; omega))
 have HX : Hid (EfX w (w.alloc (.cells (opc o (.slice A o.val.length c)) 43)) B g vL vU pv s ps o (.slice A o.val.length c)) := zH (EfX.new P.k)
 have HIx := zH (idx_find P.k.map o.key)
 unfold opv
 unfold opc at HX ⊢
 have HP := zH P
 have hnI : (ps.length : Int) ≤ 90000 := by have := P.n; omega
 obtain ⟨LA, lc, rfl, hlc, _⟩ := own_form P.k.L
 have hlcI : (ps.length : Int) ≤ (lc : Int) := by omega
 clear P hlc
 obtain ⟨i, hi⟩ : ∃ i, idxI (fun p : EntV × Value => decide (p.1.key = o.key)) ps = i := ⟨_, rfl⟩
 rw [hi] at HFi HIx
 clear hi
 have q1 : (o.kind == 1) = true := by simp [hk]
 have q2 : (o.kind == 2) = false := by simp [hk]
 have q3 : (o.kind == 3) = false := by simp [hk]
 have q5 : (o.kind == 5) = false := by simp [hk]
 have q6 : (o.kind == 6) = false := by simp [hk]
 have q7 : (o.kind == 7) = false := by simp [hk]
 have q8 : (o.kind == 8) = false := by simp [hk]
 have q11 : (o.kind == 11) = false := by simp [hk]
 have q12 : (o.kind == 12) = false := by simp [hk]
 have q13 : (o.kind == 13) = false := by simp [hk]
 have q14 : (o.kind == 14) = false := by simp [hk]
 rcases HIx.out with ⟨h1, h2⟩ | ⟨j, ⟨ev, V⟩, hj, h1, h2, h3⟩
 ·exact absurd h1 hf
 ·subst h2
  have HVk : Hid (∀ W, Only (KS B w) w W → Bts W Bv 5 (.slice A o.val.length c) o.val) := zH (fun W ho => hv.keep (KeepB.of_only ho (fun k _ hk => ⟨Nat.le_trans hBv hk.1, fun c fr e => by obtain ⟨_, cs, t, fr2, e2, h3⟩ := hk; rw [e] at e2; injection e2 with e2; injection e2 with _ e2 _; subst e2; rcases h3 with h3 | h3 <;> exact absurd h3 (by decide)⟩)))
  have HVl := zH hvl
  have HEf : Hid (effP s o 0 = setP s o (neverT)) := zH (by rw [effP_set (by omega)]; simp [hk])
  have HFs := zH h1
  have HKs := zH h3
  skip
  obtain ⟨VA, vc, hV⟩ := (HP.out.k.vals _ (List.mem_of_getElem? hj)).form
  dsimp only at hV
  subst hV
  have HJ := zH hj
  have hj0 : (0 : Int) ≤ (j : Int) := by omega
  have hjI : (j : Int) < (ps.length : Int) := by have := (List.getElem?_eq_some_iff.1 hj).1; omega
  obtain ⟨gL, rfl⟩ : ∃ gL, LA = some ⟨gL, 0, none⟩ := by
   rcases HP.out.k.L.2 with ⟨_, h0⟩ | ⟨q, c, cur, eq, _⟩
   ·omega
   ·injection eq with eq _ _
    exact ⟨q, eq⟩
  have HIl := zH (List.getElem?_eq_some_iff.1 hj).1
  have HLc : Hid (ps.length ≤ lc) := zH (by omega)
  clear h1 h3 hk hj hv hvl hbi hnu hBv ht htt
  go_enter Tryz.func32, Tryz.ntmps32
  go_wp2_with fail
  refine (HFi.out _).mono ?_
  rintro e w1 ⟨rfl, hw⟩
  subst hw
  obtain ⟨W0, hW0⟩ : ∃ W0, w.alloc (.cells #[.int .i64 o.kind, .int .u64 o.ticks, .string o.key, .slice A o.val.length c, .int .u64 o.ttl, .int .i64 o.count, .int .i64 o.bytes, .int .i64 o.cursor, .int .u64 o.birth] 43) = W0 := ⟨_, rfl⟩
  rw [hW0] at HX ⊢
  clear hW0 HFi HIx
  obtain ⟨z0, z2, z3, z4, z7⟩ := op_cells' HX.out.box
  obtain ⟨ek, el, ed, eb⟩ := ev
  dsimp only at HJ HFs HKs
  go_upto_region 9 with fail
  have HN1 : Hid (ps.length ≤ 100000) := zH (by have := HP.out.n; omega)
  obtain ⟨ps1, hps1⟩ : ∃ ps1, ps1 = ps := ⟨_, rfl⟩
  obtain ⟨s1, hs1⟩ : ∃ s1, s1 = s := ⟨_, rfl⟩
  obtain ⟨vU1, hvU1⟩ : ∃ vU1, vU1 = vU := ⟨_, rfl⟩
  obtain ⟨W6, hW6⟩ : ∃ W6, W6 = W0 := ⟨_, rfl⟩
  subst hW6
  obtain ⟨s9, hs9⟩ : ∃ s9, effP s o 0 = s9 := ⟨_, rfl⟩
  have H9n : Hid (useP { s1 with L := s1.L.set j ⟨o.key, o.val, neverT, eb⟩ } eb = s9) := zH (by
   rw [hs1, ← hs9, HEf.out]
   exact set_some_eq HFs.out HKs.out (by rw [← HP.out.k.map, List.getElem?_map, HJ.out]; rfl) HP.out.asc _)
  have HUn : Hid (s1.U.length ≤ 100000) := zH (by rw [hs1]; have := HP.out.u; omega)
  have HX6 := zH HX.out
  rw [← hps1] at HX6 HN1 HIl HLc hjI hlcI hnI HJ
  rw [← hs1, ← hvU1] at HX6
  have HS := zH hs9
  clear hps1 hs1 hvU1 hs9 hnI HX z0 z2 z3 z4 z7
  obtain ⟨ti, kti, zt0, zt1, zt2⟩ := info_parts entI_info
  obtain ⟨i0, hi0, hz0, hz1, hz2⟩ := info_parts u8_info
  refine wp_region_noPanic ?_
  have HXd := zH (EfX.adv HX6.out (zL _ _).drew)
  have HBd : Hid (Below W6.heap.size W6 W6.drew) := zH (zL _ _).drew
  refine wp_region_till [15] (fun W => EfX w W B g (.slice (some ⟨gL, 0, none⟩) ps1.length lc) vU1 pv s1 ps1 o (.slice A o.val.length c)) (fun _ => True) (by kernel_rfl) trivial HXd.out (fun hTill => ?_)
  generalize W6.drew = W7 at HXd HBd hTill ⊢
  refine Pl.go [0, 1, 2, 3] ?_
  iterate 4
   refine ttl (v := ?_) ?_ ?_
   rotate_left 1
   ·intro W hSw
    obtain ⟨z0, z2, z3, z4, z7⟩ := op_cells' hSw.2.box; have x7 : W.cell? ⟨g, 7, none⟩ = some (.slice (some ⟨gL, 0, none⟩) ps1.length lc) := hSw.2.k.cell 7 (by omega); obtain ⟨y0, y1, y2, y3⟩ := hSw.2.k.entAt HJ.out; dsimp only at y0 y1 y2 y3
    clear hSw
    go_simp
    try with_reducible rfl
   try dsimp only [zS, zB, zC]
   clear hTill
   intro hTill
  refine Pl.stop ?_
  refine Pl.go [5, 6, 7, 8, 9, 10, 11, 12] ?_
  iterate 8
   refine ttl (v := ?_) ?_ ?_
   rotate_left 1
   ·intro W hSw
    obtain ⟨z0, z2, z3, z4, z7⟩ := op_cells' hSw.2.box; have x7 : W.cell? ⟨g, 7, none⟩ = some (.slice (some ⟨gL, 0, none⟩) ps1.length lc) := hSw.2.k.cell 7 (by omega); obtain ⟨y0, y1, y2, y3⟩ := hSw.2.k.entAt HJ.out; dsimp only at y0 y1 y2 y3
    clear hSw
    go_simp
    try with_reducible rfl
   try dsimp only [zS, zB, zC]
   clear hTill
   intro hTill
  refine Pl.stop ?_
  have HV7 : Hid (Bts W7 Bv 5 (.slice A o.val.length c) o.val) := zH (HVk.out W7 HXd.out.only)
  have HB7 : Hid (B ≤ W7.heap.size) := zH (Nat.le_trans HP.out.hB HXd.out.only.size)
  generalize hxd : (18446744073709551615 : Int) = xn
  have HXd2 : Hid (neverT = xn) := zH hxd
  clear hxd
  refine wpTill.two (i := 4) (j := 14) (o := ⟨_, _, _, _, _, _⟩) (o2 := ⟨_, _, _, _, _, _⟩) (by kernel_rfl) rfl rfl (fun F hF => ?_) (fun F hF => ?_)
  ·refine step_append_src _ rfl (.const (.slice none 0 0)) (.tmp 55) 37 rfl W7.heap.size 5 i0 _ 1 1 Tryz.underlying37 hi0 hz0 hz1 hz2 rfl (by decide) _ 0 [] rfl (World.ownsRow_nil _ _ _ _) A o.val.length c (bcells o.val) rfl (Bts.src_at HV7.out).2 (bcells_one _) (by have := HVl.out; unfold maxLen; omega) (by have := HVl.out; omega) (zN _) ?_
   intro v8 w8 hown8 hg8 hat8
   rw [Nat.zero_add, List.nil_append] at hown8
   have HX8 := zH (HXd.out.adv (below_grown hg8))
   have HB8 := zH (HBd.out.trans ((below_grown hg8).mono HBd.out.size))
   have HO8 := zH hown8
   obtain ⟨A8, c8, rfl, _, _⟩ := own_form hown8
   clear hown8 hg8 hat8
   refine hF.out _ _ (Till.of trivial HX8.out) (fun hTill => ?_)
   clear hF F
   try simp only [Act.put, zA, zB, zC]
   refine ts 13 (v := ?_) ?_ ?_
   rotate_left 1
   ·intro W hSw
    skip
    clear hSw
    go_simp
    try with_reducible rfl
   try dsimp only [zS, zB, zC]
   clear hTill
   intro hTill
   refine wpTill.only (i := 14) (o := ⟨_, _, _, _, _, _⟩) (by kernel_rfl) rfl (fun F hF => ?_)
   go_simp
   have HX9 := zH (HX8.out.adv ((zL _ _).alloc (zN _) (.cells #[.string ⟨#[]⟩, .slice none 0 0, .int .u64 0, .int .u64 0] 40)))
   have HB9 := zH (HB8.out.alloc HB8.out.size (.cells #[.string ⟨#[]⟩, .slice none 0 0, .int .u64 0, .int .u64 0] 40))
   have HO9 := zH (own_later' HO8.out ((zL _ _).alloc (zN _) (.cells #[.string ⟨#[]⟩, .slice none 0 0, .int .u64 0, .int .u64 0] 40)))
   have HZ9 := zH (Blk.new w8 40 #[.string ⟨#[]⟩, .slice none 0 0, .int .u64 0, .int .u64 0])
   have HG9 : Hid (W6.heap.size ≤ w8.heap.size) := zH HB8.out.size
   refine hF.out _ _ (Till.of trivial HX9.out) (fun hTill => ?_)
   clear hF F
   try simp only [Act.put, zA, zB, zC]
   generalize w8.heap.size = gx at HZ9 HG9 ⊢
   generalize w8.alloc _ = w9 at HX9 HB9 HO9 HZ9 ⊢
   have c0 := HZ9.out.cell 0 _ rfl
   have c1 := HZ9.out.cell 1 _ rfl
   have c2 := HZ9.out.cell 2 _ rfl
   have c3 := HZ9.out.cell 3 _ rfl
   have cf := HZ9.out.frozen
   refine wpTill.only (i := 15) (o := ⟨_, _, _, _, _, _⟩) (by kernel_rfl) rfl (fun F hF => ?_)
   go_simp
   refine hF.out _ _ (Till.stored trivial (by kernel_rfl)) (fun hTill => ?_)
   clear hF F
   try simp only [Act.put, zA, zB, zC]
   refine wpTill.done (by kernel_rfl) ?_
   try refine NoPanic.normal ?_
   have HBx : Hid (Blk ((((w9.setCell ⟨gx, 0, none⟩ (.string o.key)).setCell ⟨gx, 1, none⟩ (.slice A8 o.val.length c8)).setCell ⟨gx, 2, none⟩ (.int .u64 xn)).setCell ⟨gx, 3, none⟩ (.int .u64 eb)) gx 40 (entc ⟨o.key, o.val, xn, eb⟩ (.slice A8 o.val.length c8))) := zH ((((HZ9.out.set_ 0 _).set_ 1 _).set_ 2 _).set_ 3 _)
   have HB10 : Hid (Below W6.heap.size W6 ((((w9.setCell ⟨gx, 0, none⟩ (.string o.key)).setCell ⟨gx, 1, none⟩ (.slice A8 o.val.length c8)).setCell ⟨gx, 2, none⟩ (.int .u64 xn)).setCell ⟨gx, 3, none⟩ (.int .u64 eb))) := zH ((((HB9.out.setCell (p := ⟨gx, 0, none⟩) HG9.out _).setCell (p := ⟨gx, 1, none⟩) HG9.out _).setCell (p := ⟨gx, 2, none⟩) HG9.out _).setCell (p := ⟨gx, 3, none⟩) HG9.out _)
   have HVx0 : Hid (Bts ((((w9.setCell ⟨gx, 0, none⟩ (.string o.key)).setCell ⟨gx, 1, none⟩ (.slice A8 o.val.length c8)).setCell ⟨gx, 2, none⟩ (.int .u64 xn)).setCell ⟨gx, 3, none⟩ (.int .u64 eb)) B 5 (.slice A8 o.val.length c8) o.val) := zH ((Bts.of_own HO9.out B).keep (KeepB.of_blk HZ9.out (by decide) (by have := HG9.out; have := HX6.out.only.size; have := HP.out.hB; omega) ((((Only.set1 _ _ _ _).setCell (S := fun k => k = gx) (p := ⟨gx, 1, none⟩) (.inl rfl) _).setCell (p := ⟨gx, 2, none⟩) (.inl rfl) _).setCell (p := ⟨gx, 3, none⟩) (.inl rfl) _)))
   clear c0 c1 c2 c3 cf hTill HZ9 HO9 HB9 HX9
   generalize World.setCell _ _ _ = w10 at HBx HB10 HVx0 ⊢
   have HX10 := zH (HX6.out.adv HB10.out)
   obtain ⟨z0, z2, z3, z4, z7⟩ := op_cells' HX10.out.box
   clear hj0
   go_upto_region 12 with fail
   have HLt : Hid (g < gx) := zH (by have := HG9.out; have := HX6.out.only.size; have := HX6.out.lt; omega)
   have HNx : Hid (gx ≠ g) := zH (fun h => by have := HLt.out; omega)
   have HLy : Hid (LyX w w10 w10 B g (.slice (some ⟨gL, 0, none⟩) ps1.length lc) vU1 pv s1 ps1 o (.slice A o.val.length c) gx ⟨o.key, o.val, xn, eb⟩ (.slice A8 o.val.length c8)) := zH ⟨HX10.out, HBx.out, zL _ _⟩
   have H9 : Hid (useP { s1 with L := s1.L.set j ⟨o.key, o.val, xn, eb⟩ } eb = s9) := zH (HXd2.out ▸ H9n.out)
   have HVx := zH HVx0.out
   clear HBx HB10 HVx0 HX10 H9n HXd2 z0 z2 z3 z4 z7
   obtain ⟨w2, hw2⟩ : ∃ w2, w2 = w10 := ⟨_, rfl⟩
   subst hw2
   refine wp_region_noPanic ?_
   have HLd := zH (HLy.out.adv (zL _ _).drew)
   refine wp_region_till [21] (fun W => LyX w w2 W B g (.slice (some ⟨gL, 0, none⟩) ps1.length lc) vU1 pv s1 ps1 o (.slice A o.val.length c) gx ⟨o.key, o.val, xn, eb⟩ (.slice A8 (o.val).length c8)) (fun _ => True) (by kernel_rfl) trivial HLd.out (fun hTill => ?_)
   generalize w2.drew = w3 at HLd hTill ⊢
   have hj1 : j ≤ lc := by have := HIl.out; have := HLc.out; omega
   have hj2 : j + 1 ≤ ps1.length := HIl.out
   have hj3 : ps1.length ≤ lc := HLc.out
   have hj4 : j + 1 ≤ lc := by omega
   have HWr : Hid (IntKind.i64.wrap ((j : Int) + 1) = (j : Int) + 1 ∧ ((j : Int) + 1).toNat = j + 1) := zH ⟨by rw [IntKind.wrap_i64 _]; have := HN1.out; omega, by omega⟩
   have hj6 : (0 : Int) ≤ (j : Int) + 1 := by omega
   have hj5 : (j : Int) + 1 ≤ (ps1.length : Int) := by omega
   refine Pl.go [0, 1, 2, 3] ?_
   iterate 4
    refine tsl (v := ?_) ?_ ?_
    rotate_left 1
    ·intro W hSw
     skip
     clear hSw
     go_simp
     try with_reducible rfl
    try dsimp only [zS, zB, zC]
    clear hTill
    intro hTill
   refine Pl.stop ?_
   refine tt 4 (v := ?_) ?_ ?_
   rotate_left 1
   ·intro W hSw
    have x7 : W.cell? ⟨g, 7, none⟩ = some (.slice (some ⟨gL, 0, none⟩) ps1.length lc) := hSw.2.e.k.cell 7 (by omega); obtain ⟨c0, c1, c2, c3⟩ := ent_cells hSw.2.x
    clear hSw
    go_simp
    try with_reducible rfl
   try dsimp only [zS, zB, zC]
   clear hTill
   intro hTill
   refine Pl.go [5, 6] ?_
   iterate 2
    refine tsl (v := ?_) ?_ ?_
    rotate_left 1
    ·intro W hSw
     skip
     clear hSw
     go_simp
     try with_reducible rfl
    try dsimp only [zS, zB, zC]
    clear hTill
    intro hTill
   refine Pl.stop ?_
   refine tt 8 (v := ?_) ?_ ?_
   rotate_left 1
   ·intro W hSw
    have x7 : W.cell? ⟨g, 7, none⟩ = some (.slice (some ⟨gL, 0, none⟩) ps1.length lc) := hSw.2.e.k.cell 7 (by omega); obtain ⟨c0, c1, c2, c3⟩ := ent_cells hSw.2.x
    clear hSw
    go_simp
    try with_reducible rfl
   try dsimp only [zS, zB, zC]
   clear hTill
   intro hTill
   refine Pl.go [11, 12, 13] ?_
   iterate 3
    refine tsl (v := ?_) ?_ ?_
    rotate_left 1
    ·intro W hSw
     skip
     clear hSw
     go_simp
     try with_reducible rfl
    try dsimp only [zS, zB, zC]
    clear hTill
    intro hTill
   refine Pl.stop ?_
   refine tt 14 (v := ?_) ?_ ?_
   rotate_left 1
   ·intro W hSw
    have x7 : W.cell? ⟨g, 7, none⟩ = some (.slice (some ⟨gL, 0, none⟩) ps1.length lc) := hSw.2.e.k.cell 7 (by omega); obtain ⟨c0, c1, c2, c3⟩ := ent_cells hSw.2.x
    clear hSw
    go_simp
    try with_reducible rfl
   try dsimp only [zS, zB, zC]
   clear hTill
   intro hTill
   refine ts 15 (v := ?_) ?_ ?_
   rotate_left 1
   ·intro W hSw
    skip
    clear hSw
    go_simp
    try with_reducible rfl
   try dsimp only [zS, zB, zC]
   clear hTill
   intro hTill
   refine ts 16 (v := ?_) ?_ ?_
   rotate_left 1
   ·intro W hSw
    have hwr := HWr.out.1
    clear hSw
    go_simp
    try with_reducible rfl
   try dsimp only [zS, zB, zC]
   clear hTill
   intro hTill
   refine ts 17 (v := ?_) ?_ ?_
   rotate_left 1
   ·intro W hSw
    have hwr := HWr.out.2
    clear hSw
    go_simp
    try with_reducible rfl
   try dsimp only [zS, zB, zC]
   clear hTill
   intro hTill
   have HSa : Hid (∀ W, KRep W B g (.slice (some ⟨gL, 0, none⟩) ps1.length lc) vU1 pv s1 ps1 → Src W 4 (some ⟨gL, 0, none⟩) j (ecs (ps1.take j))) := zH (fun W hW => by
    have := row_src hW.L rfl 0 j (by omega)
    rwa [List.drop_zero, Nat.zero_mul] at this)
   have HSb : Hid (∀ W, KRep W B g (.slice (some ⟨gL, 0, none⟩) ps1.length lc) vU1 pv s1 ps1 → Src W 4 (if lc = j + 1 then (some ⟨gL, 0, none⟩ : Option Addr) else some ⟨gL, (j + 1) * 4, none⟩) (ps1.length - (j + 1)) (ecs (ps1.drop (j + 1)))) := zH (fun W hW => by
    split
    ·rename_i hl
     have e0 : ps1.length - (j + 1) = 0 := by omega
     have e1 : ps1.drop (j + 1) = [] := List.drop_eq_nil_of_le (by omega)
     rw [e0, e1]
     exact ⟨rfl, (fun _ => rfl), fun q _ j u hu => by simp [ecs] at hu⟩
    ·have := row_src hW.L rfl (j + 1) (ps1.length - (j + 1)) (by omega)
     rw [List.take_of_length_le (by rw [List.length_drop]; exact zN _)] at this
     exact this)
   have HOn : Hid (∀ qs : List (EntV × Value), (∀ q ∈ qs, q ∈ ps1) → ∀ u ∈ ecs qs, u.oneCell' = true) := zH (fun qs hq => ecs_one qs (fun q hm => by
    obtain ⟨A, c, e⟩ := (HLy.out.e.k.vals q (hq q hm)).form
    exact ⟨A, _, c, e⟩))
   generalize (if lc = j + 1 then (some ⟨gL, 0, none⟩ : Option Addr) else some ⟨gL, (j + 1) * 4, none⟩) = A14 at HSb ⊢
   have HB3 : Hid (B ≤ w3.heap.size) := zH (Nat.le_trans HP.out.hB HLd.out.e.only.size)
   clear hj1 hj2 hj3 hj4 hj5 hj6 HWr
   refine wpTill.two (i := 7) (j := 9) (o := ⟨_, _, _, _, _, _⟩) (o2 := ⟨_, _, _, _, _, _⟩) (by kernel_rfl) rfl rfl (fun F hF => ?_) (fun F hF => ?_)
   ·refine step_append_src _ rfl (.const (.slice none 0 0)) (.tmp 80) 33 rfl w3.heap.size 40 ti _ 4 56 Tryz.underlying33 kti zt0 zt1 zt2 rfl (by decide) _ 0 [] rfl (World.ownsRow_nil _ _ _ _) (some ⟨gL, 0, none⟩) j lc (ecs (ps1.take j)) rfl (HSa.out _ HLd.out.e.k) (HOn.out _ (fun q hq => List.mem_of_mem_take hq)) (by have := HIl.out; have := HN1.out; unfold maxLen; omega) (by have := HIl.out; have := HN1.out; omega) (zN _) ?_
    intro v7 w7 hown7 hg7 hat7
    have hb7 : Below w3.heap.size w3 w7 := (zL _ _).grown hg7 (zN _) (fun k hk => by cases hk)
    have HL7 := zH (HLd.out.adv hb7)
    rw [Nat.zero_add, List.nil_append] at hown7
    have HO7 := zH hown7
    have HB7 := zH hb7
    obtain ⟨A7, c7, rfl, _, _⟩ := own_form hown7
    clear hown7 hg7 hat7 hb7
    refine hF.out _ _ (Till.of trivial HL7.out) (fun hTill => ?_)
    clear hF F
    try simp only [Act.put, zA, zB, zC]
    refine wpTill.only (i := 9) (o := ⟨_, _, _, _, _, _⟩) (by kernel_rfl) rfl (fun F hF => ?_)
    go_simp
    have HL9 := zH (HL7.out.adv ((zL _ _).alloc (zN _) (.cells #[.string o.key, .slice A8 (o.val).length c8, .int .u64 xn, .int .u64 eb] 40)))
    have HO9 := zH (own_later' HO7.out ((zL _ _).alloc (zN _) (.cells #[.string o.key, .slice A8 (o.val).length c8, .int .u64 xn, .int .u64 eb] 40)))
    have HB9 := zH (HB7.out.alloc HB7.out.size (.cells #[.string o.key, .slice A8 (o.val).length c8, .int .u64 xn, .int .u64 eb] 40))
    have HX9 := zH (Blk.new w7 40 #[.string o.key, .slice A8 (o.val).length c8, .int .u64 xn, .int .u64 eb])
    refine hF.out _ _ (Till.of trivial HL9.out) (fun hTill => ?_)
    clear hF F
    try simp only [Act.put, zA, zB, zC]
    generalize hw9 : w7.alloc _ = w9 at HL9 HO9 HB9 HX9 ⊢
    clear hw9
    generalize w7.heap.size = gB at HX9 ⊢
    refine wpTill.only (i := 10) (o := ⟨_, _, _, _, _, _⟩) (by kernel_rfl) rfl (fun F hF => ?_)
    refine step_append_src _ rfl (.tmp 81) (.tmp 83) 33 rfl w3.heap.size 40 ti _ 4 56 Tryz.underlying33 kti zt0 zt1 zt2 rfl (by decide) _ j (ecs (ps1.take j)) rfl HO9.out (some ⟨gB, 0, none⟩) 1 1 (entc ⟨o.key, o.val, xn, eb⟩ (.slice A8 (o.val).length c8)).toList rfl (src_blk HX9.out) (by intro u hu; simp [entc] at hu; rcases hu with rfl | rfl | rfl | rfl <;> rfl) (by have := HIl.out; have := HN1.out; unfold maxLen; omega) (by have := HIl.out; have := HN1.out; omega) HB9.out.size ?_
    intro v10 w10 hown10 hg10 hat10
    have hb10 : Below w3.heap.size w3 w10 := HB9.out.grown hg10 HB9.out.size (fun k hk => (row_heap' HO9.out hk).1)
    have HL10 := zH (HLd.out.adv hb10)
    have HO10 := zH hown10
    have HB10 := zH hb10
    obtain ⟨A10, c10, rfl, _, _⟩ := own_form hown10
    clear hown10 hg10 hat10 hb10 HX9 HB9 HO9 HL9
    refine hF.out _ _ (Till.of trivial HL10.out) (fun hTill => ?_)
    clear hF F
    try simp only [Act.put, zA, zB, zC]
    refine wpTill.only (i := 18) (o := ⟨_, _, _, _, _, _⟩) (by kernel_rfl) rfl (fun F hF => ?_)
    refine step_append_src _ rfl (.tmp 84) (.tmp 91) 33 rfl w3.heap.size 40 ti _ 4 56 Tryz.underlying33 kti zt0 zt1 zt2 rfl (by decide) _ (j + 1) (ecs (ps1.take j) ++ (entc ⟨o.key, o.val, xn, eb⟩ (.slice A8 (o.val).length c8)).toList) rfl HO10.out A14 (ps1.length - (j + 1)) (lc - (j + 1)) (ecs (ps1.drop (j + 1))) rfl (HSb.out _ HL10.out.e.k) (HOn.out _ (fun q hq => List.mem_of_mem_drop hq)) (by have := HIl.out; have := HN1.out; unfold maxLen; omega) (by have := HIl.out; have := HN1.out; omega) HB10.out.size ?_
    intro v11 w11 hown11 hg11 hat11
    have hb11 : Below w3.heap.size w3 w11 := HB10.out.grown hg11 HB10.out.size (fun k hk => (row_heap' HO10.out hk).1)
    have HL11 := zH (HLd.out.adv hb11)
    have HO11 : Hid (w11.ownsRow B 40 4 v11 ps1.length (ecs (ps1.set j (⟨o.key, o.val, xn, eb⟩, .slice A8 (o.val).length c8)))) := zH (by
     have h := ownsRow_base hown11 HB3.out
     rw [← ecs_set _ _ _ _ HIl.out] at h
     have e : j + 1 + (ps1.length - (j + 1)) = ps1.length := by have := HIl.out; omega
     rw [e] at h
     exact h)
    obtain ⟨A11, c11, rfl, _, _⟩ := own_form HO11.out
    clear hown11 hg11 hat11 hb11 HL10 HO10 HB10
    refine hF.out _ _ (Till.of trivial HL11.out) (fun hTill => ?_)
    clear hF F
    try simp only [Act.put, zA, zB, zC]
    refine ts 19 (v := ?_) ?_ ?_
    rotate_left 1
    ·intro W hSw
     skip
     clear hSw
     go_simp
     try with_reducible rfl
    try dsimp only [zS, zB, zC]
    clear hTill
    intro hTill
    refine ts 20 (v := ?_) ?_ ?_
    rotate_left 1
    ·intro W hSw
     skip
     clear hSw
     go_simp
     try with_reducible rfl
    try dsimp only [zS, zB, zC]
    clear hTill
    intro hTill
    have x7 : w11.cell? ⟨g, 7, none⟩ = some (.slice (some ⟨gL, 0, none⟩) ps1.length lc) := HL11.out.e.k.cell 7 (by omega)
    have f7 := HL11.out.e.k.frozen 7
    refine wpTill.only (i := 21) (o := ⟨_, _, _, _, _, _⟩) (by kernel_rfl) rfl (fun F hF => ?_)
    go_simp
    have HK12 : Hid (KRep (w11.setCell ⟨g, 7, none⟩ (.slice A11 ps1.length c11)) B g (.slice A11 ps1.length c11) vU1 pv { s1 with L := s1.L.set j ⟨o.key, o.val, xn, eb⟩ } (ps1.set j (⟨o.key, o.val, xn, eb⟩, .slice A8 (o.val).length c8))) := zH (by
     refine HL11.out.e.k.setL (by rw [List.length_set]; exact HO11.out) ?_ (fun p hp => ?_)
     ·rw [← HL11.out.e.k.map, List.map_set]
     ·rcases List.mem_or_eq_of_mem_set hp with h | h
      ·exact HL11.out.e.k.vals p h
      ·rw [h]; exact HVx.out.below HL11.out.below)
    have HX12 := zH ((HL11.out.e).next HK12.out (Only.set1 _ _ _ _))
    have HXb12 := zH (HL11.out.x.far (p := ⟨g, 7, none⟩) (HNx.out) (.slice A11 ps1.length c11))
    refine hF.out _ _ (Till.stored trivial (by kernel_rfl)) (fun hTill => ?_)
    clear hF F x7 f7
    try simp only [Act.put, zA, zB, zC]
    refine wpTill.done (by kernel_rfl) ?_
    try refine NoPanic.normal ?_
    clear hTill HL11 HLd HK12 HO11
    generalize w11.setCell ⟨g, 7, none⟩ _ = w12 at HX12 HXb12 ⊢
    clear HB3 HSa HSb HOn
    obtain ⟨c0, c1, c2, c3⟩ := ent_cells HXb12.out
    dsimp only at c0 c1 c2 c3
    go_wp2_with fail
    refine (kUse_any B g _ _ pv _ _ eb w12 HX12.out.k HUn.out (Nat.le_trans HP.out.hB HX12.out.only.size)).mono ?_
    rintro e w13 ⟨vU2, rfl, hk13, ho13⟩
    have HX13 := zH (HX12.out.next (H9.out ▸ hk13) ho13)
    clear hk13 ho13 c0 c1 c2 c3 HXb12 HX12
    obtain ⟨z0, z2, z3, z4, z7⟩ := op_cells' HX13.out.box
    go_wp2_with fail
    refine bodyPost_end (v := .tuple #[]) (results_none rfl _ _ _) rfl ?_
    rw [HS.out]
    exact ⟨_, _, _, _, rfl, (HX13).out.k, (HX13).out.only⟩
   ·go_simp
    have HL8 := zH (HLd.out.adv ((zL _ _).alloc (zN _) (.cells #[.string o.key, .slice A8 (o.val).length c8, .int .u64 xn, .int .u64 eb] 40)))
    have HB8 := zH ((zL w3.heap.size w3).alloc (zN _) (.cells #[.string o.key, .slice A8 (o.val).length c8, .int .u64 xn, .int .u64 eb] 40))
    have HX8 := zH (Blk.new w3 40 #[.string o.key, .slice A8 (o.val).length c8, .int .u64 xn, .int .u64 eb])
    refine hF.out _ _ (Till.of trivial HL8.out) (fun hTill => ?_)
    clear hF F
    try simp only [Act.put, zA, zB, zC]
    generalize hw8 : w3.alloc _ = w8 at HL8 HB8 HX8 ⊢
    clear hw8
    refine wpTill.only (i := 7) (o := ⟨_, _, _, _, _, _⟩) (by kernel_rfl) rfl (fun F hF => ?_)
    refine step_append_src _ rfl (.const (.slice none 0 0)) (.tmp 80) 33 rfl w8.heap.size 40 ti _ 4 56 Tryz.underlying33 kti zt0 zt1 zt2 rfl (by decide) _ 0 [] rfl (World.ownsRow_nil _ _ _ _) (some ⟨gL, 0, none⟩) j lc (ecs (ps1.take j)) rfl (HSa.out _ HL8.out.e.k) (HOn.out _ (fun q hq => List.mem_of_mem_take hq)) (by have := HIl.out; have := HN1.out; unfold maxLen; omega) (by have := HIl.out; have := HN1.out; omega) (zN _) ?_
    intro v7 w9 hown7 hg7 hat7
    have hb7 : Below w8.heap.size w8 w9 := (zL _ _).grown hg7 (zN _) (fun k hk => by cases hk)
    have HL9 := zH (HL8.out.adv hb7)
    rw [Nat.zero_add, List.nil_append] at hown7
    have HO9 := zH (ownsRow_base hown7 HB8.out.size)
    have HB9 : Hid (Below w3.heap.size w3 w9) := zH (HB8.out.trans (hb7.mono HB8.out.size))
    have HX9 := zH (HX8.out.below hb7)
    obtain ⟨A7, c7, rfl, _, _⟩ := own_form hown7
    clear hown7 hg7 hat7 hb7 HX8
    refine hF.out _ _ (Till.of trivial HL9.out) (fun hTill => ?_)
    clear hF F
    try simp only [Act.put, zA, zB, zC]
    generalize w3.heap.size = gB at HX9 ⊢
    refine wpTill.only (i := 10) (o := ⟨_, _, _, _, _, _⟩) (by kernel_rfl) rfl (fun F hF => ?_)
    refine step_append_src _ rfl (.tmp 81) (.tmp 83) 33 rfl w3.heap.size 40 ti _ 4 56 Tryz.underlying33 kti zt0 zt1 zt2 rfl (by decide) _ j (ecs (ps1.take j)) rfl HO9.out (some ⟨gB, 0, none⟩) 1 1 (entc ⟨o.key, o.val, xn, eb⟩ (.slice A8 (o.val).length c8)).toList rfl (src_blk HX9.out) (by intro u hu; simp [entc] at hu; rcases hu with rfl | rfl | rfl | rfl <;> rfl) (by have := HIl.out; have := HN1.out; unfold maxLen; omega) (by have := HIl.out; have := HN1.out; omega) HB9.out.size ?_
    intro v10 w10 hown10 hg10 hat10
    have hb10 : Below w3.heap.size w3 w10 := HB9.out.grown hg10 HB9.out.size (fun k hk => (row_heap' HO9.out hk).1)
    have HL10 := zH (HLd.out.adv hb10)
    have HO10 := zH hown10
    have HB10 := zH hb10
    obtain ⟨A10, c10, rfl, _, _⟩ := own_form hown10
    clear hown10 hg10 hat10 hb10 HX9 HB9 HO9 HL9
    refine hF.out _ _ (Till.of trivial HL10.out) (fun hTill => ?_)
    clear hF F
    try simp only [Act.put, zA, zB, zC]
    refine wpTill.only (i := 18) (o := ⟨_, _, _, _, _, _⟩) (by kernel_rfl) rfl (fun F hF => ?_)
    refine step_append_src _ rfl (.tmp 84) (.tmp 91) 33 rfl w3.heap.size 40 ti _ 4 56 Tryz.underlying33 kti zt0 zt1 zt2 rfl (by decide) _ (j + 1) (ecs (ps1.take j) ++ (entc ⟨o.key, o.val, xn, eb⟩ (.slice A8 (o.val).length c8)).toList) rfl HO10.out A14 (ps1.length - (j + 1)) (lc - (j + 1)) (ecs (ps1.drop (j + 1))) rfl (HSb.out _ HL10.out.e.k) (HOn.out _ (fun q hq => List.mem_of_mem_drop hq)) (by have := HIl.out; have := HN1.out; unfold maxLen; omega) (by have := HIl.out; have := HN1.out; omega) HB10.out.size ?_
    intro v11 w11 hown11 hg11 hat11
    have hb11 : Below w3.heap.size w3 w11 := HB10.out.grown hg11 HB10.out.size (fun k hk => (row_heap' HO10.out hk).1)
    have HL11 := zH (HLd.out.adv hb11)
    have HO11 : Hid (w11.ownsRow B 40 4 v11 ps1.length (ecs (ps1.set j (⟨o.key, o.val, xn, eb⟩, .slice A8 (o.val).length c8)))) := zH (by
     have h := ownsRow_base hown11 HB3.out
     rw [← ecs_set _ _ _ _ HIl.out] at h
     have e : j + 1 + (ps1.length - (j + 1)) = ps1.length := by have := HIl.out; omega
     rw [e] at h
     exact h)
    obtain ⟨A11, c11, rfl, _, _⟩ := own_form HO11.out
    clear hown11 hg11 hat11 hb11 HL10 HO10 HB10
    refine hF.out _ _ (Till.of trivial HL11.out) (fun hTill => ?_)
    clear hF F
    try simp only [Act.put, zA, zB, zC]
    refine ts 19 (v := ?_) ?_ ?_
    rotate_left 1
    ·intro W hSw
     skip
     clear hSw
     go_simp
     try with_reducible rfl
    try dsimp only [zS, zB, zC]
    clear hTill
    intro hTill
    refine ts 20 (v := ?_) ?_ ?_
    rotate_left 1
    ·intro W hSw
     skip
     clear hSw
     go_simp
     try with_reducible rfl
    try dsimp only [zS, zB, zC]
    clear hTill
    intro hTill
    have x7 : w11.cell? ⟨g, 7, none⟩ = some (.slice (some ⟨gL, 0, none⟩) ps1.length lc) := HL11.out.e.k.cell 7 (by omega)
    have f7 := HL11.out.e.k.frozen 7
    refine wpTill.only (i := 21) (o := ⟨_, _, _, _, _, _⟩) (by kernel_rfl) rfl (fun F hF => ?_)
    go_simp
    have HK12 : Hid (KRep (w11.setCell ⟨g, 7, none⟩ (.slice A11 ps1.length c11)) B g (.slice A11 ps1.length c11) vU1 pv { s1 with L := s1.L.set j ⟨o.key, o.val, xn, eb⟩ } (ps1.set j (⟨o.key, o.val, xn, eb⟩, .slice A8 (o.val).length c8))) := zH (by
     refine HL11.out.e.k.setL (by rw [List.length_set]; exact HO11.out) ?_ (fun p hp => ?_)
     ·rw [← HL11.out.e.k.map, List.map_set]
     ·rcases List.mem_or_eq_of_mem_set hp with h | h
      ·exact HL11.out.e.k.vals p h
      ·rw [h]; exact HVx.out.below HL11.out.below)
    have HX12 := zH ((HL11.out.e).next HK12.out (Only.set1 _ _ _ _))
    have HXb12 := zH (HL11.out.x.far (p := ⟨g, 7, none⟩) (HNx.out) (.slice A11 ps1.length c11))
    refine hF.out _ _ (Till.stored trivial (by kernel_rfl)) (fun hTill => ?_)
    clear hF F x7 f7
    try simp only [Act.put, zA, zB, zC]
    refine wpTill.done (by kernel_rfl) ?_
    try refine NoPanic.normal ?_
    clear hTill HL11 HLd HK12 HO11
    generalize w11.setCell ⟨g, 7, none⟩ _ = w12 at HX12 HXb12 ⊢
    clear HB3 HSa HSb HOn
    obtain ⟨c0, c1, c2, c3⟩ := ent_cells HXb12.out
    dsimp only at c0 c1 c2 c3
    go_wp2_with fail
    refine (kUse_any B g _ _ pv _ _ eb w12 HX12.out.k HUn.out (Nat.le_trans HP.out.hB HX12.out.only.size)).mono ?_
    rintro e w13 ⟨vU2, rfl, hk13, ho13⟩
    have HX13 := zH (HX12.out.next (H9.out ▸ hk13) ho13)
    clear hk13 ho13 c0 c1 c2 c3 HXb12 HX12
    obtain ⟨z0, z2, z3, z4, z7⟩ := op_cells' HX13.out.box
    go_wp2_with fail
    refine bodyPost_end (v := .tuple #[]) (results_none rfl _ _ _) rfl ?_
    rw [HS.out]
    exact ⟨_, _, _, _, rfl, (HX13).out.k, (HX13).out.only⟩
  ·go_simp
   have HX8 := zH (HXd.out.adv ((zL _ _).alloc (zN _) (.cells #[.string ⟨#[]⟩, .slice none 0 0, .int .u64 0, .int .u64 0] 40)))
   have HB8 := zH (HBd.out.alloc HBd.out.size (.cells #[.string ⟨#[]⟩, .slice none 0 0, .int .u64 0, .int .u64 0] 40))
   have HZ8 := zH (Blk.new W7 40 #[.string ⟨#[]⟩, .slice none 0 0, .int .u64 0, .int .u64 0])
   have HV8 := zH (HV7.out.alloc (.cells #[.string ⟨#[]⟩, .slice none 0 0, .int .u64 0, .int .u64 0] 40))
   have HG9 : Hid (W6.heap.size ≤ W7.heap.size) := zH HBd.out.size
   have HG8 : Hid (W7.heap.size ≤ (W7.alloc (.cells #[.string ⟨#[]⟩, .slice none 0 0, .int .u64 0, .int .u64 0] 40)).heap.size) := zH (by simp)
   refine hF.out _ _ (Till.of trivial HX8.out) (fun hTill => ?_)
   clear hF F
   try simp only [Act.put, zA, zB, zC]
   generalize W7.alloc _ = w8 at HX8 HB8 HZ8 HV8 HG8 ⊢
   refine wpTill.only (i := 4) (o := ⟨_, _, _, _, _, _⟩) (by kernel_rfl) rfl (fun F hF => ?_)
   refine step_append_src _ rfl (.const (.slice none 0 0)) (.tmp 55) 37 rfl w8.heap.size 5 i0 _ 1 1 Tryz.underlying37 hi0 hz0 hz1 hz2 rfl (by decide) _ 0 [] rfl (World.ownsRow_nil _ _ _ _) A o.val.length c (bcells o.val) rfl (Bts.src_at HV8.out).2 (bcells_one _) (by have := HVl.out; unfold maxLen; omega) (by have := HVl.out; omega) (zN _) ?_
   intro v8 w9 hown8 hg8 hat8
   rw [Nat.zero_add, List.nil_append] at hown8
   have HX9 := zH (HX8.out.adv (below_grown hg8))
   have HB9 := zH (HB8.out.trans ((below_grown hg8).mono HB8.out.size))
   have HO9 := zH (ownsRow_base hown8 HG8.out)
   have HZ9 := zH (HZ8.out.below (below_grown hg8))
   obtain ⟨A8, c8, rfl, _, _⟩ := own_form hown8
   clear hown8 hg8 hat8 HZ8
   refine hF.out _ _ (Till.of trivial HX9.out) (fun hTill => ?_)
   clear hF F
   try simp only [Act.put, zA, zB, zC]
   refine ts 13 (v := ?_) ?_ ?_
   rotate_left 1
   ·intro W hSw
    skip
    clear hSw
    go_simp
    try with_reducible rfl
   try dsimp only [zS, zB, zC]
   clear hTill
   intro hTill
   generalize W7.heap.size = gx at HZ9 HG9 ⊢
   have c0 := HZ9.out.cell 0 _ rfl
   have c1 := HZ9.out.cell 1 _ rfl
   have c2 := HZ9.out.cell 2 _ rfl
   have c3 := HZ9.out.cell 3 _ rfl
   have cf := HZ9.out.frozen
   refine wpTill.only (i := 15) (o := ⟨_, _, _, _, _, _⟩) (by kernel_rfl) rfl (fun F hF => ?_)
   go_simp
   refine hF.out _ _ (Till.stored trivial (by kernel_rfl)) (fun hTill => ?_)
   clear hF F
   try simp only [Act.put, zA, zB, zC]
   refine wpTill.done (by kernel_rfl) ?_
   try refine NoPanic.normal ?_
   have HBx : Hid (Blk ((((w9.setCell ⟨gx, 0, none⟩ (.string o.key)).setCell ⟨gx, 1, none⟩ (.slice A8 o.val.length c8)).setCell ⟨gx, 2, none⟩ (.int .u64 xn)).setCell ⟨gx, 3, none⟩ (.int .u64 eb)) gx 40 (entc ⟨o.key, o.val, xn, eb⟩ (.slice A8 o.val.length c8))) := zH ((((HZ9.out.set_ 0 _).set_ 1 _).set_ 2 _).set_ 3 _)
   have HB10 : Hid (Below W6.heap.size W6 ((((w9.setCell ⟨gx, 0, none⟩ (.string o.key)).setCell ⟨gx, 1, none⟩ (.slice A8 o.val.length c8)).setCell ⟨gx, 2, none⟩ (.int .u64 xn)).setCell ⟨gx, 3, none⟩ (.int .u64 eb))) := zH ((((HB9.out.setCell (p := ⟨gx, 0, none⟩) HG9.out _).setCell (p := ⟨gx, 1, none⟩) HG9.out _).setCell (p := ⟨gx, 2, none⟩) HG9.out _).setCell (p := ⟨gx, 3, none⟩) HG9.out _)
   have HVx0 : Hid (Bts ((((w9.setCell ⟨gx, 0, none⟩ (.string o.key)).setCell ⟨gx, 1, none⟩ (.slice A8 o.val.length c8)).setCell ⟨gx, 2, none⟩ (.int .u64 xn)).setCell ⟨gx, 3, none⟩ (.int .u64 eb)) B 5 (.slice A8 o.val.length c8) o.val) := zH ((Bts.of_own HO9.out B).keep (KeepB.of_blk HZ9.out (by decide) (by have := HG9.out; have := HX6.out.only.size; have := HP.out.hB; omega) ((((Only.set1 _ _ _ _).setCell (S := fun k => k = gx) (p := ⟨gx, 1, none⟩) (.inl rfl) _).setCell (p := ⟨gx, 2, none⟩) (.inl rfl) _).setCell (p := ⟨gx, 3, none⟩) (.inl rfl) _)))
   clear c0 c1 c2 c3 cf hTill HZ9 HO9 HB9 HX9
   generalize World.setCell _ _ _ = w10 at HBx HB10 HVx0 ⊢
   have HX10 := zH (HX6.out.adv HB10.out)
   obtain ⟨z0, z2, z3, z4, z7⟩ := op_cells' HX10.out.box
   clear hj0
   go_upto_region 12 with fail
   have HLt : Hid (g < gx) := zH (by have := HG9.out; have := HX6.out.only.size; have := HX6.out.lt; omega)
   have HNx : Hid (gx ≠ g) := zH (fun h => by have := HLt.out; omega)
   have HLy : Hid (LyX w w10 w10 B g (.slice (some ⟨gL, 0, none⟩) ps1.length lc) vU1 pv s1 ps1 o (.slice A o.val.length c) gx ⟨o.key, o.val, xn, eb⟩ (.slice A8 o.val.length c8)) := zH ⟨HX10.out, HBx.out, zL _ _⟩
   have H9 : Hid (useP { s1 with L := s1.L.set j ⟨o.key, o.val, xn, eb⟩ } eb = s9) := zH (HXd2.out ▸ H9n.out)
   have HVx := zH HVx0.out
   clear HBx HB10 HVx0 HX10 H9n HXd2 z0 z2 z3 z4 z7
   obtain ⟨w2, hw2⟩ : ∃ w2, w2 = w10 := ⟨_, rfl⟩
   subst hw2
   refine wp_region_noPanic ?_
   have HLd := zH (HLy.out.adv (zL _ _).drew)
   refine wp_region_till [21] (fun W => LyX w w2 W B g (.slice (some ⟨gL, 0, none⟩) ps1.length lc) vU1 pv s1 ps1 o (.slice A o.val.length c) gx ⟨o.key, o.val, xn, eb⟩ (.slice A8 (o.val).length c8)) (fun _ => True) (by kernel_rfl) trivial HLd.out (fun hTill => ?_)
   generalize w2.drew = w3 at HLd hTill ⊢
   have hj1 : j ≤ lc := by have := HIl.out; have := HLc.out; omega
   have hj2 : j + 1 ≤ ps1.length := HIl.out
   have hj3 : ps1.length ≤ lc := HLc.out
   have hj4 : j + 1 ≤ lc := by omega
   have HWr : Hid (IntKind.i64.wrap ((j : Int) + 1) = (j : Int) + 1 ∧ ((j : Int) + 1).toNat = j + 1) := zH ⟨by rw [IntKind.wrap_i64 _]; have := HN1.out; omega, by omega⟩
   have hj6 : (0 : Int) ≤ (j : Int) + 1 := by omega
   have hj5 : (j : Int) + 1 ≤ (ps1.length : Int) := by omega
   refine Pl.go [0, 1, 2, 3] ?_
   iterate 4
    refine tsl (v := ?_) ?_ ?_
    rotate_left 1
    ·intro W hSw
     skip
     clear hSw
     go_simp
     try with_reducible rfl
    try dsimp only [zS, zB, zC]
    clear hTill
    intro hTill
   refine Pl.stop ?_
   refine tt 4 (v := ?_) ?_ ?_
   rotate_left 1
   ·intro W hSw
    have x7 : W.cell? ⟨g, 7, none⟩ = some (.slice (some ⟨gL, 0, none⟩) ps1.length lc) := hSw.2.e.k.cell 7 (by omega); obtain ⟨c0, c1, c2, c3⟩ := ent_cells hSw.2.x
    clear hSw
    go_simp
    try with_reducible rfl
   try dsimp only [zS, zB, zC]
   clear hTill
   intro hTill
   refine Pl.go [5, 6] ?_
   iterate 2
    refine tsl (v := ?_) ?_ ?_
    rotate_left 1
    ·intro W hSw
     skip
     clear hSw
     go_simp
     try with_reducible rfl
    try dsimp only [zS, zB, zC]
    clear hTill
    intro hTill
   refine Pl.stop ?_
   refine tt 8 (v := ?_) ?_ ?_
   rotate_left 1
   ·intro W hSw
    have x7 : W.cell? ⟨g, 7, none⟩ = some (.slice (some ⟨gL, 0, none⟩) ps1.length lc) := hSw.2.e.k.cell 7 (by omega); obtain ⟨c0, c1, c2, c3⟩ := ent_cells hSw.2.x
    clear hSw
    go_simp
    try with_reducible rfl
   try dsimp only [zS, zB, zC]
   clear hTill
   intro hTill
   refine Pl.go [11, 12, 13] ?_
   iterate 3
    refine tsl (v := ?_) ?_ ?_
    rotate_left 1
    ·intro W hSw
     skip
     clear hSw
     go_simp
     try with_reducible rfl
    try dsimp only [zS, zB, zC]
    clear hTill
    intro hTill
   refine Pl.stop ?_
   refine tt 14 (v := ?_) ?_ ?_
   rotate_left 1
   ·intro W hSw
    have x7 : W.cell? ⟨g, 7, none⟩ = some (.slice (some ⟨gL, 0, none⟩) ps1.length lc) := hSw.2.e.k.cell 7 (by omega); obtain ⟨c0, c1, c2, c3⟩ := ent_cells hSw.2.x
    clear hSw
    go_simp
    try with_reducible rfl
   try dsimp only [zS, zB, zC]
   clear hTill
   intro hTill
   refine ts 15 (v := ?_) ?_ ?_
   rotate_left 1
   ·intro W hSw
    skip
    clear hSw
    go_simp
    try with_reducible rfl
   try dsimp only [zS, zB, zC]
   clear hTill
   intro hTill
   refine ts 16 (v := ?_) ?_ ?_
   rotate_left 1
   ·intro W hSw
    have hwr := HWr.out.1
    clear hSw
    go_simp
    try with_reducible rfl
   try dsimp only [zS, zB, zC]
   clear hTill
   intro hTill
   refine ts 17 (v := ?_) ?_ ?_
   rotate_left 1
   ·intro W hSw
    have hwr := HWr.out.2
    clear hSw
    go_simp
    try with_reducible rfl
   try dsimp only [zS, zB, zC]
   clear hTill
   intro hTill
   have HSa : Hid (∀ W, KRep W B g (.slice (some ⟨gL, 0, none⟩) ps1.length lc) vU1 pv s1 ps1 → Src W 4 (some ⟨gL, 0, none⟩) j (ecs (ps1.take j))) := zH (fun W hW => by
    have := row_src hW.L rfl 0 j (by omega)
    rwa [List.drop_zero, Nat.zero_mul] at this)
   have HSb : Hid (∀ W, KRep W B g (.slice (some ⟨gL, 0, none⟩) ps1.length lc) vU1 pv s1 ps1 → Src W 4 (if lc = j + 1 then (some ⟨gL, 0, none⟩ : Option Addr) else some ⟨gL, (j + 1) * 4, none⟩) (ps1.length - (j + 1)) (ecs (ps1.drop (j + 1)))) := zH (fun W hW => by
    split
    ·rename_i hl
     have e0 : ps1.length - (j + 1) = 0 := by omega
     have e1 : ps1.drop (j + 1) = [] := List.drop_eq_nil_of_le (by omega)
     rw [e0, e1]
     exact ⟨rfl, (fun _ => rfl), fun q _ j u hu => by simp [ecs] at hu⟩
    ·have := row_src hW.L rfl (j + 1) (ps1.length - (j + 1)) (by omega)
     rw [List.take_of_length_le (by rw [List.length_drop]; exact zN _)] at this
     exact this)
   have HOn : Hid (∀ qs : List (EntV × Value), (∀ q ∈ qs, q ∈ ps1) → ∀ u ∈ ecs qs, u.oneCell' = true) := zH (fun qs hq => ecs_one qs (fun q hm => by
    obtain ⟨A, c, e⟩ := (HLy.out.e.k.vals q (hq q hm)).form
    exact ⟨A, _, c, e⟩))
   generalize (if lc = j + 1 then (some ⟨gL, 0, none⟩ : Option Addr) else some ⟨gL, (j + 1) * 4, none⟩) = A14 at HSb ⊢
   have HB3 : Hid (B ≤ w3.heap.size) := zH (Nat.le_trans HP.out.hB HLd.out.e.only.size)
   clear hj1 hj2 hj3 hj4 hj5 hj6 HWr
   refine wpTill.two (i := 7) (j := 9) (o := ⟨_, _, _, _, _, _⟩) (o2 := ⟨_, _, _, _, _, _⟩) (by kernel_rfl) rfl rfl (fun F hF => ?_) (fun F hF => ?_)
   ·refine step_append_src _ rfl (.const (.slice none 0 0)) (.tmp 80) 33 rfl w3.heap.size 40 ti _ 4 56 Tryz.underlying33 kti zt0 zt1 zt2 rfl (by decide) _ 0 [] rfl (World.ownsRow_nil _ _ _ _) (some ⟨gL, 0, none⟩) j lc (ecs (ps1.take j)) rfl (HSa.out _ HLd.out.e.k) (HOn.out _ (fun q hq => List.mem_of_mem_take hq)) (by have := HIl.out; have := HN1.out; unfold maxLen; omega) (by have := HIl.out; have := HN1.out; omega) (zN _) ?_
    intro v7 w7 hown7 hg7 hat7
    have hb7 : Below w3.heap.size w3 w7 := (zL _ _).grown hg7 (zN _) (fun k hk => by cases hk)
    have HL7 := zH (HLd.out.adv hb7)
    rw [Nat.zero_add, List.nil_append] at hown7
    have HO7 := zH hown7
    have HB7 := zH hb7
    obtain ⟨A7, c7, rfl, _, _⟩ := own_form hown7
    clear hown7 hg7 hat7 hb7
    refine hF.out _ _ (Till.of trivial HL7.out) (fun hTill => ?_)
    clear hF F
    try simp only [Act.put, zA, zB, zC]
    refine wpTill.only (i := 9) (o := ⟨_, _, _, _, _, _⟩) (by kernel_rfl) rfl (fun F hF => ?_)
    go_simp
    have HL9 := zH (HL7.out.adv ((zL _ _).alloc (zN _) (.cells #[.string o.key, .slice A8 (o.val).length c8, .int .u64 xn, .int .u64 eb] 40)))
    have HO9 := zH (own_later' HO7.out ((zL _ _).alloc (zN _) (.cells #[.string o.key, .slice A8 (o.val).length c8, .int .u64 xn, .int .u64 eb] 40)))
    have HB9 := zH (HB7.out.alloc HB7.out.size (.cells #[.string o.key, .slice A8 (o.val).length c8, .int .u64 xn, .int .u64 eb] 40))
    have HX9 := zH (Blk.new w7 40 #[.string o.key, .slice A8 (o.val).length c8, .int .u64 xn, .int .u64 eb])
    refine hF.out _ _ (Till.of trivial HL9.out) (fun hTill => ?_)
    clear hF F
    try simp only [Act.put, zA, zB, zC]
    generalize hw9 : w7.alloc _ = w9 at HL9 HO9 HB9 HX9 ⊢
    clear hw9
    generalize w7.heap.size = gB at HX9 ⊢
    refine wpTill.only (i := 10) (o := ⟨_, _, _, _, _, _⟩) (by kernel_rfl) rfl (fun F hF => ?_)
    refine step_append_src _ rfl (.tmp 81) (.tmp 83) 33 rfl w3.heap.size 40 ti _ 4 56 Tryz.underlying33 kti zt0 zt1 zt2 rfl (by decide) _ j (ecs (ps1.take j)) rfl HO9.out (some ⟨gB, 0, none⟩) 1 1 (entc ⟨o.key, o.val, xn, eb⟩ (.slice A8 (o.val).length c8)).toList rfl (src_blk HX9.out) (by intro u hu; simp [entc] at hu; rcases hu with rfl | rfl | rfl | rfl <;> rfl) (by have := HIl.out; have := HN1.out; unfold maxLen; omega) (by have := HIl.out; have := HN1.out; omega) HB9.out.size ?_
    intro v10 w10 hown10 hg10 hat10
    have hb10 : Below w3.heap.size w3 w10 := HB9.out.grown hg10 HB9.out.size (fun k hk => (row_heap' HO9.out hk).1)
    have HL10 := zH (HLd.out.adv hb10)
    have HO10 := zH hown10
    have HB10 := zH hb10
    obtain ⟨A10, c10, rfl, _, _⟩ := own_form hown10
    clear hown10 hg10 hat10 hb10 HX9 HB9 HO9 HL9
    refine hF.out _ _ (Till.of trivial HL10.out) (fun hTill => ?_)
    clear hF F
    try simp only [Act.put, zA, zB, zC]
    refine wpTill.only (i := 18) (o := ⟨_, _, _, _, _, _⟩) (by kernel_rfl) rfl (fun F hF => ?_)
    refine step_append_src _ rfl (.tmp 84) (.tmp 91) 33 rfl w3.heap.size 40 ti _ 4 56 Tryz.underlying33 kti zt0 zt1 zt2 rfl (by decide) _ (j + 1) (ecs (ps1.take j) ++ (entc ⟨o.key, o.val, xn, eb⟩ (.slice A8 (o.val).length c8)).toList) rfl HO10.out A14 (ps1.length - (j + 1)) (lc - (j + 1)) (ecs (ps1.drop (j + 1))) rfl (HSb.out _ HL10.out.e.k) (HOn.out _ (fun q hq => List.mem_of_mem_drop hq)) (by have := HIl.out; have := HN1.out; unfold maxLen; omega) (by have := HIl.out; have := HN1.out; omega) HB10.out.size ?_
    intro v11 w11 hown11 hg11 hat11
    have hb11 : Below w3.heap.size w3 w11 := HB10.out.grown hg11 HB10.out.size (fun k hk => (row_heap' HO10.out hk).1)
    have HL11 := zH (HLd.out.adv hb11)
    have HO11 : Hid (w11.ownsRow B 40 4 v11 ps1.length (ecs (ps1.set j (⟨o.key, o.val, xn, eb⟩, .slice A8 (o.val).length c8)))) := zH (by
     have h := ownsRow_base hown11 HB3.out
     rw [← ecs_set _ _ _ _ HIl.out] at h
     have e : j + 1 + (ps1.length - (j + 1)) = ps1.length := by have := HIl.out; omega
     rw [e] at h
     exact h)
    obtain ⟨A11, c11, rfl, _, _⟩ := own_form HO11.out
    clear hown11 hg11 hat11 hb11 HL10 HO10 HB10
    refine hF.out _ _ (Till.of trivial HL11.out) (fun hTill => ?_)
    clear hF F
    try simp only [Act.put, zA, zB, zC]
    refine ts 19 (v := ?_) ?_ ?_
    rotate_left 1
    ·intro W hSw
     skip
     clear hSw
     go_simp
     try with_reducible rfl
    try dsimp only [zS, zB, zC]
    clear hTill
    intro hTill
    refine ts 20 (v := ?_) ?_ ?_
    rotate_left 1
    ·intro W hSw
     skip
     clear hSw
     go_simp
     try with_reducible rfl
    try dsimp only [zS, zB, zC]
    clear hTill
    intro hTill
    have x7 : w11.cell? ⟨g, 7, none⟩ = some (.slice (some ⟨gL, 0, none⟩) ps1.length lc) := HL11.out.e.k.cell 7 (by omega)
    have f7 := HL11.out.e.k.frozen 7
    refine wpTill.only (i := 21) (o := ⟨_, _, _, _, _, _⟩) (by kernel_rfl) rfl (fun F hF => ?_)
    go_simp
    have HK12 : Hid (KRep (w11.setCell ⟨g, 7, none⟩ (.slice A11 ps1.length c11)) B g (.slice A11 ps1.length c11) vU1 pv { s1 with L := s1.L.set j ⟨o.key, o.val, xn, eb⟩ } (ps1.set j (⟨o.key, o.val, xn, eb⟩, .slice A8 (o.val).length c8))) := zH (by
     refine HL11.out.e.k.setL (by rw [List.length_set]; exact HO11.out) ?_ (fun p hp => ?_)
     ·rw [← HL11.out.e.k.map, List.map_set]
     ·rcases List.mem_or_eq_of_mem_set hp with h | h
      ·exact HL11.out.e.k.vals p h
      ·rw [h]; exact HVx.out.below HL11.out.below)
    have HX12 := zH ((HL11.out.e).next HK12.out (Only.set1 _ _ _ _))
    have HXb12 := zH (HL11.out.x.far (p := ⟨g, 7, none⟩) (HNx.out) (.slice A11 ps1.length c11))
    refine hF.out _ _ (Till.stored trivial (by kernel_rfl)) (fun hTill => ?_)
    clear hF F x7 f7
    try simp only [Act.put, zA, zB, zC]
    refine wpTill.done (by kernel_rfl) ?_
    try refine NoPanic.normal ?_
    clear hTill HL11 HLd HK12 HO11
    generalize w11.setCell ⟨g, 7, none⟩ _ = w12 at HX12 HXb12 ⊢
    clear HB3 HSa HSb HOn
    obtain ⟨c0, c1, c2, c3⟩ := ent_cells HXb12.out
    dsimp only at c0 c1 c2 c3
    go_wp2_with fail
    refine (kUse_any B g _ _ pv _ _ eb w12 HX12.out.k HUn.out (Nat.le_trans HP.out.hB HX12.out.only.size)).mono ?_
    rintro e w13 ⟨vU2, rfl, hk13, ho13⟩
    have HX13 := zH (HX12.out.next (H9.out ▸ hk13) ho13)
    clear hk13 ho13 c0 c1 c2 c3 HXb12 HX12
    obtain ⟨z0, z2, z3, z4, z7⟩ := op_cells' HX13.out.box
    go_wp2_with fail
    refine bodyPost_end (v := .tuple #[]) (results_none rfl _ _ _) rfl ?_
    rw [HS.out]
    exact ⟨_, _, _, _, rfl, (HX13).out.k, (HX13).out.only⟩
   ·go_simp
    have HL8 := zH (HLd.out.adv ((zL _ _).alloc (zN _) (.cells #[.string o.key, .slice A8 (o.val).length c8, .int .u64 xn, .int .u64 eb] 40)))
    have HB8 := zH ((zL w3.heap.size w3).alloc (zN _) (.cells #[.string o.key, .slice A8 (o.val).length c8, .int .u64 xn, .int .u64 eb] 40))
    have HX8 := zH (Blk.new w3 40 #[.string o.key, .slice A8 (o.val).length c8, .int .u64 xn, .int .u64 eb])
    refine hF.out _ _ (Till.of trivial HL8.out) (fun hTill => ?_)
    clear hF F
    try simp only [Act.put, zA, zB, zC]
    generalize hw8 : w3.alloc _ = w8 at HL8 HB8 HX8 ⊢
    clear hw8
    refine wpTill.only (i := 7) (o := ⟨_, _, _, _, _, _⟩) (by kernel_rfl) rfl (fun F hF => ?_)
    refine step_append_src _ rfl (.const (.slice none 0 0)) (.tmp 80) 33 rfl w8.heap.size 40 ti _ 4 56 Tryz.underlying33 kti zt0 zt1 zt2 rfl (by decide) _ 0 [] rfl (World.ownsRow_nil _ _ _ _) (some ⟨gL, 0, none⟩) j lc (ecs (ps1.take j)) rfl (HSa.out _ HL8.out.e.k) (HOn.out _ (fun q hq => List.mem_of_mem_take hq)) (by have := HIl.out; have := HN1.out; unfold maxLen; omega) (by have := HIl.out; have := HN1.out; omega) (zN _) ?_
    intro v7 w9 hown7 hg7 hat7
    have hb7 : Below w8.heap.size w8 w9 := (zL _ _).grown hg7 (zN _) (fun k hk => by cases hk)
    have HL9 := zH (HL8.out.adv hb7)
    rw [Nat.zero_add, List.nil_append] at hown7
    have HO9 := zH (ownsRow_base hown7 HB8.out.size)
    have HB9 : Hid (Below w3.heap.size w3 w9) := zH (HB8.out.trans (hb7.mono HB8.out.size))
    have HX9 := zH (HX8.out.below hb7)
    obtain ⟨A7, c7, rfl, _, _⟩ := own_form hown7
    clear hown7 hg7 hat7 hb7 HX8
    refine hF.out _ _ (Till.of trivial HL9.out) (fun hTill => ?_)
    clear hF F
    try simp only [Act.put, zA, zB, zC]
    generalize w3.heap.size = gB at HX9 ⊢
    refine wpTill.only (i := 10) (o := ⟨_, _, _, _, _, _⟩) (by kernel_rfl) rfl (fun F hF => ?_)
    refine step_append_src _ rfl (.tmp 81) (.tmp 83) 33 rfl w3.heap.size 40 ti _ 4 56 Tryz.underlying33 kti zt0 zt1 zt2 rfl (by decide) _ j (ecs (ps1.take j)) rfl HO9.out (some ⟨gB, 0, none⟩) 1 1 (entc ⟨o.key, o.val, xn, eb⟩ (.slice A8 (o.val).length c8)).toList rfl (src_blk HX9.out) (by intro u hu; simp [entc] at hu; rcases hu with rfl | rfl | rfl | rfl <;> rfl) (by have := HIl.out; have := HN1.out; unfold maxLen; omega) (by have := HIl.out; have := HN1.out; omega) HB9.out.size ?_
    intro v10 w10 hown10 hg10 hat10
    have hb10 : Below w3.heap.size w3 w10 := HB9.out.grown hg10 HB9.out.size (fun k hk => (row_heap' HO9.out hk).1)
    have HL10 := zH (HLd.out.adv hb10)
    have HO10 := zH hown10
    have HB10 := zH hb10
    obtain ⟨A10, c10, rfl, _, _⟩ := own_form hown10
    clear hown10 hg10 hat10 hb10 HX9 HB9 HO9 HL9
    refine hF.out _ _ (Till.of trivial HL10.out) (fun hTill => ?_)
    clear hF F
    try simp only [Act.put, zA, zB, zC]
    refine wpTill.only (i := 18) (o := ⟨_, _, _, _, _, _⟩) (by kernel_rfl) rfl (fun F hF => ?_)
    refine step_append_src _ rfl (.tmp 84) (.tmp 91) 33 rfl w3.heap.size 40 ti _ 4 56 Tryz.underlying33 kti zt0 zt1 zt2 rfl (by decide) _ (j + 1) (ecs (ps1.take j) ++ (entc ⟨o.key, o.val, xn, eb⟩ (.slice A8 (o.val).length c8)).toList) rfl HO10.out A14 (ps1.length - (j + 1)) (lc - (j + 1)) (ecs (ps1.drop (j + 1))) rfl (HSb.out _ HL10.out.e.k) (HOn.out _ (fun q hq => List.mem_of_mem_drop hq)) (by have := HIl.out; have := HN1.out; unfold maxLen; omega) (by have := HIl.out; have := HN1.out; omega) HB10.out.size ?_
    intro v11 w11 hown11 hg11 hat11
    have hb11 : Below w3.heap.size w3 w11 := HB10.out.grown hg11 HB10.out.size (fun k hk => (row_heap' HO10.out hk).1)
    have HL11 := zH (HLd.out.adv hb11)
    have HO11 : Hid (w11.ownsRow B 40 4 v11 ps1.length (ecs (ps1.set j (⟨o.key, o.val, xn, eb⟩, .slice A8 (o.val).length c8)))) := zH (by
     have h := ownsRow_base hown11 HB3.out
     rw [← ecs_set _ _ _ _ HIl.out] at h
     have e : j + 1 + (ps1.length - (j + 1)) = ps1.length := by have := HIl.out; omega
     rw [e] at h
     exact h)
    obtain ⟨A11, c11, rfl, _, _⟩ := own_form HO11.out
    clear hown11 hg11 hat11 hb11 HL10 HO10 HB10
    refine hF.out _ _ (Till.of trivial HL11.out) (fun hTill => ?_)
    clear hF F
    try simp only [Act.put, zA, zB, zC]
    refine ts 19 (v := ?_) ?_ ?_
    rotate_left 1
    ·intro W hSw
     skip
     clear hSw
     go_simp
     try with_reducible rfl
    try dsimp only [zS, zB, zC]
    clear hTill
    intro hTill
    refine ts 20 (v := ?_) ?_ ?_
    rotate_left 1
    ·intro W hSw
     skip
     clear hSw
     go_simp
     try with_reducible rfl
    try dsimp only [zS, zB, zC]
    clear hTill
    intro hTill
    have x7 : w11.cell? ⟨g, 7, none⟩ = some (.slice (some ⟨gL, 0, none⟩) ps1.length lc) := HL11.out.e.k.cell 7 (by omega)
    have f7 := HL11.out.e.k.frozen 7
    refine wpTill.only (i := 21) (o := ⟨_, _, _, _, _, _⟩) (by kernel_rfl) rfl (fun F hF => ?_)
    go_simp
    have HK12 : Hid (KRep (w11.setCell ⟨g, 7, none⟩ (.slice A11 ps1.length c11)) B g (.slice A11 ps1.length c11) vU1 pv { s1 with L := s1.L.set j ⟨o.key, o.val, xn, eb⟩ } (ps1.set j (⟨o.key, o.val, xn, eb⟩, .slice A8 (o.val).length c8))) := zH (by
     refine HL11.out.e.k.setL (by rw [List.length_set]; exact HO11.out) ?_ (fun p hp => ?_)
     ·rw [← HL11.out.e.k.map, List.map_set]
     ·rcases List.mem_or_eq_of_mem_set hp with h | h
      ·exact HL11.out.e.k.vals p h
      ·rw [h]; exact HVx.out.below HL11.out.below)
    have HX12 := zH ((HL11.out.e).next HK12.out (Only.set1 _ _ _ _))
    have HXb12 := zH (HL11.out.x.far (p := ⟨g, 7, none⟩) (HNx.out) (.slice A11 ps1.length c11))
    refine hF.out _ _ (Till.stored trivial (by kernel_rfl)) (fun hTill => ?_)
    clear hF F x7 f7
    try simp only [Act.put, zA, zB, zC]
    refine wpTill.done (by kernel_rfl) ?_
    try refine NoPanic.normal ?_
    clear hTill HL11 HLd HK12 HO11
    generalize w11.setCell ⟨g, 7, none⟩ _ = w12 at HX12 HXb12 ⊢
    clear HB3 HSa HSb HOn
    obtain ⟨c0, c1, c2, c3⟩ := ent_cells HXb12.out
    dsimp only at c0 c1 c2 c3
    go_wp2_with fail
    refine (kUse_any B g _ _ pv _ _ eb w12 HX12.out.k HUn.out (Nat.le_trans HP.out.hB HX12.out.only.size)).mono ?_
    rintro e w13 ⟨vU2, rfl, hk13, ho13⟩
    have HX13 := zH (HX12.out.next (H9.out ▸ hk13) ho13)
    clear hk13 ho13 c0 c1 c2 c3 HXb12 HX12
    obtain ⟨z0, z2, z3, z4, z7⟩ := op_cells' HX13.out.box
    go_wp2_with fail
    refine bodyPost_end (v := .tuple #[]) (results_none rfl _ _ _) rfl ?_
    rw [HS.out]
    exact ⟨_, _, _, _, rfl, (HX13).out.k, (HX13).out.only⟩
end Go.Proofs.YtnabbimompapfaaGreat
namespace Go.Proofs.YtnabbimompapfaaGreat
open Go Go.RowKit
set_option maxHeartbeats 8000000 in
set_option maxRecDepth 100000 in
theorem kEffect_setc (B Bv g : Nat) (vL vU : Value) (pv : Nat → Int) (s : PJ) (ps : List (EntV × Value)) (o : OpV) (A : Option Addr) (c : Nat) (w : World) (P : EfP w B g vL vU pv s ps) (hk : o.kind = 2) (ht : 0 ≤ s.now ∧ s.now ≤ neverT) (htt : 0 ≤ o.ttl)
  (hv : Bts w Bv 5 (.slice A o.val.length c) o.val) (hBv : Bv ≤ B) (hvl : o.val.length ≤ 100000) (hbi : 0 ≤ s.births ∧ s.births ≤ 100000) (hnu : ∀ u ∈ s.U, u ≤ s.births) (hf : findP s.L o.key = none) :
  Calls Tryz.prog 32 #[.pointer (some ⟨g, 0, none⟩), opv o (.slice A o.val.length c), .int .i64 0, .int .u64 s.now] w (EfRet B g (effP s o 0) w) := by
 have HFi := zH (fun ob => kFind_any B g vL vU pv s ps o.key (w.alloc ob) (P.k.below ((zL _ _).alloc (zN _) _)) (by have := P.n; omega))
 have HX : Hid (EfX w (w.alloc (.cells (opc o (.slice A o.val.length c)) 43)) B g vL vU pv s ps o (.slice A o.val.length c)) := zH (EfX.new P.k)
 have HIx := zH (idx_find P.k.map o.key)
 unfold opv
 unfold opc at HX ⊢
 have HP := zH P
 have hnI : (ps.length : Int) ≤ 90000 := by have := P.n; omega
 obtain ⟨LA, lc, rfl, hlc, _⟩ := own_form P.k.L
 have hlcI : (ps.length : Int) ≤ (lc : Int) := by omega
 clear P hlc
 obtain ⟨i, hi⟩ : ∃ i, idxI (fun p : EntV × Value => decide (p.1.key = o.key)) ps = i := ⟨_, rfl⟩
 rw [hi] at HFi HIx
 clear hi
 have q1 : (o.kind == 1) = false := by simp [hk]
 have q2 : (o.kind == 2) = true := by simp [hk]
 have q3 : (o.kind == 3) = false := by simp [hk]
 have q5 : (o.kind == 5) = false := by simp [hk]
 have q6 : (o.kind == 6) = false := by simp [hk]
 have q7 : (o.kind == 7) = false := by simp [hk]
 have q8 : (o.kind == 8) = false := by simp [hk]
 have q11 : (o.kind == 11) = false := by simp [hk]
 have q12 : (o.kind == 12) = false := by simp [hk]
 have q13 : (o.kind == 13) = false := by simp [hk]
 have q14 : (o.kind == 14) = false := by simp [hk]
 rcases HIx.out with ⟨h1, h2⟩ | ⟨j, ⟨ev, V⟩, hj, h1, h2, h3⟩
 ·subst h2
  obtain ⟨lc0, hlc0⟩ : ∃ lc0, lc0 = lc := ⟨_, rfl⟩
  subst hlc0
  have hb1 : IntKind.u64.wrap (s.births + 1) = s.births + 1 := by rw [IntKind.wrap_u64 _]; omega
  have HBi := zH hbi
  have HNu := zH hnu
  have HVk : Hid (∀ W, Only (KS B w) w W → Bts W Bv 5 (.slice A o.val.length c) o.val) := zH (fun W ho => hv.keep (KeepB.of_only ho (fun k _ hk => ⟨Nat.le_trans hBv hk.1, fun c fr e => by obtain ⟨_, cs, t, fr2, e2, h3⟩ := hk; rw [e] at e2; injection e2 with e2; injection e2 with _ e2 _; subst e2; rcases h3 with h3 | h3 <;> exact absurd h3 (by decide)⟩)))
  have HVl := zH hvl
  have HFn := zH h1
  have HEf : Hid (effP s o 0 = setP s o (addP s.now o.ttl)) := zH (by rw [effP_set (by omega)]; simp [hk])
  have HAd := zH (fun W => refAdd_any s.now o.ttl W ht.1 ht.2 htt)
  clear h1 hk hv hvl hbi hnu hBv ht htt
  go_enter Tryz.func32, Tryz.ntmps32
  go_wp2_with fail
  refine (HFi.out _).mono ?_
  rintro e w1 ⟨rfl, hw⟩
  subst hw
  obtain ⟨W0, hW0⟩ : ∃ W0, w.alloc (.cells #[.int .i64 o.kind, .int .u64 o.ticks, .string o.key, .slice A o.val.length c, .int .u64 o.ttl, .int .i64 o.count, .int .i64 o.bytes, .int .i64 o.cursor, .int .u64 o.birth] 43) = W0 := ⟨_, rfl⟩
  rw [hW0] at HX ⊢
  clear hW0 HFi HIx
  obtain ⟨z0, z2, z3, z4, z7⟩ := op_cells' HX.out.box
  have x6 : W0.cell? ⟨g, 6, none⟩ = some (.int .u64 s.births) := HX.out.k.cell 6 (by omega)
  have xf := HX.out.k.frozen
  go_upto_region 7 with fail
  obtain ⟨nb, hnb⟩ : ∃ nb, s.births + 1 = nb := ⟨_, rfl⟩
  rw [hnb]
  have HX1 : Hid (EfX w (W0.setCell ⟨g, 6, none⟩ (.int .u64 nb)) B g (.slice LA ps.length lc0) vU pv { s with births := nb } ps o (.slice A o.val.length c)) := zH (HX.out.next (HX.out.k.setBirths nb) (Only.set1 _ _ _ _))
  have HNb := zH hnb
  clear x6 xf z0 z2 z3 z4 z7 hb1 hnb HX
  generalize World.setCell _ _ _ = W1 at HX1 ⊢
  obtain ⟨ti, kti, zt0, zt1, zt2⟩ := info_parts entI_info
  refine wp_region_noPanic ?_
  have HXd := zH (EfX.adv HX1.out (zL _ _).drew)
  obtain ⟨cs, hcs1, hcs2⟩ := HXd.out.k.blk
  have HC6 : Hid (cs[6]? = some (.int .u64 nb)) := zH (hcs2 6 (by omega))
  have HC7 : Hid (cs[7]? = some (.slice LA ps.length lc0)) := zH (hcs2 7 (by omega))
  refine wp_region_till [16] (fun W => Blk W g 61 cs ∧ Blk W w.heap.size 43 (opc o (.slice A o.val.length c))) (fun _ => True) (by kernel_rfl) trivial ⟨hcs1, HXd.out.box⟩ (fun hTill => ?_)
  have HCs := zH hcs1
  clear hcs1 hcs2
  generalize W1.drew = W2 at HXd HCs hTill ⊢
  refine Pl.go [0, 1, 2, 3, 4, 5, 6, 7, 8, 9, 10, 11] ?_
  iterate 12
   refine ttl (v := ?_) ?_ ?_
   rotate_left 1
   ·intro W hSw
    obtain ⟨z0, z2, z3, z4, z7⟩ := op_cells' hSw.2.2; have x7 : W.cell? ⟨g, 7, none⟩ = some (.slice LA ps.length lc0) := hSw.2.1.cell 7 _ HC7.out; have x6 : W.cell? ⟨g, 6, none⟩ = some (.int .u64 nb) := hSw.2.1.cell 6 _ HC6.out
    clear hSw
    go_simp
    try with_reducible rfl
   try dsimp only [zS, zB, zC]
   clear hTill
   intro hTill
  refine Pl.stop ?_
  refine wpTill.only (i := 12) (o := ⟨_, _, _, _, _, _⟩) (by kernel_rfl) rfl (fun F hF => ?_)
  go_simp
  have HX3 := zH (EfX.adv HXd.out ((zL _ _).alloc (zN _) (.cells #[.string o.key, .slice none 0 0, .int .u64 0, .int .u64 nb] 40)))
  have HY3 := zH (Blk.new W2 40 #[.string o.key, .slice none 0 0, .int .u64 0, .int .u64 nb])
  have HC3 := zH (HCs.out.alloc (.cells #[.string o.key, .slice none 0 0, .int .u64 0, .int .u64 nb] 40))
  refine hF.out _ _ (Till.of trivial ⟨HC3.out, HX3.out.box⟩) (fun hTill => ?_)
  clear hF F
  try simp only [Act.put, zA, zB, zC]
  generalize W2.heap.size = gB at HY3 ⊢
  generalize W2.alloc _ = W3 at HX3 HY3 HC3 hTill ⊢
  refine wpTill.only (i := 13) (o := ⟨_, _, _, _, _, _⟩) (by kernel_rfl) rfl (fun F hF => ?_)
  refine step_append_src _ rfl (.tmp 34) (.tmp 42) 33 rfl B 40 ti _ 4 56 Tryz.underlying33 kti zt0 zt1 zt2 rfl (by decide) _ ps.length (ecs ps) rfl HX3.out.k.L (some ⟨gB, 0, none⟩) 1 1 (entc ⟨o.key, [], 0, nb⟩ (.slice none 0 0)).toList rfl (src_blk (x := ⟨o.key, [], 0, nb⟩) HY3.out) (by intro u hu; simp [entc] at hu; rcases hu with rfl | rfl | rfl | rfl <;> rfl) (by have := HP.out.n; unfold maxLen; omega) (by have := HP.out.n; omega) (Nat.le_trans HP.out.hB HX3.out.only.size) ?_
  intro v4 w4 hown4 hg4 hat4
  have HK5 := zH (HX3.out.appendL (x := ⟨o.key, [], 0, nb⟩) (U := .slice none 0 0) hg4 (show w4.ownsRow B 40 4 v4 (ps.length + 1) (ecs ps ++ (entc ⟨o.key, [], 0, nb⟩ (.slice none 0 0)).toList) from hown4) (Bts.nil _ _ _))
  obtain ⟨A4, lc, rfl, hc4, _⟩ := own_form hown4
  have HA4 := zH hc4
  have HC5 := zH (HK5.out.1 HC3.out (by decide))
  clear hown4 hg4 hat4 hc4
  refine hF.out _ _ (Till.of trivial ⟨HC5.out, HK5.out.1 HX3.out.box (by decide)⟩) (fun hTill => ?_)
  clear hF F
  try simp only [Act.put, zA, zB, zC]
  refine ts 14 (v := ?_) ?_ ?_
  rotate_left 1
  ·intro W hSw
   skip
   clear hSw
   go_simp
   try with_reducible rfl
  try dsimp only [zS, zB, zC]
  clear hTill
  intro hTill
  refine ts 15 (v := ?_) ?_ ?_
  rotate_left 1
  ·intro W hSw
   skip
   clear hSw
   go_simp
   try with_reducible rfl
  try dsimp only [zS, zB, zC]
  clear hTill
  intro hTill
  have x7 := HC5.out.cell 7 _ HC7.out
  have f7 := HC5.out.frozen 7
  refine wpTill.only (i := 16) (o := ⟨_, _, _, _, _, _⟩) (by kernel_rfl) rfl (fun F hF => ?_)
  go_simp
  have HX6 := zH HK5.out.2
  refine hF.out _ _ (Till.stored trivial (by kernel_rfl)) (fun hTill => ?_)
  clear hF F x7 f7
  try simp only [Act.put, zA, zB, zC]
  refine wpTill.done (by kernel_rfl) ?_
  try refine NoPanic.normal ?_
  clear hTill HK5 HC5 HC3 HC6 HC7 HCs HX3 HY3 HXd HX1
  generalize World.setCell _ _ _ = W6 at HX6 ⊢
  have x7 : W6.cell? ⟨g, 7, none⟩ = some (.slice A4 (ps.length + 1) lc) := HX6.out.k.cell 7 (by omega)
  go_upto_region 9 with fail
  dsimp only at HX6
  obtain ⟨j, hj⟩ : ∃ j, ps.length = j := ⟨_, rfl⟩
  obtain ⟨ps1, hps1⟩ : ∃ ps1, ps ++ [((⟨o.key, [], 0, nb⟩ : EntV), Value.slice none 0 0)] = ps1 := ⟨_, rfl⟩
  obtain ⟨s1, hs1⟩ : ∃ s1 : PJ, { cfg := s.cfg, now := s.now, births := nb, L := s.L ++ [⟨o.key, [], 0, nb⟩], U := s.U, pl := s.pl } = s1 := ⟨_, rfl⟩
  have hl1 : j + 1 = ps1.length := by rw [← hps1, ← hj]; simp
  have hJ : ps1[j]? = some ((⟨o.key, [], 0, nb⟩ : EntV), Value.slice none 0 0) := by rw [← hps1, ← hj]; simp
  rw [hs1, hps1, hj, hl1] at HX6
  rw [hj, hl1] at HA4
  rw [hj, hl1] at x7 ⊢
  have HJ := zH hJ
  obtain ⟨vU1, hvU1⟩ : ∃ vU1, vU1 = vU := ⟨_, rfl⟩
  rw [← hvU1] at HX6
  have HIl : Hid (j < ps1.length) := zH (by omega)
  have HLc : Hid (ps1.length ≤ lc) := zH HA4.out
  have hjI : (j : Int) < (ps1.length : Int) := by omega
  have hlcI : (ps1.length : Int) ≤ (lc : Int) := by have := HA4.out; omega
  have HN1 : Hid (ps1.length ≤ 100000) := zH (by have := HP.out.n; omega)
  have HUn : Hid (s1.U.length ≤ 100000) := zH (by rw [← hs1]; have := HP.out.u; dsimp only; omega)
  obtain ⟨gL, rfl⟩ : ∃ gL, A4 = some ⟨gL, 0, none⟩ := by
   rcases HX6.out.k.L.2 with ⟨_, h0⟩ | ⟨q, c, cur, eq, _⟩
   ·omega
   ·injection eq with eq _ _
    exact ⟨q, eq⟩
  obtain ⟨s9, hs9⟩ : ∃ s9, effP s o 0 = s9 := ⟨_, rfl⟩
  have H9n : Hid (useP { s1 with L := s1.L.set j ⟨o.key, o.val, addP s.now o.ttl, nb⟩ } nb = s9) := zH (by
   rw [← hs1, ← hs9, HEf.out]
   dsimp only
   have e1 : j = s.L.length := by rw [← hj, ← HP.out.k.map, List.length_map]
   rw [e1, ← HNb.out]
   exact set_none_eq HFn.out HNu.out _ _)
  have HS := zH hs9
  clear hl1 hJ hj hps1 hs1 hvU1 hs9 hnI x7 HA4 HNb
  have hj0 : True := trivial
  obtain ⟨i0, hi0, hz0, hz1, hz2⟩ := info_parts u8_info
  refine wp_region_noPanic ?_
  have HXd := zH (EfX.adv HX6.out (zL _ _).drew)
  have HBd : Hid (Below W6.heap.size W6 W6.drew) := zH (zL _ _).drew
  refine wp_region_till [15] (fun W => EfX w W B g (.slice (some ⟨gL, 0, none⟩) ps1.length lc) vU1 pv s1 ps1 o (.slice A o.val.length c)) (fun _ => True) (by kernel_rfl) trivial HXd.out (fun hTill => ?_)
  generalize W6.drew = W7 at HXd HBd hTill ⊢
  refine Pl.go [0, 1, 2, 3] ?_
  iterate 4
   refine ttl (v := ?_) ?_ ?_
   rotate_left 1
   ·intro W hSw
    obtain ⟨z0, z2, z3, z4, z7⟩ := op_cells' hSw.2.box; have x7 : W.cell? ⟨g, 7, none⟩ = some (.slice (some ⟨gL, 0, none⟩) ps1.length lc) := hSw.2.k.cell 7 (by omega); obtain ⟨y0, y1, y2, y3⟩ := hSw.2.k.entAt HJ.out; dsimp only at y0 y1 y2 y3
    clear hSw
    go_simp
    try with_reducible rfl
   try dsimp only [zS, zB, zC]
   clear hTill
   intro hTill
  refine Pl.stop ?_
  refine Pl.go [5, 6, 7, 8, 9, 10, 11, 12] ?_
  iterate 8
   refine ttl (v := ?_) ?_ ?_
   rotate_left 1
   ·intro W hSw
    obtain ⟨z0, z2, z3, z4, z7⟩ := op_cells' hSw.2.box; have x7 : W.cell? ⟨g, 7, none⟩ = some (.slice (some ⟨gL, 0, none⟩) ps1.length lc) := hSw.2.k.cell 7 (by omega); obtain ⟨y0, y1, y2, y3⟩ := hSw.2.k.entAt HJ.out; dsimp only at y0 y1 y2 y3
    clear hSw
    go_simp
    try with_reducible rfl
   try dsimp only [zS, zB, zC]
   clear hTill
   intro hTill
  refine Pl.stop ?_
  have HV7 : Hid (Bts W7 Bv 5 (.slice A o.val.length c) o.val) := zH (HVk.out W7 HXd.out.only)
  have HB7 : Hid (B ≤ W7.heap.size) := zH (Nat.le_trans HP.out.hB HXd.out.only.size)
  generalize hxd : (18446744073709551615 : Int) = xn
  have HXd2 : Hid (neverT = xn) := zH hxd
  clear hxd
  refine wpTill.two (i := 4) (j := 14) (o := ⟨_, _, _, _, _, _⟩) (o2 := ⟨_, _, _, _, _, _⟩) (by kernel_rfl) rfl rfl (fun F hF => ?_) (fun F hF => ?_)
  ·refine step_append_src _ rfl (.const (.slice none 0 0)) (.tmp 55) 37 rfl W7.heap.size 5 i0 _ 1 1 Tryz.underlying37 hi0 hz0 hz1 hz2 rfl (by decide) _ 0 [] rfl (World.ownsRow_nil _ _ _ _) A o.val.length c (bcells o.val) rfl (Bts.src_at HV7.out).2 (bcells_one _) (by have := HVl.out; unfold maxLen; omega) (by have := HVl.out; omega) (zN _) ?_
   intro v8 w8 hown8 hg8 hat8
   rw [Nat.zero_add, List.nil_append] at hown8
   have HX8 := zH (HXd.out.adv (below_grown hg8))
   have HB8 := zH (HBd.out.trans ((below_grown hg8).mono HBd.out.size))
   have HO8 := zH hown8
   obtain ⟨A8, c8, rfl, _, _⟩ := own_form hown8
   clear hown8 hg8 hat8
   refine hF.out _ _ (Till.of trivial HX8.out) (fun hTill => ?_)
   clear hF F
   try simp only [Act.put, zA, zB, zC]
   refine ts 13 (v := ?_) ?_ ?_
   rotate_left 1
   ·intro W hSw
    skip
    clear hSw
    go_simp
    try with_reducible rfl
   try dsimp only [zS, zB, zC]
   clear hTill
   intro hTill
   refine wpTill.only (i := 14) (o := ⟨_, _, _, _, _, _⟩) (by kernel_rfl) rfl (fun F hF => ?_)
   go_simp
   have HX9 := zH (HX8.out.adv ((zL _ _).alloc (zN _) (.cells #[.string ⟨#[]⟩, .slice none 0 0, .int .u64 0, .int .u64 0] 40)))
   have HB9 := zH (HB8.out.alloc HB8.out.size (.cells #[.string ⟨#[]⟩, .slice none 0 0, .int .u64 0, .int .u64 0] 40))
   have HO9 := zH (own_later' HO8.out ((zL _ _).alloc (zN _) (.cells #[.string ⟨#[]⟩, .slice none 0 0, .int .u64 0, .int .u64 0] 40)))
   have HZ9 := zH (Blk.new w8 40 #[.string ⟨#[]⟩, .slice none 0 0, .int .u64 0, .int .u64 0])
   have HG9 : Hid (W6.heap.size ≤ w8.heap.size) := zH HB8.out.size
   refine hF.out _ _ (Till.of trivial HX9.out) (fun hTill => ?_)
   clear hF F
   try simp only [Act.put, zA, zB, zC]
   generalize w8.heap.size = gx at HZ9 HG9 ⊢
   generalize w8.alloc _ = w9 at HX9 HB9 HO9 HZ9 ⊢
   have c0 := HZ9.out.cell 0 _ rfl
   have c1 := HZ9.out.cell 1 _ rfl
   have c2 := HZ9.out.cell 2 _ rfl
   have c3 := HZ9.out.cell 3 _ rfl
   have cf := HZ9.out.frozen
   refine wpTill.only (i := 15) (o := ⟨_, _, _, _, _, _⟩) (by kernel_rfl) rfl (fun F hF => ?_)
   go_simp
   refine hF.out _ _ (Till.stored trivial (by kernel_rfl)) (fun hTill => ?_)
   clear hF F
   try simp only [Act.put, zA, zB, zC]
   refine wpTill.done (by kernel_rfl) ?_
   try refine NoPanic.normal ?_
   have HBx : Hid (Blk ((((w9.setCell ⟨gx, 0, none⟩ (.string o.key)).setCell ⟨gx, 1, none⟩ (.slice A8 o.val.length c8)).setCell ⟨gx, 2, none⟩ (.int .u64 xn)).setCell ⟨gx, 3, none⟩ (.int .u64 nb)) gx 40 (entc ⟨o.key, o.val, xn, nb⟩ (.slice A8 o.val.length c8))) := zH ((((HZ9.out.set_ 0 _).set_ 1 _).set_ 2 _).set_ 3 _)
   have HB10 : Hid (Below W6.heap.size W6 ((((w9.setCell ⟨gx, 0, none⟩ (.string o.key)).setCell ⟨gx, 1, none⟩ (.slice A8 o.val.length c8)).setCell ⟨gx, 2, none⟩ (.int .u64 xn)).setCell ⟨gx, 3, none⟩ (.int .u64 nb))) := zH ((((HB9.out.setCell (p := ⟨gx, 0, none⟩) HG9.out _).setCell (p := ⟨gx, 1, none⟩) HG9.out _).setCell (p := ⟨gx, 2, none⟩) HG9.out _).setCell (p := ⟨gx, 3, none⟩) HG9.out _)
   have HVx0 : Hid (Bts ((((w9.setCell ⟨gx, 0, none⟩ (.string o.key)).setCell ⟨gx, 1, none⟩ (.slice A8 o.val.length c8)).setCell ⟨gx, 2, none⟩ (.int .u64 xn)).setCell ⟨gx, 3, none⟩ (.int .u64 nb)) B 5 (.slice A8 o.val.length c8) o.val) := zH ((Bts.of_own HO9.out B).keep (KeepB.of_blk HZ9.out (by decide) (by have := HG9.out; have := HX6.out.only.size; have := HP.out.hB; omega) ((((Only.set1 _ _ _ _).setCell (S := fun k => k = gx) (p := ⟨gx, 1, none⟩) (.inl rfl) _).setCell (p := ⟨gx, 2, none⟩) (.inl rfl) _).setCell (p := ⟨gx, 3, none⟩) (.inl rfl) _)))
   clear c0 c1 c2 c3 cf hTill HZ9 HO9 HB9 HX9
   generalize World.setCell _ _ _ = w10 at HBx HB10 HVx0 ⊢
   have HX10 := zH (HX6.out.adv HB10.out)
   obtain ⟨z0, z2, z3, z4, z7⟩ := op_cells' HX10.out.box
   clear hj0
   go_wp2_with fail
   refine (HAd.out _).mono ?_
   rintro e2 w4 ⟨rfl, hw4⟩
   subst hw4
   obtain ⟨c0, c1, c2, c3⟩ := ent_cells HBx.out
   have cf := HBx.out.frozen
   go_upto_region 12 with fail
   have HLt : Hid (g < gx) := zH (by have := HG9.out; have := HX6.out.only.size; have := HX6.out.lt; omega)
   have HNx : Hid (gx ≠ g) := zH (fun h => by have := HLt.out; omega)
   obtain ⟨xd, hxd⟩ : ∃ xd, addP s.now o.ttl = xd := ⟨_, rfl⟩
   have H9 : Hid (useP { s1 with L := s1.L.set j ⟨o.key, o.val, xd, nb⟩ } nb = s9) := zH (hxd ▸ H9n.out)
   rw [hxd]
   have HB11 : Hid (Below W6.heap.size W6 (w10.setCell ⟨gx, 2, none⟩ (.int .u64 xd))) := zH (HB10.out.setCell (p := ⟨gx, 2, none⟩) HG9.out _)
   have HBy : Hid (Blk (w10.setCell ⟨gx, 2, none⟩ (.int .u64 xd)) gx 40 (entc ⟨o.key, o.val, xd, nb⟩ (.slice A8 o.val.length c8))) := zH (HBx.out.set_ 2 _)
   have HLy : Hid (LyX w (w10.setCell ⟨gx, 2, none⟩ (.int .u64 xd)) (w10.setCell ⟨gx, 2, none⟩ (.int .u64 xd)) B g (.slice (some ⟨gL, 0, none⟩) ps1.length lc) vU1 pv s1 ps1 o (.slice A o.val.length c) gx ⟨o.key, o.val, xd, nb⟩ (.slice A8 o.val.length c8)) := zH ⟨HX6.out.adv HB11.out, HBy.out, zL _ _⟩
   have HVx : Hid (Bts (w10.setCell ⟨gx, 2, none⟩ (.int .u64 xd)) B 5 (.slice A8 o.val.length c8) o.val) := zH (HVx0.out.keep (KeepB.of_blk HBx.out (by decide) (by have := HG9.out; have := HX6.out.only.size; have := HP.out.hB; omega) (Only.set1 _ _ _ _)))
   clear HBx HBy HB10 HB11 HVx0 HX10 H9n HXd2 z0 z2 z3 z4 z7 c0 c1 c2 c3 cf hxd
   generalize w10.setCell _ _ = w2 at HLy HVx ⊢
   refine wp_region_noPanic ?_
   have HLd := zH (HLy.out.adv (zL _ _).drew)
   refine wp_region_till [21] (fun W => LyX w w2 W B g (.slice (some ⟨gL, 0, none⟩) ps1.length lc) vU1 pv s1 ps1 o (.slice A o.val.length c) gx ⟨o.key, o.val, xd, nb⟩ (.slice A8 (o.val).length c8)) (fun _ => True) (by kernel_rfl) trivial HLd.out (fun hTill => ?_)
   generalize w2.drew = w3 at HLd hTill ⊢
   have hj1 : j ≤ lc := by have := HIl.out; have := HLc.out; omega
   have hj2 : j + 1 ≤ ps1.length := HIl.out
   have hj3 : ps1.length ≤ lc := HLc.out
   have hj4 : j + 1 ≤ lc := by omega
   have HWr : Hid (IntKind.i64.wrap ((j : Int) + 1) = (j : Int) + 1 ∧ ((j : Int) + 1).toNat = j + 1) := zH ⟨by rw [IntKind.wrap_i64 _]; have := HN1.out; omega, by omega⟩
   have hj6 : (0 : Int) ≤ (j : Int) + 1 := by omega
   have hj5 : (j : Int) + 1 ≤ (ps1.length : Int) := by omega
   refine Pl.go [0, 1, 2, 3] ?_
   iterate 4
    refine tsl (v := ?_) ?_ ?_
    rotate_left 1
    ·intro W hSw
     skip
     clear hSw
     go_simp
     try with_reducible rfl
    try dsimp only [zS, zB, zC]
    clear hTill
    intro hTill
   refine Pl.stop ?_
   refine tt 4 (v := ?_) ?_ ?_
   rotate_left 1
   ·intro W hSw
    have x7 : W.cell? ⟨g, 7, none⟩ = some (.slice (some ⟨gL, 0, none⟩) ps1.length lc) := hSw.2.e.k.cell 7 (by omega); obtain ⟨c0, c1, c2, c3⟩ := ent_cells hSw.2.x
    clear hSw
    go_simp
    try with_reducible rfl
   try dsimp only [zS, zB, zC]
   clear hTill
   intro hTill
   refine Pl.go [5, 6] ?_
   iterate 2
    refine tsl (v := ?_) ?_ ?_
    rotate_left 1
    ·intro W hSw
     skip
     clear hSw
     go_simp
     try with_reducible rfl
    try dsimp only [zS, zB, zC]
    clear hTill
    intro hTill
   refine Pl.stop ?_
   refine tt 8 (v := ?_) ?_ ?_
   rotate_left 1
   ·intro W hSw
    have x7 : W.cell? ⟨g, 7, none⟩ = some (.slice (some ⟨gL, 0, none⟩) ps1.length lc) := hSw.2.e.k.cell 7 (by omega); obtain ⟨c0, c1, c2, c3⟩ := ent_cells hSw.2.x
    clear hSw
    go_simp
    try with_reducible rfl
   try dsimp only [zS, zB, zC]
   clear hTill
   intro hTill
   refine Pl.go [11, 12, 13] ?_
   iterate 3
    refine tsl (v := ?_) ?_ ?_
    rotate_left 1
    ·intro W hSw
     skip
     clear hSw
     go_simp
     try with_reducible rfl
    try dsimp only [zS, zB, zC]
    clear hTill
    intro hTill
   refine Pl.stop ?_
   refine tt 14 (v := ?_) ?_ ?_
   rotate_left 1
   ·intro W hSw
    have x7 : W.cell? ⟨g, 7, none⟩ = some (.slice (some ⟨gL, 0, none⟩) ps1.length lc) := hSw.2.e.k.cell 7 (by omega); obtain ⟨c0, c1, c2, c3⟩ := ent_cells hSw.2.x
    clear hSw
    go_simp
    try with_reducible rfl
   try dsimp only [zS, zB, zC]
   clear hTill
   intro hTill
   refine ts 15 (v := ?_) ?_ ?_
   rotate_left 1
   ·intro W hSw
    skip
    clear hSw
    go_simp
    try with_reducible rfl
   try dsimp only [zS, zB, zC]
   clear hTill
   intro hTill
   refine ts 16 (v := ?_) ?_ ?_
   rotate_left 1
   ·intro W hSw
    have hwr := HWr.out.1
    clear hSw
    go_simp
    try with_reducible rfl
   try dsimp only [zS, zB, zC]
   clear hTill
   intro hTill
   refine ts 17 (v := ?_) ?_ ?_
   rotate_left 1
   ·intro W hSw
    have hwr := HWr.out.2
    clear hSw
    go_simp
    try with_reducible rfl
   try dsimp only [zS, zB, zC]
   clear hTill
   intro hTill
   have HSa : Hid (∀ W, KRep W B g (.slice (some ⟨gL, 0, none⟩) ps1.length lc) vU1 pv s1 ps1 → Src W 4 (some ⟨gL, 0, none⟩) j (ecs (ps1.take j))) := zH (fun W hW => by
    have := row_src hW.L rfl 0 j (by omega)
    rwa [List.drop_zero, Nat.zero_mul] at this)
   have HSb : Hid (∀ W, KRep W B g (.slice (some ⟨gL, 0, none⟩) ps1.length lc) vU1 pv s1 ps1 → Src W 4 (if lc = j + 1 then (some ⟨gL, 0, none⟩ : Option Addr) else some ⟨gL, (j + 1) * 4, none⟩) (ps1.length - (j + 1)) (ecs (ps1.drop (j + 1)))) := zH (fun W hW => by
    split
    ·rename_i hl
     have e0 : ps1.length - (j + 1) = 0 := by omega
     have e1 : ps1.drop (j + 1) = [] := List.drop_eq_nil_of_le (by omega)
     rw [e0, e1]
     exact ⟨rfl, (fun _ => rfl), fun q _ j u hu => by simp [ecs] at hu⟩
    ·have := row_src hW.L rfl (j + 1) (ps1.length - (j + 1)) (by omega)
     rw [List.take_of_length_le (by rw [List.length_drop]; exact zN _)] at this
     exact this)
   have HOn : Hid (∀ qs : List (EntV × Value), (∀ q ∈ qs, q ∈ ps1) → ∀ u ∈ ecs qs, u.oneCell' = true) := zH (fun qs hq => ecs_one qs (fun q hm => by
    obtain ⟨A, c, e⟩ := (HLy.out.e.k.vals q (hq q hm)).form
    exact ⟨A, _, c, e⟩))
   generalize (if lc = j + 1 then (some ⟨gL, 0, none⟩ : Option Addr) else some ⟨gL, (j + 1) * 4, none⟩) = A14 at HSb ⊢
   have HB3 : Hid (B ≤ w3.heap.size) := zH (Nat.le_trans HP.out.hB HLd.out.e.only.size)
   clear hj1 hj2 hj3 hj4 hj5 hj6 HWr
   refine wpTill.two (i := 7) (j := 9) (o := ⟨_, _, _, _, _, _⟩) (o2 := ⟨_, _, _, _, _, _⟩) (by kernel_rfl) rfl rfl (fun F hF => ?_) (fun F hF => ?_)
   ·refine step_append_src _ rfl (.const (.slice none 0 0)) (.tmp 80) 33 rfl w3.heap.size 40 ti _ 4 56 Tryz.underlying33 kti zt0 zt1 zt2 rfl (by decide) _ 0 [] rfl (World.ownsRow_nil _ _ _ _) (some ⟨gL, 0, none⟩) j lc (ecs (ps1.take j)) rfl (HSa.out _ HLd.out.e.k) (HOn.out _ (fun q hq => List.mem_of_mem_take hq)) (by have := HIl.out; have := HN1.out; unfold maxLen; omega) (by have := HIl.out; have := HN1.out; omega) (zN _) ?_
    intro v7 w7 hown7 hg7 hat7
    have hb7 : Below w3.heap.size w3 w7 := (zL _ _).grown hg7 (zN _) (fun k hk => by cases hk)
    have HL7 := zH (HLd.out.adv hb7)
    rw [Nat.zero_add, List.nil_append] at hown7
    have HO7 := zH hown7
    have HB7 := zH hb7
    obtain ⟨A7, c7, rfl, _, _⟩ := own_form hown7
    clear hown7 hg7 hat7 hb7
    refine hF.out _ _ (Till.of trivial HL7.out) (fun hTill => ?_)
    clear hF F
    try simp only [Act.put, zA, zB, zC]
    refine wpTill.only (i := 9) (o := ⟨_, _, _, _, _, _⟩) (by kernel_rfl) rfl (fun F hF => ?_)
    go_simp
    have HL9 := zH (HL7.out.adv ((zL _ _).alloc (zN _) (.cells #[.string o.key, .slice A8 (o.val).length c8, .int .u64 xd, .int .u64 nb] 40)))
    have HO9 := zH (own_later' HO7.out ((zL _ _).alloc (zN _) (.cells #[.string o.key, .slice A8 (o.val).length c8, .int .u64 xd, .int .u64 nb] 40)))
    have HB9 := zH (HB7.out.alloc HB7.out.size (.cells #[.string o.key, .slice A8 (o.val).length c8, .int .u64 xd, .int .u64 nb] 40))
    have HX9 := zH (Blk.new w7 40 #[.string o.key, .slice A8 (o.val).length c8, .int .u64 xd, .int .u64 nb])
    refine hF.out _ _ (Till.of trivial HL9.out) (fun hTill => ?_)
    clear hF F
    try simp only [Act.put, zA, zB, zC]
    generalize hw9 : w7.alloc _ = w9 at HL9 HO9 HB9 HX9 ⊢
    clear hw9
    generalize w7.heap.size = gB at HX9 ⊢
    refine wpTill.only (i := 10) (o := ⟨_, _, _, _, _, _⟩) (by kernel_rfl) rfl (fun F hF => ?_)
    refine step_append_src _ rfl (.tmp 81) (.tmp 83) 33 rfl w3.heap.size 40 ti _ 4 56 Tryz.underlying33 kti zt0 zt1 zt2 rfl (by decide) _ j (ecs (ps1.take j)) rfl HO9.out (some ⟨gB, 0, none⟩) 1 1 (entc ⟨o.key, o.val, xd, nb⟩ (.slice A8 (o.val).length c8)).toList rfl (src_blk HX9.out) (by intro u hu; simp [entc] at hu; rcases hu with rfl | rfl | rfl | rfl <;> rfl) (by have := HIl.out; have := HN1.out; unfold maxLen; omega) (by have := HIl.out; have := HN1.out; omega) HB9.out.size ?_
    intro v10 w10 hown10 hg10 hat10
    have hb10 : Below w3.heap.size w3 w10 := HB9.out.grown hg10 HB9.out.size (fun k hk => (row_heap' HO9.out hk).1)
    have HL10 := zH (HLd.out.adv hb10)
    have HO10 := zH hown10
    have HB10 := zH hb10
    obtain ⟨A10, c10, rfl, _, _⟩ := own_form hown10
    clear hown10 hg10 hat10 hb10 HX9 HB9 HO9 HL9
    refine hF.out _ _ (Till.of trivial HL10.out) (fun hTill => ?_)
    clear hF F
    try simp only [Act.put, zA, zB, zC]
    refine wpTill.only (i := 18) (o := ⟨_, _, _, _, _, _⟩) (by kernel_rfl) rfl (fun F hF => ?_)
    refine step_append_src _ rfl (.tmp 84) (.tmp 91) 33 rfl w3.heap.size 40 ti _ 4 56 Tryz.underlying33 kti zt0 zt1 zt2 rfl (by decide) _ (j + 1) (ecs (ps1.take j) ++ (entc ⟨o.key, o.val, xd, nb⟩ (.slice A8 (o.val).length c8)).toList) rfl HO10.out A14 (ps1.length - (j + 1)) (lc - (j + 1)) (ecs (ps1.drop (j + 1))) rfl (HSb.out _ HL10.out.e.k) (HOn.out _ (fun q hq => List.mem_of_mem_drop hq)) (by have := HIl.out; have := HN1.out; unfold maxLen; omega) (by have := HIl.out; have := HN1.out; omega) HB10.out.size ?_
    intro v11 w11 hown11 hg11 hat11
    have hb11 : Below w3.heap.size w3 w11 := HB10.out.grown hg11 HB10.out.size (fun k hk => (row_heap' HO10.out hk).1)
    have HL11 := zH (HLd.out.adv hb11)
    have HO11 : Hid (w11.ownsRow B 40 4 v11 ps1.length (ecs (ps1.set j (⟨o.key, o.val, xd, nb⟩, .slice A8 (o.val).length c8)))) := zH (by
     have h := ownsRow_base hown11 HB3.out
     rw [← ecs_set _ _ _ _ HIl.out] at h
     have e : j + 1 + (ps1.length - (j + 1)) = ps1.length := by have := HIl.out; omega
     rw [e] at h
     exact h)
    obtain ⟨A11, c11, rfl, _, _⟩ := own_form HO11.out
    clear hown11 hg11 hat11 hb11 HL10 HO10 HB10
    refine hF.out _ _ (Till.of trivial HL11.out) (fun hTill => ?_)
    clear hF F
    try simp only [Act.put, zA, zB, zC]
    refine ts 19 (v := ?_) ?_ ?_
    rotate_left 1
    ·intro W hSw
     skip
     clear hSw
     go_simp
     try with_reducible rfl
    try dsimp only [zS, zB, zC]
    clear hTill
    intro hTill
    refine ts 20 (v := ?_) ?_ ?_
    rotate_left 1
    ·intro W hSw
     skip
     clear hSw
     go_simp
     try with_reducible rfl
    try dsimp only [zS, zB, zC]
    clear hTill
    intro hTill
    have x7 : w11.cell? ⟨g, 7, none⟩ = some (.slice (some ⟨gL, 0, none⟩) ps1.length lc) := HL11.out.e.k.cell 7 (by omega)
    have f7 := HL11.out.e.k.frozen 7
    refine wpTill.only (i := 21) (o := ⟨_, _, _, _, _, _⟩) (by kernel_rfl) rfl (fun F hF => ?_)
    go_simp
    have HK12 : Hid (KRep (w11.setCell ⟨g, 7, none⟩ (.slice A11 ps1.length c11)) B g (.slice A11 ps1.length c11) vU1 pv { s1 with L := s1.L.set j ⟨o.key, o.val, xd, nb⟩ } (ps1.set j (⟨o.key, o.val, xd, nb⟩, .slice A8 (o.val).length c8))) := zH (by
     refine HL11.out.e.k.setL (by rw [List.length_set]; exact HO11.out) ?_ (fun p hp => ?_)
     ·rw [← HL11.out.e.k.map, List.map_set]
     ·rcases List.mem_or_eq_of_mem_set hp with h | h
      ·exact HL11.out.e.k.vals p h
      ·rw [h]; exact HVx.out.below HL11.out.below)
    have HX12 := zH ((HL11.out.e).next HK12.out (Only.set1 _ _ _ _))
    have HXb12 := zH (HL11.out.x.far (p := ⟨g, 7, none⟩) (HNx.out) (.slice A11 ps1.length c11))
    refine hF.out _ _ (Till.stored trivial (by kernel_rfl)) (fun hTill => ?_)
    clear hF F x7 f7
    try simp only [Act.put, zA, zB, zC]
    refine wpTill.done (by kernel_rfl) ?_
    try refine NoPanic.normal ?_
    clear hTill HL11 HLd HK12 HO11
    generalize w11.setCell ⟨g, 7, none⟩ _ = w12 at HX12 HXb12 ⊢
    clear HB3 HSa HSb HOn
    obtain ⟨c0, c1, c2, c3⟩ := ent_cells HXb12.out
    dsimp only at c0 c1 c2 c3
    go_wp2_with fail
    refine (kUse_any B g _ _ pv _ _ nb w12 HX12.out.k HUn.out (Nat.le_trans HP.out.hB HX12.out.only.size)).mono ?_
    rintro e w13 ⟨vU2, rfl, hk13, ho13⟩
    have HX13 := zH (HX12.out.next (H9.out ▸ hk13) ho13)
    clear hk13 ho13 c0 c1 c2 c3 HXb12 HX12
    obtain ⟨z0, z2, z3, z4, z7⟩ := op_cells' HX13.out.box
    go_wp2_with fail
    refine bodyPost_end (v := .tuple #[]) (results_none rfl _ _ _) rfl ?_
    rw [HS.out]
    exact ⟨_, _, _, _, rfl, (HX13).out.k, (HX13).out.only⟩
   ·go_simp
    have HL8 := zH (HLd.out.adv ((zL _ _).alloc (zN _) (.cells #[.string o.key, .slice A8 (o.val).length c8, .int .u64 xd, .int .u64 nb] 40)))
    have HB8 := zH ((zL w3.heap.size w3).alloc (zN _) (.cells #[.string o.key, .slice A8 (o.val).length c8, .int .u64 xd, .int .u64 nb] 40))
    have HX8 := zH (Blk.new w3 40 #[.string o.key, .slice A8 (o.val).length c8, .int .u64 xd, .int .u64 nb])
    refine hF.out _ _ (Till.of trivial HL8.out) (fun hTill => ?_)
    clear hF F
    try simp only [Act.put, zA, zB, zC]
    generalize hw8 : w3.alloc _ = w8 at HL8 HB8 HX8 ⊢
    clear hw8
    refine wpTill.only (i := 7) (o := ⟨_, _, _, _, _, _⟩) (by kernel_rfl) rfl (fun F hF => ?_)
    refine step_append_src _ rfl (.const (.slice none 0 0)) (.tmp 80) 33 rfl w8.heap.size 40 ti _ 4 56 Tryz.underlying33 kti zt0 zt1 zt2 rfl (by decide) _ 0 [] rfl (World.ownsRow_nil _ _ _ _) (some ⟨gL, 0, none⟩) j lc (ecs (ps1.take j)) rfl (HSa.out _ HL8.out.e.k) (HOn.out _ (fun q hq => List.mem_of_mem_take hq)) (by have := HIl.out; have := HN1.out; unfold maxLen; omega) (by have := HIl.out; have := HN1.out; omega) (zN _) ?_
    intro v7 w9 hown7 hg7 hat7
    have hb7 : Below w8.heap.size w8 w9 := (zL _ _).grown hg7 (zN _) (fun k hk => by cases hk)
    have HL9 := zH (HL8.out.adv hb7)
    rw [Nat.zero_add, List.nil_append] at hown7
    have HO9 := zH (ownsRow_base hown7 HB8.out.size)
    have HB9 : Hid (Below w3.heap.size w3 w9) := zH (HB8.out.trans (hb7.mono HB8.out.size))
    have HX9 := zH (HX8.out.below hb7)
    obtain ⟨A7, c7, rfl, _, _⟩ := own_form hown7
    clear hown7 hg7 hat7 hb7 HX8
    refine hF.out _ _ (Till.of trivial HL9.out) (fun hTill => ?_)
    clear hF F
    try simp only [Act.put, zA, zB, zC]
    generalize w3.heap.size = gB at HX9 ⊢
    refine wpTill.only (i := 10) (o := ⟨_, _, _, _, _, _⟩) (by kernel_rfl) rfl (fun F hF => ?_)
    refine step_append_src _ rfl (.tmp 81) (.tmp 83) 33 rfl w3.heap.size 40 ti _ 4 56 Tryz.underlying33 kti zt0 zt1 zt2 rfl (by decide) _ j (ecs (ps1.take j)) rfl HO9.out (some ⟨gB, 0, none⟩) 1 1 (entc ⟨o.key, o.val, xd, nb⟩ (.slice A8 (o.val).length c8)).toList rfl (src_blk HX9.out) (by intro u hu; simp [entc] at hu; rcases hu with rfl | rfl | rfl | rfl <;> rfl) (by have := HIl.out; have := HN1.out; unfold maxLen; omega) (by have := HIl.out; have := HN1.out; omega) HB9.out.size ?_
    intro v10 w10 hown10 hg10 hat10
    have hb10 : Below w3.heap.size w3 w10 := HB9.out.grown hg10 HB9.out.size (fun k hk => (row_heap' HO9.out hk).1)
    have HL10 := zH (HLd.out.adv hb10)
    have HO10 := zH hown10
    have HB10 := zH hb10
    obtain ⟨A10, c10, rfl, _, _⟩ := own_form hown10
    clear hown10 hg10 hat10 hb10 HX9 HB9 HO9 HL9
    refine hF.out _ _ (Till.of trivial HL10.out) (fun hTill => ?_)
    clear hF F
    try simp only [Act.put, zA, zB, zC]
    refine wpTill.only (i := 18) (o := ⟨_, _, _, _, _, _⟩) (by kernel_rfl) rfl (fun F hF => ?_)
    refine step_append_src _ rfl (.tmp 84) (.tmp 91) 33 rfl w3.heap.size 40 ti _ 4 56 Tryz.underlying33 kti zt0 zt1 zt2 rfl (by decide) _ (j + 1) (ecs (ps1.take j) ++ (entc ⟨o.key, o.val, xd, nb⟩ (.slice A8 (o.val).length c8)).toList) rfl HO10.out A14 (ps1.length - (j + 1)) (lc - (j + 1)) (ecs (ps1.drop (j + 1))) rfl (HSb.out _ HL10.out.e.k) (HOn.out _ (fun q hq => List.mem_of_mem_drop hq)) (by have := HIl.out; have := HN1.out; unfold maxLen; omega) (by have := HIl.out; have := HN1.out; omega) HB10.out.size ?_
    intro v11 w11 hown11 hg11 hat11
    have hb11 : Below w3.heap.size w3 w11 := HB10.out.grown hg11 HB10.out.size (fun k hk => (row_heap' HO10.out hk).1)
    have HL11 := zH (HLd.out.adv hb11)
    have HO11 : Hid (w11.ownsRow B 40 4 v11 ps1.length (ecs (ps1.set j (⟨o.key, o.val, xd, nb⟩, .slice A8 (o.val).length c8)))) := zH (by
     have h := ownsRow_base hown11 HB3.out
     rw [← ecs_set _ _ _ _ HIl.out] at h
     have e : j + 1 + (ps1.length - (j + 1)) = ps1.length := by have := HIl.out; omega
     rw [e] at h
     exact h)
    obtain ⟨A11, c11, rfl, _, _⟩ := own_form HO11.out
    clear hown11 hg11 hat11 hb11 HL10 HO10 HB10
    refine hF.out _ _ (Till.of trivial HL11.out) (fun hTill => ?_)
    clear hF F
    try simp only [Act.put, zA, zB, zC]
    refine ts 19 (v := ?_) ?_ ?_
    rotate_left 1
    ·intro W hSw
     skip
     clear hSw
     go_simp
     try with_reducible rfl
    try dsimp only [zS, zB, zC]
    clear hTill
    intro hTill
    refine ts 20 (v := ?_) ?_ ?_
    rotate_left 1
    ·intro W hSw
     skip
     clear hSw
     go_simp
     try with_reducible rfl
    try dsimp only [zS, zB, zC]
    clear hTill
    intro hTill
    have x7 : w11.cell? ⟨g, 7, none⟩ = some (.slice (some ⟨gL, 0, none⟩) ps1.length lc) := HL11.out.e.k.cell 7 (by omega)
    have f7 := HL11.out.e.k.frozen 7
    refine wpTill.only (i := 21) (o := ⟨_, _, _, _, _, _⟩) (by kernel_rfl) rfl (fun F hF => ?_)
    go_simp
    have HK12 : Hid (KRep (w11.setCell ⟨g, 7, none⟩ (.slice A11 ps1.length c11)) B g (.slice A11 ps1.length c11) vU1 pv { s1 with L := s1.L.set j ⟨o.key, o.val, xd, nb⟩ } (ps1.set j (⟨o.key, o.val, xd, nb⟩, .slice A8 (o.val).length c8))) := zH (by
     refine HL11.out.e.k.setL (by rw [List.length_set]; exact HO11.out) ?_ (fun p hp => ?_)
     ·rw [← HL11.out.e.k.map, List.map_set]
     ·rcases List.mem_or_eq_of_mem_set hp with h | h
      ·exact HL11.out.e.k.vals p h
      ·rw [h]; exact HVx.out.below HL11.out.below)
    have HX12 := zH ((HL11.out.e).next HK12.out (Only.set1 _ _ _ _))
    have HXb12 := zH (HL11.out.x.far (p := ⟨g, 7, none⟩) (HNx.out) (.slice A11 ps1.length c11))
    refine hF.out _ _ (Till.stored trivial (by kernel_rfl)) (fun hTill => ?_)
    clear hF F x7 f7
    try simp only [Act.put, zA, zB, zC]
    refine wpTill.done (by kernel_rfl) ?_
    try refine NoPanic.normal ?_
    clear hTill HL11 HLd HK12 HO11
    generalize w11.setCell ⟨g, 7, none⟩ _ = w12 at HX12 HXb12 ⊢
    clear HB3 HSa HSb HOn
    obtain ⟨c0, c1, c2, c3⟩ := ent_cells HXb12.out
    dsimp only at c0 c1 c2 c3
    go_wp2_with fail
    refine (kUse_any B g _ _ pv _ _ nb w12 HX12.out.k HUn.out (Nat.le_trans HP.out.hB HX12.out.only.size)).mono ?_
    rintro e w13 ⟨vU2, rfl, hk13, ho13⟩
    have HX13 := zH (HX12.out.next (H9.out ▸ hk13) ho13)
    clear hk13 ho13 c0 c1 c2 c3 HXb12 HX12
    obtain ⟨z0, z2, z3, z4, z7⟩ := op_cells' HX13.out.box
    go_wp2_with fail
    refine bodyPost_end (v := .tuple #[]) (results_none rfl _ _ _) rfl ?_
    rw [HS.out]
    exact ⟨_, _, _, _, rfl, (HX13).out.k, (HX13).out.only⟩
  ·go_simp
   have HX8 := zH (HXd.out.adv ((zL _ _).alloc (zN _) (.cells #[.string ⟨#[]⟩, .slice none 0 0, .int .u64 0, .int .u64 0] 40)))
   have HB8 := zH (HBd.out.alloc HBd.out.size (.cells #[.string ⟨#[]⟩, .slice none 0 0, .int .u64 0, .int .u64 0] 40))
   have HZ8 := zH (Blk.new W7 40 #[.string ⟨#[]⟩, .slice none 0 0, .int .u64 0, .int .u64 0])
   have HV8 := zH (HV7.out.alloc (.cells #[.string ⟨#[]⟩, .slice none 0 0, .int .u64 0, .int .u64 0] 40))
   have HG9 : Hid (W6.heap.size ≤ W7.heap.size) := zH HBd.out.size
   have HG8 : Hid (W7.heap.size ≤ (W7.alloc (.cells #[.string ⟨#[]⟩, .slice none 0 0, .int .u64 0, .int .u64 0] 40)).heap.size) := zH (by simp)
   refine hF.out _ _ (Till.of trivial HX8.out) (fun hTill => ?_)
   clear hF F
   try simp only [Act.put, zA, zB, zC]
   generalize W7.alloc _ = w8 at HX8 HB8 HZ8 HV8 HG8 ⊢
   refine wpTill.only (i := 4) (o := ⟨_, _, _, _, _, _⟩) (by kernel_rfl) rfl (fun F hF => ?_)
   refine step_append_src _ rfl (.const (.slice none 0 0)) (.tmp 55) 37 rfl w8.heap.size 5 i0 _ 1 1 Tryz.underlying37 hi0 hz0 hz1 hz2 rfl (by decide) _ 0 [] rfl (World.ownsRow_nil _ _ _ _) A o.val.length c (bcells o.val) rfl (Bts.src_at HV8.out).2 (bcells_one _) (by have := HVl.out; unfold maxLen; omega) (by have := HVl.out; omega) (zN _) ?_
   intro v8 w9 hown8 hg8 hat8
   rw [Nat.zero_add, List.nil_append] at hown8
   have HX9 := zH (HX8.out.adv (below_grown hg8))
   have HB9 := zH (HB8.out.trans ((below_grown hg8).mono HB8.out.size))
   have HO9 := zH (ownsRow_base hown8 HG8.out)
   have HZ9 := zH (HZ8.out.below (below_grown hg8))
   obtain ⟨A8, c8, rfl, _, _⟩ := own_form hown8
   clear hown8 hg8 hat8 HZ8
   refine hF.out _ _ (Till.of trivial HX9.out) (fun hTill => ?_)
   clear hF F
   try simp only [Act.put, zA, zB, zC]
   refine ts 13 (v := ?_) ?_ ?_
   rotate_left 1
   ·intro W hSw
    skip
    clear hSw
    go_simp
    try with_reducible rfl
   try dsimp only [zS, zB, zC]
   clear hTill
   intro hTill
   generalize W7.heap.size = gx at HZ9 HG9 ⊢
   have c0 := HZ9.out.cell 0 _ rfl
   have c1 := HZ9.out.cell 1 _ rfl
   have c2 := HZ9.out.cell 2 _ rfl
   have c3 := HZ9.out.cell 3 _ rfl
   have cf := HZ9.out.frozen
   refine wpTill.only (i := 15) (o := ⟨_, _, _, _, _, _⟩) (by kernel_rfl) rfl (fun F hF => ?_)
   go_simp
   refine hF.out _ _ (Till.stored trivial (by kernel_rfl)) (fun hTill => ?_)
   clear hF F
   try simp only [Act.put, zA, zB, zC]
   refine wpTill.done (by kernel_rfl) ?_
   try refine NoPanic.normal ?_
   have HBx : Hid (Blk ((((w9.setCell ⟨gx, 0, none⟩ (.string o.key)).setCell ⟨gx, 1, none⟩ (.slice A8 o.val.length c8)).setCell ⟨gx, 2, none⟩ (.int .u64 xn)).setCell ⟨gx, 3, none⟩ (.int .u64 nb)) gx 40 (entc ⟨o.key, o.val, xn, nb⟩ (.slice A8 o.val.length c8))) := zH ((((HZ9.out.set_ 0 _).set_ 1 _).set_ 2 _).set_ 3 _)
   have HB10 : Hid (Below W6.heap.size W6 ((((w9.setCell ⟨gx, 0, none⟩ (.string o.key)).setCell ⟨gx, 1, none⟩ (.slice A8 o.val.length c8)).setCell ⟨gx, 2, none⟩ (.int .u64 xn)).setCell ⟨gx, 3, none⟩ (.int .u64 nb))) := zH ((((HB9.out.setCell (p := ⟨gx, 0, none⟩) HG9.out _).setCell (p := ⟨gx, 1, none⟩) HG9.out _).setCell (p := ⟨gx, 2, none⟩) HG9.out _).setCell (p := ⟨gx, 3, none⟩) HG9.out _)
   have HVx0 : Hid (Bts ((((w9.setCell ⟨gx, 0, none⟩ (.string o.key)).setCell ⟨gx, 1, none⟩ (.slice A8 o.val.length c8)).setCell ⟨gx, 2, none⟩ (.int .u64 xn)).setCell ⟨gx, 3, none⟩ (.int .u64 nb)) B 5 (.slice A8 o.val.length c8) o.val) := zH ((Bts.of_own HO9.out B).keep (KeepB.of_blk HZ9.out (by decide) (by have := HG9.out; have := HX6.out.only.size; have := HP.out.hB; omega) ((((Only.set1 _ _ _ _).setCell (S := fun k => k = gx) (p := ⟨gx, 1, none⟩) (.inl rfl) _).setCell (p := ⟨gx, 2, none⟩) (.inl rfl) _).setCell (p := ⟨gx, 3, none⟩) (.inl rfl) _)))
   clear c0 c1 c2 c3 cf hTill HZ9 HO9 HB9 HX9
   generalize World.setCell _ _ _ = w10 at HBx HB10 HVx0 ⊢
   have HX10 := zH (HX6.out.adv HB10.out)
   obtain ⟨z0, z2, z3, z4, z7⟩ := op_cells' HX10.out.box
   clear hj0
   go_wp2_with fail
   refine (HAd.out _).mono ?_
   rintro e2 w4 ⟨rfl, hw4⟩
   subst hw4
   obtain ⟨c0, c1, c2, c3⟩ := ent_cells HBx.out
   have cf := HBx.out.frozen
   go_upto_region 12 with fail
   have HLt : Hid (g < gx) := zH (by have := HG9.out; have := HX6.out.only.size; have := HX6.out.lt; omega)
   have HNx : Hid (gx ≠ g) := zH (fun h => by have := HLt.out; omega)
   obtain ⟨xd, hxd⟩ : ∃ xd, addP s.now o.ttl = xd := ⟨_, rfl⟩
   have H9 : Hid (useP { s1 with L := s1.L.set j ⟨o.key, o.val, xd, nb⟩ } nb = s9) := zH (hxd ▸ H9n.out)
   rw [hxd]
   have HB11 : Hid (Below W6.heap.size W6 (w10.setCell ⟨gx, 2, none⟩ (.int .u64 xd))) := zH (HB10.out.setCell (p := ⟨gx, 2, none⟩) HG9.out _)
   have HBy : Hid (Blk (w10.setCell ⟨gx, 2, none⟩ (.int .u64 xd)) gx 40 (entc ⟨o.key, o.val, xd, nb⟩ (.slice A8 o.val.length c8))) := zH (HBx.out.set_ 2 _)
   have HLy : Hid (LyX w (w10.setCell ⟨gx, 2, none⟩ (.int .u64 xd)) (w10.setCell ⟨gx, 2, none⟩ (.int .u64 xd)) B g (.slice (some ⟨gL, 0, none⟩) ps1.length lc) vU1 pv s1 ps1 o (.slice A o.val.length c) gx ⟨o.key, o.val, xd, nb⟩ (.slice A8 o.val.length c8)) := zH ⟨HX6.out.adv HB11.out, HBy.out, zL _ _⟩
   have HVx : Hid (Bts (w10.setCell ⟨gx, 2, none⟩ (.int .u64 xd)) B 5 (.slice A8 o.val.length c8) o.val) := zH (HVx0.out.keep (KeepB.of_blk HBx.out (by decide) (by have := HG9.out; have := HX6.out.only.size; have := HP.out.hB; omega) (Only.set1 _ _ _ _)))
   clear HBx HBy HB10 HB11 HVx0 HX10 H9n HXd2 z0 z2 z3 z4 z7 c0 c1 c2 c3 cf hxd
   generalize w10.setCell _ _ = w2 at HLy HVx ⊢
   refine wp_region_noPanic ?_
   have HLd := zH (HLy.out.adv (zL _ _).drew)
   refine wp_region_till [21] (fun W => LyX w w2 W B g (.slice (some ⟨gL, 0, none⟩) ps1.length lc) vU1 pv s1 ps1 o (.slice A o.val.length c) gx ⟨o.key, o.val, xd, nb⟩ (.slice A8 (o.val).length c8)) (fun _ => True) (by kernel_rfl) trivial HLd.out (fun hTill => ?_)
   generalize w2.drew = w3 at HLd hTill ⊢
   have hj1 : j ≤ lc := by have := HIl.out; have := HLc.out; omega
   have hj2 : j + 1 ≤ ps1.length := HIl.out
   have hj3 : ps1.length ≤ lc := HLc.out
   have hj4 : j + 1 ≤ lc := by omega
   have HWr : Hid (IntKind.i64.wrap ((j : Int) + 1) = (j : Int) + 1 ∧ ((j : Int) + 1).toNat = j + 1) := zH ⟨by rw [IntKind.wrap_i64 _]; have := HN1.out; omega, by omega⟩
   have hj6 : (0 : Int) ≤ (j : Int) + 1 := by omega
   have hj5 : (j : Int) + 1 ≤ (ps1.length : Int) := by omega
   refine Pl.go [0, 1, 2, 3] ?_
   iterate 4
    refine tsl (v := ?_) ?_ ?_
    rotate_left 1
    ·intro W hSw
     skip
     clear hSw
     go_simp
     try with_reducible rfl
    try dsimp only [zS, zB, zC]
    clear hTill
    intro hTill
   refine Pl.stop ?_
   refine tt 4 (v := ?_) ?_ ?_
   rotate_left 1
   ·intro W hSw
    have x7 : W.cell? ⟨g, 7, none⟩ = some (.slice (some ⟨gL, 0, none⟩) ps1.length lc) := hSw.2.e.k.cell 7 (by omega); obtain ⟨c0, c1, c2, c3⟩ := ent_cells hSw.2.x
    clear hSw
    go_simp
    try with_reducible rfl
   try dsimp only [zS, zB, zC]
   clear hTill
   intro hTill
   refine Pl.go [5, 6] ?_
   iterate 2
    refine tsl (v := ?_) ?_ ?_
    rotate_left 1
    ·intro W hSw
     skip
     clear hSw
     go_simp
     try with_reducible rfl
    try dsimp only [zS, zB, zC]
    clear hTill
    intro hTill
   refine Pl.stop ?_
   refine tt 8 (v := ?_) ?_ ?_
   rotate_left 1
   ·intro W hSw
    have x7 : W.cell? ⟨g, 7, none⟩ = some (.slice (some ⟨gL, 0, none⟩) ps1.length lc) := hSw.2.e.k.cell 7 (by omega); obtain ⟨c0, c1, c2, c3⟩ := ent_cells hSw.2.x
    clear hSw
    go_simp
    try with_reducible rfl
   try dsimp only [zS, zB, zC]
   clear hTill
   intro hTill
   refine Pl.go [11, 12, 13] ?_
   iterate 3
    refine tsl (v := ?_) ?_ ?_
    rotate_left 1
    ·intro W hSw
     skip
     clear hSw
     go_simp
     try with_reducible rfl
    try dsimp only [zS, zB, zC]
    clear hTill
    intro hTill
   refine Pl.stop ?_
   refine tt 14 (v := ?_) ?_ ?_
   rotate_left 1
   ·intro W hSw
    have x7 : W.cell? ⟨g, 7, none⟩ = some (.slice (some ⟨gL, 0, none⟩) ps1.length lc) := hSw.2.e.k.cell 7 (by omega); obtain ⟨c0, c1, c2, c3⟩ := ent_cells hSw.2.x
    clear hSw
    go_simp
    try with_reducible rfl
   try dsimp only [zS, zB, zC]
   clear hTill
   intro hTill
   refine ts 15 (v := ?_) ?_ ?_
   rotate_left 1
   ·intro W hSw
    skip
    clear hSw
    go_simp
    try with_reducible rfl
   try dsimp only [zS, zB, zC]
   clear hTill
   intro hTill
   refine ts 16 (v := ?_) ?_ ?_
   rotate_left 1
   ·intro W hSw
    have hwr := HWr.out.1
    clear hSw
    go_simp
    try with_reducible rfl
   try dsimp only [zS, zB, zC]
   clear hTill
   intro hTill
   refine ts 17 (v := ?_) ?_ ?_
   rotate_left 1
   ·intro W hSw
    have hwr := HWr.out.2
    clear hSw
    go_simp
    try with_reducible rfl
   try dsimp only [zS, zB, zC]
   clear hTill
   intro hTill
   have HSa : Hid (∀ W, KRep W B g (.slice (some ⟨gL, 0, none⟩) ps1.length lc) vU1 pv s1 ps1 → Src W 4 (some ⟨gL, 0, none⟩) j (ecs (ps1.take j))) := zH (fun W hW => by
    have := row_src hW.L rfl 0 j (by omega)
    rwa [List.drop_zero, Nat.zero_mul] at this)
   have HSb : Hid (∀ W, KRep W B g (.slice (some ⟨gL, 0, none⟩) ps1.length lc) vU1 pv s1 ps1 → Src W 4 (if lc = j + 1 then (some ⟨gL, 0, none⟩ : Option Addr) else some ⟨gL, (j + 1) * 4, none⟩) (ps1.length - (j + 1)) (ecs (ps1.drop (j + 1)))) := zH (fun W hW => by
    split
    ·rename_i hl
     have e0 : ps1.length - (j + 1) = 0 := by omega
     have e1 : ps1.drop (j + 1) = [] := List.drop_eq_nil_of_le (by omega)
     rw [e0, e1]
     exact ⟨rfl, (fun _ => rfl), fun q _ j u hu => by simp [ecs] at hu⟩
    ·have := row_src hW.L rfl (j + 1) (ps1.length - (j + 1)) (by omega)
     rw [List.take_of_length_le (by rw [List.length_drop]; exact zN _)] at this
     exact this)
   have HOn : Hid (∀ qs : List (EntV × Value), (∀ q ∈ qs, q ∈ ps1) → ∀ u ∈ ecs qs, u.oneCell' = true) := zH (fun qs hq => ecs_one qs (fun q hm => by
    obtain ⟨A, c, e⟩ := (HLy.out.e.k.vals q (hq q hm)).form
    exact ⟨A, _, c, e⟩))
   generalize (if lc = j + 1 then (some ⟨gL, 0, none⟩ : Option Addr) else some ⟨gL, (j + 1) * 4, none⟩) = A14 at HSb ⊢
   have HB3 : Hid (B ≤ w3.heap.size) := zH (Nat.le_trans HP.out.hB HLd.out.e.only.size)
   clear hj1 hj2 hj3 hj4 hj5 hj6 HWr
   refine wpTill.two (i := 7) (j := 9) (o := ⟨_, _, _, _, _, _⟩) (o2 := ⟨_, _, _, _, _, _⟩) (by kernel_rfl) rfl rfl (fun F hF => ?_) (fun F hF => ?_)
   ·refine step_append_src _ rfl (.const (.slice none 0 0)) (.tmp 80) 33 rfl w3.heap.size 40 ti _ 4 56 Tryz.underlying33 kti zt0 zt1 zt2 rfl (by decide) _ 0 [] rfl (World.ownsRow_nil _ _ _ _) (some ⟨gL, 0, none⟩) j lc (ecs (ps1.take j)) rfl (HSa.out _ HLd.out.e.k) (HOn.out _ (fun q hq => List.mem_of_mem_take hq)) (by have := HIl.out; have := HN1.out; unfold maxLen; omega) (by have := HIl.out; have := HN1.out; omega) (zN _) ?_
    intro v7 w7 hown7 hg7 hat7
    have hb7 : Below w3.heap.size w3 w7 := (zL _ _).grown hg7 (zN _) (fun k hk => by cases hk)
    have HL7 := zH (HLd.out.adv hb7)
    rw [Nat.zero_add, List.nil_append] at hown7
    have HO7 := zH hown7
    have HB7 := zH hb7
    obtain ⟨A7, c7, rfl, _, _⟩ := own_form hown7
    clear hown7 hg7 hat7 hb7
    refine hF.out _ _ (Till.of trivial HL7.out) (fun hTill => ?_)
    clear hF F
    try simp only [Act.put, zA, zB, zC]
    refine wpTill.only (i := 9) (o := ⟨_, _, _, _, _, _⟩) (by kernel_rfl) rfl (fun F hF => ?_)
    go_simp
    have HL9 := zH (HL7.out.adv ((zL _ _).alloc (zN _) (.cells #[.string o.key, .slice A8 (o.val).length c8, .int .u64 xd, .int .u64 nb] 40)))
    have HO9 := zH (own_later' HO7.out ((zL _ _).alloc (zN _) (.cells #[.string o.key, .slice A8 (o.val).length c8, .int .u64 xd, .int .u64 nb] 40)))
    have HB9 := zH (HB7.out.alloc HB7.out.size (.cells #[.string o.key, .slice A8 (o.val).length c8, .int .u64 xd, .int .u64 nb] 40))
    have HX9 := zH (Blk.new w7 40 #[.string o.key, .slice A8 (o.val).length c8, .int .u64 xd, .int .u64 nb])
    refine hF.out _ _ (Till.of trivial HL9.out) (fun hTill => ?_)
    clear hF F
    try simp only [Act.put, zA, zB, zC]
    generalize hw9 : w7.alloc _ = w9 at HL9 HO9 HB9 HX9 ⊢
    clear hw9
    generalize w7.heap.size = gB at HX9 ⊢
    refine wpTill.only (i := 10) (o := ⟨_, _, _, _, _, _⟩) (by kernel_rfl) rfl (fun F hF => ?_)
    refine step_append_src _ rfl (.tmp 81) (.tmp 83) 33 rfl w3.heap.size 40 ti _ 4 56 Tryz.underlying33 kti zt0 zt1 zt2 rfl (by decide) _ j (ecs (ps1.take j)) rfl HO9.out (some ⟨gB, 0, none⟩) 1 1 (entc ⟨o.key, o.val, xd, nb⟩ (.slice A8 (o.val).length c8)).toList rfl (src_blk HX9.out) (by intro u hu; simp [entc] at hu; rcases hu with rfl | rfl | rfl | rfl <;> rfl) (by have := HIl.out; have := HN1.out; unfold maxLen; omega) (by have := HIl.out; have := HN1.out; omega) HB9.out.size ?_
    intro v10 w10 hown10 hg10 hat10
    have hb10 : Below w3.heap.size w3 w10 := HB9.out.grown hg10 HB9.out.size (fun k hk => (row_heap' HO9.out hk).1)
    have HL10 := zH (HLd.out.adv hb10)
    have HO10 := zH hown10
    have HB10 := zH hb10
    obtain ⟨A10, c10, rfl, _, _⟩ := own_form hown10
    clear hown10 hg10 hat10 hb10 HX9 HB9 HO9 HL9
    refine hF.out _ _ (Till.of trivial HL10.out) (fun hTill => ?_)
    clear hF F
    try simp only [Act.put, zA, zB, zC]
    refine wpTill.only (i := 18) (o := ⟨_, _, _, _, _, _⟩) (by kernel_rfl) rfl (fun F hF => ?_)
    refine step_append_src _ rfl (.tmp 84) (.tmp 91) 33 rfl w3.heap.size 40 ti _ 4 56 Tryz.underlying33 kti zt0 zt1 zt2 rfl (by decide) _ (j + 1) (ecs (ps1.take j) ++ (entc ⟨o.key, o.val, xd, nb⟩ (.slice A8 (o.val).length c8)).toList) rfl HO10.out A14 (ps1.length - (j + 1)) (lc - (j + 1)) (ecs (ps1.drop (j + 1))) rfl (HSb.out _ HL10.out.e.k) (HOn.out _ (fun q hq => List.mem_of_mem_drop hq)) (by have := HIl.out; have := HN1.out; unfold maxLen; omega) (by have := HIl.out; have := HN1.out; omega) HB10.out.size ?_
    intro v11 w11 hown11 hg11 hat11
    have hb11 : Below w3.heap.size w3 w11 := HB10.out.grown hg11 HB10.out.size (fun k hk => (row_heap' HO10.out hk).1)
    have HL11 := zH (HLd.out.adv hb11)
    have HO11 : Hid (w11.ownsRow B 40 4 v11 ps1.length (ecs (ps1.set j (⟨o.key, o.val, xd, nb⟩, .slice A8 (o.val).length c8)))) := zH (by
     have h := ownsRow_base hown11 HB3.out
     rw [← ecs_set _ _ _ _ HIl.out] at h
     have e : j + 1 + (ps1.length - (j + 1)) = ps1.length := by have := HIl.out; omega
     rw [e] at h
     exact h)
    obtain ⟨A11, c11, rfl, _, _⟩ := own_form HO11.out
    clear hown11 hg11 hat11 hb11 HL10 HO10 HB10
    refine hF.out _ _ (Till.of trivial HL11.out) (fun hTill => ?_)
    clear hF F
    try simp only [Act.put, zA, zB, zC]
    refine ts 19 (v := ?_) ?_ ?_
    rotate_left 1
    ·intro W hSw
     skip
     clear hSw
     go_simp
     try with_reducible rfl
    try dsimp only [zS, zB, zC]
    clear hTill
    intro hTill
    refine ts 20 (v := ?_) ?_ ?_
    rotate_left 1
    ·intro W hSw
     skip
     clear hSw
     go_simp
     try with_reducible rfl
    try dsimp only [zS, zB, zC]
    clear hTill
    intro hTill
    have x7 : w11.cell? ⟨g, 7, none⟩ = some (.slice (some ⟨gL, 0, none⟩) ps1.length lc) := HL11.out.e.k.cell 7 (by omega)
    have f7 := HL11.out.e.k.frozen 7
    refine wpTill.only (i := 21) (o := ⟨_, _, _, _, _, _⟩) (by kernel_rfl) rfl (fun F hF => ?_)
    go_simp
    have HK12 : Hid (KRep (w11.setCell ⟨g, 7, none⟩ (.slice A11 ps1.length c11)) B g (.slice A11 ps1.length c11) vU1 pv { s1 with L := s1.L.set j ⟨o.key, o.val, xd, nb⟩ } (ps1.set j (⟨o.key, o.val, xd, nb⟩, .slice A8 (o.val).length c8))) := zH (by
     refine HL11.out.e.k.setL (by rw [List.length_set]; exact HO11.out) ?_ (fun p hp => ?_)
     ·rw [← HL11.out.e.k.map, List.map_set]
     ·rcases List.mem_or_eq_of_mem_set hp with h | h
      ·exact HL11.out.e.k.vals p h
      ·rw [h]; exact HVx.out.below HL11.out.below)
    have HX12 := zH ((HL11.out.e).next HK12.out (Only.set1 _ _ _ _))
    have HXb12 := zH (HL11.out.x.far (p := ⟨g, 7, none⟩) (HNx.out) (.slice A11 ps1.length c11))
    refine hF.out _ _ (Till.stored trivial (by kernel_rfl)) (fun hTill => ?_)
    clear hF F x7 f7
    try simp only [Act.put, zA, zB, zC]
    refine wpTill.done (by kernel_rfl) ?_
    try refine NoPanic.normal ?_
    clear hTill HL11 HLd HK12 HO11
    generalize w11.setCell ⟨g, 7, none⟩ _ = w12 at HX12 HXb12 ⊢
    clear HB3 HSa HSb HOn
    obtain ⟨c0, c1, c2, c3⟩ := ent_cells HXb12.out
    dsimp only at c0 c1 c2 c3
    go_wp2_with fail
    refine (kUse_any B g _ _ pv _ _ nb w12 HX12.out.k HUn.out (Nat.le_trans HP.out.hB HX12.out.only.size)).mono ?_
    rintro e w13 ⟨vU2, rfl, hk13, ho13⟩
    have HX13 := zH (HX12.out.next (H9.out ▸ hk13) ho13)
    clear hk13 ho13 c0 c1 c2 c3 HXb12 HX12
    obtain ⟨z0, z2, z3, z4, z7⟩ := op_cells' HX13.out.box
    go_wp2_with fail
    refine bodyPost_end (v := .tuple #[]) (results_none rfl _ _ _) rfl ?_
    rw [HS.out]
    exact ⟨_, _, _, _, rfl, (HX13).out.k, (HX13).out.only⟩
   ·go_simp
    have HL8 := zH (HLd.out.adv ((zL _ _).alloc (zN _) (.cells #[.string o.key, .slice A8 (o.val).length c8, .int .u64 xd, .int .u64 nb] 40)))
    have HB8 := zH ((zL w3.heap.size w3).alloc (zN _) (.cells #[.string o.key, .slice A8 (o.val).length c8, .int .u64 xd, .int .u64 nb] 40))
    have HX8 := zH (Blk.new w3 40 #[.string o.key, .slice A8 (o.val).length c8, .int .u64 xd, .int .u64 nb])
    refine hF.out _ _ (Till.of trivial HL8.out) (fun hTill => ?_)
    clear hF F
    try simp only [Act.put, zA, zB, zC]
    generalize hw8 : w3.alloc _ = w8 at HL8 HB8 HX8 ⊢
    clear hw8
    refine wpTill.only (i := 7) (o := ⟨_, _, _, _, _, _⟩) (by kernel_rfl) rfl (fun F hF => ?_)
    refine step_append_src _ rfl (.const (.slice none 0 0)) (.tmp 80) 33 rfl w8.heap.size 40 ti _ 4 56 Tryz.underlying33 kti zt0 zt1 zt2 rfl (by decide) _ 0 [] rfl (World.ownsRow_nil _ _ _ _) (some ⟨gL, 0, none⟩) j lc (ecs (ps1.take j)) rfl (HSa.out _ HL8.out.e.k) (HOn.out _ (fun q hq => List.mem_of_mem_take hq)) (by have := HIl.out; have := HN1.out; unfold maxLen; omega) (by have := HIl.out; have := HN1.out; omega) (zN _) ?_
    intro v7 w9 hown7 hg7 hat7
    have hb7 : Below w8.heap.size w8 w9 := (zL _ _).grown hg7 (zN _) (fun k hk => by cases hk)
    have HL9 := zH (HL8.out.adv hb7)
    rw [Nat.zero_add, List.nil_append] at hown7
    have HO9 := zH (ownsRow_base hown7 HB8.out.size)
    have HB9 : Hid (Below w3.heap.size w3 w9) := zH (HB8.out.trans (hb7.mono HB8.out.size))
    have HX9 := zH (HX8.out.below hb7)
    obtain ⟨A7, c7, rfl, _, _⟩ := own_form hown7
    clear hown7 hg7 hat7 hb7 HX8
    refine hF.out _ _ (Till.of trivial HL9.out) (fun hTill => ?_)
    clear hF F
    try simp only [Act.put, zA, zB, zC]
    generalize w3.heap.size = gB at HX9 ⊢
    refine wpTill.only (i := 10) (o := ⟨_, _, _, _, _, _⟩) (by kernel_rfl) rfl (fun F hF => ?_)
    refine step_append_src _ rfl (.tmp 81) (.tmp 83) 33 rfl w3.heap.size 40 ti _ 4 56 Tryz.underlying33 kti zt0 zt1 zt2 rfl (by decide) _ j (ecs (ps1.take j)) rfl HO9.out (some ⟨gB, 0, none⟩) 1 1 (entc ⟨o.key, o.val, xd, nb⟩ (.slice A8 (o.val).length c8)).toList rfl (src_blk HX9.out) (by intro u hu; simp [entc] at hu; rcases hu with rfl | rfl | rfl | rfl <;> rfl) (by have := HIl.out; have := HN1.out; unfold maxLen; omega) (by have := HIl.out; have := HN1.out; omega) HB9.out.size ?_
    intro v10 w10 hown10 hg10 hat10
    have hb10 : Below w3.heap.size w3 w10 := HB9.out.grown hg10 HB9.out.size (fun k hk => (row_heap' HO9.out hk).1)
    have HL10 := zH (HLd.out.adv hb10)
    have HO10 := zH hown10
    have HB10 := zH hb10
    obtain ⟨A10, c10, rfl, _, _⟩ := own_form hown10
    clear hown10 hg10 hat10 hb10 HX9 HB9 HO9 HL9
    refine hF.out _ _ (Till.of trivial HL10.out) (fun hTill => ?_)
    clear hF F
    try simp only [Act.put, zA, zB, zC]
    refine wpTill.only (i := 18) (o := ⟨_, _, _, _, _, _⟩) (by kernel_rfl) rfl (fun F hF => ?_)
    refine step_append_src _ rfl (.tmp 84) (.tmp 91) 33 rfl w3.heap.size 40 ti _ 4 56 Tryz.underlying33 kti zt0 zt1 zt2 rfl (by decide) _ (j + 1) (ecs (ps1.take j) ++ (entc ⟨o.key, o.val, xd, nb⟩ (.slice A8 (o.val).length c8)).toList) rfl HO10.out A14 (ps1.length - (j + 1)) (lc - (j + 1)) (ecs (ps1.drop (j + 1))) rfl (HSb.out _ HL10.out.e.k) (HOn.out _ (fun q hq => List.mem_of_mem_drop hq)) (by have := HIl.out; have := HN1.out; unfold maxLen; omega) (by have := HIl.out; have := HN1.out; omega) HB10.out.size ?_
    intro v11 w11 hown11 hg11 hat11
    have hb11 : Below w3.heap.size w3 w11 := HB10.out.grown hg11 HB10.out.size (fun k hk => (row_heap' HO10.out hk).1)
    have HL11 := zH (HLd.out.adv hb11)
    have HO11 : Hid (w11.ownsRow B 40 4 v11 ps1.length (ecs (ps1.set j (⟨o.key, o.val, xd, nb⟩, .slice A8 (o.val).length c8)))) := zH (by
     have h := ownsRow_base hown11 HB3.out
     rw [← ecs_set _ _ _ _ HIl.out] at h
     have e : j + 1 + (ps1.length - (j + 1)) = ps1.length := by have := HIl.out; omega
     rw [e] at h
     exact h)
    obtain ⟨A11, c11, rfl, _, _⟩ := own_form HO11.out
    clear hown11 hg11 hat11 hb11 HL10 HO10 HB10
    refine hF.out _ _ (Till.of trivial HL11.out) (fun hTill => ?_)
    clear hF F
    try simp only [Act.put, zA, zB, zC]
    refine ts 19 (v := ?_) ?_ ?_
    rotate_left 1
    ·intro W hSw
     skip
     clear hSw
     go_simp
     try with_reducible rfl
    try dsimp only [zS, zB, zC]
    clear hTill
    intro hTill
    refine ts 20 (v := ?_) ?_ ?_
    rotate_left 1
    ·intro W hSw
     skip
     clear hSw
     go_simp
     try with_reducible rfl
    try dsimp only [zS, zB, zC]
    clear hTill
    intro hTill
    have x7 : w11.cell? ⟨g, 7, none⟩ = some (.slice (some ⟨gL, 0, none⟩) ps1.length lc) := HL11.out.e.k.cell 7 (by omega)
    have f7 := HL11.out.e.k.frozen 7
    refine wpTill.only (i := 21) (o := ⟨_, _, _, _, _, _⟩) (by kernel_rfl) rfl (fun F hF => ?_)
    go_simp
    have HK12 : Hid (KRep (w11.setCell ⟨g, 7, none⟩ (.slice A11 ps1.length c11)) B g (.slice A11 ps1.length c11) vU1 pv { s1 with L := s1.L.set j ⟨o.key, o.val, xd, nb⟩ } (ps1.set j (⟨o.key, o.val, xd, nb⟩, .slice A8 (o.val).length c8))) := zH (by
     refine HL11.out.e.k.setL (by rw [List.length_set]; exact HO11.out) ?_ (fun p hp => ?_)
     ·rw [← HL11.out.e.k.map, List.map_set]
     ·rcases List.mem_or_eq_of_mem_set hp with h | h
      ·exact HL11.out.e.k.vals p h
      ·rw [h]; exact HVx.out.below HL11.out.below)
    have HX12 := zH ((HL11.out.e).next HK12.out (Only.set1 _ _ _ _))
    have HXb12 := zH (HL11.out.x.far (p := ⟨g, 7, none⟩) (HNx.out) (.slice A11 ps1.length c11))
    refine hF.out _ _ (Till.stored trivial (by kernel_rfl)) (fun hTill => ?_)
    clear hF F x7 f7
    try simp only [Act.put, zA, zB, zC]
    refine wpTill.done (by kernel_rfl) ?_
    try refine NoPanic.normal ?_
    clear hTill HL11 HLd HK12 HO11
    generalize w11.setCell ⟨g, 7, none⟩ _ = w12 at HX12 HXb12 ⊢
    clear HB3 HSa HSb HOn
    obtain ⟨c0, c1, c2, c3⟩ := ent_cells HXb12.out
    dsimp only at c0 c1 c2 c3
    go_wp2_with fail
    refine (kUse_any B g _ _ pv _ _ nb w12 HX12.out.k HUn.out (Nat.le_trans HP.out.hB HX12.out.only.size)).mono ?_
    rintro e w13 ⟨vU2, rfl, hk13, ho13⟩
    have HX13 := zH (HX12.out.next (H9.out ▸ hk13) ho13)
    clear hk13 ho13 c0 c1 c2 c3 HXb12 HX12
    obtain ⟨z0, z2, z3, z4, z7⟩ := op_cells' HX13.out.box
    go_wp2_with fail
    refine bodyPost_end (v := .tuple #[]) (results_none rfl _ _ _) rfl ?_
    rw [HS.out]
    exact ⟨_, _, _, _, rfl, (HX13).out.k, (HX13).out.only⟩
 ·rw [hf] at h1; cases h1
end Go.Proofs.YtnabbimompapfaaGreat
