/- AudRV, AudRW, AudRX, AudRXa -/
import Derived.Test.YtnabbimompapfaaGreatMl4
import Derived.Test.YtnabbimompapfaaGreatMl1
namespace Go.Proofs.YtnabbimompapfaaGreat
open Go Go.RowKit
structure LyX (w w2 W : World) (B g : Nat) (vL vU : Value) (pv : Nat → Int) (s : PJ) (ps : List (EntV × Value)) (o : OpV) (V : Value) (gx : Nat) (x : EntV) (U : Value) : Prop where
 e : EfX w W B g vL vU pv s ps o V
 x : Blk W gx 40 (entc x U)
 below : Below w2.heap.size w2 W
section
variable {w w2 W W2 : World} {B g : Nat} {vL vU : Value} {pv : Nat → Int} {s : PJ} {ps : List (EntV × Value)} {o : OpV} {V : Value} {gx : Nat} {x : EntV} {U : Value}
theorem LyX.adv (h : LyX w w2 W B g vL vU pv s ps o V gx x U) (hb : Below W.heap.size W W2) : LyX w w2 W2 B g vL vU pv s ps o V gx x U :=
 ⟨h.e.adv hb, h.x.below hb, h.below.trans (hb.mono h.below.size)⟩
end
theorem ent_cells {W : World} {g : Nat} {x : EntV} {U : Value} (h : Blk W g 40 (entc x U)) : W.cell? ⟨g, 0, none⟩ = some (.string x.key) ∧ W.cell? ⟨g, 1, none⟩ = some U ∧ W.cell? ⟨g, 2, none⟩ = some (.int .u64 x.dl) ∧ W.cell? ⟨g, 3, none⟩ = some (.int .u64 x.birth) :=
 ⟨h.cell 0 _ rfl, h.cell 1 _ rfl, h.cell 2 _ rfl, h.cell 3 _ rfl⟩
theorem ecs_set (ps : List (EntV × Value)) (j : Nat) (x : EntV) (U : Value) (hj : j < ps.length) : ecs (ps.set j (x, U)) = ecs (ps.take j) ++ (entc x U).toList ++ ecs (ps.drop (j + 1)) := by
 rw [List.set_eq_take_append_cons_drop, if_pos hj, ecs_append]
 show _ ++ ecs ([(x, U)] ++ ps.drop (j + 1)) = _
 rw [ecs_append, List.append_assoc]; rfl
theorem map_set {L : List EntV} (hb : (L.map EntV.birth).Pairwise (· < ·)) {j : Nat} {x : EntV} (hj : L[j]? = some x) (f : EntV → EntV) : (L.map fun e => if e.birth = x.birth then f e else e) = L.set j (f x) := by
 refine List.ext_getElem? fun i => ?_
 rw [List.getElem?_map]
 by_cases e : j = i
 ·subst e
  rw [List.getElem?_set_self (List.getElem?_eq_some_iff.1 hj).1, hj]
  simp
 ·rw [List.getElem?_set_ne e]
  cases hi : L[i]? with
  |none => rfl
  |some y =>
   have hne : ¬ y.birth = x.birth := fun h => by
    obtain ⟨hi1, hi2⟩ := List.getElem?_eq_some_iff.1 hi
    obtain ⟨hj1, hj2⟩ := List.getElem?_eq_some_iff.1 hj
    have hp := List.pairwise_iff_getElem.1 hb
    rcases (by omega : i < j ∨ j < i) with h2 | h2
    ·have := hp i j (by simpa using hi1) (by simpa using hj1) h2
     simp only [List.getElem_map] at this
     rw [hi2, hj2] at this; omega
    ·have := hp j i (by simpa using hj1) (by simpa using hi1) h2
     simp only [List.getElem_map] at this
     rw [hi2, hj2] at this; omega
   simp [hne]
theorem src_blk {W : World} {g : Nat} {x : EntV} {A : Option Addr} {n c : Nat} (h : Blk W g 40 #[.string x.key, .slice A n c, .int .u64 x.dl, .int .u64 x.birth]) : Src W 4 (some ⟨g, 0, none⟩) 1 (entc x (.slice A n c)).toList := by
 refine ⟨rfl, (fun h => by cases h), fun a ha j v hu => ?_⟩
 cases ha
 rw [add_plain, Nat.zero_add]
 exact h.cell j v (by simpa [entc] using hu)
set_option maxHeartbeats 4000000 in
set_option maxRecDepth 100000 in
theorem kEffect_k5 (B g : Nat) (vL vU : Value) (pv : Nat → Int) (s : PJ) (ps : List (EntV × Value)) (o : OpV) (A : Option Addr) (n c : Nat) (w : World) (P : EfP w B g vL vU pv s ps) (hk : o.kind = 5) (ht : 0 ≤ s.now ∧ s.now ≤ neverT) (htt : 0 ≤ o.ttl) :
  Calls Tryz.prog 32 #[.pointer (some ⟨g, 0, none⟩), opv o (.slice A n c), .int .i64 0, .int .u64 s.now] w (EfRet B g (effP s o 0) w) := by
 have HFi := zH (fun ob => kFind_any B g vL vU pv s ps o.key (w.alloc ob) (P.k.below ((zL _ _).alloc (zN _) _)) (by have := P.n; omega))
 have HX : Hid (EfX w (w.alloc (.cells (opc o (.slice A n c)) 43)) B g vL vU pv s ps o (.slice A n c)) := zH (EfX.new P.k)
 have HIx := zH (idx_find P.k.map o.key)
 unfold opv
 unfold opc at HX ⊢
 have HP := zH P
 have hnI : (ps.length : Int) ≤ 90000 := by have := P.n; omega
 obtain ⟨LA, lc, rfl, hlc, _⟩ := own_form P.k.L
 have hlcI : (ps.length : Int) ≤ (lc : Int) := by omega
 clear P hlc
 obtain ⟨i, hi⟩ : ∃ i, idxI (fun p : EntV × Value => decide (p.1.key = o.key)) ps = i := ⟨_, rfl⟩
 rw [hi] at HFi HIx
 clear hi
 have hS : effP s o 0 = match findP s.L o.key with | none => s | some x => useP { s with L := s.L.map fun e => if e.birth = x.birth then { e with dl := addP s.now o.ttl } else e } x.birth := by
  unfold effP
  rw [if_pos rfl, effB_none (by omega)]
  unfold effA
  rw [if_neg (by omega), if_neg (by omega), if_neg (by omega), if_neg (by omega)]
  cases findP s.L o.key with
  |none => rfl
  |some x => dsimp only; rw [if_neg (by omega), if_pos hk]
 have q1 : (o.kind == 1) = false := by simp [hk]
 have q2 : (o.kind == 2) = false := by simp [hk]
 have q3 : (o.kind == 3) = false := by simp [hk]
 have q5 : (o.kind == 5) = true := by simp [hk]
 have q6 : (o.kind == 6) = false := by simp [hk]
 have q7 : (o.kind == 7) = false := by simp [hk]
 have q8 : (o.kind == 8) = false := by simp [hk]
 have q11 : (o.kind == 11) = false := by simp [hk]
 have q12 : (o.kind == 12) = false := by simp [hk]
 have q13 : (o.kind == 13) = false := by simp [hk]
 have q14 : (o.kind == 14) = false := by simp [hk]
 rcases HIx.out with ⟨h1, h2⟩ | ⟨j, ⟨ev, V⟩, hj, h1, h2, h3⟩
 ·subst h2
  rw [h1] at hS
  have HS := zH hS
  clear hS h1 hk
  go_enter Tryz.func32, Tryz.ntmps32
  go_wp2_with fail
  refine (HFi.out _).mono ?_
  rintro e w1 ⟨rfl, hw⟩
  subst hw
  obtain ⟨W0, hW0⟩ : ∃ W0, w.alloc (.cells #[.int .i64 o.kind, .int .u64 o.ticks, .string o.key, .slice A n c, .int .u64 o.ttl, .int .i64 o.count, .int .i64 o.bytes, .int .i64 o.cursor, .int .u64 o.birth] 43) = W0 := ⟨_, rfl⟩
  rw [hW0] at HX ⊢
  clear hW0 HFi HIx
  obtain ⟨z0, z2, z3, z4, z7⟩ := op_cells' HX.out.box
  go_wp2_with fail
  refine bodyPost_end (v := .tuple #[]) (results_none rfl _ _ _) rfl ?_
  rw [HS.out]
  exact ⟨_, _, _, _, rfl, (HX).out.k, (HX).out.only⟩
 ·subst h2
  rw [h1] at hS
  dsimp only at hS
  rw [map_set HP.out.asc (by rw [← HP.out.k.map, List.getElem?_map, hj]; rfl)] at hS
  have HS := zH hS
  obtain ⟨VA, vc, hV⟩ := (HP.out.k.vals _ (List.mem_of_getElem? hj)).form
  dsimp only at hV
  subst hV
  have HJ := zH hj
  have hj0 : (0 : Int) ≤ (j : Int) := by omega
  have hjI : (j : Int) < (ps.length : Int) := by have := (List.getElem?_eq_some_iff.1 hj).1; omega
  obtain ⟨gL, rfl⟩ : ∃ gL, LA = some ⟨gL, 0, none⟩ := by
   rcases HP.out.k.L.2 with ⟨_, h0⟩ | ⟨q, c, cur, eq, _⟩
   ·omega
   ·injection eq with eq _ _
    exact ⟨q, eq⟩
  have HIl := zH (List.getElem?_eq_some_iff.1 hj).1
  have HLc : Hid (ps.length ≤ lc) := zH (by omega)
  have HAd := zH (fun W => refAdd_any s.now o.ttl W ht.1 ht.2 htt)
  clear hS h1 h3 hk hj ht htt
  go_enter Tryz.func32, Tryz.ntmps32
  go_wp2_with fail
  refine (HFi.out _).mono ?_
  rintro e w1 ⟨rfl, hw⟩
  subst hw
  obtain ⟨W0, hW0⟩ : ∃ W0, w.alloc (.cells #[.int .i64 o.kind, .int .u64 o.ticks, .string o.key, .slice A n c, .int .u64 o.ttl, .int .i64 o.count, .int .i64 o.bytes, .int .i64 o.cursor, .int .u64 o.birth] 43) = W0 := ⟨_, rfl⟩
  rw [hW0] at HX ⊢
  clear hW0 HFi HIx
  obtain ⟨z0, z2, z3, z4, z7⟩ := op_cells' HX.out.box
  have x7 : W0.cell? ⟨g, 7, none⟩ = some (.slice (some ⟨gL, 0, none⟩) ps.length lc) := HX.out.k.cell 7 (by omega)
  obtain ⟨y0, y1, y2, y3⟩ := HX.out.k.entAt HJ.out
  dsimp only at y0 y1 y2 y3
  go_upto_region 20 with fail
  have hb1 : Blk (W0.alloc (.cells #[.string ev.key, .slice VA ev.val.length vc, .int .u64 ev.dl, .int .u64 ev.birth] 40)) W0.heap.size 40 (entc ev (.slice VA ev.val.length vc)) := Blk.new _ _ _
  have hb2 : Below W0.heap.size W0 (W0.alloc (.cells #[.string ev.key, .slice VA ev.val.length vc, .int .u64 ev.dl, .int .u64 ev.birth] 40)) := (zL _ _).alloc (zN _) _
  generalize World.alloc _ _ = W1 at hb1 hb2 ⊢
  have HX1 := zH (HX.out.adv hb2)
  have HB1 := zH hb1
  have HB2 := zH hb2
  clear hb1 hb2 x7 y0 y1 y2 y3 z0 z2 z3 z4 z7
  obtain ⟨z0, z2, z3, z4, z7⟩ := op_cells' HX1.out.box
  go_wp2_with fail
  refine (HAd.out W1).mono ?_
  rintro e2 w4 ⟨rfl, hw4⟩
  subst hw4
  obtain ⟨c0, c1, c2, c3⟩ := ent_cells HB1.out
  have cf := HB1.out.frozen
  go_upto_region 21 with fail
  have HBx : Hid (Blk (W1.setCell ⟨W0.heap.size, 2, none⟩ (.int .u64 (addP s.now o.ttl))) W0.heap.size 40 (entc { ev with dl := addP s.now o.ttl } (.slice VA ev.val.length vc))) := zH (HB1.out.set_ 2 _)
  have HB3 : Hid (Below W0.heap.size W0 (W1.setCell ⟨W0.heap.size, 2, none⟩ (.int .u64 (addP s.now o.ttl)))) := zH (HB2.out.setCell (p := ⟨W0.heap.size, 2, none⟩) (zN _) _)
  clear c0 c1 c2 c3 cf z0 z2 z3 z4 z7 HB1 HB2
  generalize World.setCell _ _ _ = w2 at HBx HB3 ⊢
  obtain ⟨ek, el, ed, eb⟩ := ev
  dsimp only at HBx HS HJ ⊢
  generalize addP s.now o.ttl = xd at HBx HS ⊢
  have HLy : Hid (LyX w w2 w2 B g (.slice (some ⟨gL, 0, none⟩) ps.length lc) vU pv s ps o (.slice A n c) W0.heap.size ⟨ek, el, xd, eb⟩ (.slice VA el.length vc)) := zH ⟨HX.out.adv HB3.out, HBx.out, zL _ _⟩
  obtain ⟨gx, hgx⟩ : ∃ gx, W0.heap.size = gx := ⟨_, rfl⟩
  have HLt : Hid (g < gx) := zH (by rw [← hgx]; exact Nat.lt_of_lt_of_le HX.out.lt HX.out.only.size)
  rw [hgx] at HLy ⊢
  clear hgx HBx HB3 HX1 HX HAd
  have HVx : Hid (Bts w2 B 5 (.slice VA el.length vc) el) := zH (HLy.out.e.k.vals (⟨ek, el, ed, eb⟩, _) (List.mem_of_getElem? HJ.out))
  have HNx : Hid (gx ≠ g) := zH (fun h => by have := HLt.out; omega)
  have HN1 : Hid (ps.length ≤ 100000) := zH (by have := HP.out.n; omega)
  obtain ⟨ps1, hps1⟩ : ∃ ps1, ps1 = ps := ⟨_, rfl⟩
  obtain ⟨s1, hs1⟩ : ∃ s1, s1 = s := ⟨_, rfl⟩
  obtain ⟨vU1, hvU1⟩ : ∃ vU1, vU1 = vU := ⟨_, rfl⟩
  rw [← hps1] at HLy HN1 HIl HLc hjI hlcI hnI ⊢
  rw [← hs1, ← hvU1] at HLy
  obtain ⟨ti, kti, zt0, zt1, zt2⟩ := info_parts entI_info
  obtain ⟨s9, hs9⟩ : ∃ s9, useP { s with L := s.L.set j ⟨ek, el, xd, eb⟩ } eb = s9 := ⟨_, rfl⟩
  rw [hs9] at HS
  have H9 : Hid (useP { s1 with L := s1.L.set j ⟨ek, el, xd, eb⟩ } eb = s9) := zH (by rw [hs1]; exact hs9)
  have HUn : Hid (s1.U.length ≤ 100000) := zH (by rw [hs1]; have := HP.out.u; omega)
  clear hps1 hs1 hvU1 hj0 hs9
  refine wp_region_noPanic ?_
  have HLd := zH (HLy.out.adv (zL _ _).drew)
  refine wp_region_till [21] (fun W => LyX w w2 W B g (.slice (some ⟨gL, 0, none⟩) ps1.length lc) vU1 pv s1 ps1 o (.slice A n c) gx ⟨ek, el, xd, eb⟩ (.slice VA (el).length vc)) (fun _ => True) (by kernel_rfl) trivial HLd.out (fun hTill => ?_)
  generalize w2.drew = w3 at HLd hTill ⊢
  have hj1 : j ≤ lc := by have := HIl.out; have := HLc.out; omega
  have hj2 : j + 1 ≤ ps1.length := HIl.out
  have hj3 : ps1.length ≤ lc := HLc.out
  have hj4 : j + 1 ≤ lc := by omega
  have HWr : Hid (IntKind.i64.wrap ((j : Int) + 1) = (j : Int) + 1 ∧ ((j : Int) + 1).toNat = j + 1) := zH ⟨by rw [IntKind.wrap_i64 _]; have := HN1.out; omega, by omega⟩
  have hj6 : (0 : Int) ≤ (j : Int) + 1 := by omega
  have hj5 : (j : Int) + 1 ≤ (ps1.length : Int) := by omega
  refine Pl.go [0, 1, 2, 3] ?_
  iterate 4
   refine tsl (v := ?_) ?_ ?_
   rotate_left 1
   ·intro W hSw
    skip
    clear hSw
    go_simp
    try with_reducible rfl
   try dsimp only [zS, zB, zC]
   clear hTill
   intro hTill
  refine Pl.stop ?_
  refine tt 4 (v := ?_) ?_ ?_
  rotate_left 1
  ·intro W hSw
   have x7 : W.cell? ⟨g, 7, none⟩ = some (.slice (some ⟨gL, 0, none⟩) ps1.length lc) := hSw.2.e.k.cell 7 (by omega); obtain ⟨c0, c1, c2, c3⟩ := ent_cells hSw.2.x
   clear hSw
   go_simp
   try with_reducible rfl
  try dsimp only [zS, zB, zC]
  clear hTill
  intro hTill
  refine Pl.go [5, 6] ?_
  iterate 2
   refine tsl (v := ?_) ?_ ?_
   rotate_left 1
   ·intro W hSw
    skip
    clear hSw
    go_simp
    try with_reducible rfl
   try dsimp only [zS, zB, zC]
   clear hTill
   intro hTill
  refine Pl.stop ?_
  refine tt 8 (v := ?_) ?_ ?_
  rotate_left 1
  ·intro W hSw
   have x7 : W.cell? ⟨g, 7, none⟩ = some (.slice (some ⟨gL, 0, none⟩) ps1.length lc) := hSw.2.e.k.cell 7 (by omega); obtain ⟨c0, c1, c2, c3⟩ := ent_cells hSw.2.x
   clear hSw
   go_simp
   try with_reducible rfl
  try dsimp only [zS, zB, zC]
  clear hTill
  intro hTill
  refine Pl.go [11, 12, 13] ?_
  iterate 3
   refine tsl (v := ?_) ?_ ?_
   rotate_left 1
   ·intro W hSw
    skip
    clear hSw
    go_simp
    try with_reducible rfl
   try dsimp only [zS, zB, zC]
   clear hTill
   intro hTill
  refine Pl.stop ?_
  refine tt 14 (v := ?_) ?_ ?_
  rotate_left 1
  ·intro W hSw
   have x7 : W.cell? ⟨g, 7, none⟩ = some (.slice (some ⟨gL, 0, none⟩) ps1.length lc) := hSw.2.e.k.cell 7 (by omega); obtain ⟨c0, c1, c2, c3⟩ := ent_cells hSw.2.x
   clear hSw
   go_simp
   try with_reducible rfl
  try dsimp only [zS, zB, zC]
  clear hTill
  intro hTill
  refine ts 15 (v := ?_) ?_ ?_
  rotate_left 1
  ·intro W hSw
   skip
   clear hSw
   go_simp
   try with_reducible rfl
  try dsimp only [zS, zB, zC]
  clear hTill
  intro hTill
  refine ts 16 (v := ?_) ?_ ?_
  rotate_left 1
  ·intro W hSw
   have hwr := HWr.out.1
   clear hSw
   go_simp
   try with_reducible rfl
  try dsimp only [zS, zB, zC]
  clear hTill
  intro hTill
  refine ts 17 (v := ?_) ?_ ?_
  rotate_left 1
  ·intro W hSw
   have hwr := HWr.out.2
   clear hSw
   go_simp
   try with_reducible rfl
  try dsimp only [zS, zB, zC]
  clear hTill
  intro hTill
  have HSa : Hid (∀ W, KRep W B g (.slice (some ⟨gL, 0, none⟩) ps1.length lc) vU1 pv s1 ps1 → Src W 4 (some ⟨gL, 0, none⟩) j (ecs (ps1.take j))) := zH (fun W hW => by
   have := row_src hW.L rfl 0 j (by omega)
   rwa [List.drop_zero, Nat.zero_mul] at this)
  have HSb : Hid (∀ W, KRep W B g (.slice (some ⟨gL, 0, none⟩) ps1.length lc) vU1 pv s1 ps1 → Src W 4 (if lc = j + 1 then (some ⟨gL, 0, none⟩ : Option Addr) else some ⟨gL, (j + 1) * 4, none⟩) (ps1.length - (j + 1)) (ecs (ps1.drop (j + 1)))) := zH (fun W hW => by
   split
   ·rename_i hl
    have e0 : ps1.length - (j + 1) = 0 := by omega
    have e1 : ps1.drop (j + 1) = [] := List.drop_eq_nil_of_le (by omega)
    rw [e0, e1]
    exact ⟨rfl, (fun _ => rfl), fun q _ j u hu => by simp [ecs] at hu⟩
   ·have := row_src hW.L rfl (j + 1) (ps1.length - (j + 1)) (by omega)
    rw [List.take_of_length_le (by rw [List.length_drop]; exact zN _)] at this
    exact this)
  have HOn : Hid (∀ qs : List (EntV × Value), (∀ q ∈ qs, q ∈ ps1) → ∀ u ∈ ecs qs, u.oneCell' = true) := zH (fun qs hq => ecs_one qs (fun q hm => by
   obtain ⟨A, c, e⟩ := (HLy.out.e.k.vals q (hq q hm)).form
   exact ⟨A, _, c, e⟩))
  generalize (if lc = j + 1 then (some ⟨gL, 0, none⟩ : Option Addr) else some ⟨gL, (j + 1) * 4, none⟩) = A14 at HSb ⊢
  have HB3 : Hid (B ≤ w3.heap.size) := zH (Nat.le_trans HP.out.hB HLd.out.e.only.size)
  clear hj1 hj2 hj3 hj4 hj5 hj6 HWr
  refine wpTill.two (i := 7) (j := 9) (o := ⟨_, _, _, _, _, _⟩) (o2 := ⟨_, _, _, _, _, _⟩) (by kernel_rfl) rfl rfl (fun F hF => ?_) (fun F hF => ?_)
  ·refine step_append_src _ rfl (.const (.slice none 0 0)) (.tmp 135) 33 rfl w3.heap.size 40 ti _ 4 56 Tryz.underlying33 kti zt0 zt1 zt2 rfl (by decide) _ 0 [] rfl (World.ownsRow_nil _ _ _ _) (some ⟨gL, 0, none⟩) j lc (ecs (ps1.take j)) rfl (HSa.out _ HLd.out.e.k) (HOn.out _ (fun q hq => List.mem_of_mem_take hq)) (by have := HIl.out; have := HN1.out; unfold maxLen; omega) (by have := HIl.out; have := HN1.out; omega) (zN _) ?_
   intro v7 w7 hown7 hg7 hat7
   have hb7 : Below w3.heap.size w3 w7 := (zL _ _).grown hg7 (zN _) (fun k hk => by cases hk)
   have HL7 := zH (HLd.out.adv hb7)
   rw [Nat.zero_add, List.nil_append] at hown7
   have HO7 := zH hown7
   have HB7 := zH hb7
   obtain ⟨A7, c7, rfl, _, _⟩ := own_form hown7
   clear hown7 hg7 hat7 hb7
   refine hF.out _ _ (Till.of trivial HL7.out) (fun hTill => ?_)
   clear hF F
   try simp only [Act.put, zA, zB, zC]
   refine wpTill.only (i := 9) (o := ⟨_, _, _, _, _, _⟩) (by kernel_rfl) rfl (fun F hF => ?_)
   go_simp
   have HL9 := zH (HL7.out.adv ((zL _ _).alloc (zN _) (.cells #[.string ek, .slice VA (el).length vc, .int .u64 xd, .int .u64 eb] 40)))
   have HO9 := zH (own_later' HO7.out ((zL _ _).alloc (zN _) (.cells #[.string ek, .slice VA (el).length vc, .int .u64 xd, .int .u64 eb] 40)))
   have HB9 := zH (HB7.out.alloc HB7.out.size (.cells #[.string ek, .slice VA (el).length vc, .int .u64 xd, .int .u64 eb] 40))
   have HX9 := zH (Blk.new w7 40 #[.string ek, .slice VA (el).length vc, .int .u64 xd, .int .u64 eb])
   refine hF.out _ _ (Till.of trivial HL9.out) (fun hTill => ?_)
   clear hF F
   try simp only [Act.put, zA, zB, zC]
   generalize hw9 : w7.alloc _ = w9 at HL9 HO9 HB9 HX9 ⊢
   clear hw9
   generalize w7.heap.size = gB at HX9 ⊢
   refine wpTill.only (i := 10) (o := ⟨_, _, _, _, _, _⟩) (by kernel_rfl) rfl (fun F hF => ?_)
   refine step_append_src _ rfl (.tmp 136) (.tmp 138) 33 rfl w3.heap.size 40 ti _ 4 56 Tryz.underlying33 kti zt0 zt1 zt2 rfl (by decide) _ j (ecs (ps1.take j)) rfl HO9.out (some ⟨gB, 0, none⟩) 1 1 (entc ⟨ek, el, xd, eb⟩ (.slice VA (el).length vc)).toList rfl (src_blk HX9.out) (by intro u hu; simp [entc] at hu; rcases hu with rfl | rfl | rfl | rfl <;> rfl) (by have := HIl.out; have := HN1.out; unfold maxLen; omega) (by have := HIl.out; have := HN1.out; omega) HB9.out.size ?_
   intro v10 w10 hown10 hg10 hat10
   have hb10 : Below w3.heap.size w3 w10 := HB9.out.grown hg10 HB9.out.size (fun k hk => (row_heap' HO9.out hk).1)
   have HL10 := zH (HLd.out.adv hb10)
   have HO10 := zH hown10
   have HB10 := zH hb10
   obtain ⟨A10, c10, rfl, _, _⟩ := own_form hown10
   clear hown10 hg10 hat10 hb10 HX9 HB9 HO9 HL9
   refine hF.out _ _ (Till.of trivial HL10.out) (fun hTill => ?_)
   clear hF F
   try simp only [Act.put, zA, zB, zC]
   refine wpTill.only (i := 18) (o := ⟨_, _, _, _, _, _⟩) (by kernel_rfl) rfl (fun F hF => ?_)
   refine step_append_src _ rfl (.tmp 139) (.tmp 146) 33 rfl w3.heap.size 40 ti _ 4 56 Tryz.underlying33 kti zt0 zt1 zt2 rfl (by decide) _ (j + 1) (ecs (ps1.take j) ++ (entc ⟨ek, el, xd, eb⟩ (.slice VA (el).length vc)).toList) rfl HO10.out A14 (ps1.length - (j + 1)) (lc - (j + 1)) (ecs (ps1.drop (j + 1))) rfl (HSb.out _ HL10.out.e.k) (HOn.out _ (fun q hq => List.mem_of_mem_drop hq)) (by have := HIl.out; have := HN1.out; unfold maxLen; omega) (by have := HIl.out; have := HN1.out; omega) HB10.out.size ?_
   intro v11 w11 hown11 hg11 hat11
   have hb11 : Below w3.heap.size w3 w11 := HB10.out.grown hg11 HB10.out.size (fun k hk => (row_heap' HO10.out hk).1)
   have HL11 := zH (HLd.out.adv hb11)
   have HO11 : Hid (w11.ownsRow B 40 4 v11 ps1.length (ecs (ps1.set j (⟨ek, el, xd, eb⟩, .slice VA (el).length vc)))) := zH (by
    have h := ownsRow_base hown11 HB3.out
    rw [← ecs_set _ _ _ _ HIl.out] at h
    have e : j + 1 + (ps1.length - (j + 1)) = ps1.length := by have := HIl.out; omega
    rw [e] at h
    exact h)
   obtain ⟨A11, c11, rfl, _, _⟩ := own_form HO11.out
   clear hown11 hg11 hat11 hb11 HL10 HO10 HB10
   refine hF.out _ _ (Till.of trivial HL11.out) (fun hTill => ?_)
   clear hF F
   try simp only [Act.put, zA, zB, zC]
   refine ts 19 (v := ?_) ?_ ?_
   rotate_left 1
   ·intro W hSw
    skip
    clear hSw
    go_simp
    try with_reducible rfl
   try dsimp only [zS, zB, zC]
   clear hTill
   intro hTill
   refine ts 20 (v := ?_) ?_ ?_
   rotate_left 1
   ·intro W hSw
    skip
    clear hSw
    go_simp
    try with_reducible rfl
   try dsimp only [zS, zB, zC]
   clear hTill
   intro hTill
   have x7 : w11.cell? ⟨g, 7, none⟩ = some (.slice (some ⟨gL, 0, none⟩) ps1.length lc) := HL11.out.e.k.cell 7 (by omega)
   have f7 := HL11.out.e.k.frozen 7
   refine wpTill.only (i := 21) (o := ⟨_, _, _, _, _, _⟩) (by kernel_rfl) rfl (fun F hF => ?_)
   go_simp
   have HK12 : Hid (KRep (w11.setCell ⟨g, 7, none⟩ (.slice A11 ps1.length c11)) B g (.slice A11 ps1.length c11) vU1 pv { s1 with L := s1.L.set j ⟨ek, el, xd, eb⟩ } (ps1.set j (⟨ek, el, xd, eb⟩, .slice VA (el).length vc))) := zH (by
    refine HL11.out.e.k.setL (by rw [List.length_set]; exact HO11.out) ?_ (fun p hp => ?_)
    ·rw [← HL11.out.e.k.map, List.map_set]
    ·rcases List.mem_or_eq_of_mem_set hp with h | h
     ·exact HL11.out.e.k.vals p h
     ·rw [h]; exact HVx.out.below HL11.out.below)
   have HX12 := zH ((HL11.out.e).next HK12.out (Only.set1 _ _ _ _))
   have HXb12 := zH (HL11.out.x.far (p := ⟨g, 7, none⟩) (HNx.out) (.slice A11 ps1.length c11))
   refine hF.out _ _ (Till.stored trivial (by kernel_rfl)) (fun hTill => ?_)
   clear hF F x7 f7
   try simp only [Act.put, zA, zB, zC]
   refine wpTill.done (by kernel_rfl) ?_
   try refine NoPanic.normal ?_
   clear hTill HL11 HLd HK12 HO11
   generalize w11.setCell ⟨g, 7, none⟩ _ = w12 at HX12 HXb12 ⊢
   clear HB3 HSa HSb HOn
   obtain ⟨c0, c1, c2, c3⟩ := ent_cells HXb12.out
   dsimp only at c0 c1 c2 c3
   go_wp2_with fail
   refine (kUse_any B g _ _ pv _ _ eb w12 HX12.out.k HUn.out (Nat.le_trans HP.out.hB HX12.out.only.size)).mono ?_
   rintro e w13 ⟨vU2, rfl, hk13, ho13⟩
   have HX13 := zH (HX12.out.next (H9.out ▸ hk13) ho13)
   clear hk13 ho13 c0 c1 c2 c3 HXb12 HX12
   obtain ⟨z0, z2, z3, z4, z7⟩ := op_cells' HX13.out.box
   go_wp2_with fail
   refine bodyPost_end (v := .tuple #[]) (results_none rfl _ _ _) rfl ?_
   rw [HS.out]
   exact ⟨_, _, _, _, rfl, (HX13).out.k, (HX13).out.only⟩
  ·go_simp
   have HL8 := zH (HLd.out.adv ((zL _ _).alloc (zN _) (.cells #[.string ek, .slice VA (el).length vc, .int .u64 xd, .int .u64 eb] 40)))
   have HB8 := zH ((zL w3.heap.size w3).alloc (zN _) (.cells #[.string ek, .slice VA (el).length vc, .int .u64 xd, .int .u64 eb] 40))
   have HX8 := zH (Blk.new w3 40 #[.string ek, .slice VA (el).length vc, .int .u64 xd, .int .u64 eb])
   refine hF.out _ _ (Till.of trivial HL8.out) (fun hTill => ?_)
   clear hF F
   try simp only [Act.put, zA, zB, zC]
   generalize hw8 : w3.alloc _ = w8 at HL8 HB8 HX8 ⊢
   clear hw8
   refine wpTill.only (i := 7) (o := ⟨_, _, _, _, _, _⟩) (by kernel_rfl) rfl (fun F hF => ?_)
   refine step_append_src _ rfl (.const (.slice none 0 0)) (.tmp 135) 33 rfl w8.heap.size 40 ti _ 4 56 Tryz.underlying33 kti zt0 zt1 zt2 rfl (by decide) _ 0 [] rfl (World.ownsRow_nil _ _ _ _) (some ⟨gL, 0, none⟩) j lc (ecs (ps1.take j)) rfl (HSa.out _ HL8.out.e.k) (HOn.out _ (fun q hq => List.mem_of_mem_take hq)) (by have := HIl.out; have := HN1.out; unfold maxLen; omega) (by have := HIl.out; have := HN1.out; omega) (zN _) ?_
   intro v7 w9 hown7 hg7 hat7
   have hb7 : Below w8.heap.size w8 w9 := (zL _ _).grown hg7 (zN _) (fun k hk => by cases hk)
   have HL9 := zH (HL8.out.adv hb7)
   rw [Nat.zero_add, List.nil_append] at hown7
   have HO9 := zH (ownsRow_base hown7 HB8.out.size)
   have HB9 : Hid (Below w3.heap.size w3 w9) := zH (HB8.out.trans (hb7.mono HB8.out.size))
   have HX9 := zH (HX8.out.below hb7)
   obtain ⟨A7, c7, rfl, _, _⟩ := own_form hown7
   clear hown7 hg7 hat7 hb7 HX8
   refine hF.out _ _ (Till.of trivial HL9.out) (fun hTill => ?_)
   clear hF F
   try simp only [Act.put, zA, zB, zC]
   generalize w3.heap.size = gB at HX9 ⊢
   refine wpTill.only (i := 10) (o := ⟨_, _, _, _, _, _⟩) (by kernel_rfl) rfl (fun F hF => ?_)
   refine step_append_src _ rfl (.tmp 136) (.tmp 138) 33 rfl w3.heap.size 40 ti _ 4 56 Tryz.underlying33 kti zt0 zt1 zt2 rfl (by decide) _ j (ecs (ps1.take j)) rfl HO9.out (some ⟨gB, 0, none⟩) 1 1 (entc ⟨ek, el, xd, eb⟩ (.slice VA (el).length vc)).toList rfl (src_blk HX9.out) (by intro u hu; simp [entc] at hu; rcases hu with rfl | rfl | rfl | rfl <;> rfl) (by have := HIl.out; have := HN1.out; unfold maxLen; omega) (by have := HIl.out; have := HN1.out; omega) HB9.out.size ?_
   intro v10 w10 hown10 hg10 hat10
   have hb10 : Below w3.heap.size w3 w10 := HB9.out.grown hg10 HB9.out.size (fun k hk => (row_heap' HO9.out hk).1)
   have HL10 := zH (HLd.out.adv hb10)
   have HO10 := zH hown10
   have HB10 := zH hb10
   obtain ⟨A10, c10, rfl, _, _⟩ := own_form hown10
   clear hown10 hg10 hat10 hb10 HX9 HB9 HO9 HL9
   refine hF.out _ _ (Till.of trivial HL10.out) (fun hTill => ?_)
   clear hF F
   try simp only [Act.put, zA, zB, zC]
   refine wpTill.only (i := 18) (o := ⟨_, _, _, _, _, _⟩) (by kernel_rfl) rfl (fun F hF => ?_)
   refine step_append_src _ rfl (.tmp 139) (.tmp 146) 33 rfl w3.heap.size 40 ti _ 4 56 Tryz.underlying33 kti zt0 zt1 zt2 rfl (by decide) _ (j + 1) (ecs (ps1.take j) ++ (entc ⟨ek, el, xd, eb⟩ (.slice VA (el).length vc)).toList) rfl HO10.out A14 (ps1.length - (j + 1)) (lc - (j + 1)) (ecs (ps1.drop (j + 1))) rfl (HSb.out _ HL10.out.e.k) (HOn.out _ (fun q hq => List.mem_of_mem_drop hq)) (by have := HIl.out; have := HN1.out; unfold maxLen; omega) (by have := HIl.out; have := HN1.out; omega) HB10.out.size ?_
   intro v11 w11 hown11 hg11 hat11
   have hb11 : Below w3.heap.size w3 w11 := HB10.out.grown hg11 HB10.out.size (fun k hk => (row_heap' HO10.out hk).1)
   have HL11 := zH (HLd.out.adv hb11)
   have HO11 : Hid (w11.ownsRow B 40 4 v11 ps1.length (ecs (ps1.set j (⟨ek, el, xd, eb⟩, .slice VA (el).length vc)))) := zH (by
    have h := ownsRow_base hown11 HB3.out
    rw [← ecs_set _ _ _ _ HIl.out] at h
    have e : j + 1 + (ps1.length - (j + 1)) = ps1.length := by have := HIl.out; omega
    rw [e] at h
    exact h)
   obtain ⟨A11, c11, rfl, _, _⟩ := own_form HO11.out
   clear hown11 hg11 hat11 hb11 HL10 HO10 HB10
   refine hF.out _ _ (Till.of trivial HL11.out) (fun hTill => ?_)
   clear hF F
   try simp only [Act.put, zA, zB, zC]
   refine ts 19 (v := ?_) ?_ ?_
   rotate_left 1
   ·intro W hSw
    skip
    clear hSw
    go_simp
    try with_reducible rfl
   try dsimp only [zS, zB, zC]
   clear hTill
   intro hTill
   refine ts 20 (v := ?_) ?_ ?_
   rotate_left 1
   ·intro W hSw
    skip
    clear hSw
    go_simp
    try with_reducible rfl
   try dsimp only [zS, zB, zC]
   clear hTill
   intro hTill
   have x7 : w11.cell? ⟨g, 7, none⟩ = some (.slice (some ⟨gL, 0, none⟩) ps1.length lc) := HL11.out.e.k.cell 7 (by omega)
   have f7 := HL11.out.e.k.frozen 7
   refine wpTill.only (i := 21) (o := ⟨_, _, _, _, _, _⟩) (by kernel_rfl) rfl (fun F hF => ?_)
   go_simp
   have HK12 : Hid (KRep (w11.setCell ⟨g, 7, none⟩ (.slice A11 ps1.length c11)) B g (.slice A11 ps1.length c11) vU1 pv { s1 with L := s1.L.set j ⟨ek, el, xd, eb⟩ } (ps1.set j (⟨ek, el, xd, eb⟩, .slice VA (el).length vc))) := zH (by
    refine HL11.out.e.k.setL (by rw [List.length_set]; exact HO11.out) ?_ (fun p hp => ?_)
    ·rw [← HL11.out.e.k.map, List.map_set]
    ·rcases List.mem_or_eq_of_mem_set hp with h | h
     ·exact HL11.out.e.k.vals p h
     ·rw [h]; exact HVx.out.below HL11.out.below)
   have HX12 := zH ((HL11.out.e).next HK12.out (Only.set1 _ _ _ _))
   have HXb12 := zH (HL11.out.x.far (p := ⟨g, 7, none⟩) (HNx.out) (.slice A11 ps1.length c11))
   refine hF.out _ _ (Till.stored trivial (by kernel_rfl)) (fun hTill => ?_)
   clear hF F x7 f7
   try simp only [Act.put, zA, zB, zC]
   refine wpTill.done (by kernel_rfl) ?_
   try refine NoPanic.normal ?_
   clear hTill HL11 HLd HK12 HO11
   generalize w11.setCell ⟨g, 7, none⟩ _ = w12 at HX12 HXb12 ⊢
   clear HB3 HSa HSb HOn
   obtain ⟨c0, c1, c2, c3⟩ := ent_cells HXb12.out
   dsimp only at c0 c1 c2 c3
   go_wp2_with fail
   refine (kUse_any B g _ _ pv _ _ eb w12 HX12.out.k HUn.out (Nat.le_trans HP.out.hB HX12.out.only.size)).mono ?_
   rintro e w13 ⟨vU2, rfl, hk13, ho13⟩
   have HX13 := zH (HX12.out.next (H9.out ▸ hk13) ho13)
   clear hk13 ho13 c0 c1 c2 c3 HXb12 HX12
   obtain ⟨z0, z2, z3, z4, z7⟩ := op_cells' HX13.out.box
   go_wp2_with fail
   refine bodyPost_end (v := .tuple #[]) (results_none rfl _ _ _) rfl ?_
   rw [HS.out]
   exact ⟨_, _, _, _, rfl, (HX13).out.k, (HX13).out.only⟩
end Go.Proofs.YtnabbimompapfaaGreat
namespace Go.Proofs.YtnabbimompapfaaGreat
open Go Go.RowKit
set_option maxHeartbeats 4000000 in
set_option maxRecDepth 100000 in
theorem kEffect_k12 (B g : Nat) (vL vU : Value) (pv : Nat → Int) (s : PJ) (ps : List (EntV × Value)) (o : OpV) (A : Option Addr) (n c : Nat) (w : World) (P : EfP w B g vL vU pv s ps) (hk : o.kind = 12) (b : Int) (x : EntV) (ho : openP s.pl o.cursor = some b) (ha : afterP s.L b s.now = some x) :
  Calls Tryz.prog 32 #[.pointer (some ⟨g, 0, none⟩), opv o (.slice A n c), .int .i64 0, .int .u64 s.now] w (EfRet B g (effP s o 0) w) := by
 obtain ⟨ic, hic, hil, hpi⟩ := openP_idx ho
 have hic64 : ic < 64 := by have := P.pl; omega
 have HOa := zH (show openAt s.pl ic = true by unfold openAt; rw [hpi]; rfl)
 have hpv := P.k.place ic b hpi
 have HFi := zH (fun ob => kFind_any B g vL vU pv s ps o.key (w.alloc ob) (P.k.below ((zL _ _).alloc (zN _) _)) (by have := P.n; omega))
 have HX : Hid (EfX w (w.alloc (.cells (opc o (.slice A n c)) 43)) B g vL vU pv s ps o (.slice A n c)) := zH (EfX.new P.k)
 have HIx := zH (idx_find P.k.map o.key)
 unfold opv
 unfold opc at HX ⊢
 have HP := zH P
 have hnI : (ps.length : Int) ≤ 90000 := by have := P.n; omega
 obtain ⟨LA, lc, rfl, hlc, _⟩ := own_form P.k.L
 have hlcI : (ps.length : Int) ≤ (lc : Int) := by omega
 clear P hlc
 obtain ⟨i, hi⟩ : ∃ i, idxI (fun p : EntV × Value => decide (p.1.key = o.key)) ps = i := ⟨_, rfl⟩
 rw [hi] at HFi HIx
 clear hi
 have HS := zH (show effP s o 0 = { s with pl := s.pl.set ic (some x.birth) } by
  unfold effP
  rw [if_pos rfl, effA_none (by omega)]
  unfold effB
  rw [if_neg (by omega), if_pos hk, ho]
  dsimp only
  rw [ha, hic]; rfl)
 have q1 : (o.kind == 1) = false := by simp [hk]
 have q2 : (o.kind == 2) = false := by simp [hk]
 have q3 : (o.kind == 3) = false := by simp [hk]
 have q5 : (o.kind == 5) = false := by simp [hk]
 have q6 : (o.kind == 6) = false := by simp [hk]
 have q7 : (o.kind == 7) = false := by simp [hk]
 have q8 : (o.kind == 8) = false := by simp [hk]
 have q11 : (o.kind == 11) = false := by simp [hk]
 have q12 : (o.kind == 12) = true := by simp [hk]
 have q13 : (o.kind == 13) = false := by simp [hk]
 have q14 : (o.kind == 14) = false := by simp [hk]
 have HPl : Hid (∀ W, KRep W B g (.slice LA ps.length lc) vU pv s ps → W.cell? ⟨g, 73 + ic, none⟩ = some (.int .u64 b)) := zH (fun W hW => by
  have := hW.cell (73 + ic) (by omega)
  rw [kcell_place, hpv] at this
  exact this)
 have hi64 : (ic : Int) < 64 := by omega
 rcases idx_after HP.out.k.map b s.now with ⟨h1, h2⟩ | ⟨j, ⟨ev, V⟩, hj, h1, h2⟩
 ·rw [ha] at h1; cases h1
 rw [ha] at h1
 obtain rfl : x = ev := Option.some.inj h1
 have HAf := zH (fun W hW => h2 ▸ kAfter_any B g (.slice LA ps.length lc) vU pv s ps b s.now W hW (by have := HP.out.n; omega))
 obtain ⟨VA, vc, hV⟩ := (HP.out.k.vals _ (List.mem_of_getElem? hj)).form
 dsimp only at hV
 subst hV
 have HJ := zH hj
 have hj0 : (0 : Int) ≤ (j : Int) := by omega
 have hjI : (j : Int) < (ps.length : Int) := by have := (List.getElem?_eq_some_iff.1 hj).1; omega
 obtain ⟨gL, rfl⟩ : ∃ gL, LA = some ⟨gL, 0, none⟩ := by
  rcases HP.out.k.L.2 with ⟨_, h0⟩ | ⟨q, c, cur, eq, _⟩
  ·omega
  ·injection eq with eq _ _
   exact ⟨q, eq⟩
 have HCi := zH hic
 have HI64 := zH hic64
 clear hk ho ha hic hil hpi hpv hic64 h1 h2 hj
 go_enter Tryz.func32, Tryz.ntmps32
 go_wp2_with fail
 refine (HFi.out _).mono ?_
 rintro e w1 ⟨rfl, hw⟩
 subst hw
 obtain ⟨W0, hW0⟩ : ∃ W0, w.alloc (.cells #[.int .i64 o.kind, .int .u64 o.ticks, .string o.key, .slice A n c, .int .u64 o.ttl, .int .i64 o.count, .int .i64 o.bytes, .int .i64 o.cursor, .int .u64 o.birth] 43) = W0 := ⟨_, rfl⟩
 rw [hW0] at HX ⊢
 clear hW0 HFi HIx
 obtain ⟨z0, z2, z3, z4, z7⟩ := op_cells' HX.out.box
 go_upto_region 36 with fail
 refine wp_region_noPanic ?_
 have HXd := zH (EfX.adv HX.out (zL _ _).drew)
 refine wp_region_till [23] (fun W => EfX w W B g (.slice (some ⟨gL, 0, none⟩) ps.length lc) vU pv s ps o (.slice A n c)) (fun _ => True) (by kernel_rfl) trivial HXd.out (fun hTill => ?_)
 generalize W0.drew = W1 at HXd hTill ⊢
 clear z0 z2 z3 z4 z7
 refine Pl.go [0, 1, 2, 3, 4, 5, 6, 7, 8, 9, 10, 11, 12, 13, 14, 15] ?_
 iterate 16
  refine ttl (v := ?_) ?_ ?_
  rotate_left 1
  ·intro W hSw
   obtain ⟨z0, z2, z3, z4, z7⟩ := op_cells' hSw.2.box; rw [HCi.out] at z7; have xp := HPl.out _ hSw.2.k; have x7 : W.cell? ⟨g, 7, none⟩ = some (.slice (some ⟨gL, 0, none⟩) ps.length lc) := hSw.2.k.cell 7 (by omega); obtain ⟨y0, y1, y2, y3⟩ := hSw.2.k.entAt HJ.out; dsimp only at y0 y1 y2 y3
   clear hSw
   go_simp
   try with_reducible rfl
  try dsimp only [zS, zB, zC]
  clear hTill
  intro hTill
 refine Pl.stop ?_
 refine Pl.go [20, 21] ?_
 iterate 2
  refine tsl (v := ?_) ?_ ?_
  rotate_left 1
  ·intro W hSw
   skip
   clear hSw
   go_simp
   try with_reducible rfl
  try dsimp only [zS, zB, zC]
  clear hTill
  intro hTill
 refine Pl.stop ?_
 refine wpTill.only (i := 16) (o := ⟨_, _, _, _, _, _⟩) (by kernel_rfl) rfl (fun F hF => ?_)
 go_simp
 refine (HAf.out _ HXd.out.k).mono ?_
 rintro e2 w4 ⟨rfl, hw4⟩
 subst hw4
 go_wp2_with fail
 refine hF.out _ _ (Till.of trivial HXd.out) (fun hTill => ?_)
 clear hF F
 try simp only [Act.put, zA, zB, zC]
 refine Pl.go [17, 18, 19] ?_
 iterate 3
  refine ttl (v := ?_) ?_ ?_
  rotate_left 1
  ·intro W hSw
   obtain ⟨z0, z2, z3, z4, z7⟩ := op_cells' hSw.2.box; rw [HCi.out] at z7; have xp := HPl.out _ hSw.2.k; have x7 : W.cell? ⟨g, 7, none⟩ = some (.slice (some ⟨gL, 0, none⟩) ps.length lc) := hSw.2.k.cell 7 (by omega); obtain ⟨y0, y1, y2, y3⟩ := hSw.2.k.entAt HJ.out; dsimp only at y0 y1 y2 y3
   clear hSw
   go_simp
   try with_reducible rfl
  try dsimp only [zS, zB, zC]
  clear hTill
  intro hTill
 refine Pl.stop ?_
 refine ts 22 (v := ?_) ?_ ?_
 rotate_left 1
 ·intro W hSw
  skip
  clear hSw
  go_simp
  try with_reducible rfl
 try dsimp only [zS, zB, zC]
 clear hTill
 intro hTill
 have xp : World.cell? W1 ⟨g, 73 + ic, none⟩ = some (.int .u64 b) := HPl.out _ HXd.out.k
 have xf := HXd.out.k.frozen
 refine wpTill.only (i := 23) (o := ⟨_, _, _, _, _, _⟩) (by kernel_rfl) rfl (fun F hF => ?_)
 go_simp
 refine hF.out _ _ (Till.stored trivial (by kernel_rfl)) (fun hTill => ?_)
 clear hF F
 try simp only [Act.put, zA, zB, zC]
 refine wpTill.done (by kernel_rfl) ?_
 try refine NoPanic.normal ?_
 have hk2 : KRep (W1.setCell ⟨g, 73 + ic, none⟩ (.int .u64 x.birth)) B g _ vU _ { s with pl := s.pl.set ic (some x.birth) } ps := HXd.out.k.setPlace HP.out.pl ic HI64.out x.birth HOa.out
 have HX2 := zH (HXd.out.next hk2 (((Only.refl _ _).setCell (S := fun k => k = g) (p := ⟨g, 73 + ic, none⟩) (.inl rfl) _)))
 clear hk2 xp xf hTill
 generalize World.setCell _ _ _ = W2 at HX2 ⊢
 obtain ⟨z0, z2, z3, z4, z7⟩ := op_cells' HX2.out.box
 go_wp2_with fail
 refine bodyPost_end (v := .tuple #[]) (results_none rfl _ _ _) rfl ?_
 rw [HS.out]
 exact ⟨_, _, _, _, rfl, (HX2).out.k, (HX2).out.only⟩
end Go.Proofs.YtnabbimompapfaaGreat
namespace Go.Proofs.YtnabbimompapfaaGreat
open Go Go.RowKit
theorem below_grown {w w' : World} (h : w.grownBy w' none) : Below w.heap.size w w' := ⟨h.os, h.tape, h.output, h.size, fun k hk => h.block k hk (by simp)⟩
section
variable {w W W2 : World} {B g : Nat} {vL vU : Value} {pv : Nat → Int} {s : PJ} {ps : List (EntV × Value)} {o : OpV} {V : Value}
theorem KRep.setBirths (h : KRep w B g vL vU pv s ps) (b : Int) : KRep (w.setCell ⟨g, 6, none⟩ (.int .u64 b)) B g vL vU pv { s with births := b } ps := by
 refine h.set_ 6 _ (fun j hj => ?_) h.L h.U h.map h.vals h.place
 unfold kcell
 by_cases e : j = 6
 ·subst e; rfl
 ·by_cases h0 : j = 0
  ·subst h0; rfl
  ·by_cases h1 : j = 1
   ·subst h1; rfl
   ·by_cases h2 : j = 2
    ·subst h2; rfl
    ·by_cases h3 : j = 3
     ·subst h3; rfl
     ·by_cases h4 : j = 4
      ·subst h4; rfl
      ·by_cases h5 : j = 5
       ·subst h5; rfl
       ·simp only [if_neg h0, if_neg h1, if_neg h2, if_neg h3, if_neg h4, if_neg h5, if_neg e]
end
theorem EfX.appendL {w W W' : World} {B g n cap : Nat} {A : Option Addr} {vU : Value} {pv : Nat → Int} {s : PJ} {ps : List (EntV × Value)} {o : OpV} {V : Value} (h : EfX w W B g (.slice A n cap) vU pv s ps o V) {x : EntV} {U v' : Value} (hg : W.grownBy W' (Value.slice A n cap).ownBlock) (ho : W'.ownsRow B 40 4 v' (ps.length + 1) (ecs ps ++ (entc x U).toList)) (hv : Bts W B 5 U x.val) :
  (∀ {k t : Nat} {cs : Array Value}, Blk W k t cs → t ≠ 40 → Blk W' k t cs) ∧ EfX w (W'.setCell ⟨g, 7, none⟩ v') B g v' vU pv { s with L := s.L ++ [x] } (ps ++ [(x, U)]) o V := by
 have hon : Only (fun k => (Value.slice A n cap).ownBlock = some k) W W' := Only.of_grown hg
 obtain ⟨cs, hb, hcs⟩ := h.k.blk
 have hne : ∀ {k t : Nat} {cs : Array Value}, Blk W k t cs → t ≠ 40 → ¬ (Value.slice A n cap).ownBlock = some k := fun hb ht hk => blk_differs hb h.k.L ht hk
 have hb' := hb.only hon (hne hb (by decide))
 have hKS : ∀ i, i < W.heap.size → (Value.slice A n cap).ownBlock = some i → KS B W i := fun i hi hk => by
  obtain ⟨h1, cur, h2⟩ := row_heap' h.k.L hk
  exact ⟨h1, cur, _, _, h2, .inr rfl⟩
 have hkeep : KeepB B 5 W W' := KeepB.of_only hon (fun k _ hk => by
  obtain ⟨h1, cur, h2⟩ := row_heap' h.k.L hk
  refine ⟨h1, fun c fr e => ?_⟩
  rw [h2] at e
  injection e with e
  injection e with _ e
  exact absurd e (by decide))
 refine ⟨fun hb ht => hb.only hon (hne hb ht), ?_⟩
 have hkb2 := KeepB.of_blk (U := 5) hb' (by decide) h.k.base (Only.set1 W' g 7 v')
 refine h.nextK ?_ ?_
 ·refine ⟨⟨_, hb'.set_ 7 v', fun i hi => ?_⟩, ?_, ?_, ?_, fun p hp => ?_, h.k.place, h.k.base⟩
  ·have hci := hcs i hi
   have hsz := (Array.getElem?_eq_some_iff.1 hci).1
   rw [Array.getElem?_setIfInBounds]
   by_cases h8 : 7 = i
   ·subst h8
    rw [if_pos rfl, if_pos hsz]
    rfl
   ·rw [if_neg h8, hci]
    unfold kcell
    by_cases h9 : i = 7
    ·exact absurd h9.symm h8
    ·simp only [if_neg h9]
  ·rw [List.length_append, ecs_append]
   show World.ownsRow _ B _ 4 v' (ps.length + 1) (ecs ps ++ ecs [(x, U)])
   have e : ecs [(x, U)] = (entc x U).toList := rfl
   rw [e]
   exact ownsRow_only ho (Only.set1 W' g 7 v') (fun k hk e => by subst e; exact blk_differs hb' ho (by decide) hk)
  ·have hU1 := ownsRow_only h.k.U hon (fun k hk e => by
    obtain ⟨_, cur, h2⟩ := row_heap' h.k.U hk
    obtain ⟨_, cur2, h3⟩ := row_heap' h.k.L e
    rw [h2] at h3
    injection h3 with h3
    injection h3 with _ h3
    exact absurd h3 (by decide))
   exact ownsRow_only hU1 (Only.set1 W' g 7 v') (fun k hk e => by subst e; exact blk_differs hb' hU1 (by decide) hk)
  ·rw [List.map_append, h.k.map]; rfl
  ·rcases List.mem_append.1 hp with hp | hp
   ·exact ((h.k.vals p hp).keep hkeep).keep hkb2
   ·rw [List.mem_singleton.1 hp]; exact (hv.keep hkeep).keep hkb2
 ·refine (hon.mono (T := KS B W) hKS).setCell (p := ⟨g, 7, none⟩) (.inl ⟨h.k.base, cs, _, _, hb, .inl rfl⟩) _
theorem set_none_eq {s : PJ} {o : OpV} (hf : findP s.L o.key = none) (hnu : ∀ u ∈ s.U, u ≤ s.births) (e0 : EntV) (dl : Int) :
  useP { cfg := s.cfg, now := s.now, births := s.births + 1, L := (s.L ++ [e0]).set s.L.length ⟨o.key, o.val, dl, s.births + 1⟩, U := s.U, pl := s.pl } (s.births + 1) = setP s o dl := by
 unfold useP setP
 rw [hf]
 dsimp only
 have h1 : (s.U.filter fun x => decide (x ≠ s.births + 1)) = s.U := List.filter_eq_self.2 (fun u hu => by have := hnu u hu; rw [decide_eq_true_eq]; omega)
 have h2 : (s.L ++ [e0]).set s.L.length ⟨o.key, o.val, dl, s.births + 1⟩ = s.L ++ [⟨o.key, o.val, dl, s.births + 1⟩] := by
  rw [List.set_append_right _ _ (zN _), Nat.sub_self]; rfl
 rw [h1, h2]
theorem set_some_eq {s : PJ} {o : OpV} {x : EntV} {j : Nat} (hf : findP s.L o.key = some x) (hk : x.key = o.key) (hj : s.L[j]? = some x) (hasc : (s.L.map EntV.birth).Pairwise (· < ·)) (dl : Int) :
  useP { s with L := s.L.set j ⟨o.key, o.val, dl, x.birth⟩ } x.birth = setP s o dl := by
 unfold setP
 rw [hf]
 dsimp only
 rw [map_set hasc hj (fun e => ⟨e.key, o.val, dl, e.birth⟩), hk]
theorem effP_set {s : PJ} {o : OpV} (hk : o.kind = 1 ∨ o.kind = 2) : effP s o 0 = setP s o (if o.kind = 1 then neverT else addP s.now o.ttl) := by
 unfold effP
 rw [if_pos rfl, effB_none (by omega)]
 unfold effA
 rcases hk with h | h
 ·rw [if_pos h, if_pos h]
 ·rw [if_neg (by omega), if_pos h, if_neg (by omega)]
end Go.Proofs.YtnabbimompapfaaGreat
namespace Go.Proofs.YtnabbimompapfaaGreat
open Go Go.RowKit
set_option maxHeartbeats 8000000 in
set_option maxRecDepth 100000 in
theorem kEffect_seta (B Bv g : Nat) (vL vU : Value) (pv : Nat → Int) (s : PJ) (ps : List (EntV × Value)) (o : OpV) (A : Option Addr) (c : Nat) (w : World) (P : EfP w B g vL vU pv s ps) (hk : o.kind = 1) (ht : 0 ≤ s.now ∧ s.now ≤ neverT) (htt : 0 ≤ o.ttl)
  (hv : Bts w Bv 5 (.slice A o.val.length c) o.val) (hBv : Bv ≤ B) (hvl : o.val.length ≤ 100000) (hbi : 0 ≤ s.births ∧ s.births ≤ 100000) (hnu : ∀ u ∈ s.U, u ≤ s.births) (hf : findP s.L o.key = none) :
  Calls Tryz.prog 32 #[.pointer (some ⟨g, 0, none⟩), opv o (.slice A o.val.length c), .int .i64 0, .int .u64 s.now] w (EfRet B g (effP s o 0) w) := by
 have HFi := zH (fun ob => kFind_any B g vL vU pv s ps o.key (w.alloc ob) (P.k.below ((zL _ _).alloc (zN _) _)) (by have := P.n; omega))
 have HX : Hid (EfX w (w.alloc (.cells (opc o (.slice A o.val.length c)) 43)) B g vL vU pv s ps o (.slice A o.val.length c)) := zH (EfX.new P.k)
 have HIx := zH (idx_find P.k.map o.key)
 unfold opv
 unfold opc at HX ⊢
 have HP := zH P
 have hnI : (ps.length : Int) ≤ 90000 := by have := P.n; omega
 obtain ⟨LA, lc, rfl, hlc, _⟩ := own_form P.k.L
 have hlcI : (ps.length : Int) ≤ (lc : Int) := by omega
 clear P hlc
 obtain ⟨i, hi⟩ : ∃ i, idxI (fun p : EntV × Value => decide (p.1.key = o.key)) ps = i := ⟨_, rfl⟩
 rw [hi] at HFi HIx
 clear hi
 have q1 : (o.kind == 1) = true := by simp [hk]
 have q2 : (o.kind == 2) = false := by simp [hk]
 have q3 : (o.kind == 3) = false := by simp [hk]
 have q5 : (o.kind == 5) = false := by simp [hk]
 have q6 : (o.kind == 6) = false := by simp [hk]
 have q7 : (o.kind == 7) = false := by simp [hk]
 have q8 : (o.kind == 8) = false := by simp [hk]
 have q11 : (o.kind == 11) = false := by simp [hk]
 have q12 : (o.kind == 12) = false := by simp [hk]
 have q13 : (o.kind == 13) = false := by simp [hk]
 have q14 : (o.kind == 14) = false := by simp [hk]
 rcases HIx.out with ⟨h1, h2⟩ | ⟨j, ⟨ev, V⟩, hj, h1, h2, h3⟩
 ·subst h2
  obtain ⟨lc0, hlc0⟩ : ∃ lc0, lc0 = lc := ⟨_, rfl⟩
  subst hlc0
  have hb1 : IntKind.u64.wrap (s.births + 1) = s.births + 1 := by rw [IntKind.wrap_u64 _]; omega
  have HBi := zH hbi
  have HNu := zH hnu
  have HVk : Hid (∀ W, Only (KS B w) w W → Bts W Bv 5 (.slice A o.val.length c) o.val) := zH (fun W ho => hv.keep (KeepB.of_only ho (fun k _ hk => ⟨Nat.le_trans hBv hk.1, fun c fr e => by obtain ⟨_, cs, t, fr2, e2, h3⟩ := hk; rw [e] at e2; injection e2 with e2; injection e2 with _ e2 _; subst e2; rcases h3 with h3 | h3 <;> exact absurd h3 (by decide)⟩)))
  have HVl := zH hvl
  have HFn := zH h1
  have HEf : Hid (effP s o 0 = setP s o (neverT)) := zH (by rw [effP_set (by omega)]; simp [hk])
  skip
  clear h1 hk hv hvl hbi hnu hBv ht htt
  go_enter Tryz.func32, Tryz.ntmps32
  go_wp2_with fail
  refine (HFi.out _).mono ?_
  rintro e w1 ⟨rfl, hw⟩
  subst hw
  obtain ⟨W0, hW0⟩ : ∃ W0, w.alloc (.cells #[.int .i64 o.kind, .int .u64 o.ticks, .string o.key, .slice A o.val.length c, .int .u64 o.ttl, .int .i64 o.count, .int .i64 o.bytes, .int .i64 o.cursor, .int .u64 o.birth] 43) = W0 := ⟨_, rfl⟩
  rw [hW0] at HX ⊢
  clear hW0 HFi HIx
  obtain ⟨z0, z2, z3, z4, z7⟩ := op_cells' HX.out.box
  have x6 : W0.cell? ⟨g, 6, none⟩ = some (.int .u64 s.births) := HX.out.k.cell 6 (by omega)
  have xf := HX.out.k.frozen
  go_upto_region 7 with fail
  obtain ⟨nb, hnb⟩ : ∃ nb, s.births + 1 = nb := ⟨_, rfl⟩
  rw [hnb]
  have HX1 : Hid (EfX w (W0.setCell ⟨g, 6, none⟩ (.int .u64 nb)) B g (.slice LA ps.length lc0) vU pv { s with births := nb } ps o (.slice A o.val.length c)) := zH (HX.out.next (HX.out.k.setBirths nb) (Only.set1 _ _ _ _))
  have HNb := zH hnb
  clear x6 xf z0 z2 z3 z4 z7 hb1 hnb HX
  generalize World.setCell _ _ _ = W1 at HX1 ⊢
  obtain ⟨ti, kti, zt0, zt1, zt2⟩ := info_parts entI_info
  refine wp_region_noPanic ?_
  have HXd := zH (EfX.adv HX1.out (zL _ _).drew)
  obtain ⟨cs, hcs1, hcs2⟩ := HXd.out.k.blk
  have HC6 : Hid (cs[6]? = some (.int .u64 nb)) := zH (hcs2 6 (by omega))
  have HC7 : Hid (cs[7]? = some (.slice LA ps.length lc0)) := zH (hcs2 7 (by omega))
  refine wp_region_till [16] (fun W => Blk W g 61 cs ∧ Blk W w.heap.size 43 (opc o (.slice A o.val.length c))) (fun _ => True) (by kernel_rfl) trivial ⟨hcs1, HXd.out.box⟩ (fun hTill => ?_)
  have HCs := zH hcs1
  clear hcs1 hcs2
  generalize W1.drew = W2 at HXd HCs hTill ⊢
  refine Pl.go [0, 1, 2, 3, 4, 5, 6, 7, 8, 9, 10, 11] ?_
  iterate 12
   refine ttl (v := ?_) ?_ ?_
   rotate_left 1
   ·intro W hSw
    obtain ⟨z0, z2, z3, z4, z7⟩ := op_cells' hSw.2.2; have x7 : W.cell? ⟨g, 7, none⟩ = some (.slice LA ps.length lc0) := hSw.2.1.cell 7 _ HC7.out; have x6 : W.cell? ⟨g, 6, none⟩ = some (.int .u64 nb) := hSw.2.1.cell 6 _ HC6.out
    clear hSw
    go_simp
    try with_reducible rfl
   try dsimp only [zS, zB, zC]
   clear hTill
   intro hTill
  refine Pl.stop ?_
  refine wpTill.only (i := 12) (o := ⟨_, _, _, _, _, _⟩) (by kernel_rfl) rfl (fun F hF => ?_)
  go_simp
  have HX3 := zH (EfX.adv HXd.out ((zL _ _).alloc (zN _) (.cells #[.string o.key, .slice none 0 0, .int .u64 0, .int .u64 nb] 40)))
  have HY3 := zH (Blk.new W2 40 #[.string o.key, .slice none 0 0, .int .u64 0, .int .u64 nb])
  have HC3 := zH (HCs.out.alloc (.cells #[.string o.key, .slice none 0 0, .int .u64 0, .int .u64 nb] 40))
  refine hF.out _ _ (Till.of trivial ⟨HC3.out, HX3.out.box⟩) (fun hTill => ?_)
  clear hF F
  try simp only [Act.put, zA, zB, zC]
  generalize W2.heap.size = gB at HY3 ⊢
  generalize W2.alloc _ = W3 at HX3 HY3 HC3 hTill ⊢
  refine wpTill.only (i := 13) (o := ⟨_, _, _, _, _, _⟩) (by kernel_rfl) rfl (fun F hF => ?_)
  refine step_append_src _ rfl (.tmp 34) (.tmp 42) 33 rfl B 40 ti _ 4 56 Tryz.underlying33 kti zt0 zt1 zt2 rfl (by decide) _ ps.length (ecs ps) rfl HX3.out.k.L (some ⟨gB, 0, none⟩) 1 1 (entc ⟨o.key, [], 0, nb⟩ (.slice none 0 0)).toList rfl (src_blk (x := ⟨o.key, [], 0, nb⟩) HY3.out) (by intro u hu; simp [entc] at hu; rcases hu with rfl | rfl | rfl | rfl <;> rfl) (by have := HP.out.n; unfold maxLen; omega) (by have := HP.out.n; omega) (Nat.le_trans HP.out.hB HX3.out.only.size) ?_
  intro v4 w4 hown4 hg4 hat4
  have HK5 := zH (HX3.out.appendL (x := ⟨o.key, [], 0, nb⟩) (U := .slice none 0 0) hg4 (show w4.ownsRow B 40 4 v4 (ps.length + 1) (ecs ps ++ (entc ⟨o.key, [], 0, nb⟩ (.slice none 0 0)).toList) from hown4) (Bts.nil _ _ _))
  obtain ⟨A4, lc, rfl, hc4, _⟩ := own_form hown4
  have HA4 := zH hc4
  have HC5 := zH (HK5.out.1 HC3.out (by decide))
  clear hown4 hg4 hat4 hc4
  refine hF.out _ _ (Till.of trivial ⟨HC5.out, HK5.out.1 HX3.out.box (by decide)⟩) (fun hTill => ?_)
  clear hF F
  try simp only [Act.put, zA, zB, zC]
  refine ts 14 (v := ?_) ?_ ?_
  rotate_left 1
  ·intro W hSw
   skip
   clear hSw
   go_simp
   try with_reducible rfl
  try dsimp only [zS, zB, zC]
  clear hTill
  intro hTill
  refine ts 15 (v := ?_) ?_ ?_
  rotate_left 1
  ·intro W hSw
   skip
   clear hSw
   go_simp
   try with_reducible rfl
  try dsimp only [zS, zB, zC]
  clear hTill
  intro hTill
  have x7 := HC5.out.cell 7 _ HC7.out
  have f7 := HC5.out.frozen 7
  refine wpTill.only (i := 16) (o := ⟨_, _, _, _, _, _⟩) (by kernel_rfl) rfl (fun F hF => ?_)
  go_simp
  have HX6 := zH HK5.out.2
  refine hF.out _ _ (Till.stored trivial (by kernel_rfl)) (fun hTill => ?_)
  clear hF F x7 f7
  try simp only [Act.put, zA, zB, zC]
  refine wpTill.done (by kernel_rfl) ?_
  try refine NoPanic.normal ?_
  clear hTill HK5 HC5 HC3 HC6 HC7 HCs HX3 HY3 HXd HX1
  generalize World.setCell _ _ _ = W6 at HX6 ⊢
  have x7 : W6.cell? ⟨g, 7, none⟩ = some (.slice A4 (ps.length + 1) lc) := HX6.out.k.cell 7 (by omega)
  go_upto_region 9 with fail
  dsimp only at HX6
  obtain ⟨j, hj⟩ : ∃ j, ps.length = j := ⟨_, rfl⟩
  obtain ⟨ps1, hps1⟩ : ∃ ps1, ps ++ [((⟨o.key, [], 0, nb⟩ : EntV), Value.slice none 0 0)] = ps1 := ⟨_, rfl⟩
  obtain ⟨s1, hs1⟩ : ∃ s1 : PJ, { cfg := s.cfg, now := s.now, births := nb, L := s.L ++ [⟨o.key, [], 0, nb⟩], U := s.U, pl := s.pl } = s1 := ⟨_, rfl⟩
  have hl1 : j + 1 = ps1.length := by rw [← hps1, ← hj]; simp
  have hJ : ps1[j]? = some ((⟨o.key, [], 0, nb⟩ : EntV), Value.slice none 0 0) := by rw [← hps1, ← hj]; simp
  rw [hs1, hps1, hj, hl1] at HX6
  rw [hj, hl1] at HA4
  rw [hj, hl1] at x7 ⊢
  have HJ := zH hJ
  obtain ⟨vU1, hvU1⟩ : ∃ vU1, vU1 = vU := ⟨_, rfl⟩
  rw [← hvU1] at HX6
  have HIl : Hid (j < ps1.length) := zH (by omega)
  have HLc : Hid (ps1.length ≤ lc) := zH HA4.out
  have hjI : (j : Int) < (ps1.length : Int) := by omega
  have hlcI : (ps1.length : Int) ≤ (lc : Int) := by have := HA4.out; omega
  have HN1 : Hid (ps1.length ≤ 100000) := zH (by have := HP.out.n; omega)
  have HUn : Hid (s1.U.length ≤ 100000) := zH (by rw [← hs1]; have := HP.out.u; dsimp only; omega)
  obtain ⟨gL, rfl⟩ : ∃ gL, A4 = some ⟨gL, 0, none⟩ := by
   rcases HX6.out.k.L.2 with ⟨_, h0⟩ | ⟨q, c, cur, eq, _⟩
   ·omega
   ·injection eq with eq _ _
    exact ⟨q, eq⟩
  obtain ⟨s9, hs9⟩ : ∃ s9, effP s o 0 = s9 := ⟨_, rfl⟩
  have H9n : Hid (useP { s1 with L := s1.L.set j ⟨o.key, o.val, neverT, nb⟩ } nb = s9) := zH (by
   rw [← hs1, ← hs9, HEf.out]
   dsimp only
   have e1 : j = s.L.length := by rw [← hj, ← HP.out.k.map, List.length_map]
   rw [e1, ← HNb.out]
   exact set_none_eq HFn.out HNu.out _ _)
  have HS := zH hs9
  clear hl1 hJ hj hps1 hs1 hvU1 hs9 hnI x7 HA4 HNb
  have hj0 : True := trivial
  obtain ⟨i0, hi0, hz0, hz1, hz2⟩ := info_parts u8_info
  refine wp_region_noPanic ?_
  have HXd := zH (EfX.adv HX6.out (zL _ _).drew)
  have HBd : Hid (Below W6.heap.size W6 W6.drew) := zH (zL _ _).drew
  refine wp_region_till [15] (fun W => EfX w W B g (.slice (some ⟨gL, 0, none⟩) ps1.length lc) vU1 pv s1 ps1 o (.slice A o.val.length c)) (fun _ => True) (by kernel_rfl) trivial HXd.out (fun hTill => ?_)
  generalize W6.drew = W7 at HXd HBd hTill ⊢
  refine Pl.go [0, 1, 2, 3] ?_
  iterate 4
   refine ttl (v := ?_) ?_ ?_
   rotate_left 1
   ·intro W hSw
    obtain ⟨z0, z2, z3, z4, z7⟩ := op_cells' hSw.2.box; have x7 : W.cell? ⟨g, 7, none⟩ = some (.slice (some ⟨gL, 0, none⟩) ps1.length lc) := hSw.2.k.cell 7 (by omega); obtain ⟨y0, y1, y2, y3⟩ := hSw.2.k.entAt HJ.out; dsimp only at y0 y1 y2 y3
    clear hSw
    go_simp
    try with_reducible rfl
   try dsimp only [zS, zB, zC]
   clear hTill
   intro hTill
  refine Pl.stop ?_
  refine Pl.go [5, 6, 7, 8, 9, 10, 11, 12] ?_
  iterate 8
   refine ttl (v := ?_) ?_ ?_
   rotate_left 1
   ·intro W hSw
    obtain ⟨z0, z2, z3, z4, z7⟩ := op_cells' hSw.2.box; have x7 : W.cell? ⟨g, 7, none⟩ = some (.slice (some ⟨gL, 0, none⟩) ps1.length lc) := hSw.2.k.cell 7 (by omega); obtain ⟨y0, y1, y2, y3⟩ := hSw.2.k.entAt HJ.out; dsimp only at y0 y1 y2 y3
    clear hSw
    go_simp
    try with_reducible rfl
   try dsimp only [zS, zB, zC]
   clear hTill
   intro hTill
  refine Pl.stop ?_
  have HV7 : Hid (Bts W7 Bv 5 (.slice A o.val.length c) o.val) := zH (HVk.out W7 HXd.out.only)
  have HB7 : Hid (B ≤ W7.heap.size) := zH (Nat.le_trans HP.out.hB HXd.out.only.size)
  generalize hxd : (18446744073709551615 : Int) = xn
  have HXd2 : Hid (neverT = xn) := zH hxd
  clear hxd
  refine wpTill.two (i := 4) (j := 14) (o := ⟨_, _, _, _, _, _⟩) (o2 := ⟨_, _, _, _, _, _⟩) (by kernel_rfl) rfl rfl (fun F hF => ?_) (fun F hF => ?_)
  ·refine step_append_src _ rfl (.const (.slice none 0 0)) (.tmp 55) 37 rfl W7.heap.size 5 i0 _ 1 1 Tryz.underlying37 hi0 hz0 hz1 hz2 rfl (by decide) _ 0 [] rfl (World.ownsRow_nil _ _ _ _) A o.val.length c (bcells o.val) rfl (Bts.src_at HV7.out).2 (bcells_one _) (by have := HVl.out; unfold maxLen; omega) (by have := HVl.out; omega) (zN _) ?_
   intro v8 w8 hown8 hg8 hat8
   rw [Nat.zero_add, List.nil_append] at hown8
   have HX8 := zH (HXd.out.adv (below_grown hg8))
   have HB8 := zH (HBd.out.trans ((below_grown hg8).mono HBd.out.size))
   have HO8 := zH hown8
   obtain ⟨A8, c8, rfl, _, _⟩ := own_form hown8
   clear hown8 hg8 hat8
   refine hF.out _ _ (Till.of trivial HX8.out) (fun hTill => ?_)
   clear hF F
   try simp only [Act.put, zA, zB, zC]
   refine ts 13 (v := ?_) ?_ ?_
   rotate_left 1
   ·intro W hSw
    skip
    clear hSw
    go_simp
    try with_reducible rfl
   try dsimp only [zS, zB, zC]
   clear hTill
   intro hTill
   refine wpTill.only (i := 14) (o := ⟨_, _, _, _, _, _⟩) (by kernel_rfl) rfl (fun F hF => ?_)
   go_simp
   have HX9 := zH (HX8.out.adv ((zL _ _).alloc (zN _) (.cells #[.string ⟨#[]⟩, .slice none 0 0, .int .u64 0, .int .u64 0] 40)))
   have HB9 := zH (HB8.out.alloc HB8.out.size (.cells #[.string ⟨#[]⟩, .slice none 0 0, .int .u64 0, .int .u64 0] 40))
   have HO9 := zH (own_later' HO8.out ((zL _ _).alloc (zN _) (.cells #[.string ⟨#[]⟩, .slice none 0 0, .int .u64 0, .int .u64 0] 40)))
   have HZ9 := zH (Blk.new w8 40 #[.string ⟨#[]⟩, .slice none 0 0, .int .u64 0, .int .u64 0])
   have HG9 : Hid (W6.heap.size ≤ w8.heap.size) := zH HB8.out.size
   refine hF.out _ _ (Till.of trivial HX9.out) (fun hTill => ?_)
   clear hF F
   try simp only [Act.put, zA, zB, zC]
   generalize w8.heap.size = gx at HZ9 HG9 ⊢
   generalize w8.alloc _ = w9 at HX9 HB9 HO9 HZ9 ⊢
   have c0 := HZ9.out.cell 0 _ rfl
   have c1 := HZ9.out.cell 1 _ rfl
   have c2 := HZ9.out.cell 2 _ rfl
   have c3 := HZ9.out.cell 3 _ rfl
   have cf := HZ9.out.frozen
   refine wpTill.only (i := 15) (o := ⟨_, _, _, _, _, _⟩) (by kernel_rfl) rfl (fun F hF => ?_)
   go_simp
   refine hF.out _ _ (Till.stored trivial (by kernel_rfl)) (fun hTill => ?_)
   clear hF F
   try simp only [Act.put, zA, zB, zC]
   refine wpTill.done (by kernel_rfl) ?_
   try refine NoPanic.normal ?_
   have HBx : Hid (Blk ((((w9.setCell ⟨gx, 0, none⟩ (.string o.key)).setCell ⟨gx, 1, none⟩ (.slice A8 o.val.length c8)).setCell ⟨gx, 2, none⟩ (.int .u64 xn)).setCell ⟨gx, 3, none⟩ (.int .u64 nb)) gx 40 (entc ⟨o.key, o.val, xn, nb⟩ (.slice A8 o.val.length c8))) := zH ((((HZ9.out.set_ 0 _).set_ 1 _).set_ 2 _).set_ 3 _)
   have HB10 : Hid (Below W6.heap.size W6 ((((w9.setCell ⟨gx, 0, none⟩ (.string o.key)).setCell ⟨gx, 1, none⟩ (.slice A8 o.val.length c8)).setCell ⟨gx, 2, none⟩ (.int .u64 xn)).setCell ⟨gx, 3, none⟩ (.int .u64 nb))) := zH ((((HB9.out.setCell (p := ⟨gx, 0, none⟩) HG9.out _).setCell (p := ⟨gx, 1, none⟩) HG9.out _).setCell (p := ⟨gx, 2, none⟩) HG9.out _).setCell (p := ⟨gx, 3, none⟩) HG9.out _)
   have HVx0 : Hid (Bts ((((w9.setCell ⟨gx, 0, none⟩ (.string o.key)).setCell ⟨gx, 1, none⟩ (.slice A8 o.val.length c8)).setCell ⟨gx, 2, none⟩ (.int .u64 xn)).setCell ⟨gx, 3, none⟩ (.int .u64 nb)) B 5 (.slice A8 o.val.length c8) o.val) := zH ((Bts.of_own HO9.out B).keep (KeepB.of_blk HZ9.out (by decide) (by have := HG9.out; have := HX6.out.only.size; have := HP.out.hB; omega) ((((Only.set1 _ _ _ _).setCell (S := fun k => k = gx) (p := ⟨gx, 1, none⟩) (.inl rfl) _).setCell (p := ⟨gx, 2, none⟩) (.inl rfl) _).setCell (p := ⟨gx, 3, none⟩) (.inl rfl) _)))
   clear c0 c1 c2 c3 cf hTill HZ9 HO9 HB9 HX9
   generalize World.setCell _ _ _ = w10 at HBx HB10 HVx0 ⊢
   have HX10 := zH (HX6.out.adv HB10.out)
   obtain ⟨z0, z2, z3, z4, z7⟩ := op_cells' HX10.out.box
   clear hj0
   go_upto_region 12 with fail
   have HLt : Hid (g < gx) := zH (by have := HG9.out; have := HX6.out.only.size; have := HX6.out.lt; omega)
   have HNx : Hid (gx ≠ g) := zH (fun h => by have := HLt.out; omega)
   have HLy : Hid (LyX w w10 w10 B g (.slice (some ⟨gL, 0, none⟩) ps1.length lc) vU1 pv s1 ps1 o (.slice A o.val.length c) gx ⟨o.key, o.val, xn, nb⟩ (.slice A8 o.val.length c8)) := zH ⟨HX10.out, HBx.out, zL _ _⟩
   have H9 : Hid (useP { s1 with L := s1.L.set j ⟨o.key, o.val, xn, nb⟩ } nb = s9) := zH (HXd2.out ▸ H9n.out)
   have HVx := zH HVx0.out
   clear HBx HB10 HVx0 HX10 H9n HXd2 z0 z2 z3 z4 z7
   obtain ⟨w2, hw2⟩ : ∃ w2, w2 = w10 := ⟨_, rfl⟩
   subst hw2
   refine wp_region_noPanic ?_
   have HLd := zH (HLy.out.adv (zL _ _).drew)
   refine wp_region_till [21] (fun W => LyX w w2 W B g (.slice (some ⟨gL, 0, none⟩) ps1.length lc) vU1 pv s1 ps1 o (.slice A o.val.length c) gx ⟨o.key, o.val, xn, nb⟩ (.slice A8 (o.val).length c8)) (fun _ => True) (by kernel_rfl) trivial HLd.out (fun hTill => ?_)
   generalize w2.drew = w3 at HLd hTill ⊢
   have hj1 : j ≤ lc := by have := HIl.out; have := HLc.out; omega
   have hj2 : j + 1 ≤ ps1.length := HIl.out
   have hj3 : ps1.length ≤ lc := HLc.out
   have hj4 : j + 1 ≤ lc := by omega
   have HWr : Hid (IntKind.i64.wrap ((j : Int) + 1) = (j : Int) + 1 ∧ ((j : Int) + 1).toNat = j + 1) := zH ⟨by rw [IntKind.wrap_i64 _]; have := HN1.out; omega, by omega⟩
   have hj6 : (0 : Int) ≤ (j : Int) + 1 := by omega
   have hj5 : (j : Int) + 1 ≤ (ps1.length : Int) := by omega
   refine Pl.go [0, 1, 2, 3] ?_
   iterate 4
    refine tsl (v := ?_) ?_ ?_
    rotate_left 1
    ·intro W hSw
     skip
     clear hSw
     go_simp
     try with_reducible rfl
    try dsimp only [zS, zB, zC]
    clear hTill
    intro hTill
   refine Pl.stop ?_
   refine tt 4 (v := ?_) ?_ ?_
   rotate_left 1
   ·intro W hSw
    have x7 : W.cell? ⟨g, 7, none⟩ = some (.slice (some ⟨gL, 0, none⟩) ps1.length lc) := hSw.2.e.k.cell 7 (by omega); obtain ⟨c0, c1, c2, c3⟩ := ent_cells hSw.2.x
    clear hSw
    go_simp
    try with_reducible rfl
   try dsimp only [zS, zB, zC]
   clear hTill
   intro hTill
   refine Pl.go [5, 6] ?_
   iterate 2
    refine tsl (v := ?_) ?_ ?_
    rotate_left 1
    ·intro W hSw
     skip
     clear hSw
     go_simp
     try with_reducible rfl
    try dsimp only [zS, zB, zC]
    clear hTill
    intro hTill
   refine Pl.stop ?_
   refine tt 8 (v := ?_) ?_ ?_
   rotate_left 1
   ·intro W hSw
    have x7 : W.cell? ⟨g, 7, none⟩ = some (.slice (some ⟨gL, 0, none⟩) ps1.length lc) := hSw.2.e.k.cell 7 (by omega); obtain ⟨c0, c1, c2, c3⟩ := ent_cells hSw.2.x
    clear hSw
    go_simp
    try with_reducible rfl
   try dsimp only [zS, zB, zC]
   clear hTill
   intro hTill
   refine Pl.go [11, 12, 13] ?_
   iterate 3
    refine tsl (v := ?_) ?_ ?_
    rotate_left 1
    ·intro W hSw
     skip
     clear hSw
     go_simp
     try with_reducible rfl
    try dsimp only [zS, zB, zC]
    clear hTill
    intro hTill
   refine Pl.stop ?_
   refine tt 14 (v := ?_) ?_ ?_
   rotate_left 1
   ·intro W hSw
    have x7 : W.cell? ⟨g, 7, none⟩ = some (.slice (some ⟨gL, 0, none⟩) ps1.length lc) := hSw.2.e.k.cell 7 (by omega); obtain ⟨c0, c1, c2, c3⟩ := ent_cells hSw.2.x
    clear hSw
    go_simp
    try with_reducible rfl
   try dsimp only [zS, zB, zC]
   clear hTill
   intro hTill
   refine ts 15 (v := ?_) ?_ ?_
   rotate_left 1
   ·intro W hSw
    skip
    clear hSw
    go_simp
    try with_reducible rfl
   try dsimp only [zS, zB, zC]
   clear hTill
   intro hTill
   refine ts 16 (v := ?_) ?_ ?_
   rotate_left 1
   ·intro W hSw
    have hwr := HWr.out.1
    clear hSw
    go_simp
    try with_reducible rfl
   try dsimp only [zS, zB, zC]
   clear hTill
   intro hTill
   refine ts 17 (v := ?_) ?_ ?_
   rotate_left 1
   ·intro W hSw
    have hwr := HWr.out.2
    clear hSw
    go_simp
    try with_reducible rfl
   try dsimp only [zS, zB, zC]
   clear hTill
   intro hTill
   have HSa : Hid (∀ W, KRep W B g (.slice (some ⟨gL, 0, none⟩) ps1.length lc) vU1 pv s1 ps1 → Src W 4 (some ⟨gL, 0, none⟩) j (ecs (ps1.take j))) := zH (fun W hW => by
    have := row_src hW.L rfl 0 j (by omega)
    rwa [List.drop_zero, Nat.zero_mul] at this)
   have HSb : Hid (∀ W, KRep W B g (.slice (some ⟨gL, 0, none⟩) ps1.length lc) vU1 pv s1 ps1 → Src W 4 (if lc = j + 1 then (some ⟨gL, 0, none⟩ : Option Addr) else some ⟨gL, (j + 1) * 4, none⟩) (ps1.length - (j + 1)) (ecs (ps1.drop (j + 1)))) := zH (fun W hW => by
    split
    ·rename_i hl
     have e0 : ps1.length - (j + 1) = 0 := by omega
     have e1 : ps1.drop (j + 1) = [] := List.drop_eq_nil_of_le (by omega)
     rw [e0, e1]
     exact ⟨rfl, (fun _ => rfl), fun q _ j u hu => by simp [ecs] at hu⟩
    ·have := row_src hW.L rfl (j + 1) (ps1.length - (j + 1)) (by omega)
     rw [List.take_of_length_le (by rw [List.length_drop]; exact zN _)] at this
     exact this)
   have HOn : Hid (∀ qs : List (EntV × Value), (∀ q ∈ qs, q ∈ ps1) → ∀ u ∈ ecs qs, u.oneCell' = true) := zH (fun qs hq => ecs_one qs (fun q hm => by
    obtain ⟨A, c, e⟩ := (HLy.out.e.k.vals q (hq q hm)).form
    exact ⟨A, _, c, e⟩))
   generalize (if lc = j + 1 then (some ⟨gL, 0, none⟩ : Option Addr) else some ⟨gL, (j + 1) * 4, none⟩) = A14 at HSb ⊢
   have HB3 : Hid (B ≤ w3.heap.size) := zH (Nat.le_trans HP.out.hB HLd.out.e.only.size)
   clear hj1 hj2 hj3 hj4 hj5 hj6 HWr
   refine wpTill.two (i := 7) (j := 9) (o := ⟨_, _, _, _, _, _⟩) (o2 := ⟨_, _, _, _, _, _⟩) (by kernel_rfl) rfl rfl (fun F hF => ?_) (fun F hF => ?_)
   ·refine step_append_src _ rfl (.const (.slice none 0 0)) (.tmp 80) 33 rfl w3.heap.size 40 ti _ 4 56 Tryz.underlying33 kti zt0 zt1 zt2 rfl (by decide) _ 0 [] rfl (World.ownsRow_nil _ _ _ _) (some ⟨gL, 0, none⟩) j lc (ecs (ps1.take j)) rfl (HSa.out _ HLd.out.e.k) (HOn.out _ (fun q hq => List.mem_of_mem_take hq)) (by have := HIl.out; have := HN1.out; unfold maxLen; omega) (by have := HIl.out; have := HN1.out; omega) (zN _) ?_
    intro v7 w7 hown7 hg7 hat7
    have hb7 : Below w3.heap.size w3 w7 := (zL _ _).grown hg7 (zN _) (fun k hk => by cases hk)
    have HL7 := zH (HLd.out.adv hb7)
    rw [Nat.zero_add, List.nil_append] at hown7
    have HO7 := zH hown7
    have HB7 := zH hb7
    obtain ⟨A7, c7, rfl, _, _⟩ := own_form hown7
    clear hown7 hg7 hat7 hb7
    refine hF.out _ _ (Till.of trivial HL7.out) (fun hTill => ?_)
    clear hF F
    try simp only [Act.put, zA, zB, zC]
    refine wpTill.only (i := 9) (o := ⟨_, _, _, _, _, _⟩) (by kernel_rfl) rfl (fun F hF => ?_)
    go_simp
    have HL9 := zH (HL7.out.adv ((zL _ _).alloc (zN _) (.cells #[.string o.key, .slice A8 (o.val).length c8, .int .u64 xn, .int .u64 nb] 40)))
    have HO9 := zH (own_later' HO7.out ((zL _ _).alloc (zN _) (.cells #[.string o.key, .slice A8 (o.val).length c8, .int .u64 xn, .int .u64 nb] 40)))
    have HB9 := zH (HB7.out.alloc HB7.out.size (.cells #[.string o.key, .slice A8 (o.val).length c8, .int .u64 xn, .int .u64 nb] 40))
    have HX9 := zH (Blk.new w7 40 #[.string o.key, .slice A8 (o.val).length c8, .int .u64 xn, .int .u64 nb])
    refine hF.out _ _ (Till.of trivial HL9.out) (fun hTill => ?_)
    clear hF F
    try simp only [Act.put, zA, zB, zC]
    generalize hw9 : w7.alloc _ = w9 at HL9 HO9 HB9 HX9 ⊢
    clear hw9
    generalize w7.heap.size = gB at HX9 ⊢
    refine wpTill.only (i := 10) (o := ⟨_, _, _, _, _, _⟩) (by kernel_rfl) rfl (fun F hF => ?_)
    refine step_append_src _ rfl (.tmp 81) (.tmp 83) 33 rfl w3.heap.size 40 ti _ 4 56 Tryz.underlying33 kti zt0 zt1 zt2 rfl (by decide) _ j (ecs (ps1.take j)) rfl HO9.out (some ⟨gB, 0, none⟩) 1 1 (entc ⟨o.key, o.val, xn, nb⟩ (.slice A8 (o.val).length c8)).toList rfl (src_blk HX9.out) (by intro u hu; simp [entc] at hu; rcases hu with rfl | rfl | rfl | rfl <;> rfl) (by have := HIl.out; have := HN1.out; unfold maxLen; omega) (by have := HIl.out; have := HN1.out; omega) HB9.out.size ?_
    intro v10 w10 hown10 hg10 hat10
    have hb10 : Below w3.heap.size w3 w10 := HB9.out.grown hg10 HB9.out.size (fun k hk => (row_heap' HO9.out hk).1)
    have HL10 := zH (HLd.out.adv hb10)
    have HO10 := zH hown10
    have HB10 := zH hb10
    obtain ⟨A10, c10, rfl, _, _⟩ := own_form hown10
    clear hown10 hg10 hat10 hb10 HX9 HB9 HO9 HL9
    refine hF.out _ _ (Till.of trivial HL10.out) (fun hTill => ?_)
    clear hF F
    try simp only [Act.put, zA, zB, zC]
    refine wpTill.only (i := 18) (o := ⟨_, _, _, _, _, _⟩) (by kernel_rfl) rfl (fun F hF => ?_)
    refine step_append_src _ rfl (.tmp 84) (.tmp 91) 33 rfl w3.heap.size 40 ti _ 4 56 Tryz.underlying33 kti zt0 zt1 zt2 rfl (by decide) _ (j + 1) (ecs (ps1.take j) ++ (entc ⟨o.key, o.val, xn, nb⟩ (.slice A8 (o.val).length c8)).toList) rfl HO10.out A14 (ps1.length - (j + 1)) (lc - (j + 1)) (ecs (ps1.drop (j + 1))) rfl (HSb.out _ HL10.out.e.k) (HOn.out _ (fun q hq => List.mem_of_mem_drop hq)) (by have := HIl.out; have := HN1.out; unfold maxLen; omega) (by have := HIl.out; have := HN1.out; omega) HB10.out.size ?_
    intro v11 w11 hown11 hg11 hat11
    have hb11 : Below w3.heap.size w3 w11 := HB10.out.grown hg11 HB10.out.size (fun k hk => (row_heap' HO10.out hk).1)
    have HL11 := zH (HLd.out.adv hb11)
    have HO11 : Hid (w11.ownsRow B 40 4 v11 ps1.length (ecs (ps1.set j (⟨o.key, o.val, xn, nb⟩, .slice A8 (o.val).length c8)))) := zH (by
     have h := ownsRow_base hown11 HB3.out
     rw [← ecs_set _ _ _ _ HIl.out] at h
     have e : j + 1 + (ps1.length - (j + 1)) = ps1.length := by have := HIl.out; omega
     rw [e] at h
     exact h)
    obtain ⟨A11, c11, rfl, _, _⟩ := own_form HO11.out
    clear hown11 hg11 hat11 hb11 HL10 HO10 HB10
    refine hF.out _ _ (Till.of trivial HL11.out) (fun hTill => ?_)
    clear hF F
    try simp only [Act.put, zA, zB, zC]
    refine ts 19 (v := ?_) ?_ ?_
    rotate_left 1
    ·intro W hSw
     skip
     clear hSw
     go_simp
     try with_reducible rfl
    try dsimp only [zS, zB, zC]
    clear hTill
    intro hTill
    refine ts 20 (v := ?_) ?_ ?_
    rotate_left 1
    ·intro W hSw
     skip
     clear hSw
     go_simp
     try with_reducible rfl
    try dsimp only [zS, zB, zC]
    clear hTill
    intro hTill
    have x7 : w11.cell? ⟨g, 7, none⟩ = some (.slice (some ⟨gL, 0, none⟩) ps1.length lc) := HL11.out.e.k.cell 7 (by omega)
    have f7 := HL11.out.e.k.frozen 7
    refine wpTill.only (i := 21) (o := ⟨_, _, _, _, _, _⟩) (by kernel_rfl) rfl (fun F hF => ?_)
    go_simp
    have HK12 : Hid (KRep (w11.setCell ⟨g, 7, none⟩ (.slice A11 ps1.length c11)) B g (.slice A11 ps1.length c11) vU1 pv { s1 with L := s1.L.set j ⟨o.key, o.val, xn, nb⟩ } (ps1.set j (⟨o.key, o.val, xn, nb⟩, .slice A8 (o.val).length c8))) := zH (by
     refine HL11.out.e.k.setL (by rw [List.length_set]; exact HO11.out) ?_ (fun p hp => ?_)
     ·rw [← HL11.out.e.k.map, List.map_set]
     ·rcases List.mem_or_eq_of_mem_set hp with h | h
      ·exact HL11.out.e.k.vals p h
      ·rw [h]; exact HVx.out.below HL11.out.below)
    have HX12 := zH ((HL11.out.e).next HK12.out (Only.set1 _ _ _ _))
    have HXb12 := zH (HL11.out.x.far (p := ⟨g, 7, none⟩) (HNx.out) (.slice A11 ps1.length c11))
    refine hF.out _ _ (Till.stored trivial (by kernel_rfl)) (fun hTill => ?_)
    clear hF F x7 f7
    try simp only [Act.put, zA, zB, zC]
    refine wpTill.done (by kernel_rfl) ?_
    try refine NoPanic.normal ?_
    clear hTill HL11 HLd HK12 HO11
    generalize w11.setCell ⟨g, 7, none⟩ _ = w12 at HX12 HXb12 ⊢
    clear HB3 HSa HSb HOn
    obtain ⟨c0, c1, c2, c3⟩ := ent_cells HXb12.out
    dsimp only at c0 c1 c2 c3
    go_wp2_with fail
    refine (kUse_any B g _ _ pv _ _ nb w12 HX12.out.k HUn.out (Nat.le_trans HP.out.hB HX12.out.only.size)).mono ?_
    rintro e w13 ⟨vU2, rfl, hk13, ho13⟩
    have HX13 := zH (HX12.out.next (H9.out ▸ hk13) ho13)
    clear hk13 ho13 c0 c1 c2 c3 HXb12 HX12
    obtain ⟨z0, z2, z3, z4, z7⟩ := op_cells' HX13.out.box
    go_wp2_with fail
    refine bodyPost_end (v := .tuple #[]) (results_none rfl _ _ _) rfl ?_
    rw [HS.out]
    exact ⟨_, _, _, _, rfl, (HX13).out.k, (HX13).out.only⟩
   ·go_simp
    have HL8 := zH (HLd.out.adv ((zL _ _).alloc (zN _) (.cells #[.string o.key, .slice A8 (o.val).length c8, .int .u64 xn, .int .u64 nb] 40)))
    have HB8 := zH ((zL w3.heap.size w3).alloc (zN _) (.cells #[.string o.key, .slice A8 (o.val).length c8, .int .u64 xn, .int .u64 nb] 40))
    have HX8 := zH (Blk.new w3 40 #[.string o.key, .slice A8 (o.val).length c8, .int .u64 xn, .int .u64 nb])
    refine hF.out _ _ (Till.of trivial HL8.out) (fun hTill => ?_)
    clear hF F
    try simp only [Act.put, zA, zB, zC]
    generalize hw8 : w3.alloc _ = w8 at HL8 HB8 HX8 ⊢
    clear hw8
    refine wpTill.only (i := 7) (o := ⟨_, _, _, _, _, _⟩) (by kernel_rfl) rfl (fun F hF => ?_)
    refine step_append_src _ rfl (.const (.slice none 0 0)) (.tmp 80) 33 rfl w8.heap.size 40 ti _ 4 56 Tryz.underlying33 kti zt0 zt1 zt2 rfl (by decide) _ 0 [] rfl (World.ownsRow_nil _ _ _ _) (some ⟨gL, 0, none⟩) j lc (ecs (ps1.take j)) rfl (HSa.out _ HL8.out.e.k) (HOn.out _ (fun q hq => List.mem_of_mem_take hq)) (by have := HIl.out; have := HN1.out; unfold maxLen; omega) (by have := HIl.out; have := HN1.out; omega) (zN _) ?_
    intro v7 w9 hown7 hg7 hat7
    have hb7 : Below w8.heap.size w8 w9 := (zL _ _).grown hg7 (zN _) (fun k hk => by cases hk)
    have HL9 := zH (HL8.out.adv hb7)
    rw [Nat.zero_add, List.nil_append] at hown7
    have HO9 := zH (ownsRow_base hown7 HB8.out.size)
    have HB9 : Hid (Below w3.heap.size w3 w9) := zH (HB8.out.trans (hb7.mono HB8.out.size))
    have HX9 := zH (HX8.out.below hb7)
    obtain ⟨A7, c7, rfl, _, _⟩ := own_form hown7
    clear hown7 hg7 hat7 hb7 HX8
    refine hF.out _ _ (Till.of trivial HL9.out) (fun hTill => ?_)
    clear hF F
    try simp only [Act.put, zA, zB, zC]
    generalize w3.heap.size = gB at HX9 ⊢
    refine wpTill.only (i := 10) (o := ⟨_, _, _, _, _, _⟩) (by kernel_rfl) rfl (fun F hF => ?_)
    refine step_append_src _ rfl (.tmp 81) (.tmp 83) 33 rfl w3.heap.size 40 ti _ 4 56 Tryz.underlying33 kti zt0 zt1 zt2 rfl (by decide) _ j (ecs (ps1.take j)) rfl HO9.out (some ⟨gB, 0, none⟩) 1 1 (entc ⟨o.key, o.val, xn, nb⟩ (.slice A8 (o.val).length c8)).toList rfl (src_blk HX9.out) (by intro u hu; simp [entc] at hu; rcases hu with rfl | rfl | rfl | rfl <;> rfl) (by have := HIl.out; have := HN1.out; unfold maxLen; omega) (by have := HIl.out; have := HN1.out; omega) HB9.out.size ?_
    intro v10 w10 hown10 hg10 hat10
    have hb10 : Below w3.heap.size w3 w10 := HB9.out.grown hg10 HB9.out.size (fun k hk => (row_heap' HO9.out hk).1)
    have HL10 := zH (HLd.out.adv hb10)
    have HO10 := zH hown10
    have HB10 := zH hb10
    obtain ⟨A10, c10, rfl, _, _⟩ := own_form hown10
    clear hown10 hg10 hat10 hb10 HX9 HB9 HO9 HL9
    refine hF.out _ _ (Till.of trivial HL10.out) (fun hTill => ?_)
    clear hF F
    try simp only [Act.put, zA, zB, zC]
    refine wpTill.only (i := 18) (o := ⟨_, _, _, _, _, _⟩) (by kernel_rfl) rfl (fun F hF => ?_)
    refine step_append_src _ rfl (.tmp 84) (.tmp 91) 33 rfl w3.heap.size 40 ti _ 4 56 Tryz.underlying33 kti zt0 zt1 zt2 rfl (by decide) _ (j + 1) (ecs (ps1.take j) ++ (entc ⟨o.key, o.val, xn, nb⟩ (.slice A8 (o.val).length c8)).toList) rfl HO10.out A14 (ps1.length - (j + 1)) (lc - (j + 1)) (ecs (ps1.drop (j + 1))) rfl (HSb.out _ HL10.out.e.k) (HOn.out _ (fun q hq => List.mem_of_mem_drop hq)) (by have := HIl.out; have := HN1.out; unfold maxLen; omega) (by have := HIl.out; have := HN1.out; omega) HB10.out.size ?_
    intro v11 w11 hown11 hg11 hat11
    have hb11 : Below w3.heap.size w3 w11 := HB10.out.grown hg11 HB10.out.size (fun k hk => (row_heap' HO10.out hk).1)
    have HL11 := zH (HLd.out.adv hb11)
    have HO11 : Hid (w11.ownsRow B 40 4 v11 ps1.length (ecs (ps1.set j (⟨o.key, o.val, xn, nb⟩, .slice A8 (o.val).length c8)))) := zH (by
     have h := ownsRow_base hown11 HB3.out
     rw [← ecs_set _ _ _ _ HIl.out] at h
     have e : j + 1 + (ps1.length - (j + 1)) = ps1.length := by have := HIl.out; omega
     rw [e] at h
     exact h)
    obtain ⟨A11, c11, rfl, _, _⟩ := own_form HO11.out
    clear hown11 hg11 hat11 hb11 HL10 HO10 HB10
    refine hF.out _ _ (Till.of trivial HL11.out) (fun hTill => ?_)
    clear hF F
    try simp only [Act.put, zA, zB, zC]
    refine ts 19 (v := ?_) ?_ ?_
    rotate_left 1
    ·intro W hSw
     skip
     clear hSw
     go_simp
     try with_reducible rfl
    try dsimp only [zS, zB, zC]
    clear hTill
    intro hTill
    refine ts 20 (v := ?_) ?_ ?_
    rotate_left 1
    ·intro W hSw
     skip
     clear hSw
     go_simp
     try with_reducible rfl
    try dsimp only [zS, zB, zC]
    clear hTill
    intro hTill
    have x7 : w11.cell? ⟨g, 7, none⟩ = some (.slice (some ⟨gL, 0, none⟩) ps1.length lc) := HL11.out.e.k.cell 7 (by omega)
    have f7 := HL11.out.e.k.frozen 7
    refine wpTill.only (i := 21) (o := ⟨_, _, _, _, _, _⟩) (by kernel_rfl) rfl (fun F hF => ?_)
    go_simp
    have HK12 : Hid (KRep (w11.setCell ⟨g, 7, none⟩ (.slice A11 ps1.length c11)) B g (.slice A11 ps1.length c11) vU1 pv { s1 with L := s1.L.set j ⟨o.key, o.val, xn, nb⟩ } (ps1.set j (⟨o.key, o.val, xn, nb⟩, .slice A8 (o.val).length c8))) := zH (by
     refine HL11.out.e.k.setL (by rw [List.length_set]; exact HO11.out) ?_ (fun p hp => ?_)
     ·rw [← HL11.out.e.k.map, List.map_set]
     ·rcases List.mem_or_eq_of_mem_set hp with h | h
      ·exact HL11.out.e.k.vals p h
      ·rw [h]; exact HVx.out.below HL11.out.below)
    have HX12 := zH ((HL11.out.e).next HK12.out (Only.set1 _ _ _ _))
    have HXb12 := zH (HL11.out.x.far (p := ⟨g, 7, none⟩) (HNx.out) (.slice A11 ps1.length c11))
    refine hF.out _ _ (Till.stored trivial (by kernel_rfl)) (fun hTill => ?_)
    clear hF F x7 f7
    try simp only [Act.put, zA, zB, zC]
    refine wpTill.done (by kernel_rfl) ?_
    try refine NoPanic.normal ?_
    clear hTill HL11 HLd HK12 HO11
    generalize w11.setCell ⟨g, 7, none⟩ _ = w12 at HX12 HXb12 ⊢
    clear HB3 HSa HSb HOn
    obtain ⟨c0, c1, c2, c3⟩ := ent_cells HXb12.out
    dsimp only at c0 c1 c2 c3
    go_wp2_with fail
    refine (kUse_any B g _ _ pv _ _ nb w12 HX12.out.k HUn.out (Nat.le_trans HP.out.hB HX12.out.only.size)).mono ?_
    rintro e w13 ⟨vU2, rfl, hk13, ho13⟩
    have HX13 := zH (HX12.out.next (H9.out ▸ hk13) ho13)
    clear hk13 ho13 c0 c1 c2 c3 HXb12 HX12
    obtain ⟨z0, z2, z3, z4, z7⟩ := op_cells' HX13.out.box
    go_wp2_with fail
    refine bodyPost_end (v := .tuple #[]) (results_none rfl _ _ _) rfl ?_
    rw [HS.out]
    exact ⟨_, _, _, _, rfl, (HX13).out.k, (HX13).out.only⟩
  ·go_simp
   have HX8 := zH (HXd.out.adv ((zL _ _).alloc (zN _) (.cells #[.string ⟨#[]⟩, .slice none 0 0, .int .u64 0, .int .u64 0] 40)))
   have HB8 := zH (HBd.out.alloc HBd.out.size (.cells #[.string ⟨#[]⟩, .slice none 0 0, .int .u64 0, .int .u64 0] 40))
   have HZ8 := zH (Blk.new W7 40 #[.string ⟨#[]⟩, .slice none 0 0, .int .u64 0, .int .u64 0])
   have HV8 := zH (HV7.out.alloc (.cells #[.string ⟨#[]⟩, .slice none 0 0, .int .u64 0, .int .u64 0] 40))
   have HG9 : Hid (W6.heap.size ≤ W7.heap.size) := zH HBd.out.size
   have HG8 : Hid (W7.heap.size ≤ (W7.alloc (.cells #[.string ⟨#[]⟩, .slice none 0 0, .int .u64 0, .int .u64 0] 40)).heap.size) := zH (by simp)
   refine hF.out _ _ (Till.of trivial HX8.out) (fun hTill => ?_)
   clear hF F
   try simp only [Act.put, zA, zB, zC]
   generalize W7.alloc _ = w8 at HX8 HB8 HZ8 HV8 HG8 ⊢
   refine wpTill.only (i := 4) (o := ⟨_, _, _, _, _, _⟩) (by kernel_rfl) rfl (fun F hF => ?_)
   refine step_append_src _ rfl (.const (.slice none 0 0)) (.tmp 55) 37 rfl w8.heap.size 5 i0 _ 1 1 Tryz.underlying37 hi0 hz0 hz1 hz2 rfl (by decide) _ 0 [] rfl (World.ownsRow_nil _ _ _ _) A o.val.length c (bcells o.val) rfl (Bts.src_at HV8.out).2 (bcells_one _) (by have := HVl.out; unfold maxLen; omega) (by have := HVl.out; omega) (zN _) ?_
   intro v8 w9 hown8 hg8 hat8
   rw [Nat.zero_add, List.nil_append] at hown8
   have HX9 := zH (HX8.out.adv (below_grown hg8))
   have HB9 := zH (HB8.out.trans ((below_grown hg8).mono HB8.out.size))
   have HO9 := zH (ownsRow_base hown8 HG8.out)
   have HZ9 := zH (HZ8.out.below (below_grown hg8))
   obtain ⟨A8, c8, rfl, _, _⟩ := own_form hown8
   clear hown8 hg8 hat8 HZ8
   refine hF.out _ _ (Till.of trivial HX9.out) (fun hTill => ?_)
   clear hF F
   try simp only [Act.put, zA, zB, zC]
   refine ts 13 (v := ?_) ?_ ?_
   rotate_left 1
   ·intro W hSw
    skip
    clear hSw
    go_simp
    try with_reducible rfl
   try dsimp only [zS, zB, zC]
   clear hTill
   intro hTill
   generalize W7.heap.size = gx at HZ9 HG9 ⊢
   have c0 := HZ9.out.cell 0 _ rfl
   have c1 := HZ9.out.cell 1 _ rfl
   have c2 := HZ9.out.cell 2 _ rfl
   have c3 := HZ9.out.cell 3 _ rfl
   have cf := HZ9.out.frozen
   refine wpTill.only (i := 15) (o := ⟨_, _, _, _, _, _⟩) (by kernel_rfl) rfl (fun F hF => ?_)
   go_simp
   refine hF.out _ _ (Till.stored trivial (by kernel_rfl)) (fun hTill => ?_)
   clear hF F
   try simp only [Act.put, zA, zB, zC]
   refine wpTill.done (by kernel_rfl) ?_
   try refine NoPanic.normal ?_
   have HBx : Hid (Blk ((((w9.setCell ⟨gx, 0, none⟩ (.string o.key)).setCell ⟨gx, 1, none⟩ (.slice A8 o.val.length c8)).setCell ⟨gx, 2, none⟩ (.int .u64 xn)).setCell ⟨gx, 3, none⟩ (.int .u64 nb)) gx 40 (entc ⟨o.key, o.val, xn, nb⟩ (.slice A8 o.val.length c8))) := zH ((((HZ9.out.set_ 0 _).set_ 1 _).set_ 2 _).set_ 3 _)
   have HB10 : Hid (Below W6.heap.size W6 ((((w9.setCell ⟨gx, 0, none⟩ (.string o.key)).setCell ⟨gx, 1, none⟩ (.slice A8 o.val.length c8)).setCell ⟨gx, 2, none⟩ (.int .u64 xn)).setCell ⟨gx, 3, none⟩ (.int .u64 nb))) := zH ((((HB9.out.setCell (p := ⟨gx, 0, none⟩) HG9.out _).setCell (p := ⟨gx, 1, none⟩) HG9.out _).setCell (p := ⟨gx, 2, none⟩) HG9.out _).setCell (p := ⟨gx, 3, none⟩) HG9.out _)
   have HVx0 : Hid (Bts ((((w9.setCell ⟨gx, 0, none⟩ (.string o.key)).setCell ⟨gx, 1, none⟩ (.slice A8 o.val.length c8)).setCell ⟨gx, 2, none⟩ (.int .u64 xn)).setCell ⟨gx, 3, none⟩ (.int .u64 nb)) B 5 (.slice A8 o.val.length c8) o.val) := zH ((Bts.of_own HO9.out B).keep (KeepB.of_blk HZ9.out (by decide) (by have := HG9.out; have := HX6.out.only.size; have := HP.out.hB; omega) ((((Only.set1 _ _ _ _).setCell (S := fun k => k = gx) (p := ⟨gx, 1, none⟩) (.inl rfl) _).setCell (p := ⟨gx, 2, none⟩) (.inl rfl) _).setCell (p := ⟨gx, 3, none⟩) (.inl rfl) _)))
   clear c0 c1 c2 c3 cf hTill HZ9 HO9 HB9 HX9
   generalize World.setCell _ _ _ = w10 at HBx HB10 HVx0 ⊢
   have HX10 := zH (HX6.out.adv HB10.out)
   obtain ⟨z0, z2, z3, z4, z7⟩ := op_cells' HX10.out.box
   clear hj0
   go_upto_region 12 with fail
   have HLt : Hid (g < gx) := zH (by have := HG9.out; have := HX6.out.only.size; have := HX6.out.lt; omega)
   have HNx : Hid (gx ≠ g) := zH (fun h => by have := HLt.out; omega)
   have HLy : Hid (LyX w w10 w10 B g (.slice (some ⟨gL, 0, none⟩) ps1.length lc) vU1 pv s1 ps1 o (.slice A o.val.length c) gx ⟨o.key, o.val, xn, nb⟩ (.slice A8 o.val.length c8)) := zH ⟨HX10.out, HBx.out, zL _ _⟩
   have H9 : Hid (useP { s1 with L := s1.L.set j ⟨o.key, o.val, xn, nb⟩ } nb = s9) := zH (HXd2.out ▸ H9n.out)
   have HVx := zH HVx0.out
   clear HBx HB10 HVx0 HX10 H9n HXd2 z0 z2 z3 z4 z7
   obtain ⟨w2, hw2⟩ : ∃ w2, w2 = w10 := ⟨_, rfl⟩
   subst hw2
   refine wp_region_noPanic ?_
   have HLd := zH (HLy.out.adv (zL _ _).drew)
   refine wp_region_till [21] (fun W => LyX w w2 W B g (.slice (some ⟨gL, 0, none⟩) ps1.length lc) vU1 pv s1 ps1 o (.slice A o.val.length c) gx ⟨o.key, o.val, xn, nb⟩ (.slice A8 (o.val).length c8)) (fun _ => True) (by kernel_rfl) trivial HLd.out (fun hTill => ?_)
   generalize w2.drew = w3 at HLd hTill ⊢
   have hj1 : j ≤ lc := by have := HIl.out; have := HLc.out; omega
   have hj2 : j + 1 ≤ ps1.length := HIl.out
   have hj3 : ps1.length ≤ lc := HLc.out
   have hj4 : j + 1 ≤ lc := by omega
   have HWr : Hid (IntKind.i64.wrap ((j : Int) + 1) = (j : Int) + 1 ∧ ((j : Int) + 1).toNat = j + 1) := zH ⟨by rw [IntKind.wrap_i64 _]; have := HN1.out; omega, by omega⟩
   have hj6 : (0 : Int) ≤ (j : Int) + 1 := by omega
   have hj5 : (j : Int) + 1 ≤ (ps1.length : Int) := by omega
   refine Pl.go [0, 1, 2, 3] ?_
   iterate 4
    refine tsl (v := ?_) ?_ ?_
    rotate_left 1
    ·intro W hSw
     skip
     clear hSw
     go_simp
     try with_reducible rfl
    try dsimp only [zS, zB, zC]
    clear hTill
    intro hTill
   refine Pl.stop ?_
   refine tt 4 (v := ?_) ?_ ?_
   rotate_left 1
   ·intro W hSw
    have x7 : W.cell? ⟨g, 7, none⟩ = some (.slice (some ⟨gL, 0, none⟩) ps1.length lc) := hSw.2.e.k.cell 7 (by omega); obtain ⟨c0, c1, c2, c3⟩ := ent_cells hSw.2.x
    clear hSw
    go_simp
    try with_reducible rfl
   try dsimp only [zS, zB, zC]
   clear hTill
   intro hTill
   refine Pl.go [5, 6] ?_
   iterate 2
    refine tsl (v := ?_) ?_ ?_
    rotate_left 1
    ·intro W hSw
     skip
     clear hSw
     go_simp
     try with_reducible rfl
    try dsimp only [zS, zB, zC]
    clear hTill
    intro hTill
   refine Pl.stop ?_
   refine tt 8 (v := ?_) ?_ ?_
   rotate_left 1
   ·intro W hSw
    have x7 : W.cell? ⟨g, 7, none⟩ = some (.slice (some ⟨gL, 0, none⟩) ps1.length lc) := hSw.2.e.k.cell 7 (by omega); obtain ⟨c0, c1, c2, c3⟩ := ent_cells hSw.2.x
    clear hSw
    go_simp
    try with_reducible rfl
   try dsimp only [zS, zB, zC]
   clear hTill
   intro hTill
   refine Pl.go [11, 12, 13] ?_
   iterate 3
    refine tsl (v := ?_) ?_ ?_
    rotate_left 1
    ·intro W hSw
     skip
     clear hSw
     go_simp
     try with_reducible rfl
    try dsimp only [zS, zB, zC]
    clear hTill
    intro hTill
   refine Pl.stop ?_
   refine tt 14 (v := ?_) ?_ ?_
   rotate_left 1
   ·intro W hSw
    have x7 : W.cell? ⟨g, 7, none⟩ = some (.slice (some ⟨gL, 0, none⟩) ps1.length lc) := hSw.2.e.k.cell 7 (by omega); obtain ⟨c0, c1, c2, c3⟩ := ent_cells hSw.2.x
    clear hSw
    go_simp
    try with_reducible rfl
   try dsimp only [zS, zB, zC]
   clear hTill
   intro hTill
   refine ts 15 (v := ?_) ?_ ?_
   rotate_left 1
   ·intro W hSw
    skip
    clear hSw
    go_simp
    try with_reducible rfl
   try dsimp only [zS, zB, zC]
   clear hTill
   intro hTill
   refine ts 16 (v := ?_) ?_ ?_
   rotate_left 1
   ·intro W hSw
    have hwr := HWr.out.1
    clear hSw
    go_simp
    try with_reducible rfl
   try dsimp only [zS, zB, zC]
   clear hTill
   intro hTill
   refine ts 17 (v := ?_) ?_ ?_
   rotate_left 1
   ·intro W hSw
    have hwr := HWr.out.2
    clear hSw
    go_simp
    try with_reducible rfl
   try dsimp only [zS, zB, zC]
   clear hTill
   intro hTill
   have HSa : Hid (∀ W, KRep W B g (.slice (some ⟨gL, 0, none⟩) ps1.length lc) vU1 pv s1 ps1 → Src W 4 (some ⟨gL, 0, none⟩) j (ecs (ps1.take j))) := zH (fun W hW => by
    have := row_src hW.L rfl 0 j (by omega)
    rwa [List.drop_zero, Nat.zero_mul] at this)
   have HSb : Hid (∀ W, KRep W B g (.slice (some ⟨gL, 0, none⟩) ps1.length lc) vU1 pv s1 ps1 → Src W 4 (if lc = j + 1 then (some ⟨gL, 0, none⟩ : Option Addr) else some ⟨gL, (j + 1) * 4, none⟩) (ps1.length - (j + 1)) (ecs (ps1.drop (j + 1)))) := zH (fun W hW => by
    split
    ·rename_i hl
     have e0 : ps1.length - (j + 1) = 0 := by omega
     have e1 : ps1.drop (j + 1) = [] := List.drop_eq_nil_of_le (by omega)
     rw [e0, e1]
     exact ⟨rfl, (fun _ => rfl), fun q _ j u hu => by simp [ecs] at hu⟩
    ·have := row_src hW.L rfl (j + 1) (ps1.length - (j + 1)) (by omega)
     rw [List.take_of_length_le (by rw [List.length_drop]; exact zN _)] at this
     exact this)
   have HOn : Hid (∀ qs : List (EntV × Value), (∀ q ∈ qs, q ∈ ps1) → ∀ u ∈ ecs qs, u.oneCell' = true) := zH (fun qs hq => ecs_one qs (fun q hm => by
    obtain ⟨A, c, e⟩ := (HLy.out.e.k.vals q (hq q hm)).form
    exact ⟨A, _, c, e⟩))
   generalize (if lc = j + 1 then (some ⟨gL, 0, none⟩ : Option Addr) else some ⟨gL, (j + 1) * 4, none⟩) = A14 at HSb ⊢
   have HB3 : Hid (B ≤ w3.heap.size) := zH (Nat.le_trans HP.out.hB HLd.out.e.only.size)
   clear hj1 hj2 hj3 hj4 hj5 hj6 HWr
   refine wpTill.two (i := 7) (j := 9) (o := ⟨_, _, _, _, _, _⟩) (o2 := ⟨_, _, _, _, _, _⟩) (by kernel_rfl) rfl rfl (fun F hF => ?_) (fun F hF => ?_)
   ·refine step_append_src _ rfl (.const (.slice none 0 0)) (.tmp 80) 33 rfl w3.heap.size 40 ti _ 4 56 Tryz.underlying33 kti zt0 zt1 zt2 rfl (by decide) _ 0 [] rfl (World.ownsRow_nil _ _ _ _) (some ⟨gL, 0, none⟩) j lc (ecs (ps1.take j)) rfl (HSa.out _ HLd.out.e.k) (HOn.out _ (fun q hq => List.mem_of_mem_take hq)) (by have := HIl.out; have := HN1.out; unfold maxLen; omega) (by have := HIl.out; have := HN1.out; omega) (zN _) ?_
    intro v7 w7 hown7 hg7 hat7
    have hb7 : Below w3.heap.size w3 w7 := (zL _ _).grown hg7 (zN _) (fun k hk => by cases hk)
    have HL7 := zH (HLd.out.adv hb7)
    rw [Nat.zero_add, List.nil_append] at hown7
    have HO7 := zH hown7
    have HB7 := zH hb7
    obtain ⟨A7, c7, rfl, _, _⟩ := own_form hown7
    clear hown7 hg7 hat7 hb7
    refine hF.out _ _ (Till.of trivial HL7.out) (fun hTill => ?_)
    clear hF F
    try simp only [Act.put, zA, zB, zC]
    refine wpTill.only (i := 9) (o := ⟨_, _, _, _, _, _⟩) (by kernel_rfl) rfl (fun F hF => ?_)
    go_simp
    have HL9 := zH (HL7.out.adv ((zL _ _).alloc (zN _) (.cells #[.string o.key, .slice A8 (o.val).length c8, .int .u64 xn, .int .u64 nb] 40)))
    have HO9 := zH (own_later' HO7.out ((zL _ _).alloc (zN _) (.cells #[.string o.key, .slice A8 (o.val).length c8, .int .u64 xn, .int .u64 nb] 40)))
    have HB9 := zH (HB7.out.alloc HB7.out.size (.cells #[.string o.key, .slice A8 (o.val).length c8, .int .u64 xn, .int .u64 nb] 40))
    have HX9 := zH (Blk.new w7 40 #[.string o.key, .slice A8 (o.val).length c8, .int .u64 xn, .int .u64 nb])
    refine hF.out _ _ (Till.of trivial HL9.out) (fun hTill => ?_)
    clear hF F
    try simp only [Act.put, zA, zB, zC]
    generalize hw9 : w7.alloc _ = w9 at HL9 HO9 HB9 HX9 ⊢
    clear hw9
    generalize w7.heap.size = gB at HX9 ⊢
    refine wpTill.only (i := 10) (o := ⟨_, _, _, _, _, _⟩) (by kernel_rfl) rfl (fun F hF => ?_)
    refine step_append_src _ rfl (.tmp 81) (.tmp 83) 33 rfl w3.heap.size 40 ti _ 4 56 Tryz.underlying33 kti zt0 zt1 zt2 rfl (by decide) _ j (ecs (ps1.take j)) rfl HO9.out (some ⟨gB, 0, none⟩) 1 1 (entc ⟨o.key, o.val, xn, nb⟩ (.slice A8 (o.val).length c8)).toList rfl (src_blk HX9.out) (by intro u hu; simp [entc] at hu; rcases hu with rfl | rfl | rfl | rfl <;> rfl) (by have := HIl.out; have := HN1.out; unfold maxLen; omega) (by have := HIl.out; have := HN1.out; omega) HB9.out.size ?_
    intro v10 w10 hown10 hg10 hat10
    have hb10 : Below w3.heap.size w3 w10 := HB9.out.grown hg10 HB9.out.size (fun k hk => (row_heap' HO9.out hk).1)
    have HL10 := zH (HLd.out.adv hb10)
    have HO10 := zH hown10
    have HB10 := zH hb10
    obtain ⟨A10, c10, rfl, _, _⟩ := own_form hown10
    clear hown10 hg10 hat10 hb10 HX9 HB9 HO9 HL9
    refine hF.out _ _ (Till.of trivial HL10.out) (fun hTill => ?_)
    clear hF F
    try simp only [Act.put, zA, zB, zC]
    refine wpTill.only (i := 18) (o := ⟨_, _, _, _, _, _⟩) (by kernel_rfl) rfl (fun F hF => ?_)
    refine step_append_src _ rfl (.tmp 84) (.tmp 91) 33 rfl w3.heap.size 40 ti _ 4 56 Tryz.underlying33 kti zt0 zt1 zt2 rfl (by decide) _ (j + 1) (ecs (ps1.take j) ++ (entc ⟨o.key, o.val, xn, nb⟩ (.slice A8 (o.val).length c8)).toList) rfl HO10.out A14 (ps1.length - (j + 1)) (lc - (j + 1)) (ecs (ps1.drop (j + 1))) rfl (HSb.out _ HL10.out.e.k) (HOn.out _ (fun q hq => List.mem_of_mem_drop hq)) (by have := HIl.out; have := HN1.out; unfold maxLen; omega) (by have := HIl.out; have := HN1.out; omega) HB10.out.size ?_
    intro v11 w11 hown11 hg11 hat11
    have hb11 : Below w3.heap.size w3 w11 := HB10.out.grown hg11 HB10.out.size (fun k hk => (row_heap' HO10.out hk).1)
    have HL11 := zH (HLd.out.adv hb11)
    have HO11 : Hid (w11.ownsRow B 40 4 v11 ps1.length (ecs (ps1.set j (⟨o.key, o.val, xn, nb⟩, .slice A8 (o.val).length c8)))) := zH (by
     have h := ownsRow_base hown11 HB3.out
     rw [← ecs_set _ _ _ _ HIl.out] at h
     have e : j + 1 + (ps1.length - (j + 1)) = ps1.length := by have := HIl.out; omega
     rw [e] at h
     exact h)
    obtain ⟨A11, c11, rfl, _, _⟩ := own_form HO11.out
    clear hown11 hg11 hat11 hb11 HL10 HO10 HB10
    refine hF.out _ _ (Till.of trivial HL11.out) (fun hTill => ?_)
    clear hF F
    try simp only [Act.put, zA, zB, zC]
    refine ts 19 (v := ?_) ?_ ?_
    rotate_left 1
    ·intro W hSw
     skip
     clear hSw
     go_simp
     try with_reducible rfl
    try dsimp only [zS, zB, zC]
    clear hTill
    intro hTill
    refine ts 20 (v := ?_) ?_ ?_
    rotate_left 1
    ·intro W hSw
     skip
     clear hSw
     go_simp
     try with_reducible rfl
    try dsimp only [zS, zB, zC]
    clear hTill
    intro hTill
    have x7 : w11.cell? ⟨g, 7, none⟩ = some (.slice (some ⟨gL, 0, none⟩) ps1.length lc) := HL11.out.e.k.cell 7 (by omega)
    have f7 := HL11.out.e.k.frozen 7
    refine wpTill.only (i := 21) (o := ⟨_, _, _, _, _, _⟩) (by kernel_rfl) rfl (fun F hF => ?_)
    go_simp
    have HK12 : Hid (KRep (w11.setCell ⟨g, 7, none⟩ (.slice A11 ps1.length c11)) B g (.slice A11 ps1.length c11) vU1 pv { s1 with L := s1.L.set j ⟨o.key, o.val, xn, nb⟩ } (ps1.set j (⟨o.key, o.val, xn, nb⟩, .slice A8 (o.val).length c8))) := zH (by
     refine HL11.out.e.k.setL (by rw [List.length_set]; exact HO11.out) ?_ (fun p hp => ?_)
     ·rw [← HL11.out.e.k.map, List.map_set]
     ·rcases List.mem_or_eq_of_mem_set hp with h | h
      ·exact HL11.out.e.k.vals p h
      ·rw [h]; exact HVx.out.below HL11.out.below)
    have HX12 := zH ((HL11.out.e).next HK12.out (Only.set1 _ _ _ _))
    have HXb12 := zH (HL11.out.x.far (p := ⟨g, 7, none⟩) (HNx.out) (.slice A11 ps1.length c11))
    refine hF.out _ _ (Till.stored trivial (by kernel_rfl)) (fun hTill => ?_)
    clear hF F x7 f7
    try simp only [Act.put, zA, zB, zC]
    refine wpTill.done (by kernel_rfl) ?_
    try refine NoPanic.normal ?_
    clear hTill HL11 HLd HK12 HO11
    generalize w11.setCell ⟨g, 7, none⟩ _ = w12 at HX12 HXb12 ⊢
    clear HB3 HSa HSb HOn
    obtain ⟨c0, c1, c2, c3⟩ := ent_cells HXb12.out
    dsimp only at c0 c1 c2 c3
    go_wp2_with fail
    refine (kUse_any B g _ _ pv _ _ nb w12 HX12.out.k HUn.out (Nat.le_trans HP.out.hB HX12.out.only.size)).mono ?_
    rintro e w13 ⟨vU2, rfl, hk13, ho13⟩
    have HX13 := zH (HX12.out.next (H9.out ▸ hk13) ho13)
    clear hk13 ho13 c0 c1 c2 c3 HXb12 HX12
    obtain ⟨z0, z2, z3, z4, z7⟩ := op_cells' HX13.out.box
    go_wp2_with fail
    refine bodyPost_end (v := .tuple #[]) (results_none rfl _ _ _) rfl ?_
    rw [HS.out]
    exact ⟨_, _, _, _, rfl, (HX13).out.k, (HX13).out.only⟩
   ·go_simp
    have HL8 := zH (HLd.out.adv ((zL _ _).alloc (zN _) (.cells #[.string o.key, .slice A8 (o.val).length c8, .int .u64 xn, .int .u64 nb] 40)))
    have HB8 := zH ((zL w3.heap.size w3).alloc (zN _) (.cells #[.string o.key, .slice A8 (o.val).length c8, .int .u64 xn, .int .u64 nb] 40))
    have HX8 := zH (Blk.new w3 40 #[.string o.key, .slice A8 (o.val).length c8, .int .u64 xn, .int .u64 nb])
    refine hF.out _ _ (Till.of trivial HL8.out) (fun hTill => ?_)
    clear hF F
    try simp only [Act.put, zA, zB, zC]
    generalize hw8 : w3.alloc _ = w8 at HL8 HB8 HX8 ⊢
    clear hw8
    refine wpTill.only (i := 7) (o := ⟨_, _, _, _, _, _⟩) (by kernel_rfl) rfl (fun F hF => ?_)
    refine step_append_src _ rfl (.const (.slice none 0 0)) (.tmp 80) 33 rfl w8.heap.size 40 ti _ 4 56 Tryz.underlying33 kti zt0 zt1 zt2 rfl (by decide) _ 0 [] rfl (World.ownsRow_nil _ _ _ _) (some ⟨gL, 0, none⟩) j lc (ecs (ps1.take j)) rfl (HSa.out _ HL8.out.e.k) (HOn.out _ (fun q hq => List.mem_of_mem_take hq)) (by have := HIl.out; have := HN1.out; unfold maxLen; omega) (by have := HIl.out; have := HN1.out; omega) (zN _) ?_
    intro v7 w9 hown7 hg7 hat7
    have hb7 : Below w8.heap.size w8 w9 := (zL _ _).grown hg7 (zN _) (fun k hk => by cases hk)
    have HL9 := zH (HL8.out.adv hb7)
    rw [Nat.zero_add, List.nil_append] at hown7
    have HO9 := zH (ownsRow_base hown7 HB8.out.size)
    have HB9 : Hid (Below w3.heap.size w3 w9) := zH (HB8.out.trans (hb7.mono HB8.out.size))
    have HX9 := zH (HX8.out.below hb7)
    obtain ⟨A7, c7, rfl, _, _⟩ := own_form hown7
    clear hown7 hg7 hat7 hb7 HX8
    refine hF.out _ _ (Till.of trivial HL9.out) (fun hTill => ?_)
    clear hF F
    try simp only [Act.put, zA, zB, zC]
    generalize w3.heap.size = gB at HX9 ⊢
    refine wpTill.only (i := 10) (o := ⟨_, _, _, _, _, _⟩) (by kernel_rfl) rfl (fun F hF => ?_)
    refine step_append_src _ rfl (.tmp 81) (.tmp 83) 33 rfl w3.heap.size 40 ti _ 4 56 Tryz.underlying33 kti zt0 zt1 zt2 rfl (by decide) _ j (ecs (ps1.take j)) rfl HO9.out (some ⟨gB, 0, none⟩) 1 1 (entc ⟨o.key, o.val, xn, nb⟩ (.slice A8 (o.val).length c8)).toList rfl (src_blk HX9.out) (by intro u hu; simp [entc] at hu; rcases hu with rfl | rfl | rfl | rfl <;> rfl) (by have := HIl.out; have := HN1.out; unfold maxLen; omega) (by have := HIl.out; have := HN1.out; omega) HB9.out.size ?_
    intro v10 w10 hown10 hg10 hat10
    have hb10 : Below w3.heap.size w3 w10 := HB9.out.grown hg10 HB9.out.size (fun k hk => (row_heap' HO9.out hk).1)
    have HL10 := zH (HLd.out.adv hb10)
    have HO10 := zH hown10
    have HB10 := zH hb10
    obtain ⟨A10, c10, rfl, _, _⟩ := own_form hown10
    clear hown10 hg10 hat10 hb10 HX9 HB9 HO9 HL9
    refine hF.out _ _ (Till.of trivial HL10.out) (fun hTill => ?_)
    clear hF F
    try simp only [Act.put, zA, zB, zC]
    refine wpTill.only (i := 18) (o := ⟨_, _, _, _, _, _⟩) (by kernel_rfl) rfl (fun F hF => ?_)
    refine step_append_src _ rfl (.tmp 84) (.tmp 91) 33 rfl w3.heap.size 40 ti _ 4 56 Tryz.underlying33 kti zt0 zt1 zt2 rfl (by decide) _ (j + 1) (ecs (ps1.take j) ++ (entc ⟨o.key, o.val, xn, nb⟩ (.slice A8 (o.val).length c8)).toList) rfl HO10.out A14 (ps1.length - (j + 1)) (lc - (j + 1)) (ecs (ps1.drop (j + 1))) rfl (HSb.out _ HL10.out.e.k) (HOn.out _ (fun q hq => List.mem_of_mem_drop hq)) (by have := HIl.out; have := HN1.out; unfold maxLen; omega) (by have := HIl.out; have := HN1.out; omega) HB10.out.size ?_
    intro v11 w11 hown11 hg11 hat11
    have hb11 : Below w3.heap.size w3 w11 := HB10.out.grown hg11 HB10.out.size (fun k hk => (row_heap' HO10.out hk).1)
    have HL11 := zH (HLd.out.adv hb11)
    have HO11 : Hid (w11.ownsRow B 40 4 v11 ps1.length (ecs (ps1.set j (⟨o.key, o.val, xn, nb⟩, .slice A8 (o.val).length c8)))) := zH (by
     have h := ownsRow_base hown11 HB3.out
     rw [← ecs_set _ _ _ _ HIl.out] at h
     have e : j + 1 + (ps1.length - (j + 1)) = ps1.length := by have := HIl.out; omega
     rw [e] at h
     exact h)
    obtain ⟨A11, c11, rfl, _, _⟩ := own_form HO11.out
    clear hown11 hg11 hat11 hb11 HL10 HO10 HB10
    refine hF.out _ _ (Till.of trivial HL11.out) (fun hTill => ?_)
    clear hF F
    try simp only [Act.put, zA, zB, zC]
    refine ts 19 (v := ?_) ?_ ?_
    rotate_left 1
    ·intro W hSw
     skip
     clear hSw
     go_simp
     try with_reducible rfl
    try dsimp only [zS, zB, zC]
    clear hTill
    intro hTill
    refine ts 20 (v := ?_) ?_ ?_
    rotate_left 1
    ·intro W hSw
     skip
     clear hSw
     go_simp
     try with_reducible rfl
    try dsimp only [zS, zB, zC]
    clear hTill
    intro hTill
    have x7 : w11.cell? ⟨g, 7, none⟩ = some (.slice (some ⟨gL, 0, none⟩) ps1.length lc) := HL11.out.e.k.cell 7 (by omega)
    have f7 := HL11.out.e.k.frozen 7
    refine wpTill.only (i := 21) (o := ⟨_, _, _, _, _, _⟩) (by kernel_rfl) rfl (fun F hF => ?_)
    go_simp
    have HK12 : Hid (KRep (w11.setCell ⟨g, 7, none⟩ (.slice A11 ps1.length c11)) B g (.slice A11 ps1.length c11) vU1 pv { s1 with L := s1.L.set j ⟨o.key, o.val, xn, nb⟩ } (ps1.set j (⟨o.key, o.val, xn, nb⟩, .slice A8 (o.val).length c8))) := zH (by
     refine HL11.out.e.k.setL (by rw [List.length_set]; exact HO11.out) ?_ (fun p hp => ?_)
     ·rw [← HL11.out.e.k.map, List.map_set]
     ·rcases List.mem_or_eq_of_mem_set hp with h | h
      ·exact HL11.out.e.k.vals p h
      ·rw [h]; exact HVx.out.below HL11.out.below)
    have HX12 := zH ((HL11.out.e).next HK12.out (Only.set1 _ _ _ _))
    have HXb12 := zH (HL11.out.x.far (p := ⟨g, 7, none⟩) (HNx.out) (.slice A11 ps1.length c11))
    refine hF.out _ _ (Till.stored trivial (by kernel_rfl)) (fun hTill => ?_)
    clear hF F x7 f7
    try simp only [Act.put, zA, zB, zC]
    refine wpTill.done (by kernel_rfl) ?_
    try refine NoPanic.normal ?_
    clear hTill HL11 HLd HK12 HO11
    generalize w11.setCell ⟨g, 7, none⟩ _ = w12 at HX12 HXb12 ⊢
    clear HB3 HSa HSb HOn
    obtain ⟨c0, c1, c2, c3⟩ := ent_cells HXb12.out
    dsimp only at c0 c1 c2 c3
    go_wp2_with fail
    refine (kUse_any B g _ _ pv _ _ nb w12 HX12.out.k HUn.out (Nat.le_trans HP.out.hB HX12.out.only.size)).mono ?_
    rintro e w13 ⟨vU2, rfl, hk13, ho13⟩
    have HX13 := zH (HX12.out.next (H9.out ▸ hk13) ho13)
    clear hk13 ho13 c0 c1 c2 c3 HXb12 HX12
    obtain ⟨z0, z2, z3, z4, z7⟩ := op_cells' HX13.out.box
    go_wp2_with fail
    refine bodyPost_end (v := .tuple #[]) (results_none rfl _ _ _) rfl ?_
    rw [HS.out]
    exact ⟨_, _, _, _, rfl, (HX13).out.k, (HX13).out.only⟩
 ·rw [hf] at h1; cases h1
end Go.Proofs.YtnabbimompapfaaGreat
