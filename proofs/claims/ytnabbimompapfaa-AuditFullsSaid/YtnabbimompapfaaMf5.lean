/- AudJG, AudJH, AudJI, AudJJ, AudJK, MapH, AudJL -/
import Derived.Test.YtnabbimompapfaaMf4
import Derived.Test.YtnabbimompapfaaMf2
import Derived.Shelf.SlSortCmp.NoneTotal
import Derived.Sort.MapsRangeIn
import Derived.OwnWalkIn
import Derived.RangeFuncSeq
import Derived.RangeFuncBox
import Derived.RangeFuncLeaves
import Derived.Shelf.Abstract
import Derived.WalkKit
import Derived.TacticsInMore
import Derived.LoopNIn
import Derived.LoopIn
import Derived.Maps.AppendAt
namespace Go.Proofs.Ytnabbimompapfaa
open Go Go.RowKit
set_option maxRecDepth 100000 in
set_option maxHeartbeats 4000000 in
theorem right_plain (B Bv g gm gp : Nat) (us : Int) (s : PJ) (its : List It) (P : List (Int × Int)) (o : OpV) (V : Value) (t : Int) (w : World) (h : JRep w B g gm gp us s its P) (hv : Bts w Bv 5 V o.val) (hc : -9223372036854775808 ≤ o.cursor ∧ o.cursor ≤ 9223372036854775807)
  (hk : ¬(1 ≤ o.kind ∧ o.kind ≤ 6) ∧ o.kind ≠ 8 ∧ ¬(11 ≤ o.kind ∧ o.kind ≤ 14)) :
  Calls Try.prog 26 #[.pointer (some ⟨g, 0, none⟩), opv o V, .int .u64 t] w fun e w' => e = .returned (.tuple #[.int .i64 (rightP s o t), .bool (refusedP o (rightP s o t))]) ∧ Below w.heap.size w w' := by
 have hR : rightP s o t = 0 := by unfold rightP; rw [if_neg (by omega), if_neg (by omega), if_neg (by omega), if_neg (by omega)]
 rw [hR, show refusedP o 0 = false by simp [refusedP]]
 obtain ⟨q, hq⟩ : ∃ q, openP s.pl o.cursor = q := ⟨_, rfl⟩
 have HOp := zH hq
 clear hR hq
 obtain ⟨A, c, rfl⟩ := hv.form
 have hbl : Below w.heap.size w (w.alloc (.cells (opc o (.slice A o.val.length c)) 29)) := (zL _ _).alloc (zN _) _
 have HX : Hid (JRX w (w.alloc (.cells (opc o (.slice A o.val.length c)) 29)) B Bv g gm gp us s its P o A c) := zH ⟨h.below hbl, Blk.new _ _ _, hbl, hv.below hbl⟩
 have HC := zH hc
 clear h hv hc hbl
 unfold opv
 unfold opc at HX ⊢
 have q1 : (o.kind == 1) = false := by rw [beq_eq_false_iff_ne]; omega
 have q2 : (o.kind == 2) = false := by rw [beq_eq_false_iff_ne]; omega
 have q3 : (o.kind == 3) = false := by rw [beq_eq_false_iff_ne]; omega
 have q4 : (o.kind == 4) = false := by rw [beq_eq_false_iff_ne]; omega
 have q5 : (o.kind == 5) = false := by rw [beq_eq_false_iff_ne]; omega
 have q6 : (o.kind == 6) = false := by rw [beq_eq_false_iff_ne]; omega
 have q8 : (o.kind == 8) = false := by rw [beq_eq_false_iff_ne]; omega
 have q11 : (o.kind == 11) = false := by rw [beq_eq_false_iff_ne]; omega
 have q12 : (o.kind == 12) = false := by rw [beq_eq_false_iff_ne]; omega
 have q13 : (o.kind == 13) = false := by rw [beq_eq_false_iff_ne]; omega
 have q14 : (o.kind == 14) = false := by rw [beq_eq_false_iff_ne]; omega
 clear hk
 go_enter Try.func26, Try.ntmps26
 go_upto_region 1 with fail
 generalize World.alloc _ _ = W0 at HX ⊢
 refine wp_region_noPanic ?_
 refine wp_region_held_drew (S := fun W => JRX w W B Bv g gm gp us s its P o A c) (by kernel_rfl) (HX.out.adv (zL _ _).drew) (fun hHeld => ?_)
 generalize W0.drew = W1 at hHeld ⊢
 have HX1 := zH hHeld
 refine Pl.go [0, 1, 2, 3, 4, 5, 6, 7, 8, 9, 10, 11] ?_
 iterate 12
  refine tkl (v := ?_) ?_ ?_
  rotate_left 1
  ·intro W hSw
   obtain ⟨z0, z1, z2, z3, z4, z5, z6, z7, z8⟩ := op9 hSw.box; obtain ⟨d0, d1, d2, d3, d4, d5, d6, d7, d8, d9, d10⟩ := hSw.rep.cells; have hlk := hSw.rep.lookPl HC.out; rw [HOp.out] at hlk
   clear hSw
   go_simp
   try with_reducible rfl
  try dsimp only [zS, zB, zC]
 refine Pl.stop ?_
 refine wpAnyH_done (by kernel_rfl) ?_ _
 refine NoPanic.normal ?_
 clear hHeld
 obtain ⟨z0, z1, z2, z3, z4, z5, z6, z7, z8⟩ := op9 HX1.out.box
 go_wp2_with fail
 go_ret2
 exact ⟨rfl, HX1.out.bel⟩
set_option maxRecDepth 100000 in
set_option maxHeartbeats 4000000 in
theorem right_noplace (B Bv g gm gp : Nat) (us : Int) (s : PJ) (its : List It) (P : List (Int × Int)) (o : OpV) (V : Value) (t : Int) (w : World) (h : JRep w B g gm gp us s its P) (hv : Bts w Bv 5 V o.val) (hc : -9223372036854775808 ≤ o.cursor ∧ o.cursor ≤ 9223372036854775807)
  (hk : 12 ≤ o.kind ∧ o.kind ≤ 14) (hn : openP s.pl o.cursor = none) :
  Calls Try.prog 26 #[.pointer (some ⟨g, 0, none⟩), opv o V, .int .u64 t] w fun e w' => e = .returned (.tuple #[.int .i64 (rightP s o t), .bool (refusedP o (rightP s o t))]) ∧ Below w.heap.size w w' := by
 have hR : rightP s o t = 9 := by unfold rightP; rw [if_neg (by omega), if_neg (by omega), if_neg (by omega), if_pos (by omega), hn]
 rw [hR, show refusedP o 9 = (o.kind == 12) by
  unfold refusedP
  by_cases h12 : o.kind = 12
  ·rw [decide_eq_true (by omega), beq_iff_eq.2 h12]
  ·rw [decide_eq_false (by omega), beq_eq_false_iff_ne.2 h12]]
 obtain ⟨q, hq⟩ : ∃ q : Option Int, q = none := ⟨_, rfl⟩
 have HOp := zH hn
 clear hR hn hq q
 obtain ⟨A, c, rfl⟩ := hv.form
 have hbl : Below w.heap.size w (w.alloc (.cells (opc o (.slice A o.val.length c)) 29)) := (zL _ _).alloc (zN _) _
 have HX : Hid (JRX w (w.alloc (.cells (opc o (.slice A o.val.length c)) 29)) B Bv g gm gp us s its P o A c) := zH ⟨h.below hbl, Blk.new _ _ _, hbl, hv.below hbl⟩
 have HC := zH hc
 clear h hv hc hbl
 unfold opv
 unfold opc at HX ⊢
 have q1 : (o.kind == 1) = false := by rw [beq_eq_false_iff_ne]; omega
 have q2 : (o.kind == 2) = false := by rw [beq_eq_false_iff_ne]; omega
 have q3 : (o.kind == 3) = false := by rw [beq_eq_false_iff_ne]; omega
 have q4 : (o.kind == 4) = false := by rw [beq_eq_false_iff_ne]; omega
 have q5 : (o.kind == 5) = false := by rw [beq_eq_false_iff_ne]; omega
 have q6 : (o.kind == 6) = false := by rw [beq_eq_false_iff_ne]; omega
 have q8 : (o.kind == 8) = false := by rw [beq_eq_false_iff_ne]; omega
 have q11 : (o.kind == 11) = false := by rw [beq_eq_false_iff_ne]; omega
 by_cases k12 : o.kind = 12
 ·have q12 : (o.kind == 12) = true := by simp [k12]
  clear hk k12
  rw [q12]
  go_enter Try.func26, Try.ntmps26
  go_upto_region 1 with fail
  generalize World.alloc _ _ = W0 at HX ⊢
  refine wp_region_noPanic ?_
  refine wp_region_held_drew (S := fun W => JRX w W B Bv g gm gp us s its P o A c) (by kernel_rfl) (HX.out.adv (zL _ _).drew) (fun hHeld => ?_)
  generalize W0.drew = W1 at hHeld ⊢
  have HX1 := zH hHeld
  refine Pl.go [0, 1, 2, 3, 4, 5, 6, 7, 8, 9, 10, 11] ?_
  iterate 12
   refine tkl (v := ?_) ?_ ?_
   rotate_left 1
   ·intro W hSw
    obtain ⟨z0, z1, z2, z3, z4, z5, z6, z7, z8⟩ := op9 hSw.box; obtain ⟨d0, d1, d2, d3, d4, d5, d6, d7, d8, d9, d10⟩ := hSw.rep.cells; have hlk := hSw.rep.lookPl HC.out; rw [HOp.out] at hlk
    clear hSw
    go_simp
    try with_reducible rfl
   try dsimp only [zS, zB, zC]
  refine Pl.stop ?_
  refine wpAnyH_done (by kernel_rfl) ?_ _
  refine NoPanic.normal ?_
  clear hHeld
  obtain ⟨z0, z1, z2, z3, z4, z5, z6, z7, z8⟩ := op9 HX1.out.box
  go_upto_region 23 with fail
  refine wp_region_noPanic ?_
  refine wp_region_held_drew (S := fun W => JRX w W B Bv g gm gp us s its P o A c) (by kernel_rfl) (HX1.out.adv (zL _ _).drew) (fun hHeld => ?_)
  generalize W1.drew = W2 at hHeld ⊢
  have HX2 := zH hHeld
  refine Pl.go [0, 1, 2, 3, 4] ?_
  iterate 5
   refine tkl (v := ?_) ?_ ?_
   rotate_left 1
   ·intro W hSw
    obtain ⟨z0, z1, z2, z3, z4, z5, z6, z7, z8⟩ := op9 hSw.box; obtain ⟨d0, d1, d2, d3, d4, d5, d6, d7, d8, d9, d10⟩ := hSw.rep.cells; have hlk := hSw.rep.lookPl HC.out; rw [HOp.out] at hlk
    clear hSw
    go_simp
    try with_reducible rfl
   try dsimp only [zS, zB, zC]
  refine Pl.stop ?_
  refine wpAnyH_done (by kernel_rfl) ?_ _
  refine NoPanic.normal ?_
  clear hHeld
  go_wp2_with fail
  go_ret2
  exact ⟨rfl, HX2.out.bel⟩
 ·have q12 : (o.kind == 12) = false := by simp [k12]
  by_cases k13 : o.kind = 13
  ·have q13 : (o.kind == 13) = true := by simp [k13]
   clear hk k12 k13
   rw [q12]
   go_enter Try.func26, Try.ntmps26
   go_upto_region 1 with fail
   generalize World.alloc _ _ = W0 at HX ⊢
   refine wp_region_noPanic ?_
   refine wp_region_held_drew (S := fun W => JRX w W B Bv g gm gp us s its P o A c) (by kernel_rfl) (HX.out.adv (zL _ _).drew) (fun hHeld => ?_)
   generalize W0.drew = W1 at hHeld ⊢
   have HX1 := zH hHeld
   refine Pl.go [0, 1, 2, 3, 4, 5, 6, 7, 8, 9, 10, 11] ?_
   iterate 12
    refine tkl (v := ?_) ?_ ?_
    rotate_left 1
    ·intro W hSw
     obtain ⟨z0, z1, z2, z3, z4, z5, z6, z7, z8⟩ := op9 hSw.box; obtain ⟨d0, d1, d2, d3, d4, d5, d6, d7, d8, d9, d10⟩ := hSw.rep.cells; have hlk := hSw.rep.lookPl HC.out; rw [HOp.out] at hlk
     clear hSw
     go_simp
     try with_reducible rfl
    try dsimp only [zS, zB, zC]
   refine Pl.stop ?_
   refine wpAnyH_done (by kernel_rfl) ?_ _
   refine NoPanic.normal ?_
   clear hHeld
   obtain ⟨z0, z1, z2, z3, z4, z5, z6, z7, z8⟩ := op9 HX1.out.box
   go_upto_region 23 with fail
   refine wp_region_noPanic ?_
   refine wp_region_held_drew (S := fun W => JRX w W B Bv g gm gp us s its P o A c) (by kernel_rfl) (HX1.out.adv (zL _ _).drew) (fun hHeld => ?_)
   generalize W1.drew = W2 at hHeld ⊢
   have HX2 := zH hHeld
   refine Pl.go [0, 1, 2, 3, 4] ?_
   iterate 5
    refine tkl (v := ?_) ?_ ?_
    rotate_left 1
    ·intro W hSw
     obtain ⟨z0, z1, z2, z3, z4, z5, z6, z7, z8⟩ := op9 hSw.box; obtain ⟨d0, d1, d2, d3, d4, d5, d6, d7, d8, d9, d10⟩ := hSw.rep.cells; have hlk := hSw.rep.lookPl HC.out; rw [HOp.out] at hlk
     clear hSw
     go_simp
     try with_reducible rfl
    try dsimp only [zS, zB, zC]
   refine Pl.stop ?_
   refine wpAnyH_done (by kernel_rfl) ?_ _
   refine NoPanic.normal ?_
   clear hHeld
   go_wp2_with fail
   go_ret2
   exact ⟨rfl, HX2.out.bel⟩
  ·have q13 : (o.kind == 13) = false := by simp [k13]
   have q14 : (o.kind == 14) = true := by rw [beq_iff_eq]; omega
   clear hk k12 k13
   rw [q12]
   go_enter Try.func26, Try.ntmps26
   go_upto_region 1 with fail
   generalize World.alloc _ _ = W0 at HX ⊢
   refine wp_region_noPanic ?_
   refine wp_region_held_drew (S := fun W => JRX w W B Bv g gm gp us s its P o A c) (by kernel_rfl) (HX.out.adv (zL _ _).drew) (fun hHeld => ?_)
   generalize W0.drew = W1 at hHeld ⊢
   have HX1 := zH hHeld
   refine Pl.go [0, 1, 2, 3, 4, 5, 6, 7, 8, 9, 10, 11] ?_
   iterate 12
    refine tkl (v := ?_) ?_ ?_
    rotate_left 1
    ·intro W hSw
     obtain ⟨z0, z1, z2, z3, z4, z5, z6, z7, z8⟩ := op9 hSw.box; obtain ⟨d0, d1, d2, d3, d4, d5, d6, d7, d8, d9, d10⟩ := hSw.rep.cells; have hlk := hSw.rep.lookPl HC.out; rw [HOp.out] at hlk
     clear hSw
     go_simp
     try with_reducible rfl
    try dsimp only [zS, zB, zC]
   refine Pl.stop ?_
   refine wpAnyH_done (by kernel_rfl) ?_ _
   refine NoPanic.normal ?_
   clear hHeld
   obtain ⟨z0, z1, z2, z3, z4, z5, z6, z7, z8⟩ := op9 HX1.out.box
   go_upto_region 23 with fail
   refine wp_region_noPanic ?_
   refine wp_region_held_drew (S := fun W => JRX w W B Bv g gm gp us s its P o A c) (by kernel_rfl) (HX1.out.adv (zL _ _).drew) (fun hHeld => ?_)
   generalize W1.drew = W2 at hHeld ⊢
   have HX2 := zH hHeld
   refine Pl.go [0, 1, 2, 3, 4] ?_
   iterate 5
    refine tkl (v := ?_) ?_ ?_
    rotate_left 1
    ·intro W hSw
     obtain ⟨z0, z1, z2, z3, z4, z5, z6, z7, z8⟩ := op9 hSw.box; obtain ⟨d0, d1, d2, d3, d4, d5, d6, d7, d8, d9, d10⟩ := hSw.rep.cells; have hlk := hSw.rep.lookPl HC.out; rw [HOp.out] at hlk
     clear hSw
     go_simp
     try with_reducible rfl
    try dsimp only [zS, zB, zC]
   refine Pl.stop ?_
   refine wpAnyH_done (by kernel_rfl) ?_ _
   refine NoPanic.normal ?_
   clear hHeld
   go_wp2_with fail
   go_ret2
   exact ⟨rfl, HX2.out.bel⟩
set_option maxRecDepth 100000 in
set_option maxHeartbeats 4000000 in
theorem right_place (B Bv g gm gp : Nat) (us : Int) (s : PJ) (its : List It) (P : List (Int × Int)) (o : OpV) (V : Value) (t : Int) (w : World) (h : JRep w B g gm gp us s its P) (hv : Bts w Bv 5 V o.val) (hc : -9223372036854775808 ≤ o.cursor ∧ o.cursor ≤ 9223372036854775807)
  (hk : o.kind = 13 ∨ o.kind = 14) (b : Int) (hn : openP s.pl o.cursor = some b) :
  Calls Try.prog 26 #[.pointer (some ⟨g, 0, none⟩), opv o V, .int .u64 t] w fun e w' => e = .returned (.tuple #[.int .i64 (rightP s o t), .bool (refusedP o (rightP s o t))]) ∧ Below w.heap.size w w' := by
 have hR : rightP s o t = 0 := by unfold rightP; rw [if_neg (by omega), if_neg (by omega), if_neg (by omega), if_pos (by omega), hn]; dsimp only; rw [if_neg (by omega)]
 rw [hR, show refusedP o 0 = false by simp [refusedP]]
 have HOp := zH hn
 clear hR hn
 obtain ⟨A, c, rfl⟩ := hv.form
 have hbl : Below w.heap.size w (w.alloc (.cells (opc o (.slice A o.val.length c)) 29)) := (zL _ _).alloc (zN _) _
 have HX : Hid (JRX w (w.alloc (.cells (opc o (.slice A o.val.length c)) 29)) B Bv g gm gp us s its P o A c) := zH ⟨h.below hbl, Blk.new _ _ _, hbl, hv.below hbl⟩
 have HC := zH hc
 clear h hv hc hbl
 unfold opv
 unfold opc at HX ⊢
 have q1 : (o.kind == 1) = false := by rw [beq_eq_false_iff_ne]; omega
 have q2 : (o.kind == 2) = false := by rw [beq_eq_false_iff_ne]; omega
 have q3 : (o.kind == 3) = false := by rw [beq_eq_false_iff_ne]; omega
 have q4 : (o.kind == 4) = false := by rw [beq_eq_false_iff_ne]; omega
 have q5 : (o.kind == 5) = false := by rw [beq_eq_false_iff_ne]; omega
 have q6 : (o.kind == 6) = false := by rw [beq_eq_false_iff_ne]; omega
 have q8 : (o.kind == 8) = false := by rw [beq_eq_false_iff_ne]; omega
 have q11 : (o.kind == 11) = false := by rw [beq_eq_false_iff_ne]; omega
 have q12 : (o.kind == 12) = false := by rw [beq_eq_false_iff_ne]; omega
 by_cases k13 : o.kind = 13
 ·have q13 : (o.kind == 13) = true := by simp [k13]
  clear hk k13
  go_enter Try.func26, Try.ntmps26
  go_upto_region 1 with fail
  generalize World.alloc _ _ = W0 at HX ⊢
  refine wp_region_noPanic ?_
  refine wp_region_held_drew (S := fun W => JRX w W B Bv g gm gp us s its P o A c) (by kernel_rfl) (HX.out.adv (zL _ _).drew) (fun hHeld => ?_)
  generalize W0.drew = W1 at hHeld ⊢
  have HX1 := zH hHeld
  refine Pl.go [0, 1, 2, 3, 4, 5, 6, 7, 8, 9, 10, 11] ?_
  iterate 12
   refine tkl (v := ?_) ?_ ?_
   rotate_left 1
   ·intro W hSw
    obtain ⟨z0, z1, z2, z3, z4, z5, z6, z7, z8⟩ := op9 hSw.box; obtain ⟨d0, d1, d2, d3, d4, d5, d6, d7, d8, d9, d10⟩ := hSw.rep.cells; have hlk := hSw.rep.lookPl HC.out; rw [HOp.out] at hlk
    clear hSw
    go_simp
    try with_reducible rfl
   try dsimp only [zS, zB, zC]
  refine Pl.stop ?_
  refine wpAnyH_done (by kernel_rfl) ?_ _
  refine NoPanic.normal ?_
  clear hHeld
  obtain ⟨z0, z1, z2, z3, z4, z5, z6, z7, z8⟩ := op9 HX1.out.box
  go_wp2_with fail
  go_ret2
  exact ⟨rfl, HX1.out.bel⟩
 ·have q13 : (o.kind == 13) = false := by simp [k13]
  have q14 : (o.kind == 14) = true := by rw [beq_iff_eq]; omega
  clear hk k13
  go_enter Try.func26, Try.ntmps26
  go_upto_region 1 with fail
  generalize World.alloc _ _ = W0 at HX ⊢
  refine wp_region_noPanic ?_
  refine wp_region_held_drew (S := fun W => JRX w W B Bv g gm gp us s its P o A c) (by kernel_rfl) (HX.out.adv (zL _ _).drew) (fun hHeld => ?_)
  generalize W0.drew = W1 at hHeld ⊢
  have HX1 := zH hHeld
  refine Pl.go [0, 1, 2, 3, 4, 5, 6, 7, 8, 9, 10, 11] ?_
  iterate 12
   refine tkl (v := ?_) ?_ ?_
   rotate_left 1
   ·intro W hSw
    obtain ⟨z0, z1, z2, z3, z4, z5, z6, z7, z8⟩ := op9 hSw.box; obtain ⟨d0, d1, d2, d3, d4, d5, d6, d7, d8, d9, d10⟩ := hSw.rep.cells; have hlk := hSw.rep.lookPl HC.out; rw [HOp.out] at hlk
    clear hSw
    go_simp
    try with_reducible rfl
   try dsimp only [zS, zB, zC]
  refine Pl.stop ?_
  refine wpAnyH_done (by kernel_rfl) ?_ _
  refine NoPanic.normal ?_
  clear hHeld
  obtain ⟨z0, z1, z2, z3, z4, z5, z6, z7, z8⟩ := op9 HX1.out.box
  go_wp2_with fail
  go_ret2
  exact ⟨rfl, HX1.out.bel⟩
end Go.Proofs.Ytnabbimompapfaa
namespace Go.Proofs.Ytnabbimompapfaa
open Go Go.RowKit
set_option maxRecDepth 100000 in
set_option maxHeartbeats 4000000 in
theorem right_cfg (B Bv g gm gp : Nat) (us : Int) (s : PJ) (its : List It) (P : List (Int × Int)) (o : OpV) (V : Value) (t : Int) (w : World) (h : JRep w B g gm gp us s its P) (hv : Bts w Bv 5 V o.val) (hc : -9223372036854775808 ≤ o.cursor ∧ o.cursor ≤ 9223372036854775807)
  (hk : o.kind = 8) :
  Calls Try.prog 26 #[.pointer (some ⟨g, 0, none⟩), opv o V, .int .u64 t] w fun e w' => e = .returned (.tuple #[.int .i64 (rightP s o t), .bool (refusedP o (rightP s o t))]) ∧ Below w.heap.size w w' := by
 have hR : rightP s o t = cfgP { s.cfg with count := o.count, bytes := o.bytes } := by unfold rightP; rw [if_neg (by omega), if_pos (by omega)]
 obtain ⟨r, hr⟩ : ∃ r, cfgP { s.cfg with count := o.count, bytes := o.bytes } = r := ⟨_, rfl⟩
 rw [hR, hr, show refusedP o r = (r != 0) by
  unfold refusedP
  by_cases h0 : r = 0
  ·simp [h0]
  ·rw [decide_eq_true (by omega)]; simp [h0]]
 have HCf := zH (fun W => hr ▸ cfgCheck_any { s.cfg with count := o.count, bytes := o.bytes } W)
 obtain ⟨q, hq⟩ : ∃ q, openP s.pl o.cursor = q := ⟨_, rfl⟩
 have HOp := zH hq
 clear hR hr hq
 obtain ⟨A, c, rfl⟩ := hv.form
 have hbl : Below w.heap.size w (w.alloc (.cells (opc o (.slice A o.val.length c)) 29)) := (zL _ _).alloc (zN _) _
 have HX : Hid (JRX w (w.alloc (.cells (opc o (.slice A o.val.length c)) 29)) B Bv g gm gp us s its P o A c) := zH ⟨h.below hbl, Blk.new _ _ _, hbl, hv.below hbl⟩
 have HC := zH hc
 clear h hv hc hbl
 unfold opv
 unfold opc at HX ⊢
 have q1 : (o.kind == 1) = false := by rw [beq_eq_false_iff_ne]; omega
 have q2 : (o.kind == 2) = false := by rw [beq_eq_false_iff_ne]; omega
 have q3 : (o.kind == 3) = false := by rw [beq_eq_false_iff_ne]; omega
 have q4 : (o.kind == 4) = false := by rw [beq_eq_false_iff_ne]; omega
 have q5 : (o.kind == 5) = false := by rw [beq_eq_false_iff_ne]; omega
 have q6 : (o.kind == 6) = false := by rw [beq_eq_false_iff_ne]; omega
 have q8 : (o.kind == 8) = true := by simp [hk]
 clear hk
 unfold cfgv cfgc at HCf
 go_enter Try.func26, Try.ntmps26
 go_upto_region 1 with fail
 generalize World.alloc _ _ = W0 at HX ⊢
 refine wp_region_noPanic ?_
 refine wp_region_held_drew (S := fun W => JRX w W B Bv g gm gp us s its P o A c) (by kernel_rfl) (HX.out.adv (zL _ _).drew) (fun hHeld => ?_)
 generalize W0.drew = W1 at hHeld ⊢
 have HX1 := zH hHeld
 refine Pl.go [0, 1, 2, 3, 4, 5, 6, 7, 8, 9, 10, 11] ?_
 iterate 12
  refine tkl (v := ?_) ?_ ?_
  rotate_left 1
  ·intro W hSw
   obtain ⟨z0, z1, z2, z3, z4, z5, z6, z7, z8⟩ := op9 hSw.box; obtain ⟨d0, d1, d2, d3, d4, d5, d6, d7, d8, d9, d10⟩ := hSw.rep.cells; have hlk := hSw.rep.lookPl HC.out; rw [HOp.out] at hlk
   clear hSw
   go_simp
   try with_reducible rfl
  try dsimp only [zS, zB, zC]
 refine Pl.stop ?_
 refine wpAnyH_done (by kernel_rfl) ?_ _
 refine NoPanic.normal ?_
 clear hHeld
 obtain ⟨z0, z1, z2, z3, z4, z5, z6, z7, z8⟩ := op9 HX1.out.box
 obtain ⟨d0, d1, d2, d3, d4, d5, d6, d7, d8, d9, d10⟩ := HX1.out.rep.cells
 go_upto_region 13 with fail
 have hc0 : Blk (W1.alloc (.cells #[.int .i64 s.cfg.count, .int .i64 s.cfg.bytes, .int .i64 s.cfg.prot, .int .u64 s.cfg.seed, .bool s.cfg.same] 37)) W1.heap.size 37 #[.int .i64 s.cfg.count, .int .i64 s.cfg.bytes, .int .i64 s.cfg.prot, .int .u64 s.cfg.seed, .bool s.cfg.same] := Blk.new _ _ _
 have hX2 := HX1.out.adv ((zL W1.heap.size W1).alloc (zN _) (.cells #[.int .i64 s.cfg.count, .int .i64 s.cfg.bytes, .int .i64 s.cfg.prot, .int .u64 s.cfg.seed, .bool s.cfg.same] 37))
 clear z0 z1 z2 z3 z4 z5 z6 z7 z8 d0 d1 d2 d3 d4 d5 d6 d7 d8 d9 d10
 generalize World.alloc _ _ = W2 at hc0 hX2 ⊢
 have hlt : w.heap.size < W1.heap.size := HX1.out.box.lt
 generalize W1.heap.size = G at hc0 hlt ⊢
 have y5 : W2.cell? ⟨w.heap.size, 5, none⟩ = some (.int .i64 o.count) := hX2.box.cell 5 _ rfl
 have y6 : W2.cell? ⟨w.heap.size, 6, none⟩ = some (.int .i64 o.bytes) := hX2.box.cell 6 _ rfl
 have d0 : W2.cell? ⟨G, 0, none⟩ = some (.int .i64 s.cfg.count) := hc0.cell 0 _ rfl
 have d1 : W2.cell? ⟨G, 1, none⟩ = some (.int .i64 s.cfg.bytes) := hc0.cell 1 _ rfl
 have hne : ¬ w.heap.size = G := by omega
 have f0 := hc0.frozen
 have HC0 := zH hc0
 have HB1 := zH hX2.bel
 clear hc0 hX2 HX HX1
 go_region
 have h2 := ((HC0.out.set_ 0 (.int .i64 o.count)).set_ 1 (.int .i64 o.bytes)).drew
 have hb2 : Below w.heap.size w ((W2.setCell ⟨G, 0, none⟩ (.int .i64 o.count)).setCell ⟨G, 1, none⟩ (.int .i64 o.bytes)).drew := ((HB1.out.setCell (p := ⟨G, 0, none⟩) (by dsimp only; omega) _).setCell (p := ⟨G, 1, none⟩) (by dsimp only; omega) _).drew
 obtain ⟨W3, hW3⟩ : ∃ W3, ((W2.setCell ⟨G, 0, none⟩ (.int .i64 o.count)).setCell ⟨G, 1, none⟩ (.int .i64 o.bytes)).drew = W3 := ⟨_, rfl⟩
 rw [hW3] at h2 hb2 ⊢
 clear hW3 y5 y6 d0 d1 f0
 have e0 : W3.cell? ⟨G, 0, none⟩ = some (.int .i64 o.count) := h2.cell 0 _ rfl
 have e1 : W3.cell? ⟨G, 1, none⟩ = some (.int .i64 o.bytes) := h2.cell 1 _ rfl
 have e2 : W3.cell? ⟨G, 2, none⟩ = some (.int .i64 s.cfg.prot) := h2.cell 2 _ rfl
 have e3 : W3.cell? ⟨G, 3, none⟩ = some (.int .u64 s.cfg.seed) := h2.cell 3 _ rfl
 have e4 : W3.cell? ⟨G, 4, none⟩ = some (.bool s.cfg.same) := h2.cell 4 _ rfl
 have HB2 := zH hb2
 clear h2 hb2
 go_wp2_with fail
 refine (HCf.out W3).mono ?_
 rintro e w3 ⟨rfl, hb3⟩
 have HB3 := zH (HB2.out.trans (hb3.mono HB2.out.size))
 clear hb3
 go_wp2_with fail
 go_ret2
 exact ⟨rfl, HB3.out⟩
end Go.Proofs.Ytnabbimompapfaa
namespace Go.Proofs.Ytnabbimompapfaa
open Go Go.RowKit
theorem nodup_lenJ {α : Type} [DecidableEq α] : ∀ (l m : List α), l.Nodup → (∀ x ∈ l, x ∈ m) → l.length ≤ m.length
 |[], _, _, _ => Nat.zero_le _
 |x :: xs, m, hn, hs => by
  have hx := hs x (List.mem_cons_self ..)
  rw [List.nodup_cons] at hn
  have h1 := nodup_lenJ xs (m.erase x) hn.2 (fun y hy => (List.mem_erase_of_ne (a := y) (b := x) (fun e => by subst e; exact hn.1 hy)).2 (hs y (List.mem_cons_of_mem _ hy)))
  rw [List.length_erase_of_mem hx] at h1
  have h2 := List.length_pos_of_mem hx
  simp only [List.length_cons]
  omega
theorem places_in {P : List (Int × Int)} {pl : List (Option Int)} (hn : (P.map Prod.fst).Nodup) (hp : pl.length = 64) (hm : ∀ c, mget P c = openP pl c) : ∀ x ∈ P.map Prod.fst, ∃ i : Nat, x = i ∧ i < 64 ∧ openAt pl i = true := by
 intro x hx
 obtain ⟨y, hy, rfl⟩ := List.mem_map.1 hx
 have h1 := mget_mem hn (k := y.1) (bs := y.2) hy
 rw [hm] at h1
 obtain ⟨i, e, hi, h2⟩ := openP_idx h1
 exact ⟨i, e, by omega, by unfold openAt; rw [h2]; rfl⟩
theorem free_all {pl : List (Option Int)} (hp : pl.length = 64) (hf : freeP pl = 64) : ∀ n, n ≤ 64 → ∀ j, j < n → openAt pl j = true := by
 intro n
 induction n with
 |zero => intro _ j hj; omega
 |succ n ih =>
  intro hn j hj
  rcases (by omega : j < n ∨ j = n) with h1 | h1
  ·exact ih (by omega) j h1
  ·subst h1
   cases ho : openAt pl j with
   |true => rfl
   |false =>
    have := freeP_at hp (by omega) ho (ih (by omega))
    omega
theorem places_len {P : List (Int × Int)} {pl : List (Option Int)} (hn : (P.map Prod.fst).Nodup) (hp : pl.length = 64) (hm : ∀ c, mget P c = openP pl c) : P.length = 64 ↔ freeP pl = 64 := by
 have hle : P.length ≤ 64 := by
  have := nodup_lenJ _ ((List.range 64).map Int.ofNat) hn (fun x hx => by
   obtain ⟨i, rfl, hi, _⟩ := places_in hn hp hm x hx
   exact List.mem_map.2 ⟨i, List.mem_range.2 hi, rfl⟩)
  simpa using this
 constructor
 ·intro h64
  refine freeP_full hp fun j hj => ?_
  cases ho : openAt pl j with
  |true => rfl
  |false =>
   exfalso
   have hmem : Int.ofNat j ∈ (List.range 64).map Int.ofNat := List.mem_map.2 ⟨j, List.mem_range.2 hj, rfl⟩
   have h1 := nodup_lenJ _ (((List.range 64).map Int.ofNat).erase (Int.ofNat j)) hn (fun x hx => by
    obtain ⟨i, rfl, hi, hoi⟩ := places_in hn hp hm x hx
    refine (List.mem_erase_of_ne (fun e => ?_)).2 (List.mem_map.2 ⟨i, List.mem_range.2 hi, rfl⟩)
    have e2 : i = j := Int.ofNat.inj e
    rw [e2, ho] at hoi
    cases hoi)
   rw [List.length_erase_of_mem hmem] at h1
   simp only [List.length_map, List.length_range] at h1
   omega
 ·intro hf
  have h1 := nodup_lenJ ((List.range 64).map Int.ofNat) (P.map Prod.fst) (by decide) (fun x hx => by
   obtain ⟨j, hj, rfl⟩ := List.mem_map.1 hx
   have hj := List.mem_range.1 hj
   have ho := free_all hp hf 64 (zN _) j hj
   have ho : (openP pl (Int.ofNat j)).isSome = true := (openP_some pl (Int.ofNat j) (by simp)).trans ho
   cases hg : mget P (Int.ofNat j) with
   |none => rw [hm] at hg; rw [hg] at ho; cases ho
   |some b => exact List.mem_map.2 ⟨_, mget_some hg, rfl⟩)
  simp only [List.length_map, List.length_range] at h1
  omega
end Go.Proofs.Ytnabbimompapfaa
namespace Go.Proofs.Ytnabbimompapfaa
open Go Go.RowKit
set_option maxRecDepth 100000 in
set_option maxHeartbeats 4000000 in
theorem right_open (B Bv g gm gp : Nat) (us : Int) (s : PJ) (its : List It) (P : List (Int × Int)) (o : OpV) (V : Value) (t : Int) (w : World) (h : JRep w B g gm gp us s its P) (hv : Bts w Bv 5 V o.val) (hc : -9223372036854775808 ≤ o.cursor ∧ o.cursor ≤ 9223372036854775807)
  (hk : o.kind = 11) (hp : s.pl.length = 64) :
  Calls Try.prog 26 #[.pointer (some ⟨g, 0, none⟩), opv o V, .int .u64 t] w fun e w' => e = .returned (.tuple #[.int .i64 (rightP s o t), .bool (refusedP o (rightP s o t))]) ∧ Below w.heap.size w w' := by
 obtain ⟨es, clock, -, hM⟩ := h.places
 have hlen := places_len hM.nodup hp h.pl
 clear hM
 have hR : rightP s o t = if P.length = 64 then 7 else 0 := by
  unfold rightP
  rw [if_neg (by omega), if_neg (by omega), if_pos (by omega)]
  by_cases h64 : P.length = 64
  ·rw [if_pos h64, if_pos (hlen.1 h64)]
  ·rw [if_neg h64, if_neg (fun h => h64 (hlen.2 h))]
 rw [hR]
 have hF : ∀ r, refusedP o r = false := fun r => by unfold refusedP; exact decide_eq_false (by omega)
 rw [hF]
 obtain ⟨q, hq⟩ : ∃ q, openP s.pl o.cursor = q := ⟨_, rfl⟩
 have HOp := zH hq
 clear hR hF hlen hp hq
 obtain ⟨A, c, rfl⟩ := hv.form
 have hbl : Below w.heap.size w (w.alloc (.cells (opc o (.slice A o.val.length c)) 29)) := (zL _ _).alloc (zN _) _
 have HX : Hid (JRX w (w.alloc (.cells (opc o (.slice A o.val.length c)) 29)) B Bv g gm gp us s its P o A c) := zH ⟨h.below hbl, Blk.new _ _ _, hbl, hv.below hbl⟩
 have HC := zH hc
 clear h hv hc hbl
 unfold opv
 unfold opc at HX ⊢
 have q1 : (o.kind == 1) = false := by rw [beq_eq_false_iff_ne]; omega
 have q2 : (o.kind == 2) = false := by rw [beq_eq_false_iff_ne]; omega
 have q3 : (o.kind == 3) = false := by rw [beq_eq_false_iff_ne]; omega
 have q4 : (o.kind == 4) = false := by rw [beq_eq_false_iff_ne]; omega
 have q5 : (o.kind == 5) = false := by rw [beq_eq_false_iff_ne]; omega
 have q6 : (o.kind == 6) = false := by rw [beq_eq_false_iff_ne]; omega
 have q8 : (o.kind == 8) = false := by rw [beq_eq_false_iff_ne]; omega
 have q11 : (o.kind == 11) = true := by simp [hk]
 have q12 : (o.kind == 12) = false := by rw [beq_eq_false_iff_ne]; omega
 have q13 : (o.kind == 13) = false := by rw [beq_eq_false_iff_ne]; omega
 have q14 : (o.kind == 14) = false := by rw [beq_eq_false_iff_ne]; omega
 clear hk
 by_cases h64 : P.length = 64
 ·rw [if_pos h64]
  have ql : ((P.length : Int) == 64) = true := by rw [beq_iff_eq]; omega
  clear h64
  go_enter Try.func26, Try.ntmps26
  go_upto_region 1 with fail
  generalize World.alloc _ _ = W0 at HX ⊢
  refine wp_region_noPanic ?_
  refine wp_region_held_drew (S := fun W => JRX w W B Bv g gm gp us s its P o A c) (by kernel_rfl) (HX.out.adv (zL _ _).drew) (fun hHeld => ?_)
  generalize W0.drew = W1 at hHeld ⊢
  have HX1 := zH hHeld
  refine Pl.go [0, 1, 2, 3, 4, 5, 6, 7, 8, 9, 10, 11] ?_
  iterate 12
   refine tkl (v := ?_) ?_ ?_
   rotate_left 1
   ·intro W hSw
    obtain ⟨z0, z1, z2, z3, z4, z5, z6, z7, z8⟩ := op9 hSw.box; obtain ⟨d0, d1, d2, d3, d4, d5, d6, d7, d8, d9, d10⟩ := hSw.rep.cells; have hlk := hSw.rep.lookPl HC.out; rw [HOp.out] at hlk
    clear hSw
    go_simp
    try with_reducible rfl
   try dsimp only [zS, zB, zC]
  refine Pl.stop ?_
  refine wpAnyH_done (by kernel_rfl) ?_ _
  refine NoPanic.normal ?_
  clear hHeld
  obtain ⟨z0, z1, z2, z3, z4, z5, z6, z7, z8⟩ := op9 HX1.out.box
  obtain ⟨d0, d1, d2, d3, d4, d5, d6, d7, d8, d9, d10⟩ := HX1.out.rep.cells
  have hln : ∀ ty, (Builtin.len_ #[71] ty #[.map (some gp)]).run Try.prog W1 = .ok (.int .i64 P.length) W1 := fun ty => HX1.out.rep.places.len (P := Try.prog) ty
  go_wp2_with fail
  go_ret2
  exact ⟨rfl, HX1.out.bel⟩
 ·rw [if_neg h64]
  have ql : ((P.length : Int) == 64) = false := by rw [beq_eq_false_iff_ne]; omega
  clear h64
  go_enter Try.func26, Try.ntmps26
  go_upto_region 1 with fail
  generalize World.alloc _ _ = W0 at HX ⊢
  refine wp_region_noPanic ?_
  refine wp_region_held_drew (S := fun W => JRX w W B Bv g gm gp us s its P o A c) (by kernel_rfl) (HX.out.adv (zL _ _).drew) (fun hHeld => ?_)
  generalize W0.drew = W1 at hHeld ⊢
  have HX1 := zH hHeld
  refine Pl.go [0, 1, 2, 3, 4, 5, 6, 7, 8, 9, 10, 11] ?_
  iterate 12
   refine tkl (v := ?_) ?_ ?_
   rotate_left 1
   ·intro W hSw
    obtain ⟨z0, z1, z2, z3, z4, z5, z6, z7, z8⟩ := op9 hSw.box; obtain ⟨d0, d1, d2, d3, d4, d5, d6, d7, d8, d9, d10⟩ := hSw.rep.cells; have hlk := hSw.rep.lookPl HC.out; rw [HOp.out] at hlk
    clear hSw
    go_simp
    try with_reducible rfl
   try dsimp only [zS, zB, zC]
  refine Pl.stop ?_
  refine wpAnyH_done (by kernel_rfl) ?_ _
  refine NoPanic.normal ?_
  clear hHeld
  obtain ⟨z0, z1, z2, z3, z4, z5, z6, z7, z8⟩ := op9 HX1.out.box
  obtain ⟨d0, d1, d2, d3, d4, d5, d6, d7, d8, d9, d10⟩ := HX1.out.rep.cells
  have hln : ∀ ty, (Builtin.len_ #[71] ty #[.map (some gp)]).run Try.prog W1 = .ok (.int .i64 P.length) W1 := fun ty => HX1.out.rep.places.len (P := Try.prog) ty
  go_wp2_with fail
  go_ret2
  exact ⟨rfl, HX1.out.bel⟩
end Go.Proofs.Ytnabbimompapfaa
namespace Go.Proofs.Ytnabbimompapfaa
open Go Go.RowKit
open Go.Sort (grow SWO PermIn SortedIn Holds putRow putCells mapBlock onCells grow_grow grow_empty alloc_eq_grow)
def Gr (w w' : World) : Prop := ∃ q os, w' = grow (w.drewN q) os
theorem Gr.refl (w : World) : Gr w w := ⟨0, #[], by rw [grow_empty]; rfl⟩
theorem Gr.drewN {w W : World} (h : Gr w W) (n : Nat) : Gr w (W.drewN n) := by
 obtain ⟨q, os, rfl⟩ := h
 exact ⟨q + n, os, by rw [← World.drewN_drewN]; rfl⟩
theorem Gr.drew {w W : World} (h : Gr w W) : Gr w W.drew := h.drewN 1
theorem Gr.alloc {w W : World} (h : Gr w W) (o : Obj) : Gr w (W.alloc o) := by
 obtain ⟨q, os, rfl⟩ := h
 exact ⟨q, os ++ #[o], by rw [alloc_eq_grow, grow_grow]⟩
theorem Gr.trans {a b c : World} (h : Gr a b) (k : Gr b c) : Gr a c := by
 obtain ⟨q, os, rfl⟩ := h
 obtain ⟨q2, os2, rfl⟩ := k
 exact ⟨q + q2, os ++ os2, by rw [← World.drewN_drewN, ← grow_grow]; rfl⟩
theorem Gr.below {w W : World} (h : Gr w W) : Below w.heap.size w W := by
 obtain ⟨q, os, rfl⟩ := h
 refine ⟨rfl, rfl, rfl, by show w.heap.size ≤ (w.heap ++ os).size; simp, fun k hk => ?_⟩
 show (w.heap ++ os)[k]? = w.heap[k]?
 exact Array.getElem?_append_left hk
set_option maxHeartbeats 2000000 in
theorem byDeadline_gr (g1 g2 : Nat) (e1 e2 : EntV) (v1 v2 : Value) (u1 u2 c1 c2 : Int) (w : World) (h1 : ItAt w g1 e1 v1 u1 c1) (h2 : ItAt w g2 e2 v2 u2 c2) :
  Calls Try.prog 42 #[.pointer (some ⟨g1, 0, none⟩), .pointer (some ⟨g2, 0, none⟩)] w fun e w' => e = .returned (.int .i64 (cmpD e1 e2)) ∧ Gr w w' := by
 have HT : Hid (TwoI w g1 g2 e1 e2 v1 v2 u1 u2 c1 c2) := zH ⟨h1, h2⟩
 clear h1 h2
 go_enter Try.func42, Try.ntmps42
 go_wp2_with fail
 refine wp_region_noPanic ?_
 refine wp_region_held_drew (S := fun W => TwoI W g1 g2 e1 e2 v1 v2 u1 u2 c1 c2) (by kernel_rfl) (HT.out.below (zL _ _).drew) (fun hHeld => ?_)
 have HB1 : Hid (Gr w w.drew) := zH (Gr.refl _).drew
 generalize w.drew = W1 at hHeld HB1 ⊢
 have H1 := zH hHeld
 refine Pl.go [0, 1, 2, 3, 4, 5, 6, 7, 8, 9] ?_
 iterate 10
  refine tkl (v := ?_) ?_ ?_
  rotate_left 1
  ·intro W hSw
   obtain ⟨-, -, x2, x3, -, -⟩ := hSw.a.cells; obtain ⟨-, -, y2, y3, -, -⟩ := hSw.b.cells
   clear hSw
   go_simp
   try with_reducible rfl
  try dsimp only [zS, zB, zC]
 refine Pl.stop ?_
 refine Pl.go [11, 12] ?_
 iterate 2
  refine tkl (v := ?_) ?_ ?_
  rotate_left 1
  ·intro W hSw
   obtain ⟨-, -, x2, x3, -, -⟩ := hSw.a.cells; obtain ⟨-, -, y2, y3, -, -⟩ := hSw.b.cells
   clear hSw
   go_simp
   try with_reducible rfl
  try dsimp only [zS, zB, zC]
 refine Pl.stop ?_
 refine wpAnyH_ready (rs := [10]) (by kernel_rfl) (by simp) ?_
 refine AllReadyH.cons (o := ⟨_, _, _, _, _, _⟩) rfl (fun F hF => ?_) AllReadyH.nil
 go_simp
 refine (cmp_time e1.dl e2.dl W1).mono ?_
 rintro e w2 ⟨rfl, hw⟩
 subst hw
 go_wp2_with fail
 refine hF.out _ _ H1.out (fun hHeld => ?_)
 clear hF F
 try simp only [Act.put, zA, zB, zC]
 refine wpAnyH_ready (rs := [13]) (by kernel_rfl) (by simp) ?_
 refine AllReadyH.cons (o := ⟨_, _, _, _, _, _⟩) rfl (fun F hF => ?_) AllReadyH.nil
 go_simp
 refine (byBirth_any g1 g2 e1 e2 v1 v2 u1 u2 c1 c2 W1 H1.out.a H1.out.b).mono ?_
 rintro e w2 ⟨rfl, q, rfl⟩
 have H2 := zH (H1.out.below (below_drewN (zL _ _) q))
 have HB2 := zH (Gr.drewN HB1.out q)
 generalize W1.drewN q = W2 at H2 HB2 ⊢
 clear hHeld H1 HB1
 go_wp2_with fail
 refine hF.out _ _ H2.out (fun hHeld => ?_)
 clear hF F
 try simp only [Act.put, zA, zB, zC]
 refine wpAnyH_ready (rs := [14]) (by kernel_rfl) (by simp) ?_
 refine AllReadyH.cons (o := ⟨_, _, _, _, _, _⟩) rfl (fun F hF => ?_) AllReadyH.nil
 go_simp
 have H3 := zH (H2.out.below ((zL _ _).alloc (zN _) (.cells #[.int .i64 (cmpI e1.dl e2.dl), .int .i64 (cmpI e1.birth e2.birth)] 3)))
 have HB3 := zH (HB2.out.alloc (.cells #[.int .i64 (cmpI e1.dl e2.dl), .int .i64 (cmpI e1.birth e2.birth)] 3))
 have HO3 := zH (Blk.new W2 3 #[.int .i64 (cmpI e1.dl e2.dl), .int .i64 (cmpI e1.birth e2.birth)])
 refine hF.out _ _ H3.out (fun hHeld => ?_)
 clear hF F
 try simp only [Act.put, zA, zB, zC]
 generalize W2.heap.size = gB at HO3 ⊢
 generalize W2.alloc _ = W3 at H3 HB3 HO3 hHeld ⊢
 refine wpAnyH_ready (rs := [15]) (by kernel_rfl) (by simp) ?_
 refine AllReadyH.cons (o := ⟨_, _, _, _, _, _⟩) rfl (fun F hF => ?_) AllReadyH.nil
 go_simp
 refine (or_any _ _ gB W3 HO3.out).mono ?_
 rintro e w2 ⟨rfl, hw⟩
 subst hw
 go_wp2_with fail
 refine hF.out _ _ H3.out (fun hHeld => ?_)
 clear hF F
 try simp only [Act.put, zA, zB, zC]
 refine tk 16 (v := ?_) ?_ ?_
 rotate_left 1
 ·intro W hSw
  skip
  clear hSw
  go_simp
  try with_reducible rfl
 try dsimp only [zS, zB, zC]
 refine wpAnyH_done (by kernel_rfl) ?_ _
 refine NoPanic.normal ?_
 go_wp2_with fail
 go_ret
 exact ⟨rfl, HB3.out⟩
def cmpB (a b : EntV) : Int := cmpI a.birth b.birth
theorem cmpI_neg (a b : Int) : cmpI a b < 0 ↔ a < b := by
 unfold cmpI
 split
 ·omega
 ·split <;> omega
theorem cmpI_zero (a b : Int) : cmpI a b = 0 ↔ a = b := by
 unfold cmpI
 split
 ·omega
 ·split <;> omega
theorem cmpB_neg (a b : EntV) : cmpB a b < 0 ↔ a.birth < b.birth := cmpI_neg _ _
theorem cmpD_neg (a b : EntV) : cmpD a b < 0 ↔ a.dl < b.dl ∨ (a.dl = b.dl ∧ a.birth < b.birth) := by
 unfold cmpD orI
 split
 ·rename_i h
  rw [cmpI_zero] at h
  rw [cmpI_neg]; omega
 ·rename_i h
  rw [cmpI_zero] at h
  rw [cmpI_neg]; omega
structure CmpIs (g : Nat) (cf : EntV → EntV → Int) : Prop where
 eg : ∀ args w, (callFunc g args).run Try.prog w = .ok (.enter g args) w
 run : ∀ (g1 g2 : Nat) (e1 e2 : EntV) (v1 v2 : Value) (u1 u2 c1 c2 : Int) (w : World), ItAt w g1 e1 v1 u1 c1 → ItAt w g2 e2 v2 u2 c2 →
  Calls Try.prog g #[.pointer (some ⟨g1, 0, none⟩), .pointer (some ⟨g2, 0, none⟩)] w fun e w' => e = .returned (.int .i64 (cf e1 e2)) ∧ Gr w w'
 irr : ∀ a, ¬ cf a a < 0
 tr : ∀ a b c, cf a b < 0 → cf b c < 0 → cf a c < 0
 nt : ∀ a b c, ¬ cf a b < 0 → ¬ cf b c < 0 → ¬ cf a c < 0
theorem cmpIs_birth : CmpIs 13 cmpB where
 eg := enters_of Try.func13 (by kernel_rfl) rfl
 run := fun g1 g2 e1 e2 v1 v2 u1 u2 c1 c2 w h1 h2 => (byBirth_any g1 g2 e1 e2 v1 v2 u1 u2 c1 c2 w h1 h2).mono fun e w' ⟨h, q, hq⟩ => ⟨h, hq ▸ (Gr.refl w).drewN q⟩
 irr := fun a => by rw [cmpB_neg]; omega
 tr := fun a b c => by rw [cmpB_neg, cmpB_neg, cmpB_neg]; omega
 nt := fun a b c => by rw [cmpB_neg, cmpB_neg, cmpB_neg]; omega
theorem cmpIs_deadline : CmpIs 42 cmpD where
 eg := enters_of Try.func42 (by kernel_rfl) rfl
 run := fun g1 g2 e1 e2 v1 v2 u1 u2 c1 c2 w h1 h2 => byDeadline_gr g1 g2 e1 e2 v1 v2 u1 u2 c1 c2 w h1 h2
 irr := fun a => by rw [cmpD_neg]; omega
 tr := fun a b c => by rw [cmpD_neg, cmpD_neg, cmpD_neg]; omega
 nt := fun a b c => by rw [cmpD_neg, cmpD_neg, cmpD_neg]; omega
def ptrI (b : Nat) : Value := .pointer (some ⟨b, 0, none⟩)
def RowT (w : World) (g : Nat) : Prop := ∃ cs, Blk w g 56 cs
theorem RowT.lt {w : World} {g : Nat} (h : RowT w g) : g < w.heap.size := by
 obtain ⟨cs, h⟩ := h
 exact h.lt
theorem RowT.below {w w' : World} {g : Nat} (h : RowT w g) (hb : Below w.heap.size w w') : RowT w' g := by
 obtain ⟨cs, h⟩ := h
 exact ⟨cs, h.below hb⟩
theorem RowT.set_ {w : World} {g : Nat} (h : RowT w g) (i : Nat) (v : Value) : RowT (w.setCell ⟨g, i, none⟩ v) g := by
 obtain ⟨cs, h⟩ := h
 exact ⟨_, h.set_ i v⟩
structure PRow (w : World) (B : Nat) (A : Option Addr) (n c : Nat) (bs : List Nat) : Prop where
 len : n = bs.length
 cap : n ≤ c
 small : n ≤ 1000000
 row : bs = [] ∨ ∃ g, A = some ⟨g, 0, none⟩ ∧ B ≤ g ∧ RowT w g ∧ ∀ i b, bs[i]? = some b → w.cell? ⟨g, i, none⟩ = some (ptrI b) ∧ w.frozen? ⟨g, i, none⟩ = false
theorem PRow.below {w w' : World} {B : Nat} {A : Option Addr} {n c : Nat} {bs : List Nat} (h : PRow w B A n c bs) (hb : Below w.heap.size w w') : PRow w' B A n c bs := by
 refine ⟨h.len, h.cap, h.small, ?_⟩
 rcases h.row with e | ⟨g, h1, h2, h3, h4⟩
 ·exact .inl e
 ·refine .inr ⟨g, h1, h2, h3.below hb, fun i b hi => ?_⟩
  obtain ⟨c1, c2⟩ := h4 i b hi
  exact ⟨(hb.cell (p := ⟨g, i, none⟩) h3.lt).trans c1, by rw [World.frozen?, hb.block g h3.lt]; exact c2⟩
end Go.Proofs.Ytnabbimompapfaa
namespace Go.Proofs.Ytnabbimompapfaa
open Go Go.RowKit Go.MapKept Go.Maps
section
variable {P : Program} {mt kt et : TypeId} {α β : Type} {kV : α → Value} {vV : β → Value} {zero : Value} {K : MapK P mt kt et α β kV vV zero}
variable {F : Fence} {n : Nat} (w : World) {ops : Array Oper} {rest : List Oper} {o : Oper} {a : Act} {Q : Exit → Act → World → Prop}
theorem wpList_mrange (hg : o.guard = none) (m : Operand) (hop : o.op = Op.range mt m) {b : Nat} {L : List (α × β)} (hm : a.eval m = .map (some b)) (h : MRep K w b L)
  (hK : ∀ w' ob, w' = w.alloc ob → ob.isWalk = true → MRange K w' b w.heap.size L L → wpList P ops Q rest (a.put o.dst (.pointer (some ⟨w.heap.size, 0, none⟩))) w') :
  wpList P ops Q (o :: rest) a w := by
 refine wpList_plain hg fun K' hK' => ?_
 obtain ⟨c, hrun, hr⟩ := h.range
 unfold Oper.wp
 simp [execOp, hop, hm, hrun, Result.andThen]
 exact hK' _ _ (hK _ _ rfl rfl hr)
theorem wpListIn_mrange (hg : o.guard = none) (m : Operand) (hop : o.op = Op.range mt m) {b : Nat} {L : List (α × β)} (hm : a.eval m = .map (some b)) (h : MRep K w b L)
  (hK : ∀ w' ob, w' = w.alloc ob → ob.isWalk = true → MRange K w' b w.heap.size L L → wpListIn F n P ops Q rest (a.put o.dst (.pointer (some ⟨w.heap.size, 0, none⟩))) w') :
  wpListIn F n P ops Q (o :: rest) a w := by
 refine wpListIn_plain hg fun K' hK' => ?_
 obtain ⟨c, hrun, hr⟩ := h.range
 unfold Oper.wpIn
 refine ⟨?_, ?_⟩
 ·simp [Oper.about, hop]
 ·rw [Oper.semAt_plain F _ _ (by rw [hop]; intro c hc'; cases hc')]
  simp [execOp, hop, hm, hrun, Result.andThen]
  exact hK' _ _ (hK _ _ rfl rfl hr)
theorem wpList_mnext (hg : o.guard = none) (it : Operand) (hop : o.op = Op.next it false) {b r : Nat} {L todo : List (α × β)} (hit : a.eval it = .pointer (some ⟨r, 0, none⟩)) (h : MRange K w b r L todo)
  (hDone : todo = [] → wpList P ops Q rest (a.put o.dst (.tuple #[.bool false])) w)
  (hMore : ∀ (i : Nat) (x : α × β) (w' : World), todo[i]? = some x → MRange K w' b r L (todo.eraseIdx i) → Below r w w' → Only (fun k => k = r) w w' → w'.heap.size = w.heap.size → (∃ ob, w.heap[r]? = some ob ∧ ob.isWalk = true) →
   (Instr.entry (.pointer (some ⟨r, 0, none⟩))).run P w' = .ok (.tuple #[kV x.1, vV x.2]) w' → wpList P ops Q rest (a.put o.dst (.tuple #[.bool true, kV x.1, vV x.2])) w') :
  wpList P ops Q (o :: rest) a w := by
 refine wpList_plain hg fun K' hK' => ?_
 unfold Oper.wp
 have hw : ∃ ob, w.heap[r]? = some ob ∧ ob.isWalk = true := by
  obtain ⟨_, _, _, _, _, _, _, hr, _⟩ := h
  exact ⟨_, hr, rfl⟩
 rcases h.next with ⟨h0, hrun⟩ | ⟨i, x, w', hi, hrun, hr, h1, h2, h3, h4, h5⟩
 ·simp [execOp, hop, hit, hrun, Result.andThen]
  exact hK' _ _ (hDone h0)
 ·simp [execOp, hop, hit, hrun, Result.andThen]
  exact hK' _ _ (hMore i x w' hi hr h1 h2 h4 hw h5)
theorem wpListIn_mnext (hg : o.guard = none) (it : Operand) (hop : o.op = Op.next it false) {b r : Nat} {L todo : List (α × β)} (hit : a.eval it = .pointer (some ⟨r, 0, none⟩)) (h : MRange K w b r L todo)
  (hDone : todo = [] → wpListIn F n P ops Q rest (a.put o.dst (.tuple #[.bool false])) w)
  (hMore : ∀ (i : Nat) (x : α × β) (w' : World), todo[i]? = some x → MRange K w' b r L (todo.eraseIdx i) → Below r w w' → Only (fun k => k = r) w w' → w'.heap.size = w.heap.size → (∃ ob, w.heap[r]? = some ob ∧ ob.isWalk = true) →
   (Instr.entry (.pointer (some ⟨r, 0, none⟩))).run P w' = .ok (.tuple #[kV x.1, vV x.2]) w' → wpListIn F n P ops Q rest (a.put o.dst (.tuple #[.bool true, kV x.1, vV x.2])) w') :
  wpListIn F n P ops Q (o :: rest) a w := by
 refine wpListIn_plain hg fun K' hK' => ?_
 unfold Oper.wpIn
 refine ⟨by simp [Oper.about, hop], ?_⟩
 rw [Oper.semAt_plain F _ _ (by rw [hop]; intro c hc'; cases hc')]
 have hw : ∃ ob, w.heap[r]? = some ob ∧ ob.isWalk = true := by
  obtain ⟨_, _, _, _, _, _, _, hr, _⟩ := h
  exact ⟨_, hr, rfl⟩
 rcases h.next with ⟨h0, hrun⟩ | ⟨i, x, w', hi, hrun, hr, h1, h2, h3, h4, h5⟩
 ·simp [execOp, hop, hit, hrun, Result.andThen]
  exact hK' _ _ (hDone h0)
 ·simp [execOp, hop, hit, hrun, Result.andThen]
  exact hK' _ _ (hMore i x w' hi hr h1 h2 h4 hw h5)
variable {w}
theorem MRange.walks {w' : World} {b r : Nat} {L todo : List (α × β)} (h : MRange K w b r L todo) (hk : KeepsWalks w w') : MRange K w' b r L todo := by
 obtain ⟨es, clock, since, seen, c0, h2, h3, h4, h5⟩ := h
 exact ⟨es, clock, since, seen, c0, hk.same b _ h2 rfl, h3, hk.same r _ h4 rfl, h5⟩
theorem MRange.only {w' : World} {S : Nat → Prop} {b r : Nat} {L todo : List (α × β)} (h : MRange K w b r L todo) (ho : Only S w w') (h1 : ¬ S b) (h2 : ¬ S r) : MRange K w' b r L todo := by
 have hl := h.lt
 obtain ⟨es, clock, since, seen, c0, h3, h4, h5, h6⟩ := h
 exact ⟨es, clock, since, seen, c0, (ho.block b hl.1 h1).trans h3, h4, (ho.block r hl.2 h2).trans h5, h6⟩
end
theorem perm_eraseIdx {α : Type} : ∀ (l : List α) (i : Nat) (x : α), l[i]? = some x → (x :: l.eraseIdx i).Perm l
 |[], _, _, h => by simp at h
 |y :: l, 0, x, h => by
  simp at h
  subst h
  exact List.Perm.refl _
 |y :: l, i + 1, x, h => by
  have h2 : l[i]? = some x := by simpa using h
  exact (List.Perm.swap y x _).trans ((perm_eraseIdx l i x h2).cons y)
theorem perm_next {α : Type} {pre todo L : List α} {i : Nat} {x : α} (h : (pre ++ todo).Perm L) (hi : todo[i]? = some x) : ((pre ++ [x]) ++ todo.eraseIdx i).Perm L := by
 refine List.Perm.trans ?_ h
 rw [List.append_assoc]
 refine List.Perm.append_left pre ?_
 exact perm_eraseIdx todo i x hi
theorem len_next {α : Type} {todo : List α} {i : Nat} {x : α} (hi : todo[i]? = some x) : (todo.eraseIdx i).length + 1 = todo.length := by
 obtain ⟨hlt, rfl⟩ := List.getElem?_eq_some_iff.1 hi
 rw [List.length_eraseIdx_of_lt hlt]; omega
end Go.Proofs.Ytnabbimompapfaa
namespace Go.Proofs.Ytnabbimompapfaa
open Go Go.RowKit Go.MapKept Go.Maps
section
attribute [local go_sem] Oper.semAt_some
set_option maxRecDepth 100000 in
set_option maxHeartbeats 1000000 in
theorem values1_in (n : Nat) (hn : 1 ≤ n) (l Bm gm : Nat) (L : List (ByteArray × Nat)) (J Jx : List (ByteArray × Nat) → World → Prop) (W : World)
  (hY : ∀ pre x W, J pre W → pre.length < L.length → YieldAt Fence.wide (n - 1) Try.prog l #[ptrI x.2] W fun e W' =>
   (e = .returned (.bool true) ∧ J (pre ++ [x]) W' ∧ KeepsWalks W W') ∨ (e = .returned (.bool false) ∧ Jx (pre ++ [x]) W'))
  (hJ : AbidesFrom W.heap.size J) (hm : W.cell? ⟨Bm, 0, none⟩ = some (.map (some gm))) (hrep : MRep KI W gm L) (h0 : J [] W) :
  CallsIn Fence.wide n Try.prog 34 #[.func (.yield l) #[] #[], .pointer (some ⟨Bm, 0, none⟩)] W fun e W' => (∃ v, e = .returned v) ∧
   ((∃ ys : List (ByteArray × Nat), ys.Perm L ∧ J ys W') ∨ (∃ pre : List (ByteArray × Nat), True ∧ Jx pre W')) := by
 refine callsIn_of_wp Try.func34 rfl trivial ?_ rfl
 simp only [Try.ntmps34, List.size_toArray, List.length_cons, List.length_nil, Nat.reduceAdd, Nat.reduceSub, Array.replicate_succ, Array.replicate_zero, List.push_toArray, List.append_toArray, List.nil_append, List.cons_append]
 have HY := zH hY
 have HJ := zH hJ
 have H0 := zH h0
 have HR := zH hrep
 clear hY hJ h0 hrep
 gi_wp2_with (first
  |(gi_at_range; refine wpListIn_mrange (K := KI) _ rfl _ rfl rfl HR.out ?_; intro w0 ob hw0 hob hrg0)
  |gi_in)
 have hs0 : W.heap.size ≤ w0.heap.size := by rw [hw0]; simp
 have hJ0 := zH (by rw [hw0]; exact HJ.out [] W _ none H0.out (World.grownBy_alloc W ob none) (fun r e => by cases e) : J [] w0)
 have Hrg0 := zH hrg0
 clear hw0 hob hrg0
 go_frame
 gi_loopw [4] (fun _ wr => ∃ (pre todo : List (ByteArray × Nat)), MRange KI wr gm W.heap.size L todo ∧ (pre ++ todo).Perm L ∧ J pre wr)
  (fun _ wr => wr.rangeLeft gm W.heap.size)
 case atStart => exact ⟨[], L, Hrg0.out, List.Perm.refl _, hJ0.out⟩
 case round =>
  obtain ⟨pre, todo, hrg, hp, hJs⟩ := hrel
  have HRg := zH hrg
  have HP := zH hp
  have HJs := zH hJs
  clear hrg hp hJs
  gi_wp2_with (first
   |(gi_at_next; refine wpListIn_mnext (K := KI) _ rfl _ rfl rfl HRg.out ?_ ?_)
   |gi_in)
  ·intro ht
   have HT := zH ht
   clear ht
   gi_wp2
   go_end0
   exact ⟨⟨_, rfl⟩, .inl ⟨pre, by have := HP.out; rw [HT.out, List.append_nil] at this; exact this, HJs.out⟩⟩
  ·intro i xk xb w2 hi hrg2 hb2 ho2 hs2 ob2 hob1 hob2 hen
   have hJ2 : J pre w2 := HJ.out pre wr w2 (some W.heap.size) HJs.out ⟨hb2.os, hb2.tape, hb2.output, hb2.size, fun k hk hne => ho2.block k hk (fun e => hne (by rw [e]))⟩ (fun r e => by cases e; exact ⟨zN _, ob2, hob1, hob2⟩)
   obtain ⟨fn, tmps, assign, body, hy, hR⟩ := HY.out pre (xk, xb) w2 hJ2 (by
    have h1 := HP.out.length_eq
    have h2 := len_next hi
    rw [List.length_append] at h1; omega)
   have HRr := zH hR
   have HRg2 := zH hrg2
   have HI := zH hi
   unfold ptrI at hy
   dsimp only at hy
   clear hR hrg2 hb2 ho2 hs2 hob1 hob2 hJ2 hi
   gi_wp2
   refine HRr.out.mono ?_
   rintro e W3 (⟨rfl, hJ3, hk3⟩ | ⟨rfl, hJx3⟩)
   ·have HJ3 := zH hJ3
    have HR3 := zH (HRg2.out.walks hk3)
    clear hJ3 hk3
    gi_wp2
    go_roundw
    case rel => exact ⟨pre ++ [(xk, xb)], todo.eraseIdx i, HR3.out, perm_next HP.out HI.out, HJ3.out⟩
    case measure =>
     have := len_next HI.out
     rw [HR3.out.left_eq, HRg.out.left_eq]; omega
   ·have HJx := zH hJx3
    clear hJx3
    gi_wp2
    refine bodyPost_ret (results_none rfl _ _ _) rfl ?_
    exact ⟨⟨_, rfl⟩, .inr ⟨_, trivial, HJx.out⟩⟩
theorem values_stops (n : Nat) (hn : 1 ≤ n) (Bm gm : Nat) (L : List (ByteArray × Nat)) (w : World) (hB : Bm < w.heap.size) (hm : w.cell? ⟨Bm, 0, none⟩ = some (.map (some gm))) (hrep : MRep KI w gm L) :
  SeqStopsK Fence.wide n Try.prog 34 #[.pointer (some ⟨Bm, 0, none⟩)] (fun x => #[ptrI x.2]) KeepsWalks (fun ys => ys.Perm L) (fun _ => True) L.length w := fun l J Jx W hW hJ _ hY h0 =>
 values1_in n hn l Bm gm L J Jx W hY hJ ((hW.cell (p := ⟨Bm, 0, none⟩) hB).trans hm) (hrep.below hW) h0
set_option maxHeartbeats 1000000 in
theorem values_in (n : Nat) (gm : Nat) (w : World) :
  CallsIn Fence.wide n Try.prog 20 #[.map (some gm)] w fun e w' =>
   e = .returned (.func (.func 34) #[] #[.pointer (some ⟨w.heap.size, 0, none⟩)]) ∧ w' = w.alloc (.cells #[.map (some gm)] 70) := by
 refine callsIn_of_wp Try.func20 rfl trivial ?_ rfl
 simp only [Try.ntmps20, List.size_toArray, List.length_cons, List.length_nil, Nat.reduceAdd, Nat.reduceSub, Array.replicate_succ, Array.replicate_zero, List.push_toArray, List.append_toArray, List.nil_append, List.cons_append]
 gi_wp2
 go_ret
 exact ⟨rfl, rfl⟩
theorem item_info : (Try.prog.info? 56).map (fun i => (i.zero, i.size, i.bytes)) = some (some (.pointer none), 1, 8) := by kernel_rfl
set_option maxRecDepth 100000 in
set_option maxHeartbeats 2000000 in
theorem appendSeq_in (n : Nat) (hn : 3 ≤ n) (Bm gm : Nat) (L : List (ByteArray × Nat)) (hlen : L.length ≤ 1000000) (w : World) (hB : Bm < w.heap.size) (hm : w.cell? ⟨Bm, 0, none⟩ = some (.map (some gm))) (hrep : MRep KI w gm L) :
  CallsIn Fence.wide n Try.prog 33 #[.slice none 0 0, .func (.func 34) #[] #[.pointer (some ⟨Bm, 0, none⟩)]] w fun e w' =>
   ∃ (v : Value) (ys : List (ByteArray × Nat)), e = .returned v ∧ ys.Perm L ∧ w'.ownsRow w.heap.size 56 1 v ys.length (ys.map fun x => ptrI x.2) ∧ Below w.heap.size w w' := by
 have h1 : 1 ≤ n := by omega
 obtain ⟨i0, hi, hz0, hz1, hz2⟩ := info_parts item_info
 refine callsIn_of_wp_marks Try.func33 rfl trivial ?_ rfl
 simp only [Try.ntmps33, List.size_toArray, List.length_cons, List.length_nil, Nat.reduceAdd, Nat.reduceSub, Array.replicate_succ, Array.replicate_zero, List.push_toArray, List.append_toArray, List.nil_append, List.cons_append]
 have HR := zH hrep
 have HM := zH hm
 clear hrep hm
 gi_wp2
 have bO := Boxed.new w 54 (.slice none 0 0)
 have hB0 : Below w.heap.size w (w.alloc (.cells #[.slice none 0 0] 54)) := (zL _ w).alloc (zN _) _
 refine wpIn_rangeFunc_ownG rfl h1 (gf := 34) (lb := #[.pointer (some ⟨Bm, 0, none⟩)]) rfl trivial (enters_of Try.func34 (by kernel_rfl) rfl)
  (values_stops (n - 1) (by omega) Bm gm L w hB HM.out HR.out) KeepsWalks.trans (fun W l o o' _ hl _ hw => KeepsWalks.putObj o' hl hw) hB0 (fun _ => rfl)
  (fun pre W => (∃ v, Boxed W w.heap.size 54 v ∧ W.ownsRow w.heap.size 56 1 v pre.length (pre.map fun x => ptrI x.2) ∧ True) ∧ Below w.heap.size w W)
  (fun _ _ _ => False)
  (OwnFrom.and (Own.from (holdsRow_own w.heap.size w.heap.size 54 56 1 (fun pre : List (ByteArray × Nat) => pre.length) (fun pre => pre.map fun x => ptrI x.2) (fun _ _ => True)) _) (ownFrom_below (zN _) (by simp)))
  (fun _ _ _ _ _ hs _ _ => hs)
  ⟨⟨_, bO, World.ownsRow_nil _ _ _ _, trivial⟩, hB0⟩
  (fun x => { tmps := #[.slice none 0 0, .func (.func 34) #[] #[.pointer (some ⟨Bm, 0, none⟩)], .pointer (some ⟨w.heap.size, 0, none⟩), undef, .slice none 0 0, ptrI x.2, .func (.func 34) #[] #[.pointer (some ⟨Bm, 0, none⟩)], ptrI x.2, undef, undef, undef, undef, undef], defers := [] }) ?assign ?body ?done ?stop
 case assign =>
  intro l x W K hK
  unfold ptrI at *
  gi_wp2
  exact hK
 case body =>
  rintro l pre x W ⟨⟨v, hv, hrow, -⟩, hBe⟩ hlt
  have hc := hv.cell
  have hmx : (1000000 : Nat) ≤ maxLen := by decide
  unfold ptrI at *
  gi_wp2_with (gi_at_builtin; refine wpListIn_append_own _ rfl _ _ 54 rfl w.heap.size 56 i0 (.pointer none) 1 8 Try.underlying54 hi hz0 hz1 hz2 rfl (by decide) _ _ _ rfl (hrow.alloc _) ⟨W.heap.size, 0, none⟩ 1 1 [.pointer (some ⟨x.2, 0, none⟩)] rfl rfl (cell_one_new _ _ _) (by simp [Value.oneCell']) (by omega) (by omega) (by have := hBe.size; simp; omega) ?_; intro v' w1 hown' hgrow _; obtain ⟨g', cap', rfl⟩ := ownsRow_succ hown'; obtain ⟨hv1, hv2, hr2, hk2, hb2⟩ := hv.appended (by decide) hrow hBe.size (zN _) hown' hgrow; have hc1 := hv1.cell; have hf1 := hv1.frozen)
  exact ⟨hk2.from _, hk2.walks, ⟨⟨_, hv2, by simpa using hr2, trivial⟩, hBe.trans hb2⟩⟩
 case done =>
  rintro D ys W hD hS ⟨⟨v, hv, hrow, -⟩, hBe⟩ hK
  have hc := hv.cell
  have HRow := zH hrow
  have HS := zH hS
  clear hrow hS
  gi_wp2
  refine ⟨by simp, .inl ⟨_, _, rfl, run_takeDeferred hK, ?_⟩⟩
  exact ⟨_, results_tmp rfl _ _ _, v, ys, rfl, HS.out, ownsRow_putObj HRow.out _ hK rfl, hBe.trans (belowK_b (w := w) (zN _) W D _ _ (by simp at hD; omega) hK rfl rfl)⟩
 case stop =>
  rintro D c pre W _ _ h _
  exact h.elim
set_option maxHeartbeats 1000000 in
theorem collect_any (Bm gm : Nat) (L : List (ByteArray × Nat)) (hlen : L.length ≤ 1000000) (w : World) (hB : Bm < w.heap.size) (hm : w.cell? ⟨Bm, 0, none⟩ = some (.map (some gm))) (hrep : MRep KI w gm L) :
  Calls Try.prog 19 #[.func (.func 34) #[] #[.pointer (some ⟨Bm, 0, none⟩)]] w fun e w' =>
   ∃ (v : Value) (ys : List (ByteArray × Nat)), e = .returned v ∧ ys.Perm L ∧ w'.ownsRow w.heap.size 56 1 v ys.length (ys.map fun x => ptrI x.2) ∧ Below w.heap.size w w' := by
 have HC := zH ((callsIn_wide (n := 9)).1 (appendSeq_in 9 (by omega) Bm gm L hlen w hB hm hrep))
 clear hm hrep
 go_enter Try.func19, Try.ntmps19
 go_wp2_with fail
 refine HC.out.mono ?_
 rintro e w1 ⟨v, ys, rfl, h1, h2, h3⟩
 go_wp2_with fail
 go_ret
 exact ⟨v, ys, rfl, h1, h2, h3⟩
end
end Go.Proofs.Ytnabbimompapfaa
