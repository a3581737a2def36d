/- The reference's arena's Swap (layer 13): another class. -/
import Derived.Test.YtookfhmghchkjaaRsI
namespace Go.Proofs.Ytookfhmghchkjaa
open Go Go.RowKit
attribute [local go_sem ↓] Go.wp_at_zero Go.wp_at_succ

theorem clsOther (n : Nat) (K : Int) (h : 65536 < n ∨ (n ≤ 65536 ∧ (classN n : Int) ≠ K)) : ∃ k e : Int, (∀ w, Calls Try.prog 8 #[.int .i64 n] w fun x w' => x = .returned (.tuple #[.int .i64 k, .int .i64 e]) ∧ w' = w) ∧ (e = 3 ∨ (e = 0 ∧ k ≠ K)) := by
  rcases h with h | ⟨h1, h2⟩
  · exact ⟨0, 3, fun w => refClass_bad n (.inr (by omega)) w, .inl rfl⟩
  · exact ⟨_, 0, fun w => refClass_ok n h1 w, .inr ⟨rfl, h2⟩⟩


set_option maxRecDepth 100000 in
set_option maxHeartbeats 4000000 in
theorem refSwap_err {V0 : Nat} (B : Nat) (most K N E : Int) (cv bv uv fv v : Value) (bs : List UInt8) (ks : List (Int × Int)) (vs : List (List UInt8 × Value)) (us : List Bool) (fr : List (Int × Int)) (w : World) (h : RRep w B cv bv uv fv ks vs us fr) (hv : Bts w V0 5 v bs) (hn : ks.length ≤ 1000 ∧ us.length = ks.length ∧ vs.length = ks.length ∧ fr.length ≤ 1000) (i : Nat) (hat : rAt ks us (K, N) = some i)
    (hcls : 65536 < bs.length ∨ (bs.length ≤ 65536 ∧ (classN bs.length : Int) ≠ K)) (hE : E ≠ 0)
    (hput : ∀ W, RRep W B cv bv uv fv ks vs us fr → Bts W V0 5 v bs → Calls Try.prog 35 #[.agg #[.int .i64 most, cv, bv, uv, fv], v] W fun e w' => e = .returned (.tuple #[.agg #[.int .i64 most, cv, bv, uv, fv], .agg #[.int .i64 0, .int .i64 0], .int .i64 E]) ∧ Below W.heap.size W w') :
    Calls Try.prog 38 #[.agg #[.int .i64 most, cv, bv, uv, fv], .agg #[.int .i64 K, .int .i64 N], v] w fun e w' => e = .returned (.tuple #[.agg #[.int .i64 most, cv, bv, uv, fv], .agg #[.int .i64 0, .int .i64 0], .int .i64 E]) ∧ Below w.heap.size w w' := by
  have HN := Lib.hid hn
  have HPut := Lib.hid hput
  have e : rAtI ks us (K, N) = i := by rw [rAtI, hat]
  have HE := Lib.hid e
  have hi0 : ¬ (i : Int) < 0 := by omega
  obtain ⟨kc, ec, hcl, hke⟩ := clsOther bs.length K hcls
  have HCL := Lib.hid hcl
  clear hn hat e hcl hcls hput
  obtain ⟨CA, cc, rfl, hc1, _⟩ := own_form h.cells
  obtain ⟨BA, bc, rfl, hb1, _⟩ := own_form h.bytes
  obtain ⟨UA, uc, rfl, hu1, _⟩ := own_form h.used
  obtain ⟨FA, fc, rfl, hf1, _⟩ := own_form h.free
  obtain ⟨VA, vc, rfl⟩ := hv.form
  obtain ⟨w1, hw1⟩ : ∃ w1, (((w.alloc (.cells #[.int .i64 most, .slice CA ks.length cc, .slice BA vs.length bc, .slice UA us.length uc, .slice FA fr.length fc] 55)).alloc (.cells #[.int .i64 K, .int .i64 N] 38)).alloc (.cells #[.int .i64 0, .slice none 0 0, .slice none 0 0, .slice none 0 0, .slice none 0 0] 55)).alloc (.cells #[.int .i64 0, .int .i64 0] 38) = w1 := ⟨_, rfl⟩
  obtain ⟨k1, k2, k3, k7, k4, k5, k6⟩ := swapbox_new w B most K N _ _ _ _ ks vs us fr h w1 hw1
  have K1 := Lib.hid k1
  have K2 := Lib.hid k2
  have K3 := Lib.hid k3
  have K4 := Lib.hid k4
  have K5 := Lib.hid k5
  have K6 := Lib.hid k6
  have K7 := Lib.hid k7
  have HR := Lib.hid h
  have HV := Lib.hid hv
  have HW := Lib.hid hw1
  clear h hw1 k1 k2 k3 k4 k5 k6 k7 hv
  have x0 : World.cell? w1 ⟨w.heap.size, 0, none⟩ = some (.int .i64 most) := (K1.out).cell 0 _ rfl
  have x1 : World.cell? w1 ⟨w.heap.size, 1, none⟩ = some (.slice CA ks.length cc) := (K1.out).cell 1 _ rfl
  have x2 : World.cell? w1 ⟨w.heap.size, 2, none⟩ = some (.slice BA vs.length bc) := (K1.out).cell 2 _ rfl
  have x3 : World.cell? w1 ⟨w.heap.size, 3, none⟩ = some (.slice UA us.length uc) := (K1.out).cell 3 _ rfl
  have x4 : World.cell? w1 ⟨w.heap.size, 4, none⟩ = some (.slice FA fr.length fc) := (K1.out).cell 4 _ rfl
  have y0 : w1.cell? ⟨w.heap.size + 1, 0, none⟩ = some (.int .i64 K) := K2.out.cell 0 _ rfl
  have y1 : w1.cell? ⟨w.heap.size + 1, 1, none⟩ = some (.int .i64 N) := K2.out.cell 1 _ rfl
  go_enter Try.func38, Try.ntmps38
  go_upto_region 1 with fail
  rw [HW.out]
  clear HW
  go_wp2_with fail
  refine (refAt_any B most K N _ _ _ _ ks vs us fr w1 K5.out HN.out.2.1 HN.out.1).mono ?_
  rw [HE.out]
  rintro e w2 ⟨rfl, hb2⟩
  have HB2 := Lib.hid (K4.out.trans (hb2.mono K4.out.size))
  have L1 := Lib.hid (K1.out.below hb2)
  have L2 := Lib.hid (K2.out.below hb2)
  have L3 := Lib.hid (K3.out.below hb2)
  have L5 := Lib.hid (K5.out.below hb2)
  have L6 : Hid (w.heap.size + 4 ≤ w2.heap.size) := Lib.hid (by have := hb2.size; rw [K6.out] at this; exact this)
  have L7 := Lib.hid (K7.out.below hb2)
  clear hb2 x0 x1 x2 x3 x4 y0 y1 K1 K2 K3 K4 K5 K6 K7
  have x0 : World.cell? w2 ⟨w.heap.size, 0, none⟩ = some (.int .i64 most) := (L1.out).cell 0 _ rfl
  have x1 : World.cell? w2 ⟨w.heap.size, 1, none⟩ = some (.slice CA ks.length cc) := (L1.out).cell 1 _ rfl
  have x2 : World.cell? w2 ⟨w.heap.size, 2, none⟩ = some (.slice BA vs.length bc) := (L1.out).cell 2 _ rfl
  have x3 : World.cell? w2 ⟨w.heap.size, 3, none⟩ = some (.slice UA us.length uc) := (L1.out).cell 3 _ rfl
  have x4 : World.cell? w2 ⟨w.heap.size, 4, none⟩ = some (.slice FA fr.length fc) := (L1.out).cell 4 _ rfl
  have y0 : w2.cell? ⟨w.heap.size + 1, 0, none⟩ = some (.int .i64 K) := L2.out.cell 0 _ rfl
  have y1 : w2.cell? ⟨w.heap.size + 1, 1, none⟩ = some (.int .i64 N) := L2.out.cell 1 _ rfl
  go_wp2_with fail
  refine (HCL.out _).mono ?_
  rintro e w2x ⟨rfl, rfl⟩
  rcases hke with rfl | ⟨rfl, hkf⟩
  · go_wp2_with fail
    refine (HPut.out _ L5.out (HV.out.below HB2.out)).mono ?_
    rintro e w4 ⟨rfl, hb4⟩
    have M1 := Lib.hid (L1.out.below hb4)
    have M3 := Lib.hid (L3.out.below hb4)
    have M7 := Lib.hid (L7.out.below hb4)
    have HB4 := Lib.hid (HB2.out.trans (hb4.mono HB2.out.size))
    clear hb4 x0 x1 x2 x3 x4 y0 y1
    go_upto_region 10 with fail
    obtain ⟨w5, hw5⟩ : ∃ w5, (w4.alloc (.cells #[.int .i64 most, .slice CA ks.length cc, .slice BA vs.length bc, .slice UA us.length uc, .slice FA fr.length fc] 55)).alloc (.cells #[.int .i64 0, .int .i64 0] 38) = w5 := ⟨_, rfl⟩
    have hb5 : Below w4.heap.size w4 w5 := hw5 ▸ ((Below.refl _ _).alloc (Nat.le_refl _) _).alloc (by simp) _
    have N1 := Lib.hid (M1.out.below hb5)
    have N3 := Lib.hid (M3.out.below hb5)
    have N7 := Lib.hid (M7.out.below hb5)
    have HB5 := Lib.hid (HB4.out.trans (hb5.mono HB4.out.size))
    rw [hw5]
    clear hw5 hb5
    have x0 : World.cell? w5 ⟨w.heap.size, 0, none⟩ = some (.int .i64 most) := (N1.out).cell 0 _ rfl
    have x1 : World.cell? w5 ⟨w.heap.size, 1, none⟩ = some (.slice CA ks.length cc) := (N1.out).cell 1 _ rfl
    have x2 : World.cell? w5 ⟨w.heap.size, 2, none⟩ = some (.slice BA vs.length bc) := (N1.out).cell 2 _ rfl
    have x3 : World.cell? w5 ⟨w.heap.size, 3, none⟩ = some (.slice UA us.length uc) := (N1.out).cell 3 _ rfl
    have x4 : World.cell? w5 ⟨w.heap.size, 4, none⟩ = some (.slice FA fr.length fc) := (N1.out).cell 4 _ rfl
    have r0 := (N3.out).cell 0 _ rfl
    have r1 := (N3.out).cell 1 _ rfl
    have r2 := (N3.out).cell 2 _ rfl
    have r3 := (N3.out).cell 3 _ rfl
    have r4 := (N3.out).cell 4 _ rfl
    have rf := (N3.out).frozen
    have rl := (N3.out).lt
    have c0 := (N7.out).cell 0 _ rfl
    have c1 := (N7.out).cell 1 _ rfl
    have cf := (N7.out).frozen
    have cl := (N7.out).lt
    go_wp2_with fail
    obtain ⟨q0, q1, q2, q3, q4, q5, q6⟩ := boxes_ac N3.out N7.out (.int .i64 most) (.slice CA ks.length cc) (.slice BA vs.length bc) (.slice UA us.length uc) (.slice FA fr.length fc) (.int .i64 0) (.int .i64 0)
    refine bodyPost_ret (v := .tuple #[.agg #[.int .i64 most, .slice CA ks.length cc, .slice BA vs.length bc, .slice UA us.length uc, .slice FA fr.length fc], .agg #[.int .i64 0, .int .i64 0], .int .i64 E]) (by simp [results, Try.results38, go_sem, q0, q1, q2, q3, q4, q5, q6]) rfl ⟨rfl, ?_⟩
    exact (HB5.out.trans (below5 (by omega))).trans (below2 (by omega))
  · have hkb : (kc == K) = false := by simpa using hkf
    go_wp2_with fail
    refine (HPut.out _ L5.out (HV.out.below HB2.out)).mono ?_
    rintro e w4 ⟨rfl, hb4⟩
    have M1 := Lib.hid (L1.out.below hb4)
    have M3 := Lib.hid (L3.out.below hb4)
    have M7 := Lib.hid (L7.out.below hb4)
    have HB4 := Lib.hid (HB2.out.trans (hb4.mono HB2.out.size))
    clear hb4 x0 x1 x2 x3 x4 y0 y1
    go_upto_region 10 with fail
    obtain ⟨w5, hw5⟩ : ∃ w5, (w4.alloc (.cells #[.int .i64 most, .slice CA ks.length cc, .slice BA vs.length bc, .slice UA us.length uc, .slice FA fr.length fc] 55)).alloc (.cells #[.int .i64 0, .int .i64 0] 38) = w5 := ⟨_, rfl⟩
    have hb5 : Below w4.heap.size w4 w5 := hw5 ▸ ((Below.refl _ _).alloc (Nat.le_refl _) _).alloc (by simp) _
    have N1 := Lib.hid (M1.out.below hb5)
    have N3 := Lib.hid (M3.out.below hb5)
    have N7 := Lib.hid (M7.out.below hb5)
    have HB5 := Lib.hid (HB4.out.trans (hb5.mono HB4.out.size))
    rw [hw5]
    clear hw5 hb5
    have x0 : World.cell? w5 ⟨w.heap.size, 0, none⟩ = some (.int .i64 most) := (N1.out).cell 0 _ rfl
    have x1 : World.cell? w5 ⟨w.heap.size, 1, none⟩ = some (.slice CA ks.length cc) := (N1.out).cell 1 _ rfl
    have x2 : World.cell? w5 ⟨w.heap.size, 2, none⟩ = some (.slice BA vs.length bc) := (N1.out).cell 2 _ rfl
    have x3 : World.cell? w5 ⟨w.heap.size, 3, none⟩ = some (.slice UA us.length uc) := (N1.out).cell 3 _ rfl
    have x4 : World.cell? w5 ⟨w.heap.size, 4, none⟩ = some (.slice FA fr.length fc) := (N1.out).cell 4 _ rfl
    have r0 := (N3.out).cell 0 _ rfl
    have r1 := (N3.out).cell 1 _ rfl
    have r2 := (N3.out).cell 2 _ rfl
    have r3 := (N3.out).cell 3 _ rfl
    have r4 := (N3.out).cell 4 _ rfl
    have rf := (N3.out).frozen
    have rl := (N3.out).lt
    have c0 := (N7.out).cell 0 _ rfl
    have c1 := (N7.out).cell 1 _ rfl
    have cf := (N7.out).frozen
    have cl := (N7.out).lt
    go_wp2_with fail
    obtain ⟨q0, q1, q2, q3, q4, q5, q6⟩ := boxes_ac N3.out N7.out (.int .i64 most) (.slice CA ks.length cc) (.slice BA vs.length bc) (.slice UA us.length uc) (.slice FA fr.length fc) (.int .i64 0) (.int .i64 0)
    refine bodyPost_ret (v := .tuple #[.agg #[.int .i64 most, .slice CA ks.length cc, .slice BA vs.length bc, .slice UA us.length uc, .slice FA fr.length fc], .agg #[.int .i64 0, .int .i64 0], .int .i64 E]) (by simp [results, Try.results38, go_sem, q0, q1, q2, q3, q4, q5, q6]) rfl ⟨rfl, ?_⟩
    exact (HB5.out.trans (below5 (by omega))).trans (below2 (by omega))


set_option maxRecDepth 100000 in
set_option maxHeartbeats 4000000 in
theorem refSwap_put {V0 : Nat} (B : Nat) (most K N K' N' : Int) (cv bv uv fv v : Value) (bs : List UInt8) (ks ks' : List (Int × Int)) (vs : List (List UInt8 × Value)) (bss' : List (List UInt8)) (us us' : List Bool) (fr fr' : List (Int × Int)) (w : World) (h : RRep w B cv bv uv fv ks vs us fr) (hv : Bts w V0 5 v bs) (hn : ks.length ≤ 1000 ∧ us.length = ks.length ∧ vs.length = ks.length ∧ fr.length ≤ 1000) (i : Nat) (hat : rAt ks us (K, N) = some i)
    (hcls : 65536 < bs.length ∨ (bs.length ≤ 65536 ∧ (classN bs.length : Int) ≠ K))
    (hput : ∀ W, RRep W B cv bv uv fv ks vs us fr → Bts W V0 5 v bs → Calls Try.prog 35 #[.agg #[.int .i64 most, cv, bv, uv, fv], v] W (RRes W most ks' bss' us' fr' (fun a => .tuple #[a, .agg #[.int .i64 K', .int .i64 N'], .int .i64 0])))
    (hn' : ks'.length ≤ 1000 ∧ us'.length = ks'.length ∧ bss'.length = ks'.length ∧ fr'.length ≤ 1000) (hB' : ∀ x ∈ bss', x.length ≤ 65536) (i' : Nat) (hat' : rAt ks' us' (K, N) = some i') :
    Calls Try.prog 38 #[.agg #[.int .i64 most, cv, bv, uv, fv], .agg #[.int .i64 K, .int .i64 N], v] w (RRes w most ks' (bss'.set i' []) (us'.set i' false) (fr' ++ [(K, N)]) (fun a => .tuple #[a, .agg #[.int .i64 K', .int .i64 N'], .int .i64 0])) := by
  have HN := Lib.hid hn
  have HN' := Lib.hid hn'
  have HBB := Lib.hid hB'
  have HAt := Lib.hid hat'
  have HPut := Lib.hid hput
  have e : rAtI ks us (K, N) = i := by rw [rAtI, hat]
  have HE := Lib.hid e
  have hi0 : ¬ (i : Int) < 0 := by omega
  obtain ⟨kc, ec, hcl, hke⟩ := clsOther bs.length K hcls
  have HCL := Lib.hid hcl
  clear hn hat e hcl hcls hput hn' hB' hat'
  obtain ⟨CA, cc, rfl, hc1, _⟩ := own_form h.cells
  obtain ⟨BA, bc, rfl, hb1, _⟩ := own_form h.bytes
  obtain ⟨UA, uc, rfl, hu1, _⟩ := own_form h.used
  obtain ⟨FA, fc, rfl, hf1, _⟩ := own_form h.free
  obtain ⟨VA, vc, rfl⟩ := hv.form
  obtain ⟨w1, hw1⟩ : ∃ w1, (((w.alloc (.cells #[.int .i64 most, .slice CA ks.length cc, .slice BA vs.length bc, .slice UA us.length uc, .slice FA fr.length fc] 55)).alloc (.cells #[.int .i64 K, .int .i64 N] 38)).alloc (.cells #[.int .i64 0, .slice none 0 0, .slice none 0 0, .slice none 0 0, .slice none 0 0] 55)).alloc (.cells #[.int .i64 0, .int .i64 0] 38) = w1 := ⟨_, rfl⟩
  obtain ⟨k1, k2, k3, k7, k4, k5, k6⟩ := swapbox_new w B most K N _ _ _ _ ks vs us fr h w1 hw1
  have K1 := Lib.hid k1
  have K2 := Lib.hid k2
  have K3 := Lib.hid k3
  have K4 := Lib.hid k4
  have K5 := Lib.hid k5
  have K6 := Lib.hid k6
  have K7 := Lib.hid k7
  have HR := Lib.hid h
  have HV := Lib.hid hv
  have HW := Lib.hid hw1
  clear h hw1 k1 k2 k3 k4 k5 k6 k7 hv
  have x0 : World.cell? w1 ⟨w.heap.size, 0, none⟩ = some (.int .i64 most) := (K1.out).cell 0 _ rfl
  have x1 : World.cell? w1 ⟨w.heap.size, 1, none⟩ = some (.slice CA ks.length cc) := (K1.out).cell 1 _ rfl
  have x2 : World.cell? w1 ⟨w.heap.size, 2, none⟩ = some (.slice BA vs.length bc) := (K1.out).cell 2 _ rfl
  have x3 : World.cell? w1 ⟨w.heap.size, 3, none⟩ = some (.slice UA us.length uc) := (K1.out).cell 3 _ rfl
  have x4 : World.cell? w1 ⟨w.heap.size, 4, none⟩ = some (.slice FA fr.length fc) := (K1.out).cell 4 _ rfl
  have y0 : w1.cell? ⟨w.heap.size + 1, 0, none⟩ = some (.int .i64 K) := K2.out.cell 0 _ rfl
  have y1 : w1.cell? ⟨w.heap.size + 1, 1, none⟩ = some (.int .i64 N) := K2.out.cell 1 _ rfl
  go_enter Try.func38, Try.ntmps38
  go_upto_region 1 with fail
  rw [HW.out]
  clear HW
  go_wp2_with fail
  refine (refAt_any B most K N _ _ _ _ ks vs us fr w1 K5.out HN.out.2.1 HN.out.1).mono ?_
  rw [HE.out]
  rintro e w2 ⟨rfl, hb2⟩
  have HB2 := Lib.hid (K4.out.trans (hb2.mono K4.out.size))
  have L1 := Lib.hid (K1.out.below hb2)
  have L2 := Lib.hid (K2.out.below hb2)
  have L3 := Lib.hid (K3.out.below hb2)
  have L5 := Lib.hid (K5.out.below hb2)
  have L6 : Hid (w.heap.size + 4 ≤ w2.heap.size) := Lib.hid (by have := hb2.size; rw [K6.out] at this; exact this)
  have L7 := Lib.hid (K7.out.below hb2)
  clear hb2 x0 x1 x2 x3 x4 y0 y1 K1 K2 K3 K4 K5 K6 K7
  have x0 : World.cell? w2 ⟨w.heap.size, 0, none⟩ = some (.int .i64 most) := (L1.out).cell 0 _ rfl
  have x1 : World.cell? w2 ⟨w.heap.size, 1, none⟩ = some (.slice CA ks.length cc) := (L1.out).cell 1 _ rfl
  have x2 : World.cell? w2 ⟨w.heap.size, 2, none⟩ = some (.slice BA vs.length bc) := (L1.out).cell 2 _ rfl
  have x3 : World.cell? w2 ⟨w.heap.size, 3, none⟩ = some (.slice UA us.length uc) := (L1.out).cell 3 _ rfl
  have x4 : World.cell? w2 ⟨w.heap.size, 4, none⟩ = some (.slice FA fr.length fc) := (L1.out).cell 4 _ rfl
  have y0 : w2.cell? ⟨w.heap.size + 1, 0, none⟩ = some (.int .i64 K) := L2.out.cell 0 _ rfl
  have y1 : w2.cell? ⟨w.heap.size + 1, 1, none⟩ = some (.int .i64 N) := L2.out.cell 1 _ rfl
  go_wp2_with fail
  refine (HCL.out _).mono ?_
  rintro e w2x ⟨rfl, rfl⟩
  rcases hke with rfl | ⟨rfl, hkf⟩
  · go_wp2_with fail
    refine (HPut.out _ L5.out (HV.out.below HB2.out)).mono ?_
    rintro e w4 ⟨cv', bv', uv', fv', vs', rfl, hr4, hm4, hf4, hb4⟩
    obtain ⟨C2, cc2, rfl, _, _⟩ := own_form hr4.cells
    obtain ⟨B2, bc2, rfl, _, _⟩ := own_form hr4.bytes
    obtain ⟨U2, uc2, rfl, _, _⟩ := own_form hr4.used
    obtain ⟨F2, fc2, rfl, _, _⟩ := own_form hr4.free
    have M1 := Lib.hid (L1.out.below hb4)
    have M2 := Lib.hid (L2.out.below hb4)
    have M3 := Lib.hid (L3.out.below hb4)
    have M7 := Lib.hid (L7.out.below hb4)
    have HB4 := Lib.hid (HB2.out.trans (hb4.mono HB2.out.size))
    have M6 : Hid (w.heap.size + 4 ≤ w4.heap.size) := Lib.hid (Nat.le_trans L6.out hb4.size)
    have HM4 := Lib.hid hm4
    have HR4 := Lib.hid hr4
    clear hb4 x0 x1 x2 x3 x4 y0 y1 hr4 hm4 hf4
    go_upto_region 10 with fail
    obtain ⟨w5, hw5⟩ : ∃ w5, (w4.alloc (.cells #[.int .i64 most, .slice C2 ks'.length cc2, .slice B2 vs'.length bc2, .slice U2 us'.length uc2, .slice F2 fr'.length fc2] 55)).alloc (.cells #[.int .i64 K', .int .i64 N'] 38) = w5 := ⟨_, rfl⟩
    have hb5 : Below w4.heap.size w4 w5 := hw5 ▸ ((Below.refl _ _).alloc (Nat.le_refl _) _).alloc (by simp) _
    have G5 : Hid (Blk w5 w4.heap.size 55 #[.int .i64 most, .slice C2 ks'.length cc2, .slice B2 vs'.length bc2, .slice U2 us'.length uc2, .slice F2 fr'.length fc2]) := Lib.hid (hw5 ▸ (Blk.new _ _ _).alloc _)
    have X5 : Hid (Blk w5 (w4.heap.size + 1) 38 #[.int .i64 K', .int .i64 N']) := Lib.hid (hw5 ▸ Blk.new2 _ _ _ _)
    have hm5 : w4.heap.size + 2 ≤ w5.heap.size := by rw [← hw5]; simp
    have N2 := Lib.hid (M2.out.below hb5)
    have N3 := Lib.hid (M3.out.below hb5)
    have N7 := Lib.hid (M7.out.below hb5)
    have HB5 := Lib.hid (HB4.out.trans (hb5.mono HB4.out.size))
    have HR5 := Lib.hid (HR4.out.below hb5)
    have hgp := M6.out
    rw [hw5]
    clear hw5 hb5
    obtain ⟨g, hg⟩ : ∃ g, w4.heap.size = g := ⟨_, rfl⟩
    rw [hg] at G5 X5 hm5 hgp ⊢
    clear hg M1 M2 M3 M6 M7 HR4 L1 L2 L3 L5 L6 L7
    have g0 := G5.out.cell 0 _ rfl
    have g1 := G5.out.cell 1 _ rfl
    have g2 := G5.out.cell 2 _ rfl
    have g3 := G5.out.cell 3 _ rfl
    have g4 := G5.out.cell 4 _ rfl
    have y0 : w5.cell? ⟨w.heap.size + 1, 0, none⟩ = some (.int .i64 K) := N2.out.cell 0 _ rfl
    have y1 : w5.cell? ⟨w.heap.size + 1, 1, none⟩ = some (.int .i64 N) := N2.out.cell 1 _ rfl
    go_wp2_with fail
    refine (refRel_some _ most K N _ _ _ _ ks' vs' us' fr' _ HR5.out ⟨HN'.out.1, HN'.out.2.1, by have h1 := congrArg List.length HM4.out; have h2 := HN'.out.2.2.1; simp at h1; omega, HN'.out.2.2.2⟩ (fun x hx => HBB.out _ (by rw [← HM4.out]; exact List.mem_map_of_mem hx)) i' HAt.out).mono ?_
    rintro e w6 ⟨cv2, bv2, uv2, fv2, vs2, rfl, hr6, hm6, hf6, hb6⟩
    obtain ⟨C3, cc3, rfl, _, _⟩ := own_form hr6.cells
    obtain ⟨B3, bc3, rfl, _, _⟩ := own_form hr6.bytes
    obtain ⟨U3, uc3, rfl, _, _⟩ := own_form hr6.used
    obtain ⟨F3, fc3, rfl, _, _⟩ := own_form hr6.free
    have G6 := Lib.hid (G5.out.below hb6)
    have X6 := Lib.hid (X5.out.below hb6)
    have P3 := Lib.hid (N3.out.below hb6)
    have P7 := Lib.hid (N7.out.below hb6)
    have HB6 := Lib.hid (HB5.out.trans (hb6.mono HB5.out.size))
    have HR6 := Lib.hid hr6
    have HM5 : Hid (vs2.map Prod.fst = bss'.set i' []) := Lib.hid (by rw [hm6, HM4.out])
    have HFf : Hid (∀ x ∈ vs2, ∀ k, x.2.ownBlock = some k → w.heap.size ≤ k) := Lib.hid (fun x hx k hk => Nat.le_trans HB5.out.size (hf6 x hx k hk))
    clear g0 g1 g2 g3 g4 y0 y1 hr6 hm6 hf6 hb6
    have g0 := G6.out.cell 0 _ rfl
    have g1 := G6.out.cell 1 _ rfl
    have g2 := G6.out.cell 2 _ rfl
    have g3 := G6.out.cell 3 _ rfl
    have g4 := G6.out.cell 4 _ rfl
    have gf := G6.out.frozen
    have gl := G6.out.lt
    go_upto_region 13 with fail
    obtain ⟨w7, hw7⟩ : ∃ w7, ((((w6.setCell ⟨g, 0, none⟩ (.int .i64 most)).setCell ⟨g, 1, none⟩ (.slice C3 ks'.length cc3)).setCell ⟨g, 2, none⟩ (.slice B3 vs2.length bc3)).setCell ⟨g, 3, none⟩ (.slice U3 (us'.set i' false).length uc3)).setCell ⟨g, 4, none⟩ (.slice F3 (fr' ++ [(K, N)]).length fc3) = w7 := ⟨_, rfl⟩
    have HO7 : Hid (Only (fun k => k = g) w6 w7) := Lib.hid (hw7 ▸ only5 w6 g _ _ _ _ _)
    have HG : Hid (Blk w7 g 55 #[.int .i64 most, .slice C3 ks'.length cc3, .slice B3 vs2.length bc3, .slice U3 (us'.set i' false).length uc3, .slice F3 (fr' ++ [(K, N)]).length fc3]) := Lib.hid (hw7 ▸ ((((G6.out.set_ 0 _).set_ 1 _).set_ 2 _).set_ 3 _).set_ 4 _)
    have HRf := Lib.hid (RRep.offbox HR6.out G6.out HO7.out)
    have HBf : Hid (Below w.heap.size w w7) := Lib.hid (HB6.out.trans (HO7.out.below (fun i hi _ e => by omega) HB6.out.size))
    have HX := Lib.hid (X6.out.only HO7.out (by omega))
    have L3 := Lib.hid (P3.out.only HO7.out (by omega))
    have L7 := Lib.hid (P7.out.only HO7.out (by omega))
    first | rw [hw7] | (simp only [List.length_set, List.length_append, List.length_cons, List.length_nil] at hw7; rw [hw7])
    clear hw7 g0 g1 g2 g3 g4 gf gl G6 X6 P3 P7
    obtain ⟨un, hun⟩ : ∃ n, (us'.set i' false).length = n := ⟨_, rfl⟩
    obtain ⟨fn, hfn⟩ : ∃ n, (fr' ++ [(K, N)]).length = n := ⟨_, rfl⟩
    rw [hun] at HG HRf
    rw [hfn] at HG HRf
    clear hun hfn
    have hS7 : World.cell? w7 ⟨g, 0, none⟩ = some (.int .i64 most) ∧ World.cell? w7 ⟨g, 1, none⟩ = some (.slice C3 ks'.length cc3) ∧ World.cell? w7 ⟨g, 2, none⟩ = some (.slice B3 vs2.length bc3) ∧ World.cell? w7 ⟨g, 3, none⟩ = some (.slice U3 un uc3) ∧ World.cell? w7 ⟨g, 4, none⟩ = some (.slice F3 fn fc3) ∧ World.cell? w7 ⟨g + 1, 0, none⟩ = some (.int .i64 K') ∧ World.cell? w7 ⟨g + 1, 1, none⟩ = some (.int .i64 N') :=
      ⟨(HG).out.cell 0 _ rfl, (HG).out.cell 1 _ rfl, (HG).out.cell 2 _ rfl, (HG).out.cell 3 _ rfl, (HG).out.cell 4 _ rfl, (HX).out.cell 0 _ rfl, (HX).out.cell 1 _ rfl⟩
    have hd1 : ¬ g = w.heap.size + 1 + 1 := by omega
    have hd2 : ¬ g = w.heap.size + 1 + 1 + 1 := by omega
    have hd3 : ¬ g + 1 = w.heap.size + 1 + 1 := by omega
    have hd4 : ¬ g + 1 = w.heap.size + 1 + 1 + 1 := by omega
    have HS7 := Lib.hid hS7
    obtain ⟨s0, s1, s2, s3, s4, s5, s6⟩ := hS7
    have r0 := (L3.out).cell 0 _ rfl
    have r1 := (L3.out).cell 1 _ rfl
    have r2 := (L3.out).cell 2 _ rfl
    have r3 := (L3.out).cell 3 _ rfl
    have r4 := (L3.out).cell 4 _ rfl
    have rf := (L3.out).frozen
    have rl := (L3.out).lt
    have c0 := (L7.out).cell 0 _ rfl
    have c1 := (L7.out).cell 1 _ rfl
    have cf := (L7.out).frozen
    have cl := (L7.out).lt
    go_region_held_law (fun W => W.cell? ⟨g, 0, none⟩ = some (.int .i64 most) ∧ W.cell? ⟨g, 1, none⟩ = some (.slice C3 ks'.length cc3) ∧ W.cell? ⟨g, 2, none⟩ = some (.slice B3 vs2.length bc3) ∧ W.cell? ⟨g, 3, none⟩ = some (.slice U3 un uc3) ∧ W.cell? ⟨g, 4, none⟩ = some (.slice F3 fn fc3) ∧ W.cell? ⟨g + 1, 0, none⟩ = some (.int .i64 K') ∧ W.cell? ⟨g + 1, 1, none⟩ = some (.int .i64 N'))
      (repeat (first | with_reducible exact HS7.out | with_reducible refine drew7 ?_ | with_reducible refine far7 ?_ hd1 hd3 _ _ | with_reducible refine far7 ?_ hd2 hd4 _ _)) (fail)
    all_goals
      go_wp2_with fail
      obtain ⟨q0, q1, q2, q3, q4, q5, q6⟩ := boxes_ac L3.out L7.out (.int .i64 most) (.slice C3 ks'.length cc3) (.slice B3 vs2.length bc3) (.slice U3 un uc3) (.slice F3 fn fc3) (.int .i64 K') (.int .i64 N')
      have hfin := RRep.fin2 (w := w) HRf.out L3.out L7.out (by omega) (by omega) HBf.out (by omega) (only_rc w7 (w.heap.size + 1 + 1) (w.heap.size + 1 + 1 + 1) (.int .i64 most) (.slice C3 ks'.length cc3) (.slice B3 vs2.length bc3) (.slice U3 un uc3) (.slice F3 fn fc3) (.int .i64 K') (.int .i64 N'))
      clear s0 s1 s2 s3 s4 s5 s6
      generalize World.setCell _ _ _ = w14 at q0 q1 q2 q3 q4 q5 q6 hfin ⊢
      refine bodyPost_ret (v := .tuple #[.agg #[.int .i64 most, .slice C3 ks'.length cc3, .slice B3 vs2.length bc3, .slice U3 un uc3, .slice F3 fn fc3], .agg #[.int .i64 K', .int .i64 N'], .int .i64 0]) (by simp [results, Try.results38, go_sem, q0, q1, q2, q3, q4, q5, q6]) rfl ?_
      exact ⟨_, _, _, _, _, rfl, hfin.1.drew, HM5.out, HFf.out, hfin.2.drew⟩
  · have hkb : (kc == K) = false := by simpa using hkf
    go_wp2_with fail
    refine (HPut.out _ L5.out (HV.out.below HB2.out)).mono ?_
    rintro e w4 ⟨cv', bv', uv', fv', vs', rfl, hr4, hm4, hf4, hb4⟩
    obtain ⟨C2, cc2, rfl, _, _⟩ := own_form hr4.cells
    obtain ⟨B2, bc2, rfl, _, _⟩ := own_form hr4.bytes
    obtain ⟨U2, uc2, rfl, _, _⟩ := own_form hr4.used
    obtain ⟨F2, fc2, rfl, _, _⟩ := own_form hr4.free
    have M1 := Lib.hid (L1.out.below hb4)
    have M2 := Lib.hid (L2.out.below hb4)
    have M3 := Lib.hid (L3.out.below hb4)
    have M7 := Lib.hid (L7.out.below hb4)
    have HB4 := Lib.hid (HB2.out.trans (hb4.mono HB2.out.size))
    have M6 : Hid (w.heap.size + 4 ≤ w4.heap.size) := Lib.hid (Nat.le_trans L6.out hb4.size)
    have HM4 := Lib.hid hm4
    have HR4 := Lib.hid hr4
    clear hb4 x0 x1 x2 x3 x4 y0 y1 hr4 hm4 hf4
    go_upto_region 10 with fail
    obtain ⟨w5, hw5⟩ : ∃ w5, (w4.alloc (.cells #[.int .i64 most, .slice C2 ks'.length cc2, .slice B2 vs'.length bc2, .slice U2 us'.length uc2, .slice F2 fr'.length fc2] 55)).alloc (.cells #[.int .i64 K', .int .i64 N'] 38) = w5 := ⟨_, rfl⟩
    have hb5 : Below w4.heap.size w4 w5 := hw5 ▸ ((Below.refl _ _).alloc (Nat.le_refl _) _).alloc (by simp) _
    have G5 : Hid (Blk w5 w4.heap.size 55 #[.int .i64 most, .slice C2 ks'.length cc2, .slice B2 vs'.length bc2, .slice U2 us'.length uc2, .slice F2 fr'.length fc2]) := Lib.hid (hw5 ▸ (Blk.new _ _ _).alloc _)
    have X5 : Hid (Blk w5 (w4.heap.size + 1) 38 #[.int .i64 K', .int .i64 N']) := Lib.hid (hw5 ▸ Blk.new2 _ _ _ _)
    have hm5 : w4.heap.size + 2 ≤ w5.heap.size := by rw [← hw5]; simp
    have N2 := Lib.hid (M2.out.below hb5)
    have N3 := Lib.hid (M3.out.below hb5)
    have N7 := Lib.hid (M7.out.below hb5)
    have HB5 := Lib.hid (HB4.out.trans (hb5.mono HB4.out.size))
    have HR5 := Lib.hid (HR4.out.below hb5)
    have hgp := M6.out
    rw [hw5]
    clear hw5 hb5
    obtain ⟨g, hg⟩ : ∃ g, w4.heap.size = g := ⟨_, rfl⟩
    rw [hg] at G5 X5 hm5 hgp ⊢
    clear hg M1 M2 M3 M6 M7 HR4 L1 L2 L3 L5 L6 L7
    have g0 := G5.out.cell 0 _ rfl
    have g1 := G5.out.cell 1 _ rfl
    have g2 := G5.out.cell 2 _ rfl
    have g3 := G5.out.cell 3 _ rfl
    have g4 := G5.out.cell 4 _ rfl
    have y0 : w5.cell? ⟨w.heap.size + 1, 0, none⟩ = some (.int .i64 K) := N2.out.cell 0 _ rfl
    have y1 : w5.cell? ⟨w.heap.size + 1, 1, none⟩ = some (.int .i64 N) := N2.out.cell 1 _ rfl
    go_wp2_with fail
    refine (refRel_some _ most K N _ _ _ _ ks' vs' us' fr' _ HR5.out ⟨HN'.out.1, HN'.out.2.1, by have h1 := congrArg List.length HM4.out; have h2 := HN'.out.2.2.1; simp at h1; omega, HN'.out.2.2.2⟩ (fun x hx => HBB.out _ (by rw [← HM4.out]; exact List.mem_map_of_mem hx)) i' HAt.out).mono ?_
    rintro e w6 ⟨cv2, bv2, uv2, fv2, vs2, rfl, hr6, hm6, hf6, hb6⟩
    obtain ⟨C3, cc3, rfl, _, _⟩ := own_form hr6.cells
    obtain ⟨B3, bc3, rfl, _, _⟩ := own_form hr6.bytes
    obtain ⟨U3, uc3, rfl, _, _⟩ := own_form hr6.used
    obtain ⟨F3, fc3, rfl, _, _⟩ := own_form hr6.free
    have G6 := Lib.hid (G5.out.below hb6)
    have X6 := Lib.hid (X5.out.below hb6)
    have P3 := Lib.hid (N3.out.below hb6)
    have P7 := Lib.hid (N7.out.below hb6)
    have HB6 := Lib.hid (HB5.out.trans (hb6.mono HB5.out.size))
    have HR6 := Lib.hid hr6
    have HM5 : Hid (vs2.map Prod.fst = bss'.set i' []) := Lib.hid (by rw [hm6, HM4.out])
    have HFf : Hid (∀ x ∈ vs2, ∀ k, x.2.ownBlock = some k → w.heap.size ≤ k) := Lib.hid (fun x hx k hk => Nat.le_trans HB5.out.size (hf6 x hx k hk))
    clear g0 g1 g2 g3 g4 y0 y1 hr6 hm6 hf6 hb6
    have g0 := G6.out.cell 0 _ rfl
    have g1 := G6.out.cell 1 _ rfl
    have g2 := G6.out.cell 2 _ rfl
    have g3 := G6.out.cell 3 _ rfl
    have g4 := G6.out.cell 4 _ rfl
    have gf := G6.out.frozen
    have gl := G6.out.lt
    go_upto_region 13 with fail
    obtain ⟨w7, hw7⟩ : ∃ w7, ((((w6.setCell ⟨g, 0, none⟩ (.int .i64 most)).setCell ⟨g, 1, none⟩ (.slice C3 ks'.length cc3)).setCell ⟨g, 2, none⟩ (.slice B3 vs2.length bc3)).setCell ⟨g, 3, none⟩ (.slice U3 (us'.set i' false).length uc3)).setCell ⟨g, 4, none⟩ (.slice F3 (fr' ++ [(K, N)]).length fc3) = w7 := ⟨_, rfl⟩
    have HO7 : Hid (Only (fun k => k = g) w6 w7) := Lib.hid (hw7 ▸ only5 w6 g _ _ _ _ _)
    have HG : Hid (Blk w7 g 55 #[.int .i64 most, .slice C3 ks'.length cc3, .slice B3 vs2.length bc3, .slice U3 (us'.set i' false).length uc3, .slice F3 (fr' ++ [(K, N)]).length fc3]) := Lib.hid (hw7 ▸ ((((G6.out.set_ 0 _).set_ 1 _).set_ 2 _).set_ 3 _).set_ 4 _)
    have HRf := Lib.hid (RRep.offbox HR6.out G6.out HO7.out)
    have HBf : Hid (Below w.heap.size w w7) := Lib.hid (HB6.out.trans (HO7.out.below (fun i hi _ e => by omega) HB6.out.size))
    have HX := Lib.hid (X6.out.only HO7.out (by omega))
    have L3 := Lib.hid (P3.out.only HO7.out (by omega))
    have L7 := Lib.hid (P7.out.only HO7.out (by omega))
    first | rw [hw7] | (simp only [List.length_set, List.length_append, List.length_cons, List.length_nil] at hw7; rw [hw7])
    clear hw7 g0 g1 g2 g3 g4 gf gl G6 X6 P3 P7
    obtain ⟨un, hun⟩ : ∃ n, (us'.set i' false).length = n := ⟨_, rfl⟩
    obtain ⟨fn, hfn⟩ : ∃ n, (fr' ++ [(K, N)]).length = n := ⟨_, rfl⟩
    rw [hun] at HG HRf
    rw [hfn] at HG HRf
    clear hun hfn
    have hS7 : World.cell? w7 ⟨g, 0, none⟩ = some (.int .i64 most) ∧ World.cell? w7 ⟨g, 1, none⟩ = some (.slice C3 ks'.length cc3) ∧ World.cell? w7 ⟨g, 2, none⟩ = some (.slice B3 vs2.length bc3) ∧ World.cell? w7 ⟨g, 3, none⟩ = some (.slice U3 un uc3) ∧ World.cell? w7 ⟨g, 4, none⟩ = some (.slice F3 fn fc3) ∧ World.cell? w7 ⟨g + 1, 0, none⟩ = some (.int .i64 K') ∧ World.cell? w7 ⟨g + 1, 1, none⟩ = some (.int .i64 N') :=
      ⟨(HG).out.cell 0 _ rfl, (HG).out.cell 1 _ rfl, (HG).out.cell 2 _ rfl, (HG).out.cell 3 _ rfl, (HG).out.cell 4 _ rfl, (HX).out.cell 0 _ rfl, (HX).out.cell 1 _ rfl⟩
    have hd1 : ¬ g = w.heap.size + 1 + 1 := by omega
    have hd2 : ¬ g = w.heap.size + 1 + 1 + 1 := by omega
    have hd3 : ¬ g + 1 = w.heap.size + 1 + 1 := by omega
    have hd4 : ¬ g + 1 = w.heap.size + 1 + 1 + 1 := by omega
    have HS7 := Lib.hid hS7
    obtain ⟨s0, s1, s2, s3, s4, s5, s6⟩ := hS7
    have r0 := (L3.out).cell 0 _ rfl
    have r1 := (L3.out).cell 1 _ rfl
    have r2 := (L3.out).cell 2 _ rfl
    have r3 := (L3.out).cell 3 _ rfl
    have r4 := (L3.out).cell 4 _ rfl
    have rf := (L3.out).frozen
    have rl := (L3.out).lt
    have c0 := (L7.out).cell 0 _ rfl
    have c1 := (L7.out).cell 1 _ rfl
    have cf := (L7.out).frozen
    have cl := (L7.out).lt
    go_region_held_law (fun W => W.cell? ⟨g, 0, none⟩ = some (.int .i64 most) ∧ W.cell? ⟨g, 1, none⟩ = some (.slice C3 ks'.length cc3) ∧ W.cell? ⟨g, 2, none⟩ = some (.slice B3 vs2.length bc3) ∧ W.cell? ⟨g, 3, none⟩ = some (.slice U3 un uc3) ∧ W.cell? ⟨g, 4, none⟩ = some (.slice F3 fn fc3) ∧ W.cell? ⟨g + 1, 0, none⟩ = some (.int .i64 K') ∧ W.cell? ⟨g + 1, 1, none⟩ = some (.int .i64 N'))
      (repeat (first | with_reducible exact HS7.out | with_reducible refine drew7 ?_ | with_reducible refine far7 ?_ hd1 hd3 _ _ | with_reducible refine far7 ?_ hd2 hd4 _ _)) (fail)
    all_goals
      go_wp2_with fail
      obtain ⟨q0, q1, q2, q3, q4, q5, q6⟩ := boxes_ac L3.out L7.out (.int .i64 most) (.slice C3 ks'.length cc3) (.slice B3 vs2.length bc3) (.slice U3 un uc3) (.slice F3 fn fc3) (.int .i64 K') (.int .i64 N')
      have hfin := RRep.fin2 (w := w) HRf.out L3.out L7.out (by omega) (by omega) HBf.out (by omega) (only_rc w7 (w.heap.size + 1 + 1) (w.heap.size + 1 + 1 + 1) (.int .i64 most) (.slice C3 ks'.length cc3) (.slice B3 vs2.length bc3) (.slice U3 un uc3) (.slice F3 fn fc3) (.int .i64 K') (.int .i64 N'))
      clear s0 s1 s2 s3 s4 s5 s6
      generalize World.setCell _ _ _ = w14 at q0 q1 q2 q3 q4 q5 q6 hfin ⊢
      refine bodyPost_ret (v := .tuple #[.agg #[.int .i64 most, .slice C3 ks'.length cc3, .slice B3 vs2.length bc3, .slice U3 un uc3, .slice F3 fn fc3], .agg #[.int .i64 K', .int .i64 N'], .int .i64 0]) (by simp [results, Try.results38, go_sem, q0, q1, q2, q3, q4, q5, q6]) rfl ?_
      exact ⟨_, _, _, _, _, rfl, hfin.1.drew, HM5.out, HFf.out, hfin.2.drew⟩

end Go.Proofs.Ytookfhmghchkjaa
