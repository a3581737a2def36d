/- The reference's arena's Put (layer 13): too long, full. -/
import Derived.Test.YtookfhmghchkjaaRsC
import Derived.IntWalk
namespace Go.Proofs.Ytookfhmghchkjaa
open Go Go.RowKit
attribute [local go_sem ↓] Go.wp_at_zero Go.wp_at_succ

theorem putbox_new (w : World) (B : Nat) (most : Int) (cv bv uv fv : Value) (ks : List (Int × Int)) (vs : List (List UInt8 × Value)) (us : List Bool) (fr : List (Int × Int)) (h : RRep w B cv bv uv fv ks vs us fr) (W : World)
    (hW : ((w.alloc (.cells #[.int .i64 most, cv, bv, uv, fv] 55)).alloc (.cells #[.int .i64 0, .slice none 0 0, .slice none 0 0, .slice none 0 0, .slice none 0 0] 55)).alloc (.cells #[.int .i64 0, .int .i64 0] 38) = W) :
    Blk W w.heap.size 55 #[.int .i64 most, cv, bv, uv, fv] ∧ Blk W (w.heap.size + 1) 55 #[.int .i64 0, .slice none 0 0, .slice none 0 0, .slice none 0 0, .slice none 0 0] ∧
      Blk W (w.heap.size + 1 + 1) 38 #[.int .i64 0, .int .i64 0] ∧ Below w.heap.size w W ∧ RRep W B cv bv uv fv ks vs us fr ∧ W.heap.size = w.heap.size + 3 := by
  subst hW
  exact ⟨((Blk.new _ _ _).alloc _).alloc _, (Blk.new2 _ _ _ _).alloc _, Blk.new3 _ _ _ _ _, (((Below.refl _ _).alloc (Nat.le_refl _) _).alloc (by simp) _).alloc (by simp; omega) _, ((h.alloc _).alloc _).alloc _, by simp⟩

/-- The two boxes of a result, written: the arena's first. -/
theorem boxes_ac {w : World} {r c : Nat} {z0 z1 z2 z3 z4 y0 y1 : Value} (h2 : Blk w r 55 #[z0, z1, z2, z3, z4]) (h3 : Blk w c 38 #[y0, y1]) (a b d e f K N : Value) :
    let W := ((((((w.setCell ⟨r, 0, none⟩ a).setCell ⟨r, 1, none⟩ b).setCell ⟨r, 2, none⟩ d).setCell ⟨r, 3, none⟩ e).setCell ⟨r, 4, none⟩ f).setCell ⟨c, 0, none⟩ K).setCell ⟨c, 1, none⟩ N
    W.cell? ⟨r, 0, none⟩ = some a ∧ W.cell? ⟨r, 1, none⟩ = some b ∧ W.cell? ⟨r, 2, none⟩ = some d ∧ W.cell? ⟨r, 3, none⟩ = some e ∧ W.cell? ⟨r, 4, none⟩ = some f ∧ W.cell? ⟨c, 0, none⟩ = some K ∧ W.cell? ⟨c, 1, none⟩ = some N := by
  have hne : r ≠ c := h2.ne_ h3 (by decide)
  have g := ((((((h2.set_ 0 a).set_ 1 b).set_ 2 d).set_ 3 e).set_ 4 f).far (p := ⟨c, 0, none⟩) hne K).far (p := ⟨c, 1, none⟩) hne N
  have k := ((((((h3.far (p := ⟨r, 0, none⟩) (Ne.symm hne) a).far (p := ⟨r, 1, none⟩) (Ne.symm hne) b).far (p := ⟨r, 2, none⟩) (Ne.symm hne) d).far (p := ⟨r, 3, none⟩) (Ne.symm hne) e).far (p := ⟨r, 4, none⟩) (Ne.symm hne) f).set_ 0 K).set_ 1 N
  exact ⟨g.cell 0 _ rfl, g.cell 1 _ rfl, g.cell 2 _ rfl, g.cell 3 _ rfl, g.cell 4 _ rfl, k.cell 0 _ rfl, k.cell 1 _ rfl⟩
/-- The two boxes of a result, written: the cell's first. -/
theorem boxes_ca {w : World} {r c : Nat} {z0 z1 z2 z3 z4 y0 y1 : Value} (h2 : Blk w r 55 #[z0, z1, z2, z3, z4]) (h3 : Blk w c 38 #[y0, y1]) (a b d e f K N : Value) :
    let W := ((((((w.setCell ⟨c, 0, none⟩ K).setCell ⟨c, 1, none⟩ N).setCell ⟨r, 0, none⟩ a).setCell ⟨r, 1, none⟩ b).setCell ⟨r, 2, none⟩ d).setCell ⟨r, 3, none⟩ e).setCell ⟨r, 4, none⟩ f
    W.cell? ⟨r, 0, none⟩ = some a ∧ W.cell? ⟨r, 1, none⟩ = some b ∧ W.cell? ⟨r, 2, none⟩ = some d ∧ W.cell? ⟨r, 3, none⟩ = some e ∧ W.cell? ⟨r, 4, none⟩ = some f ∧ W.cell? ⟨c, 0, none⟩ = some K ∧ W.cell? ⟨c, 1, none⟩ = some N := by
  have hne : r ≠ c := h2.ne_ h3 (by decide)
  have g := ((((((h2.far (p := ⟨c, 0, none⟩) hne K).far (p := ⟨c, 1, none⟩) hne N).set_ 0 a).set_ 1 b).set_ 2 d).set_ 3 e).set_ 4 f
  have k := ((((((h3.set_ 0 K).set_ 1 N).far (p := ⟨r, 0, none⟩) (Ne.symm hne) a).far (p := ⟨r, 1, none⟩) (Ne.symm hne) b).far (p := ⟨r, 2, none⟩) (Ne.symm hne) d).far (p := ⟨r, 3, none⟩) (Ne.symm hne) e).far (p := ⟨r, 4, none⟩) (Ne.symm hne) f
  exact ⟨g.cell 0 _ rfl, g.cell 1 _ rfl, g.cell 2 _ rfl, g.cell 3 _ rfl, g.cell 4 _ rfl, k.cell 0 _ rfl, k.cell 1 _ rfl⟩
theorem below2 {w : World} {B g : Nat} (hg : B ≤ g) {a b : Value} : Below B w ((w.setCell ⟨g, 0, none⟩ a).setCell ⟨g, 1, none⟩ b) := ((Below.refl B w).setCell (p := ⟨g, 0, none⟩) hg a).setCell (p := ⟨g, 1, none⟩) hg b

set_option maxRecDepth 100000 in
set_option maxHeartbeats 1000000 in
theorem refPut_long {V0 : Nat} (B : Nat) (most : Int) (cv bv uv fv v : Value) (bs : List UInt8) (ks : List (Int × Int)) (vs : List (List UInt8 × Value)) (us : List Bool) (fr : List (Int × Int)) (w : World) (h : RRep w B cv bv uv fv ks vs us fr) (hv : Bts w V0 5 v bs) (hl : 65536 < bs.length) :
    Calls Try.prog 35 #[.agg #[.int .i64 most, cv, bv, uv, fv], v] w fun e w' => e = .returned (.tuple #[.agg #[.int .i64 most, cv, bv, uv, fv], .agg #[.int .i64 0, .int .i64 0], .int .i64 5]) ∧ Below w.heap.size w w' := by
  obtain ⟨CA, cc, rfl, hc1, _⟩ := own_form h.cells
  obtain ⟨BA, bc, rfl, hb1, _⟩ := own_form h.bytes
  obtain ⟨UA, uc, rfl, hu1, _⟩ := own_form h.used
  obtain ⟨FA, fc, rfl, hf1, _⟩ := own_form h.free
  obtain ⟨VA, vc, rfl⟩ := hv.form
  obtain ⟨w1, hw1⟩ : ∃ w1, ((w.alloc (.cells #[.int .i64 most, .slice CA ks.length cc, .slice BA vs.length bc, .slice UA us.length uc, .slice FA fr.length fc] 55)).alloc (.cells #[.int .i64 0, .slice none 0 0, .slice none 0 0, .slice none 0 0, .slice none 0 0] 55)).alloc (.cells #[.int .i64 0, .int .i64 0] 38) = w1 := ⟨_, rfl⟩
  obtain ⟨k1, k2, k3, k4, k5, k6⟩ := putbox_new w B most _ _ _ _ ks vs us fr h w1 hw1
  have K1 := Lib.hid k1
  have K2 := Lib.hid k2
  have K3 := Lib.hid k3
  have K4 := Lib.hid k4
  have K5 := Lib.hid k5
  have K6 := Lib.hid k6
  have HR := Lib.hid h
  have HV := Lib.hid hv
  have HW := Lib.hid hw1
  clear h hv hw1 k1 k2 k3 k4 k5 k6
  have x0 : w1.cell? ⟨w.heap.size, 0, none⟩ = some (.int .i64 most) := K1.out.cell 0 _ rfl
  have x1 : w1.cell? ⟨w.heap.size, 1, none⟩ = some (.slice CA ks.length cc) := K1.out.cell 1 _ rfl
  have x2 : w1.cell? ⟨w.heap.size, 2, none⟩ = some (.slice BA vs.length bc) := K1.out.cell 2 _ rfl
  have x3 : w1.cell? ⟨w.heap.size, 3, none⟩ = some (.slice UA us.length uc) := K1.out.cell 3 _ rfl
  have x4 : w1.cell? ⟨w.heap.size, 4, none⟩ = some (.slice FA fr.length fc) := K1.out.cell 4 _ rfl
  go_enter Try.func35, Try.ntmps35
  go_upto_region 1 with fail
  rw [HW.out]
  clear HW
  go_wp2_with fail
  refine (refClass_bad bs.length (.inr (by omega)) _).mono ?_
  rintro e w2 ⟨rfl, rfl⟩
  have r0 := (K2.out).cell 0 _ rfl
  have r1 := (K2.out).cell 1 _ rfl
  have r2 := (K2.out).cell 2 _ rfl
  have r3 := (K2.out).cell 3 _ rfl
  have r4 := (K2.out).cell 4 _ rfl
  have rf := (K2.out).frozen
  have rl := (K2.out).lt
  have c0 := (K3.out).cell 0 _ rfl
  have c1 := (K3.out).cell 1 _ rfl
  have cf := (K3.out).frozen
  have cl := (K3.out).lt
  go_wp2_with fail
  obtain ⟨q0, q1, q2, q3, q4, q5, q6⟩ := boxes_ac K2.out K3.out (.int .i64 most) (.slice CA ks.length cc) (.slice BA vs.length bc) (.slice UA us.length uc) (.slice FA fr.length fc) (.int .i64 0) (.int .i64 0)
  refine bodyPost_ret (v := .tuple #[.agg #[.int .i64 most, .slice CA ks.length cc, .slice BA vs.length bc, .slice UA us.length uc, .slice FA fr.length fc], .agg #[.int .i64 0, .int .i64 0], .int .i64 5]) (by simp [results, Try.results35, go_sem, q0, q1, q2, q3, q4, q5, q6]) rfl ⟨rfl, ?_⟩
  exact (K4.out.trans (below5 (by omega))).trans (below2 (by omega))

set_option maxRecDepth 100000 in
set_option maxHeartbeats 1000000 in
theorem refPut_full {V0 : Nat} (B : Nat) (most : Int) (cv bv uv fv v : Value) (bs : List UInt8) (ks : List (Int × Int)) (vs : List (List UInt8 × Value)) (us : List Bool) (fr : List (Int × Int)) (w : World) (h : RRep w B cv bv uv fv ks vs us fr) (hv : Bts w V0 5 v bs) (hl : bs.length ≤ 65536)
    (hn : ks.length ≤ 1000 ∧ us.length = ks.length ∧ vs.length = ks.length ∧ fr.length ≤ 1000) (hK : ∀ k ∈ ks, 0 ≤ k.1 ∧ k.1 < 13) (hB : ∀ x ∈ vs, x.1.length ≤ 65536) (k : Nat) (hk : classN bs.length = k) (hfr : fFr k fr = []) (hfull : most < (fAll ks : Int) + (csize k : Int)) (hm : 0 ≤ most ∧ most ≤ 1099511627776) :
    Calls Try.prog 35 #[.agg #[.int .i64 most, cv, bv, uv, fv], v] w fun e w' => e = .returned (.tuple #[.agg #[.int .i64 most, cv, bv, uv, fv], .agg #[.int .i64 0, .int .i64 0], .int .i64 7]) ∧ Below w.heap.size w w' := by
  have HN := Lib.hid hn
  have HK := Lib.hid hK
  have HB := Lib.hid hB
  have HFR := Lib.hid hfr
  have hk13 : k < 13 := by have := classN_le hl; omega
  have hcs := csize_le hk13
  have hall : fAll ks ≤ 65536000 := Nat.le_trans (sum_bound (c := 65536) (fun x hx => (csize_le (k := x.1.toNat) (by have := HK.out x hx; omega)).2)) (by have := HN.out.1; omega)
  have hcl := refClass_ok bs.length hl
  rw [hk] at hcl
  have HCL := Lib.hid hcl
  clear hn hK hB hfr hcl hk
  obtain ⟨CA, cc, rfl, hc1, _⟩ := own_form h.cells
  obtain ⟨BA, bc, rfl, hb1, _⟩ := own_form h.bytes
  obtain ⟨UA, uc, rfl, hu1, _⟩ := own_form h.used
  obtain ⟨FA, fc, rfl, hf1, _⟩ := own_form h.free
  obtain ⟨VA, vc, rfl⟩ := hv.form
  obtain ⟨w1, hw1⟩ : ∃ w1, ((w.alloc (.cells #[.int .i64 most, .slice CA ks.length cc, .slice BA vs.length bc, .slice UA us.length uc, .slice FA fr.length fc] 55)).alloc (.cells #[.int .i64 0, .slice none 0 0, .slice none 0 0, .slice none 0 0, .slice none 0 0] 55)).alloc (.cells #[.int .i64 0, .int .i64 0] 38) = w1 := ⟨_, rfl⟩
  obtain ⟨k1, k2, k3, k4, k5, k6⟩ := putbox_new w B most _ _ _ _ ks vs us fr h w1 hw1
  have K1 := Lib.hid k1
  have K2 := Lib.hid k2
  have K3 := Lib.hid k3
  have K4 := Lib.hid k4
  have K5 := Lib.hid k5
  have K6 := Lib.hid k6
  have HR := Lib.hid h
  have HV := Lib.hid hv
  have HW := Lib.hid hw1
  clear h hv hw1 k1 k2 k3 k4 k5 k6
  have x0 : w1.cell? ⟨w.heap.size, 0, none⟩ = some (.int .i64 most) := K1.out.cell 0 _ rfl
  have x1 : w1.cell? ⟨w.heap.size, 1, none⟩ = some (.slice CA ks.length cc) := K1.out.cell 1 _ rfl
  have x2 : w1.cell? ⟨w.heap.size, 2, none⟩ = some (.slice BA vs.length bc) := K1.out.cell 2 _ rfl
  have x3 : w1.cell? ⟨w.heap.size, 3, none⟩ = some (.slice UA us.length uc) := K1.out.cell 3 _ rfl
  have x4 : w1.cell? ⟨w.heap.size, 4, none⟩ = some (.slice FA fr.length fc) := K1.out.cell 4 _ rfl
  go_enter Try.func35, Try.ntmps35
  go_upto_region 1 with fail
  rw [HW.out]
  clear HW
  go_wp2_with fail
  refine (HCL.out _).mono ?_
  rintro e w2 ⟨rfl, rfl⟩
  go_wp2_with fail
  refine (refACopy_any B most _ _ _ _ ks vs us fr _ K5.out ⟨HN.out.1, by have := HN.out; omega, HN.out.2.2.2, by have := HN.out; omega⟩ HB.out).mono ?_
  rintro e w3 ⟨cv', bv', uv', fv', vs', rfl, hr3, _, _, hb3⟩
  obtain ⟨C2, cc2, rfl, _, _⟩ := own_form hr3.cells
  obtain ⟨B2, bc2, rfl, _, _⟩ := own_form hr3.bytes
  obtain ⟨U2, uc2, rfl, _, _⟩ := own_form hr3.used
  obtain ⟨F2, fc2, rfl, _, _⟩ := own_form hr3.free
  have HB3 : Hid (Below w.heap.size w w3) := Lib.hid (K4.out.trans (hb3.mono K4.out.size))
  have J1 := Lib.hid (K1.out.below hb3)
  have J2 := Lib.hid (K2.out.below hb3)
  have J3 := Lib.hid (K3.out.below hb3)
  have J5 := Lib.hid (K5.out.below hb3)
  have hsz : w2.heap.size ≤ w3.heap.size := hb3.size
  have hs0 : w.heap.size < w3.heap.size := J1.out.lt
  have hs1 : w.heap.size + 1 < w3.heap.size := J2.out.lt
  have hs2 : w.heap.size + 1 + 1 < w3.heap.size := J3.out.lt
  clear x0 x1 x2 x3 x4 hr3 hb3
  have x0 : w3.cell? ⟨w.heap.size, 0, none⟩ = some (.int .i64 most) := J1.out.cell 0 _ rfl
  have x1 : w3.cell? ⟨w.heap.size, 1, none⟩ = some (.slice CA ks.length cc) := J1.out.cell 1 _ rfl
  have x2 : w3.cell? ⟨w.heap.size, 2, none⟩ = some (.slice BA vs.length bc) := J1.out.cell 2 _ rfl
  have x3 : w3.cell? ⟨w.heap.size, 3, none⟩ = some (.slice UA us.length uc) := J1.out.cell 3 _ rfl
  have x4 : w3.cell? ⟨w.heap.size, 4, none⟩ = some (.slice FA fr.length fc) := J1.out.cell 4 _ rfl
  go_upto_region 5 with fail
  obtain ⟨w4, hw4⟩ : ∃ w4, w3.alloc (.cells #[.int .i64 most, .slice C2 ks.length cc2, .slice B2 vs'.length bc2, .slice U2 us.length uc2, .slice F2 fr.length fc2] 55) = w4 := ⟨_, rfl⟩
  have hb4 : Below w3.heap.size w3 w4 := hw4 ▸ (Below.refl _ _).alloc (Nat.le_refl _) _
  have HB4 : Hid (Below w.heap.size w w4) := Lib.hid (HB3.out.trans (hb4.mono HB3.out.size))
  have L1 := Lib.hid (J1.out.below hb4)
  have L2 := Lib.hid (J2.out.below hb4)
  have L3 := Lib.hid (J3.out.below hb4)
  have L5 := Lib.hid (J5.out.below hb4)
  rw [hw4]
  clear hw4 hb4 x0 x1 x2 x3 x4 hsz hs0 hs1 hs2
  have x0 : w4.cell? ⟨w.heap.size, 0, none⟩ = some (.int .i64 most) := L1.out.cell 0 _ rfl
  have x1 : w4.cell? ⟨w.heap.size, 1, none⟩ = some (.slice CA ks.length cc) := L1.out.cell 1 _ rfl
  have x2 : w4.cell? ⟨w.heap.size, 2, none⟩ = some (.slice BA vs.length bc) := L1.out.cell 2 _ rfl
  have x3 : w4.cell? ⟨w.heap.size, 3, none⟩ = some (.slice UA us.length uc) := L1.out.cell 3 _ rfl
  have x4 : w4.cell? ⟨w.heap.size, 4, none⟩ = some (.slice FA fr.length fc) := L1.out.cell 4 _ rfl
  go_wp2_with fail
  refine (refFrees_any B most k _ _ _ _ ks vs us fr _ L5.out HN.out.2.2.2).mono ?_
  rw [HFR.out]
  rintro e w5 ⟨lv, rfl, hlv, hb5⟩
  obtain ⟨LA, lc, rfl, _, _⟩ := own_form hlv
  have HB5 : Hid (Below w.heap.size w w5) := Lib.hid (HB4.out.trans (hb5.mono HB4.out.size))
  have M1 := Lib.hid (L1.out.below hb5)
  have M2 := Lib.hid (L2.out.below hb5)
  have M3 := Lib.hid (L3.out.below hb5)
  have M5 := Lib.hid (L5.out.below hb5)
  clear hlv hb5 x0 x1 x2 x3 x4
  have x0 : w5.cell? ⟨w.heap.size, 0, none⟩ = some (.int .i64 most) := M1.out.cell 0 _ rfl
  have x1 : w5.cell? ⟨w.heap.size, 1, none⟩ = some (.slice CA ks.length cc) := M1.out.cell 1 _ rfl
  have x2 : w5.cell? ⟨w.heap.size, 2, none⟩ = some (.slice BA vs.length bc) := M1.out.cell 2 _ rfl
  have x3 : w5.cell? ⟨w.heap.size, 3, none⟩ = some (.slice UA us.length uc) := M1.out.cell 3 _ rfl
  have x4 : w5.cell? ⟨w.heap.size, 4, none⟩ = some (.slice FA fr.length fc) := M1.out.cell 4 _ rfl
  go_wp2_with fail
  refine (refSums_any B most _ _ _ _ ks vs us fr _ M5.out HN.out.2.1 HN.out.2.2.1 HN.out.1 HK.out HB.out).mono ?_
  rintro e w6 ⟨rfl, hb6⟩
  have HB6 : Hid (Below w.heap.size w w6) := Lib.hid (HB5.out.trans (hb6.mono HB5.out.size))
  have N1 := Lib.hid (M1.out.below hb6)
  have N2 := Lib.hid (M2.out.below hb6)
  have N3 := Lib.hid (M3.out.below hb6)
  clear hb6 x0 x1 x2 x3 x4
  have x0 : w6.cell? ⟨w.heap.size, 0, none⟩ = some (.int .i64 most) := N1.out.cell 0 _ rfl
  have hwr : IntKind.i64.wrap ((fAll ks : Int) + (csize k : Int)) = (fAll ks : Int) + (csize k : Int) := IntWalk.i64_in _ (by omega)
  have hgt : decide ((fAll ks : Int) + (csize k : Int) > most) = true := by simpa using hfull
  go_wp2_with fail
  go_quiet ((go_at_call 12; refine Calls.quiet_of_same (refSize_any k (by omega) _)))
  have P1 : Hid (Blk (w6.drewN nq) w.heap.size 55 _) := Lib.hid N1.out
  have P2 : Hid (Blk (w6.drewN nq) (w.heap.size + 1) 55 _) := Lib.hid N2.out
  have P3 : Hid (Blk (w6.drewN nq) (w.heap.size + 1 + 1) 38 _) := Lib.hid N3.out
  have HB7 : Hid (Below w.heap.size w (w6.drewN nq)) := Lib.hid ⟨HB6.out.os, HB6.out.tape, HB6.out.output, HB6.out.size, HB6.out.block⟩
  clear x0 hgt hwr
  generalize w6.drewN nq = w7 at P1 P2 P3 HB7 ⊢
  have x0 : World.cell? w7 ⟨w.heap.size, 0, none⟩ = some (.int .i64 most) := (P1.out).cell 0 _ rfl
  have x1 : World.cell? w7 ⟨w.heap.size, 1, none⟩ = some (.slice CA ks.length cc) := (P1.out).cell 1 _ rfl
  have x2 : World.cell? w7 ⟨w.heap.size, 2, none⟩ = some (.slice BA vs.length bc) := (P1.out).cell 2 _ rfl
  have x3 : World.cell? w7 ⟨w.heap.size, 3, none⟩ = some (.slice UA us.length uc) := (P1.out).cell 3 _ rfl
  have x4 : World.cell? w7 ⟨w.heap.size, 4, none⟩ = some (.slice FA fr.length fc) := (P1.out).cell 4 _ rfl
  have r0 := (P2.out).cell 0 _ rfl
  have r1 := (P2.out).cell 1 _ rfl
  have r2 := (P2.out).cell 2 _ rfl
  have r3 := (P2.out).cell 3 _ rfl
  have r4 := (P2.out).cell 4 _ rfl
  have rf := (P2.out).frozen
  have rl := (P2.out).lt
  have c0 := (P3.out).cell 0 _ rfl
  have c1 := (P3.out).cell 1 _ rfl
  have cf := (P3.out).frozen
  have cl := (P3.out).lt
  go_wp2_with fail
  obtain ⟨q0, q1, q2, q3, q4, q5, q6⟩ := boxes_ac P2.out P3.out (.int .i64 most) (.slice CA ks.length cc) (.slice BA vs.length bc) (.slice UA us.length uc) (.slice FA fr.length fc) (.int .i64 0) (.int .i64 0)
  refine bodyPost_ret (v := .tuple #[.agg #[.int .i64 most, .slice CA ks.length cc, .slice BA vs.length bc, .slice UA us.length uc, .slice FA fr.length fc], .agg #[.int .i64 0, .int .i64 0], .int .i64 7]) (by simp [results, Try.results35, go_sem, q0, q1, q2, q3, q4, q5, q6]) rfl ⟨rfl, ?_⟩
  exact (HB7.out.trans (below5 (by omega))).trans (below2 (by omega))

end Go.Proofs.Ytookfhmghchkjaa
