/- The reference's arena's Swap (layer 13). -/
import Derived.Test.YtookfhmghchkjaaRsH
namespace Go.Proofs.Ytookfhmghchkjaa
open Go Go.RowKit
attribute [local go_sem ↓] Go.wp_at_zero Go.wp_at_succ

theorem swapbox_new (w : World) (B : Nat) (most K N : Int) (cv bv uv fv : Value) (ks : List (Int × Int)) (vs : List (List UInt8 × Value)) (us : List Bool) (fr : List (Int × Int)) (h : RRep w B cv bv uv fv ks vs us fr) (W : World)
    (hW : (((w.alloc (.cells #[.int .i64 most, cv, bv, uv, fv] 55)).alloc (.cells #[.int .i64 K, .int .i64 N] 38)).alloc (.cells #[.int .i64 0, .slice none 0 0, .slice none 0 0, .slice none 0 0, .slice none 0 0] 55)).alloc (.cells #[.int .i64 0, .int .i64 0] 38) = W) :
    Blk W w.heap.size 55 #[.int .i64 most, cv, bv, uv, fv] ∧ Blk W (w.heap.size + 1) 38 #[.int .i64 K, .int .i64 N] ∧ Blk W (w.heap.size + 1 + 1) 55 #[.int .i64 0, .slice none 0 0, .slice none 0 0, .slice none 0 0, .slice none 0 0] ∧
      Blk W (w.heap.size + 1 + 1 + 1) 38 #[.int .i64 0, .int .i64 0] ∧ Below w.heap.size w W ∧ RRep W B cv bv uv fv ks vs us fr ∧ W.heap.size = w.heap.size + 4 := by
  obtain ⟨W1, hW1⟩ : ∃ W1, ((w.alloc (.cells #[.int .i64 most, cv, bv, uv, fv] 55)).alloc (.cells #[.int .i64 K, .int .i64 N] 38)).alloc (.cells #[.int .i64 0, .slice none 0 0, .slice none 0 0, .slice none 0 0, .slice none 0 0] 55) = W1 := ⟨_, rfl⟩
  obtain ⟨k1, k2, k3, k4, k5, k6⟩ := relbox_new w B most K N cv bv uv fv ks vs us fr h W1 hW1
  rw [hW1] at hW
  subst hW
  refine ⟨k1.alloc _, k2.alloc _, k3.alloc _, ?_, k4.alloc k4.size _, k5.alloc _, by simp [k6]⟩
  have := Blk.new W1 38 #[.int .i64 0, .int .i64 0]
  rwa [k6] at this

/-- The result's boxes were written. -/
theorem RRep.fin2 {w W W' : World} {m r c : Nat} {cv bv uv fv : Value} {ks : List (Int × Int)} {vs : List (List UInt8 × Value)} {us : List Bool} {fr : List (Int × Int)} {c2 c3 : Array Value} (h : RRep W m cv bv uv fv ks vs us fr) (b2 : Blk W r 55 c2) (b3 : Blk W c 38 c3) (hlo : w.heap.size ≤ r ∧ w.heap.size ≤ c) (hhi : r < m ∧ c < m) (hb : Below w.heap.size w W) (hm : w.heap.size ≤ m) (ho : Only (fun j => j = r ∨ j = c) W W') :
    RRep W' w.heap.size cv bv uv fv ks vs us fr ∧ Below w.heap.size w W' := by
  obtain ⟨h2, h3⟩ := hhi
  obtain ⟨l2, l3⟩ := hlo
  have key : ∀ {e : TypeId} {size n : Nat} {v : Value} {xs : List Value}, W.ownsRow m e size v n xs → ∀ k, v.ownBlock = some k → ¬ (k = r ∨ k = c) := fun hr k hk e => by
    have := (row_blockS hr hk).1
    omega
  refine ⟨(h.only ho (key h.cells) (key h.bytes) (key h.used) (key h.free) (fun x hx => bts_turn (h.vals x hx) ho (fun j hj c2 fr2 e => ?_))).base hm, hb.trans (ho.below (fun i hi _ e => by omega) hb.size)⟩
  rcases hj with rfl | rfl
  · exact (b2.ne_ e (by decide)) rfl
  · exact (b3.ne_ e (by decide)) rfl



set_option maxRecDepth 100000 in
set_option maxHeartbeats 1000000 in
theorem refSwap_none {V0 : Nat} (B : Nat) (most K N : Int) (cv bv uv fv v : Value) (bs : List UInt8) (ks : List (Int × Int)) (vs : List (List UInt8 × Value)) (us : List Bool) (fr : List (Int × Int)) (w : World) (h : RRep w B cv bv uv fv ks vs us fr) (hv : Bts w V0 5 v bs) (hn : ks.length ≤ 1000 ∧ us.length = ks.length ∧ vs.length = ks.length ∧ fr.length ≤ 1000) (hat : rAt ks us (K, N) = none) :
    Calls Try.prog 38 #[.agg #[.int .i64 most, cv, bv, uv, fv], .agg #[.int .i64 K, .int .i64 N], v] w fun e w' => e = .returned (.tuple #[.agg #[.int .i64 most, cv, bv, uv, fv], .agg #[.int .i64 0, .int .i64 0], .int .i64 9]) ∧ Below w.heap.size w w' := by
  have HN := Lib.hid hn
  have e : rAtI ks us (K, N) = -1 := by rw [rAtI, hat]
  have HE := Lib.hid e
  clear hn hat e
  obtain ⟨CA, cc, rfl, hc1, _⟩ := own_form h.cells
  obtain ⟨BA, bc, rfl, hb1, _⟩ := own_form h.bytes
  obtain ⟨UA, uc, rfl, hu1, _⟩ := own_form h.used
  obtain ⟨FA, fc, rfl, hf1, _⟩ := own_form h.free
  obtain ⟨VA, vc, rfl⟩ := hv.form
  obtain ⟨w1, hw1⟩ : ∃ w1, (((w.alloc (.cells #[.int .i64 most, .slice CA ks.length cc, .slice BA vs.length bc, .slice UA us.length uc, .slice FA fr.length fc] 55)).alloc (.cells #[.int .i64 K, .int .i64 N] 38)).alloc (.cells #[.int .i64 0, .slice none 0 0, .slice none 0 0, .slice none 0 0, .slice none 0 0] 55)).alloc (.cells #[.int .i64 0, .int .i64 0] 38) = w1 := ⟨_, rfl⟩
  obtain ⟨k1, k2, k3, k7, k4, k5, k6⟩ := swapbox_new w B most K N _ _ _ _ ks vs us fr h w1 hw1
  have K1 := Lib.hid k1
  have K2 := Lib.hid k2
  have K3 := Lib.hid k3
  have K4 := Lib.hid k4
  have K5 := Lib.hid k5
  have K6 := Lib.hid k6
  have K7 := Lib.hid k7
  have HR := Lib.hid h
  have HV := Lib.hid hv
  have HW := Lib.hid hw1
  clear h hw1 k1 k2 k3 k4 k5 k6 k7 hv
  have x0 : World.cell? w1 ⟨w.heap.size, 0, none⟩ = some (.int .i64 most) := (K1.out).cell 0 _ rfl
  have x1 : World.cell? w1 ⟨w.heap.size, 1, none⟩ = some (.slice CA ks.length cc) := (K1.out).cell 1 _ rfl
  have x2 : World.cell? w1 ⟨w.heap.size, 2, none⟩ = some (.slice BA vs.length bc) := (K1.out).cell 2 _ rfl
  have x3 : World.cell? w1 ⟨w.heap.size, 3, none⟩ = some (.slice UA us.length uc) := (K1.out).cell 3 _ rfl
  have x4 : World.cell? w1 ⟨w.heap.size, 4, none⟩ = some (.slice FA fr.length fc) := (K1.out).cell 4 _ rfl
  have y0 : w1.cell? ⟨w.heap.size + 1, 0, none⟩ = some (.int .i64 K) := K2.out.cell 0 _ rfl
  have y1 : w1.cell? ⟨w.heap.size + 1, 1, none⟩ = some (.int .i64 N) := K2.out.cell 1 _ rfl
  go_enter Try.func38, Try.ntmps38
  go_upto_region 1 with fail
  rw [HW.out]
  clear HW
  go_wp2_with fail
  refine (refAt_any B most K N _ _ _ _ ks vs us fr w1 K5.out HN.out.2.1 HN.out.1).mono ?_
  rw [HE.out]
  rintro e w2 ⟨rfl, hb2⟩
  have HB2 := Lib.hid (K4.out.trans (hb2.mono K4.out.size))
  have L1 := Lib.hid (K1.out.below hb2)
  have L2 := Lib.hid (K2.out.below hb2)
  have L3 := Lib.hid (K3.out.below hb2)
  have L5 := Lib.hid (K5.out.below hb2)
  have L6 : Hid (w.heap.size + 4 ≤ w2.heap.size) := Lib.hid (by have := hb2.size; rw [K6.out] at this; exact this)
  have L7 := Lib.hid (K7.out.below hb2)
  clear hb2 x0 x1 x2 x3 x4 y0 y1 K1 K2 K3 K4 K5 K6 K7
  have x0 : World.cell? w2 ⟨w.heap.size, 0, none⟩ = some (.int .i64 most) := (L1.out).cell 0 _ rfl
  have x1 : World.cell? w2 ⟨w.heap.size, 1, none⟩ = some (.slice CA ks.length cc) := (L1.out).cell 1 _ rfl
  have x2 : World.cell? w2 ⟨w.heap.size, 2, none⟩ = some (.slice BA vs.length bc) := (L1.out).cell 2 _ rfl
  have x3 : World.cell? w2 ⟨w.heap.size, 3, none⟩ = some (.slice UA us.length uc) := (L1.out).cell 3 _ rfl
  have x4 : World.cell? w2 ⟨w.heap.size, 4, none⟩ = some (.slice FA fr.length fc) := (L1.out).cell 4 _ rfl
  have y0 : w2.cell? ⟨w.heap.size + 1, 0, none⟩ = some (.int .i64 K) := L2.out.cell 0 _ rfl
  have y1 : w2.cell? ⟨w.heap.size + 1, 1, none⟩ = some (.int .i64 N) := L2.out.cell 1 _ rfl
  have r0 := (L3.out).cell 0 _ rfl
  have r1 := (L3.out).cell 1 _ rfl
  have r2 := (L3.out).cell 2 _ rfl
  have r3 := (L3.out).cell 3 _ rfl
  have r4 := (L3.out).cell 4 _ rfl
  have rf := (L3.out).frozen
  have rl := (L3.out).lt
  have c0 := (L7.out).cell 0 _ rfl
  have c1 := (L7.out).cell 1 _ rfl
  have cf := (L7.out).frozen
  have cl := (L7.out).lt
  go_wp2_with fail
  obtain ⟨q0, q1, q2, q3, q4, q5, q6⟩ := boxes_ac L3.out L7.out (.int .i64 most) (.slice CA ks.length cc) (.slice BA vs.length bc) (.slice UA us.length uc) (.slice FA fr.length fc) (.int .i64 0) (.int .i64 0)
  refine bodyPost_ret (v := .tuple #[.agg #[.int .i64 most, .slice CA ks.length cc, .slice BA vs.length bc, .slice UA us.length uc, .slice FA fr.length fc], .agg #[.int .i64 0, .int .i64 0], .int .i64 9]) (by simp [results, Try.results38, go_sem, q0, q1, q2, q3, q4, q5, q6]) rfl ⟨rfl, ?_⟩
  exact (HB2.out.trans (below5 (by omega))).trans (below2 (by omega))


set_option maxRecDepth 100000 in
set_option maxHeartbeats 4000000 in
theorem refSwap_same {V0 : Nat} (B : Nat) (most K N : Int) (cv bv uv fv v : Value) (bs : List UInt8) (ks : List (Int × Int)) (vs : List (List UInt8 × Value)) (us : List Bool) (fr : List (Int × Int)) (w : World) (h : RRep w B cv bv uv fv ks vs us fr) (hv : Bts w V0 5 v bs) (hn : ks.length ≤ 1000 ∧ us.length = ks.length ∧ vs.length = ks.length ∧ fr.length ≤ 1000) (hB : ∀ x ∈ vs, x.1.length ≤ 65536) (i : Nat) (hat : rAt ks us (K, N) = some i)
    (hl : bs.length ≤ 65536) (hk : (classN bs.length : Int) = K) :
    Calls Try.prog 38 #[.agg #[.int .i64 most, cv, bv, uv, fv], .agg #[.int .i64 K, .int .i64 N], v] w (RRes w most ks ((vs.map Prod.fst).set i bs) us fr (fun a => .tuple #[a, .agg #[.int .i64 K, .int .i64 N], .int .i64 0])) := by
  have HN := Lib.hid hn
  have HB := Lib.hid hB
  have HL := Lib.hid hl
  have e : rAtI ks us (K, N) = i := by rw [rAtI, hat]
  have HE := Lib.hid e
  have hik : i < ks.length := (List.getElem?_eq_some_iff.1 (rAt_is hat).1).1
  have hiI : (i : Int) ≤ 1000 := by have := hn.1; omega
  have hi0 : ¬ (i : Int) < 0 := by omega
  have hcl := refClass_ok bs.length hl
  rw [hk] at hcl
  have HCL := Lib.hid hcl
  obtain ⟨i4, hi, hy0, hy1, hy2⟩ := info_parts u8_info
  have HJ4 := Lib.hid hi
  have HY40 := Lib.hid hy0
  have HY41 := Lib.hid hy1
  have HY42 := Lib.hid hy2
  clear hi hy0 hy1 hy2
  clear hn hat e hB hl hk hcl
  obtain ⟨CA, cc, rfl, hc1, _⟩ := own_form h.cells
  obtain ⟨BA, bc, rfl, hb1, _⟩ := own_form h.bytes
  obtain ⟨UA, uc, rfl, hu1, _⟩ := own_form h.used
  obtain ⟨FA, fc, rfl, hf1, _⟩ := own_form h.free
  obtain ⟨VA, vc, rfl⟩ := hv.form
  obtain ⟨w1, hw1⟩ : ∃ w1, (((w.alloc (.cells #[.int .i64 most, .slice CA ks.length cc, .slice BA vs.length bc, .slice UA us.length uc, .slice FA fr.length fc] 55)).alloc (.cells #[.int .i64 K, .int .i64 N] 38)).alloc (.cells #[.int .i64 0, .slice none 0 0, .slice none 0 0, .slice none 0 0, .slice none 0 0] 55)).alloc (.cells #[.int .i64 0, .int .i64 0] 38) = w1 := ⟨_, rfl⟩
  obtain ⟨k1, k2, k3, k7, k4, k5, k6⟩ := swapbox_new w B most K N _ _ _ _ ks vs us fr h w1 hw1
  have K1 := Lib.hid k1
  have K2 := Lib.hid k2
  have K3 := Lib.hid k3
  have K4 := Lib.hid k4
  have K5 := Lib.hid k5
  have K6 := Lib.hid k6
  have K7 := Lib.hid k7
  have HR := Lib.hid h
  have HV := Lib.hid hv
  have HW := Lib.hid hw1
  clear h hw1 k1 k2 k3 k4 k5 k6 k7 hv
  have x0 : World.cell? w1 ⟨w.heap.size, 0, none⟩ = some (.int .i64 most) := (K1.out).cell 0 _ rfl
  have x1 : World.cell? w1 ⟨w.heap.size, 1, none⟩ = some (.slice CA ks.length cc) := (K1.out).cell 1 _ rfl
  have x2 : World.cell? w1 ⟨w.heap.size, 2, none⟩ = some (.slice BA vs.length bc) := (K1.out).cell 2 _ rfl
  have x3 : World.cell? w1 ⟨w.heap.size, 3, none⟩ = some (.slice UA us.length uc) := (K1.out).cell 3 _ rfl
  have x4 : World.cell? w1 ⟨w.heap.size, 4, none⟩ = some (.slice FA fr.length fc) := (K1.out).cell 4 _ rfl
  have y0 : w1.cell? ⟨w.heap.size + 1, 0, none⟩ = some (.int .i64 K) := K2.out.cell 0 _ rfl
  have y1 : w1.cell? ⟨w.heap.size + 1, 1, none⟩ = some (.int .i64 N) := K2.out.cell 1 _ rfl
  go_enter Try.func38, Try.ntmps38
  go_upto_region 1 with fail
  rw [HW.out]
  clear HW
  go_wp2_with fail
  refine (refAt_any B most K N _ _ _ _ ks vs us fr w1 K5.out HN.out.2.1 HN.out.1).mono ?_
  rw [HE.out]
  rintro e w2 ⟨rfl, hb2⟩
  have HB2 := Lib.hid (K4.out.trans (hb2.mono K4.out.size))
  have L1 := Lib.hid (K1.out.below hb2)
  have L2 := Lib.hid (K2.out.below hb2)
  have L3 := Lib.hid (K3.out.below hb2)
  have L5 := Lib.hid (K5.out.below hb2)
  have L6 : Hid (w.heap.size + 4 ≤ w2.heap.size) := Lib.hid (by have := hb2.size; rw [K6.out] at this; exact this)
  have L7 := Lib.hid (K7.out.below hb2)
  clear hb2 x0 x1 x2 x3 x4 y0 y1 K1 K2 K3 K4 K5 K6 K7
  have x0 : World.cell? w2 ⟨w.heap.size, 0, none⟩ = some (.int .i64 most) := (L1.out).cell 0 _ rfl
  have x1 : World.cell? w2 ⟨w.heap.size, 1, none⟩ = some (.slice CA ks.length cc) := (L1.out).cell 1 _ rfl
  have x2 : World.cell? w2 ⟨w.heap.size, 2, none⟩ = some (.slice BA vs.length bc) := (L1.out).cell 2 _ rfl
  have x3 : World.cell? w2 ⟨w.heap.size, 3, none⟩ = some (.slice UA us.length uc) := (L1.out).cell 3 _ rfl
  have x4 : World.cell? w2 ⟨w.heap.size, 4, none⟩ = some (.slice FA fr.length fc) := (L1.out).cell 4 _ rfl
  have y0 : w2.cell? ⟨w.heap.size + 1, 0, none⟩ = some (.int .i64 K) := L2.out.cell 0 _ rfl
  have y1 : w2.cell? ⟨w.heap.size + 1, 1, none⟩ = some (.int .i64 N) := L2.out.cell 1 _ rfl
  go_wp2_with fail
  refine (HCL.out _).mono ?_
  rintro e w2x ⟨rfl, rfl⟩
  go_wp2_with fail
  refine (refACopy_any B most _ _ _ _ ks vs us fr _ L5.out ⟨HN.out.1, by have := HN.out; omega, HN.out.2.2.2, by have := HN.out; omega⟩ HB.out).mono ?_
  rintro e w3 ⟨cv', bv', uv', fv', vs', rfl, hr3, hm3, hf3, hb3⟩
  obtain ⟨C2, cc2, rfl, _, _⟩ := own_form hr3.cells
  obtain ⟨B2, bc2, rfl, _, _⟩ := own_form hr3.bytes
  obtain ⟨U2, uc2, rfl, _, _⟩ := own_form hr3.used
  obtain ⟨F2, fc2, rfl, _, _⟩ := own_form hr3.free
  have HM3 := Lib.hid hm3
  have hba : Below w2x.heap.size w2x (w3.alloc (.cells #[.int .i64 most, .slice C2 ks.length cc2, .slice B2 vs'.length bc2, .slice U2 us.length uc2, .slice F2 fr.length fc2] 55)) := hb3.trans ((Below.refl _ _).alloc hb3.size _)
  have hpa : PA w (w3.alloc (.cells #[.int .i64 most, .slice C2 ks.length cc2, .slice B2 vs'.length bc2, .slice U2 us.length uc2, .slice F2 fr.length fc2] 55)) B (w.heap.size + 4) w.heap.size (w.heap.size + 1 + 1) (w.heap.size + 1 + 1 + 1) w3.heap.size (.int .i64 0) (.int .i64 0) most (.slice CA ks.length cc) (.slice BA vs.length bc) (.slice UA us.length uc) (.slice FA fr.length fc) ks vs us fr (.slice C2 ks.length cc2) (.slice B2 vs'.length bc2) (.slice U2 us.length uc2) (.slice F2 fr.length fc2) ks vs' us fr :=
    ⟨L5.out.below hba, L1.out.below hba, L3.out.below hba, L7.out.below hba, OInv.of_rep (hr3.base L6.out) most, by have := hb3.size; have := L6.out; omega, HB2.out.trans (hba.mono HB2.out.size), by have := hba.size; have := L6.out; omega, by omega, by omega, by omega, fun x hx k hk => by have := hf3 x hx k hk; have := L6.out; omega⟩
  have HPa := Lib.hid hpa
  have HXa := Lib.hid (L2.out.below hba)
  have hvl : vs'.length = ks.length := by
    have h1 := congrArg List.length hm3
    have h2 := HN.out.2.2.1
    simp at h1
    omega
  have HVl := Lib.hid hvl
  have hs0 : w.heap.size < w3.heap.size := (L1.out.below hb3).lt
  clear x0 x1 x2 x3 x4 y0 y1 hpa hba hm3 hr3 hf3 hb3 hvl
  go_upto_region 7 with fail
  obtain ⟨w4, hw4⟩ : ∃ w4, w3.alloc (.cells #[.int .i64 most, .slice C2 ks.length cc2, .slice B2 vs'.length bc2, .slice U2 us.length uc2, .slice F2 fr.length fc2] 55) = w4 := ⟨_, rfl⟩
  rw [hw4] at HPa HXa ⊢
  clear hw4 hs0
  obtain ⟨g, hg⟩ : ∃ g, w3.heap.size = g := ⟨_, rfl⟩
  rw [hg] at HPa ⊢
  clear hg L1 L2 L3 L5 L6 L7 HB2
  have hiv : i < vs'.length := by have := HVl.out; omega
  have hivI : (i : Int) < (vs'.length : Int) := by omega
  obtain ⟨y, hy⟩ : ∃ y, vs'[i]? = some y := ⟨_, List.getElem?_eq_getElem hiv⟩
  have HY := Lib.hid hy
  obtain ⟨gb, capb, eb, _, hcb, _, d2⟩ := vread HPa.out.out.rep.bytes hy
  injection eb with eb el eb4
  clear el hy
  subst eb eb4
  have hcbI : (vs'.length : Int) ≤ (bc2 : Int) := by omega
  have o2 : w4.cell? ⟨g, 2, none⟩ = some (.slice (some ⟨gb, 0, none⟩) vs'.length bc2) := HPa.out.out.out.cell 2 _ rfl
  have db := HPa.out.out.rep.bytes.frozenAt i
  have dl : gb < w4.heap.size := (HPa.out.out.rep.bytes.lt gb rfl).2
  have HV8 := Lib.hid (HV.out.below HPa.out.below)
  go_cut [44] (fun _ wc => ∃ (AN : Option Addr) (cN : Nat), PA w wc B (w.heap.size + 4) w.heap.size (w.heap.size + 1 + 1) (w.heap.size + 1 + 1 + 1) g (.int .i64 0) (.int .i64 0) most (.slice CA ks.length cc) (.slice BA vs.length bc) (.slice UA us.length uc) (.slice FA fr.length fc) ks vs us fr (.slice C2 ks.length cc2) (.slice (some ⟨gb, 0, none⟩) vs'.length bc2) (.slice U2 us.length uc2) (.slice F2 fr.length fc2) ks (vs'.set i (bs, .slice AN bs.length cN)) us fr ∧ Blk wc (w.heap.size + 1) 38 #[.int .i64 K, .int .i64 N])
  case first =>
    go_region_law
      (first
        | (refine step_append_dstS 43 (by rfl) (by rfl) _ _ _ (by rfl) (w.heap.size + 4) 5 i4 _ 1 1 Try.underlying39 HJ4.out HY40.out HY41.out HY42.out rfl (by decide) _ 0 [] (by rfl) (World.ownsRow_nil _ _ _ _) _ bs.length _ (bcells bs) (by rfl) (Bts.src_at HV8.out.drew).2 (bcells_one bs) (by have := HL.out; unfold maxLen; omega) (by have := HL.out; omega) HPa.out.drew.size ?_
           intro vN wN hownN hgN hatN
           have hbl := below_grown hgN
           have HPa := Lib.hid (HPa.out.drew.adv hbl)
           have HXa : Hid (Blk wN _ _ _) := Lib.hid (HXa.out.drew.below hbl)
           have HoN : Hid (wN.ownsRow (w.heap.size + 4) 5 1 vN bs.length (bcells bs)) := Lib.hid (by simpa using hownN)
           have o2 : wN.cell? ⟨g, 2, none⟩ = some (.slice (some ⟨gb, 0, none⟩) vs'.length bc2) := HPa.out.out.out.cell 2 _ rfl
           have d2 := vcell HPa.out.out.rep.bytes HY.out
           have db := HPa.out.out.rep.bytes.frozenAt i
           have dl : gb < wN.heap.size := (HPa.out.out.rep.bytes.lt gb rfl).2
           obtain ⟨AN, cN, rfl, _, _⟩ := own_form HoN.out
           clear hbl hownN hgN hatN))
    all_goals
      go_wp2_with fail
      go_meet
      have hb8 := HPa.out.out.rep.bytes.lt gb rfl
      exact ⟨AN, cN, by
        have h := PA.setB HR.out HPa.out (i := i) (gb := gb) (cap := bc2) hiv rfl (x := (bs, .slice AN bs.length cN)) (Bts.of_own HoN.out 0) (fun k hk => by have := (row_blockS HoN.out hk).1; omega)
        exact h, HXa.out.far (p := ⟨gb, i, none⟩) (fun e => by
        have : w.heap.size + 1 = gb := e
        omega) _⟩
  case rest =>
    obtain ⟨AN, cN, hp, hxx⟩ := hcut
    have HP := Lib.hid hp
    have HX := Lib.hid hxx
    have L3 := Lib.hid hp.b2
    have L7 := Lib.hid hp.b3
    have HG : Hid (Blk wc g 55 #[.int .i64 most, .slice C2 ks.length cc2, .slice (some ⟨gb, 0, none⟩) vs'.length bc2, .slice U2 us.length uc2, .slice F2 fr.length fc2]) := Lib.hid hp.out.out
    have HRf := Lib.hid hp.out.rep
    have HBf := Lib.hid hp.below
    have HFf := Lib.hid hp.fresh
    have hgp := hp.gpos
    have HM5 : Hid ((vs'.set i (bs, .slice AN bs.length cN)).map Prod.fst = (vs.map Prod.fst).set i bs) := Lib.hid (by rw [List.map_set, HM3.out])
    clear hp hxx HPa HXa o2 d2 db dl HP
    go_wp2_with fail
    have hS7 : World.cell? wc ⟨g, 0, none⟩ = some (.int .i64 most) ∧ World.cell? wc ⟨g, 1, none⟩ = some (.slice C2 ks.length cc2) ∧ World.cell? wc ⟨g, 2, none⟩ = some (.slice (some ⟨gb, 0, none⟩) vs'.length bc2) ∧ World.cell? wc ⟨g, 3, none⟩ = some (.slice U2 us.length uc2) ∧ World.cell? wc ⟨g, 4, none⟩ = some (.slice F2 fr.length fc2) ∧ World.cell? wc ⟨w.heap.size + 1, 0, none⟩ = some (.int .i64 K) ∧ World.cell? wc ⟨w.heap.size + 1, 1, none⟩ = some (.int .i64 N) :=
      ⟨(HG).out.cell 0 _ rfl, (HG).out.cell 1 _ rfl, (HG).out.cell 2 _ rfl, (HG).out.cell 3 _ rfl, (HG).out.cell 4 _ rfl, (HX).out.cell 0 _ rfl, (HX).out.cell 1 _ rfl⟩
    have hd1 : ¬ g = w.heap.size + 1 + 1 := by omega
    have hd2 : ¬ g = w.heap.size + 1 + 1 + 1 := by omega
    have hd3 : ¬ w.heap.size + 1 = w.heap.size + 1 + 1 := by omega
    have hd4 : ¬ w.heap.size + 1 = w.heap.size + 1 + 1 + 1 := by omega
    have HS7 := Lib.hid hS7
    obtain ⟨s0, s1, s2, s3, s4, s5, s6⟩ := hS7
    have r0 := (L3.out).cell 0 _ rfl
    have r1 := (L3.out).cell 1 _ rfl
    have r2 := (L3.out).cell 2 _ rfl
    have r3 := (L3.out).cell 3 _ rfl
    have r4 := (L3.out).cell 4 _ rfl
    have rf := (L3.out).frozen
    have rl := (L3.out).lt
    have c0 := (L7.out).cell 0 _ rfl
    have c1 := (L7.out).cell 1 _ rfl
    have cf := (L7.out).frozen
    have cl := (L7.out).lt
    go_region_held_law (fun W => W.cell? ⟨g, 0, none⟩ = some (.int .i64 most) ∧ W.cell? ⟨g, 1, none⟩ = some (.slice C2 ks.length cc2) ∧ W.cell? ⟨g, 2, none⟩ = some (.slice (some ⟨gb, 0, none⟩) vs'.length bc2) ∧ W.cell? ⟨g, 3, none⟩ = some (.slice U2 us.length uc2) ∧ W.cell? ⟨g, 4, none⟩ = some (.slice F2 fr.length fc2) ∧ W.cell? ⟨w.heap.size + 1, 0, none⟩ = some (.int .i64 K) ∧ W.cell? ⟨w.heap.size + 1, 1, none⟩ = some (.int .i64 N))
      (repeat (first | with_reducible exact HS7.out | with_reducible refine drew7 ?_ | with_reducible refine far7 ?_ hd1 hd3 _ _ | with_reducible refine far7 ?_ hd2 hd4 _ _)) (fail)
    all_goals
      go_wp2_with fail
      obtain ⟨q0, q1, q2, q3, q4, q5, q6⟩ := boxes_ac L3.out L7.out (.int .i64 most) (.slice C2 ks.length cc2) (.slice (some ⟨gb, 0, none⟩) vs'.length bc2) (.slice U2 us.length uc2) (.slice F2 fr.length fc2) (.int .i64 K) (.int .i64 N)
      have hfin := RRep.fin2 (w := w) HRf.out L3.out L7.out (by omega) (by omega) HBf.out (by omega) (only_rc wc (w.heap.size + 1 + 1) (w.heap.size + 1 + 1 + 1) (.int .i64 most) (.slice C2 ks.length cc2) (.slice (some ⟨gb, 0, none⟩) vs'.length bc2) (.slice U2 us.length uc2) (.slice F2 fr.length fc2) (.int .i64 K) (.int .i64 N))
      clear s0 s1 s2 s3 s4 s5 s6
      generalize World.setCell _ _ _ = w14 at q0 q1 q2 q3 q4 q5 q6 hfin ⊢
      refine bodyPost_ret (v := .tuple #[.agg #[.int .i64 most, .slice C2 ks.length cc2, .slice (some ⟨gb, 0, none⟩) vs'.length bc2, .slice U2 us.length uc2, .slice F2 fr.length fc2], .agg #[.int .i64 K, .int .i64 N], .int .i64 0]) (by simp [results, Try.results38, go_sem, q0, q1, q2, q3, q4, q5, q6]) rfl ?_
      exact ⟨_, _, _, _, _, rfl, hfin.1.drew, HM5.out, HFf.out, hfin.2.drew⟩

end Go.Proofs.Ytookfhmghchkjaa
