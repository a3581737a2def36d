/- The reference's arena's Release (layer 13). -/
import Derived.Test.YtookfhmghchkjaaRsG
namespace Go.Proofs.Ytookfhmghchkjaa
open Go Go.RowKit
attribute [local go_sem ↓] Go.wp_at_zero Go.wp_at_succ

theorem relbox_new (w : World) (B : Nat) (most K N : Int) (cv bv uv fv : Value) (ks : List (Int × Int)) (vs : List (List UInt8 × Value)) (us : List Bool) (fr : List (Int × Int)) (h : RRep w B cv bv uv fv ks vs us fr) (W : World)
    (hW : ((w.alloc (.cells #[.int .i64 most, cv, bv, uv, fv] 55)).alloc (.cells #[.int .i64 K, .int .i64 N] 38)).alloc (.cells #[.int .i64 0, .slice none 0 0, .slice none 0 0, .slice none 0 0, .slice none 0 0] 55) = W) :
    Blk W w.heap.size 55 #[.int .i64 most, cv, bv, uv, fv] ∧ Blk W (w.heap.size + 1) 38 #[.int .i64 K, .int .i64 N] ∧ Blk W (w.heap.size + 1 + 1) 55 #[.int .i64 0, .slice none 0 0, .slice none 0 0, .slice none 0 0, .slice none 0 0] ∧
      Below w.heap.size w W ∧ RRep W B cv bv uv fv ks vs us fr ∧ W.heap.size = w.heap.size + 3 := by
  subst hW
  exact ⟨((Blk.new _ _ _).alloc _).alloc _, (Blk.new2 _ _ _ _).alloc _, Blk.new3 _ _ _ _ _, (((Below.refl _ _).alloc (Nat.le_refl _) _).alloc (by simp) _).alloc (by simp; omega) _, ((h.alloc _).alloc _).alloc _, by simp⟩

theorem box5 {w : World} {g : Nat} {z0 z1 z2 z3 z4 : Value} (h2 : Blk w g 55 #[z0, z1, z2, z3, z4]) (a b d e f : Value) :
    let W := ((((w.setCell ⟨g, 0, none⟩ a).setCell ⟨g, 1, none⟩ b).setCell ⟨g, 2, none⟩ d).setCell ⟨g, 3, none⟩ e).setCell ⟨g, 4, none⟩ f
    W.cell? ⟨g, 0, none⟩ = some a ∧ W.cell? ⟨g, 1, none⟩ = some b ∧ W.cell? ⟨g, 2, none⟩ = some d ∧ W.cell? ⟨g, 3, none⟩ = some e ∧ W.cell? ⟨g, 4, none⟩ = some f := by
  have g5 := ((((h2.set_ 0 a).set_ 1 b).set_ 2 d).set_ 3 e).set_ 4 f
  exact ⟨g5.cell 0 _ rfl, g5.cell 1 _ rfl, g5.cell 2 _ rfl, g5.cell 3 _ rfl, g5.cell 4 _ rfl⟩



set_option maxRecDepth 100000 in
set_option maxHeartbeats 1000000 in
theorem refRel_none (B : Nat) (most K N : Int) (cv bv uv fv : Value) (ks : List (Int × Int)) (vs : List (List UInt8 × Value)) (us : List Bool) (fr : List (Int × Int)) (w : World) (h : RRep w B cv bv uv fv ks vs us fr) (hn : ks.length ≤ 1000 ∧ us.length = ks.length) (hat : rAt ks us (K, N) = none) :
    Calls Try.prog 37 #[.agg #[.int .i64 most, cv, bv, uv, fv], .agg #[.int .i64 K, .int .i64 N]] w fun e w' => e = .returned (.tuple #[.agg #[.int .i64 most, cv, bv, uv, fv], .int .i64 9]) ∧ Below w.heap.size w w' := by
  have HN := Lib.hid hn
  have e : rAtI ks us (K, N) = -1 := by rw [rAtI, hat]
  have HE := Lib.hid e
  clear hn hat e
  obtain ⟨CA, cc, rfl, hc1, _⟩ := own_form h.cells
  obtain ⟨BA, bc, rfl, hb1, _⟩ := own_form h.bytes
  obtain ⟨UA, uc, rfl, hu1, _⟩ := own_form h.used
  obtain ⟨FA, fc, rfl, hf1, _⟩ := own_form h.free
  obtain ⟨w1, hw1⟩ : ∃ w1, ((w.alloc (.cells #[.int .i64 most, .slice CA ks.length cc, .slice BA vs.length bc, .slice UA us.length uc, .slice FA fr.length fc] 55)).alloc (.cells #[.int .i64 K, .int .i64 N] 38)).alloc (.cells #[.int .i64 0, .slice none 0 0, .slice none 0 0, .slice none 0 0, .slice none 0 0] 55) = w1 := ⟨_, rfl⟩
  obtain ⟨k1, k2, k3, k4, k5, k6⟩ := relbox_new w B most K N _ _ _ _ ks vs us fr h w1 hw1
  have K1 := Lib.hid k1
  have K2 := Lib.hid k2
  have K3 := Lib.hid k3
  have K4 := Lib.hid k4
  have K5 := Lib.hid k5
  have K6 := Lib.hid k6
  have HR := Lib.hid h
  have HW := Lib.hid hw1
  clear h hw1 k1 k2 k3 k4 k5 k6
  have x0 : World.cell? w1 ⟨w.heap.size, 0, none⟩ = some (.int .i64 most) := (K1.out).cell 0 _ rfl
  have x1 : World.cell? w1 ⟨w.heap.size, 1, none⟩ = some (.slice CA ks.length cc) := (K1.out).cell 1 _ rfl
  have x2 : World.cell? w1 ⟨w.heap.size, 2, none⟩ = some (.slice BA vs.length bc) := (K1.out).cell 2 _ rfl
  have x3 : World.cell? w1 ⟨w.heap.size, 3, none⟩ = some (.slice UA us.length uc) := (K1.out).cell 3 _ rfl
  have x4 : World.cell? w1 ⟨w.heap.size, 4, none⟩ = some (.slice FA fr.length fc) := (K1.out).cell 4 _ rfl
  have y0 : w1.cell? ⟨w.heap.size + 1, 0, none⟩ = some (.int .i64 K) := K2.out.cell 0 _ rfl
  have y1 : w1.cell? ⟨w.heap.size + 1, 1, none⟩ = some (.int .i64 N) := K2.out.cell 1 _ rfl
  go_enter Try.func37, Try.ntmps37
  go_upto_region 1 with fail
  rw [HW.out]
  clear HW
  go_wp2_with fail
  refine (refAt_any B most K N _ _ _ _ ks vs us fr w1 K5.out HN.out.2 HN.out.1).mono ?_
  rw [HE.out]
  rintro e w2 ⟨rfl, hb2⟩
  have HB2 := Lib.hid (K4.out.trans (hb2.mono K4.out.size))
  have L1 := Lib.hid (K1.out.below hb2)
  have L3 := Lib.hid (K3.out.below hb2)
  clear hb2 x0 x1 x2 x3 x4 y0 y1
  have x0 : World.cell? w2 ⟨w.heap.size, 0, none⟩ = some (.int .i64 most) := (L1.out).cell 0 _ rfl
  have x1 : World.cell? w2 ⟨w.heap.size, 1, none⟩ = some (.slice CA ks.length cc) := (L1.out).cell 1 _ rfl
  have x2 : World.cell? w2 ⟨w.heap.size, 2, none⟩ = some (.slice BA vs.length bc) := (L1.out).cell 2 _ rfl
  have x3 : World.cell? w2 ⟨w.heap.size, 3, none⟩ = some (.slice UA us.length uc) := (L1.out).cell 3 _ rfl
  have x4 : World.cell? w2 ⟨w.heap.size, 4, none⟩ = some (.slice FA fr.length fc) := (L1.out).cell 4 _ rfl
  have r0 := L3.out.cell 0 _ rfl
  have r1 := L3.out.cell 1 _ rfl
  have r2 := L3.out.cell 2 _ rfl
  have r3 := L3.out.cell 3 _ rfl
  have r4 := L3.out.cell 4 _ rfl
  have rf := L3.out.frozen
  have rl := L3.out.lt
  go_wp2_with fail
  obtain ⟨q0, q1, q2, q3, q4⟩ := box5 L3.out (.int .i64 most) (.slice CA ks.length cc) (.slice BA vs.length bc) (.slice UA us.length uc) (.slice FA fr.length fc)
  refine bodyPost_ret (v := .tuple #[.agg #[.int .i64 most, .slice CA ks.length cc, .slice BA vs.length bc, .slice UA us.length uc, .slice FA fr.length fc], .int .i64 9]) (by simp [results, Try.results37, go_sem, q0, q1, q2, q3, q4]) rfl ⟨rfl, ?_⟩
  exact HB2.out.trans (below5 (by omega))

set_option maxRecDepth 100000 in
set_option maxHeartbeats 2000000 in
theorem refRel_some (B : Nat) (most K N : Int) (cv bv uv fv : Value) (ks : List (Int × Int)) (vs : List (List UInt8 × Value)) (us : List Bool) (fr : List (Int × Int)) (w : World) (h : RRep w B cv bv uv fv ks vs us fr) (hn : ks.length ≤ 1000 ∧ us.length = ks.length ∧ vs.length = ks.length ∧ fr.length ≤ 1000) (hB : ∀ x ∈ vs, x.1.length ≤ 65536) (i : Nat) (hat : rAt ks us (K, N) = some i) :
    Calls Try.prog 37 #[.agg #[.int .i64 most, cv, bv, uv, fv], .agg #[.int .i64 K, .int .i64 N]] w (RRes w most ks ((vs.map Prod.fst).set i []) (us.set i false) (fr ++ [(K, N)]) (fun a => .tuple #[a, .int .i64 0])) := by
  have HN := Lib.hid hn
  have HB := Lib.hid hB
  have e : rAtI ks us (K, N) = i := by rw [rAtI, hat]
  have HE := Lib.hid e
  have hik : i < ks.length := (List.getElem?_eq_some_iff.1 (rAt_is hat).1).1
  have hiI : (i : Int) ≤ 1000 := by have := hn.1; omega
  have hi0 : ¬ (i : Int) < 0 := by omega
  obtain ⟨i1, hi, hy0, hy1, hy2⟩ := info_parts cellR_info
  have HJ1 := Lib.hid hi
  have HY10 := Lib.hid hy0
  have HY11 := Lib.hid hy1
  have HY12 := Lib.hid hy2
  clear hi hy0 hy1 hy2
  clear hn hat e hB
  obtain ⟨CA, cc, rfl, hc1, _⟩ := own_form h.cells
  obtain ⟨BA, bc, rfl, hb1, _⟩ := own_form h.bytes
  obtain ⟨UA, uc, rfl, hu1, _⟩ := own_form h.used
  obtain ⟨FA, fc, rfl, hf1, _⟩ := own_form h.free
  obtain ⟨w1, hw1⟩ : ∃ w1, ((w.alloc (.cells #[.int .i64 most, .slice CA ks.length cc, .slice BA vs.length bc, .slice UA us.length uc, .slice FA fr.length fc] 55)).alloc (.cells #[.int .i64 K, .int .i64 N] 38)).alloc (.cells #[.int .i64 0, .slice none 0 0, .slice none 0 0, .slice none 0 0, .slice none 0 0] 55) = w1 := ⟨_, rfl⟩
  obtain ⟨k1, k2, k3, k4, k5, k6⟩ := relbox_new w B most K N _ _ _ _ ks vs us fr h w1 hw1
  have K1 := Lib.hid k1
  have K2 := Lib.hid k2
  have K3 := Lib.hid k3
  have K4 := Lib.hid k4
  have K5 := Lib.hid k5
  have K6 := Lib.hid k6
  have HR := Lib.hid h
  have HW := Lib.hid hw1
  clear h hw1 k1 k2 k3 k4 k5 k6
  have x0 : World.cell? w1 ⟨w.heap.size, 0, none⟩ = some (.int .i64 most) := (K1.out).cell 0 _ rfl
  have x1 : World.cell? w1 ⟨w.heap.size, 1, none⟩ = some (.slice CA ks.length cc) := (K1.out).cell 1 _ rfl
  have x2 : World.cell? w1 ⟨w.heap.size, 2, none⟩ = some (.slice BA vs.length bc) := (K1.out).cell 2 _ rfl
  have x3 : World.cell? w1 ⟨w.heap.size, 3, none⟩ = some (.slice UA us.length uc) := (K1.out).cell 3 _ rfl
  have x4 : World.cell? w1 ⟨w.heap.size, 4, none⟩ = some (.slice FA fr.length fc) := (K1.out).cell 4 _ rfl
  have y0 : w1.cell? ⟨w.heap.size + 1, 0, none⟩ = some (.int .i64 K) := K2.out.cell 0 _ rfl
  have y1 : w1.cell? ⟨w.heap.size + 1, 1, none⟩ = some (.int .i64 N) := K2.out.cell 1 _ rfl
  go_enter Try.func37, Try.ntmps37
  go_upto_region 1 with fail
  rw [HW.out]
  clear HW
  go_wp2_with fail
  refine (refAt_any B most K N _ _ _ _ ks vs us fr w1 K5.out HN.out.2.1 HN.out.1).mono ?_
  rw [HE.out]
  rintro e w2 ⟨rfl, hb2⟩
  have HB2 := Lib.hid (K4.out.trans (hb2.mono K4.out.size))
  have L1 := Lib.hid (K1.out.below hb2)
  have L2 := Lib.hid (K2.out.below hb2)
  have L3 := Lib.hid (K3.out.below hb2)
  have L5 := Lib.hid (K5.out.below hb2)
  have L6 : Hid (w.heap.size + 3 ≤ w2.heap.size) := Lib.hid (by have := hb2.size; rw [K6.out] at this; exact this)
  clear hb2 x0 x1 x2 x3 x4 y0 y1
  have x0 : World.cell? w2 ⟨w.heap.size, 0, none⟩ = some (.int .i64 most) := (L1.out).cell 0 _ rfl
  have x1 : World.cell? w2 ⟨w.heap.size, 1, none⟩ = some (.slice CA ks.length cc) := (L1.out).cell 1 _ rfl
  have x2 : World.cell? w2 ⟨w.heap.size, 2, none⟩ = some (.slice BA vs.length bc) := (L1.out).cell 2 _ rfl
  have x3 : World.cell? w2 ⟨w.heap.size, 3, none⟩ = some (.slice UA us.length uc) := (L1.out).cell 3 _ rfl
  have x4 : World.cell? w2 ⟨w.heap.size, 4, none⟩ = some (.slice FA fr.length fc) := (L1.out).cell 4 _ rfl
  go_wp2_with fail
  refine (refACopy_any B most _ _ _ _ ks vs us fr _ L5.out ⟨HN.out.1, by have := HN.out; omega, HN.out.2.2.2, by have := HN.out; omega⟩ HB.out).mono ?_
  rintro e w3 ⟨cv', bv', uv', fv', vs', rfl, hr3, hm3, hf3, hb3⟩
  obtain ⟨C2, cc2, rfl, _, _⟩ := own_form hr3.cells
  obtain ⟨B2, bc2, rfl, _, _⟩ := own_form hr3.bytes
  obtain ⟨U2, uc2, rfl, _, _⟩ := own_form hr3.used
  obtain ⟨F2, fc2, rfl, _, _⟩ := own_form hr3.free
  have HM3 := Lib.hid hm3
  have hba : Below w2.heap.size w2 (w3.alloc (.cells #[.int .i64 most, .slice C2 ks.length cc2, .slice B2 vs'.length bc2, .slice U2 us.length uc2, .slice F2 fr.length fc2] 55)) := hb3.trans ((Below.refl _ _).alloc hb3.size _)
  have hpa : PA w (w3.alloc (.cells #[.int .i64 most, .slice C2 ks.length cc2, .slice B2 vs'.length bc2, .slice U2 us.length uc2, .slice F2 fr.length fc2] 55)) B (w.heap.size + 3) w.heap.size (w.heap.size + 1 + 1) (w.heap.size + 1) w3.heap.size (.int .i64 K) (.int .i64 N) most (.slice CA ks.length cc) (.slice BA vs.length bc) (.slice UA us.length uc) (.slice FA fr.length fc) ks vs us fr (.slice C2 ks.length cc2) (.slice B2 vs'.length bc2) (.slice U2 us.length uc2) (.slice F2 fr.length fc2) ks vs' us fr :=
    ⟨L5.out.below hba, L1.out.below hba, L3.out.below hba, L2.out.below hba, OInv.of_rep (hr3.base L6.out) most, by have := hb3.size; have := L6.out; omega, HB2.out.trans (hba.mono HB2.out.size), by have := hba.size; have := L6.out; omega, by omega, by omega, by omega, fun x hx k hk => by have := hf3 x hx k hk; have := L6.out; omega⟩
  have HPa := Lib.hid hpa
  have hvl : vs'.length = ks.length := by
    have h1 := congrArg List.length hm3
    have h2 := HN.out.2.2.1
    simp at h1
    omega
  have HVl := Lib.hid hvl
  clear x0 x1 x2 x3 x4 hpa hba hm3 hr3 hf3 hb3 hvl
  go_upto_region 5 with fail
  obtain ⟨w4, hw4⟩ : ∃ w4, w3.alloc (.cells #[.int .i64 most, .slice C2 ks.length cc2, .slice B2 vs'.length bc2, .slice U2 us.length uc2, .slice F2 fr.length fc2] 55) = w4 := ⟨_, rfl⟩
  rw [hw4] at HPa ⊢
  clear hw4
  obtain ⟨g, hg⟩ : ∃ g, w3.heap.size = g := ⟨_, rfl⟩
  rw [hg] at HPa ⊢
  clear hg
  have hiu : i < us.length := by have := HN.out.2.1; omega
  have hiuI : (i : Int) < (us.length : Int) := by omega
  obtain ⟨u, hu⟩ : ∃ u, us[i]? = some u := ⟨_, List.getElem?_eq_getElem hiu⟩
  obtain ⟨gu, capu, eu, _, hcu, _, d3⟩ := uread HPa.out.out.rep.used hu
  injection eu with eu el eu4
  clear el hu
  subst eu eu4
  have hcuI : (us.length : Int) ≤ (uc2 : Int) := by omega
  have o3 : w4.cell? ⟨g, 3, none⟩ = some (.slice (some ⟨gu, 0, none⟩) us.length uc2) := HPa.out.out.out.cell 3 _ rfl
  have ub := HPa.out.out.rep.used.frozenAt i
  have ul : gu < w4.heap.size := (HPa.out.out.rep.used.lt gu rfl).2
  go_upto_region 6 with fail
  have HPb := Lib.hid (PA.setU HR.out HPa.out (i := i) (gu := gu) (cap := uc2) hiu rfl false)
  generalize World.setCell _ _ _ = w5 at HPb ⊢
  clear HPa o3 ub ul d3 hcuI hcu
  have hiv : i < vs'.length := by have := HVl.out; omega
  have hivI : (i : Int) < (vs'.length : Int) := by omega
  obtain ⟨y, hy⟩ : ∃ y, vs'[i]? = some y := ⟨_, List.getElem?_eq_getElem hiv⟩
  obtain ⟨gb, capb, eb, _, hcb, _, d2⟩ := vread HPb.out.out.rep.bytes hy
  injection eb with eb el eb4
  clear el hy
  subst eb eb4
  have hcbI : (vs'.length : Int) ≤ (bc2 : Int) := by omega
  have o2 : w5.cell? ⟨g, 2, none⟩ = some (.slice (some ⟨gb, 0, none⟩) vs'.length bc2) := HPb.out.out.out.cell 2 _ rfl
  have ub := HPb.out.out.rep.bytes.frozenAt i
  have ul : gb < w5.heap.size := (HPb.out.out.rep.bytes.lt gb rfl).2
  go_upto_region 7 with fail
  have HPc := Lib.hid (PA.setB HR.out HPb.out (i := i) (gb := gb) (cap := bc2) hiv rfl (x := ([], .slice none 0 0)) (Bts.nil _ _ _) (fun k hk => by cases hk))
  dsimp only at HPc
  generalize World.setCell _ _ _ = w6 at HPc ⊢
  clear HPb o2 ub ul d2 hcbI hcb
  have o4 : w6.cell? ⟨g, 4, none⟩ = some (.slice F2 fr.length fc2) := HPc.out.out.out.cell 4 _ rfl
  have y0 : w6.cell? ⟨w.heap.size + 1, 0, none⟩ = some (.int .i64 K) := HPc.out.b3.cell 0 _ rfl
  have y1 : w6.cell? ⟨w.heap.size + 1, 1, none⟩ = some (.int .i64 N) := HPc.out.b3.cell 1 _ rfl
  have HFl : Hid (fr.length ≤ 1000) := Lib.hid HN.out.2.2.2
  go_upto_region 8 with (at_builtin; refine wpList_append_src _ rfl _ _ _ rfl (w.heap.size + 3) 38 i1 _ 2 16 Try.underlying51 HJ1.out HY10.out HY11.out HY12.out rfl (by decide) _ _ _ rfl (HPc.out.alloc _).out.rep.free (some ⟨w6.heap.size, 0, none⟩) 1 1 [.int .i64 K, .int .i64 N] rfl (src_twoS (Blk.new _ _ _)) (by simp [Value.oneCell']) (by have := HFl.out; unfold maxLen; omega) (by have := HFl.out; omega) (by have := HPc.out.size; simp; omega) ?_; intro v4 w7 hown4 hg4 hat4; have HO4 := Lib.hid hown4; have HG4 := Lib.hid hg4; have HA4 := Lib.hid hat4; have bo := ((HPc.out.alloc _).out.out).grown hg4 (fun e => HPc.out.out.off HPc.out.out.rep.free (by decide) e.symm); have hf4 := bo.frozen; have ho4 : w7.cell? ⟨g, 4, none⟩ = some (.slice F2 fr.length fc2) := bo.cell 4 _ rfl; have hz4 := bo.lt; obtain ⟨A4, c4, rfl, hy1, hy2⟩ := own_form hown4; clear hy1 hy2 hown4 hg4 hat4 bo)
  have HPd := Lib.hid (PA.pushF HR.out (HPc.out.alloc _) HG4.out HO4.out HA4.out)
  generalize World.setCell _ _ _ = w8 at HPd ⊢
  clear HPc ho4 hf4 hz4 o4 y0 y1 HG4 HO4
  obtain ⟨B3n, hB3n⟩ : ∃ n, (vs'.set i ([], .slice none 0 0)).length = n := ⟨_, rfl⟩
  have HM5 : Hid ((vs'.set i ([], .slice none 0 0)).map Prod.fst = (vs.map Prod.fst).set i []) := Lib.hid (by rw [List.map_set, HM3.out])
  have s0 : w8.cell? ⟨g, 0, none⟩ = some (.int .i64 most) := HPd.out.out.out.cell 0 _ rfl
  have s1 : w8.cell? ⟨g, 1, none⟩ = some (.slice C2 ks.length cc2) := HPd.out.out.out.cell 1 _ rfl
  have s2 : w8.cell? ⟨g, 2, none⟩ = some (.slice (some ⟨gb, 0, none⟩) vs'.length bc2) := HPd.out.out.out.cell 2 _ rfl
  have s3 : w8.cell? ⟨g, 3, none⟩ = some (.slice (some ⟨gu, 0, none⟩) us.length uc2) := HPd.out.out.out.cell 3 _ rfl
  have s4 : w8.cell? ⟨g, 4, none⟩ = some (.slice A4 (fr.length + 1) c4) := HPd.out.out.out.cell 4 _ rfl
  have L3 := Lib.hid HPd.out.b2
  have r0 := L3.out.cell 0 _ rfl
  have r1 := L3.out.cell 1 _ rfl
  have r2 := L3.out.cell 2 _ rfl
  have r3 := L3.out.cell 3 _ rfl
  have r4 := L3.out.cell 4 _ rfl
  have rf := L3.out.frozen
  have rl := L3.out.lt
  go_wp2_with fail
  obtain ⟨q0, q1, q2, q3, q4⟩ := box5 L3.out (.int .i64 most) (.slice C2 ks.length cc2) (.slice (some ⟨gb, 0, none⟩) vs'.length bc2) (.slice (some ⟨gu, 0, none⟩) us.length uc2) (.slice A4 (fr.length + 1) c4)
  have hfin := HPd.out.fin ((only5 w8 (w.heap.size + 1 + 1) (.int .i64 most) (.slice C2 ks.length cc2) (.slice (some ⟨gb, 0, none⟩) vs'.length bc2) (.slice (some ⟨gu, 0, none⟩) us.length uc2) (.slice A4 (fr.length + 1) c4)).mono (fun _ _ h => .inl h))
  clear s0 s1 s2 s3 s4
  generalize World.setCell _ _ _ = w14 at q0 q1 q2 q3 q4 hfin ⊢
  refine bodyPost_ret (v := .tuple #[.agg #[.int .i64 most, .slice C2 ks.length cc2, .slice (some ⟨gb, 0, none⟩) vs'.length bc2, .slice (some ⟨gu, 0, none⟩) us.length uc2, .slice A4 (fr.length + 1) c4], .int .i64 0]) (by simp [results, Try.results37, go_sem, q0, q1, q2, q3, q4]) rfl ?_
  exact ⟨_, _, _, _, _, rfl, hfin.1, HM5.out, HPd.out.fresh, hfin.2⟩

end Go.Proofs.Ytookfhmghchkjaa
