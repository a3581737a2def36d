/- The walk of do (layer 13): Get. -/
import Derived.Test.YtookfhmghchkjaaSDoA
namespace Go.Proofs.Ytookfhmghchkjaa
open Go Go.RowKit
attribute [local go_sem ↓] Go.wp_at_zero Go.wp_at_succ

set_option maxRecDepth 100000 in
set_option maxHeartbeats 4000000 in
theorem do_get_some (B b m : Nat) (most K N : Int) (st : PSt) (sh : Nat → ShV) (cv bv uv fv v : Value) (bs rb : List UInt8) (ks : List (Int × Int)) (vs : List (List UInt8 × Value)) (us : List Bool) (fr : List (Int × Int)) (w : World) (h : DoH w B b m most st sh cv bv uv fv ks vs us fr v bs) (hp : phas st K N = some rb) :
    Calls Try.prog 20 #[.pointer (some ⟨b, 0, none⟩), .agg #[.int .i64 most, cv, bv, uv, fv], .agg #[.int .i64 1, .int .i64 K, .int .i64 N, v]] w (DoPost w B m most) := by
  have HPh := Lib.hid hp
  clear hp
  obtain ⟨CA, cc, rfl, hc1, _⟩ := own_form h.ref.cells
  obtain ⟨BA, bc, rfl, hb1, _⟩ := own_form h.ref.bytes
  obtain ⟨UA, uc, rfl, hu1, _⟩ := own_form h.ref.used
  obtain ⟨FA, fc, rfl, hf1, _⟩ := own_form h.ref.free
  obtain ⟨VA, vc, hve⟩ := h.arg.form
  subst hve
  have HH := Lib.hid h
  have hlI : (bs.length : Int) ≤ 65540 := by have := h.len; omega
  have HL : Hid (bs.length ≤ 65540) := Lib.hid h.len
  obtain ⟨i4, hi, hy0, hy1, hy2⟩ := info_parts u8_info
  have HJ4 := Lib.hid hi
  have HY40 := Lib.hid hy0
  have HY41 := Lib.hid hy1
  have HY42 := Lib.hid hy2
  clear hi hy0 hy1 hy2
  clear h
  go_enter Try.func20, Try.ntmps20
  go_upto_region 1 with fail
  have HD1 := Lib.hid (DoB.new w B HH.out.base #[.int .i64 most, .slice CA ks.length cc, .slice BA vs.length bc, .slice UA us.length uc, .slice FA fr.length fc] 1 K N (.slice VA bs.length vc))
  have HB1 : Hid (Below w.heap.size w (((w.alloc (.cells #[.int .i64 most, .slice CA ks.length cc, .slice BA vs.length bc, .slice UA us.length uc, .slice FA fr.length fc] 55)).alloc (.cells #[.int .i64 1, .int .i64 K, .int .i64 N, .slice VA bs.length vc] 41)).alloc (.cells #[.int .i64 0, .slice none 0 0, .slice none 0 0, .slice none 0 0, .slice none 0 0] 55))) := Lib.hid ((((Below.refl _ _).alloc (Nat.le_refl _) _).alloc (by simp) _).alloc (by simp; omega) _)
  generalize World.alloc (World.alloc (World.alloc w _) _) _ = w1 at HD1 HB1 ⊢
  have c3 : w1.cell? ⟨w.heap.size + 1, 3, none⟩ = some (.slice VA bs.length vc) := HD1.out.s2.cell 3 _ rfl
  go_upto_region 2 with (at_builtin; refine wpList_append_src _ rfl _ _ _ rfl (w.heap.size + 3) 5 i4 _ 1 1 Try.underlying39 HJ4.out HY40.out HY41.out HY42.out rfl (by decide) _ 0 [] rfl (World.ownsRow_nil _ _ _ _) VA bs.length vc (bcells bs) rfl (Bts.src_at (HH.out.arg.below HB1.out)).2 (bcells_one bs) (by have := HL.out; unfold maxLen; omega) (by have := HL.out; omega) HD1.out.size ?_; intro vO wO hown hg hat; have HO : Hid (wO.ownsRow (w.heap.size + 3) 5 1 vO bs.length (bcells bs)) := Lib.hid (by simpa using hown); have HBO := Lib.hid (below_grown hg); obtain ⟨OA, oc, rfl, hy1, hy2⟩ := own_form HO.out; clear hown hg hat hy1 hy2)
  have HD := Lib.hid (HD1.out.below HBO.out)
  have HBw : Hid (Below w.heap.size w wO) := Lib.hid (HB1.out.trans (HBO.out.mono HB1.out.size))
  have HRS := Lib.hid (HH.out.rep.below HBw.out)
  have HRR := Lib.hid (HH.out.ref.below HBw.out)
  have HV := Lib.hid (HH.out.arg.below HBw.out)
  have HNS : Hid (NotS (.slice OA bs.length oc) sh) := Lib.hid (NotS.new HH.out.rep (fun g hg => by have := (row_blockS HO.out hg).1; omega))
  have HNR : Hid (NotR (.slice OA bs.length oc) vs) := Lib.hid (NotR.new HH.out.ref (fun g hg => by have := (row_blockS HO.out hg).1; omega))
  have HBs : Hid (B ≤ wO.heap.size) := Lib.hid (Nat.le_trans HH.out.base HBw.out.size)
  clear c3 HD1 HB1 HBO HBw
  have c0 : wO.cell? ⟨w.heap.size + 1, 0, none⟩ = some (.int .i64 1) := HD.out.s2.cell 0 _ rfl
  have c1 : wO.cell? ⟨w.heap.size + 1, 1, none⟩ = some (.int .i64 K) := HD.out.s2.cell 1 _ rfl
  have c2 : wO.cell? ⟨w.heap.size + 1, 2, none⟩ = some (.int .i64 N) := HD.out.s2.cell 2 _ rfl
  have c3 : wO.cell? ⟨w.heap.size + 1, 3, none⟩ = some (.slice VA bs.length vc) := HD.out.s2.cell 3 _ rfl
  have x0 : wO.cell? ⟨w.heap.size, 0, none⟩ = some (.int .i64 most) := HD.out.s1.cell 0 _ rfl
  have x1 : wO.cell? ⟨w.heap.size, 1, none⟩ = some (.slice CA ks.length cc) := HD.out.s1.cell 1 _ rfl
  have x2 : wO.cell? ⟨w.heap.size, 2, none⟩ = some (.slice BA vs.length bc) := HD.out.s1.cell 2 _ rfl
  have x3 : wO.cell? ⟨w.heap.size, 3, none⟩ = some (.slice UA us.length uc) := HD.out.s1.cell 3 _ rfl
  have x4 : wO.cell? ⟨w.heap.size, 4, none⟩ = some (.slice FA fr.length fc) := HD.out.s1.cell 4 _ rfl
  go_wp2_with fail
  refine (aGet_some m B b most st K N rb wO ⟨sh, HRS.out, HH.out.is⟩ HH.out.wf HPh.out).mono ?_
  rintro e w2 ⟨v2, rfl, hown2, hb2⟩
  obtain ⟨OA, oc, rfl, _, _⟩ := own_form hown2
  have HD2 := Lib.hid (HD.out.below hb2)
  have HO2 := Lib.hid hown2
  have HRS2 := Lib.hid (HRS.out.below hb2)
  have HRR2 := Lib.hid (HRR.out.below hb2)
  have HNS2 : Hid (NotS (.slice OA rb.length oc) sh) := Lib.hid (NotS.new HRS.out (fun g hg => (row_blockS hown2 hg).1))
  have HNR2 : Hid (NotR (.slice OA rb.length oc) vs) := Lib.hid (NotR.new HRR.out (fun g hg => (row_blockS hown2 hg).1))
  have HOB : Hid (w.heap.size ≤ wO.heap.size) := Lib.hid (by have := HD.out.size; omega)
  clear x0 x1 x2 x3 x4 c0 c1 c2 c3 hown2 hb2 HD HO HRS HRR HNR HNS HV
  have c1 : w2.cell? ⟨w.heap.size + 1, 1, none⟩ = some (.int .i64 K) := HD2.out.s2.cell 1 _ rfl
  have c2 : w2.cell? ⟨w.heap.size + 1, 2, none⟩ = some (.int .i64 N) := HD2.out.s2.cell 2 _ rfl
  have x0 := HD2.out.s1.cell 0 _ rfl
  have x1 := HD2.out.s1.cell 1 _ rfl
  have x2 := HD2.out.s1.cell 2 _ rfl
  have x3 := HD2.out.s1.cell 3 _ rfl
  have x4 := HD2.out.s1.cell 4 _ rfl
  go_wp2_with fail
  refine (rget_some HRR2.out HH.out.sync (by have := HH.out.small; omega) HPh.out).mono ?_
  rintro e w5 ⟨v3, rfl, hv3, hb3⟩
  obtain ⟨RA3, rc3, rfl⟩ := hv3.form
  have hO3 := row_below HO2.out hb3
  have HO3 := Lib.hid hO3
  have HD5 := Lib.hid (HD2.out.below hb3)
  have HRS5 := Lib.hid (HRS2.out.below hb3)
  have HRR5 := Lib.hid (HRR2.out.below hb3)
  have cvt := hv3.string (P := Try.prog) 39 9 Try.underlying39 Try.underlying5 Try.underlying9
  have cvt2 := (Bts.of_own hO3 0).string (P := Try.prog) 39 9 Try.underlying39 Try.underlying5 Try.underlying9
  clear hv3 hb3 hO3 x0 x1 x2 x3 x4 c1 c2 HD2 HO2 HRS2 HRR2
  go_upto_region 28 with fail
  clear cvt cvt2
  have HIS5 := Lib.hid HH.out.is
  have HSY5 : Hid (RSync (m + 4) st ks (vs.map Prod.fst) us fr) := Lib.hid (HH.out.sync.mono (by omega))
  have HWF5 : Hid (PWf (m + 4) st) := Lib.hid (HH.out.wf.mono (by omega))
  have HNS5 := HNS2
  have HNR5 := HNR2
  have HZ5 := Lib.hid (bcells_u8 rb)
  have HO5 := HO3
  have HL : Hid (rb.length ≤ 65540) := Lib.hid (by
    obtain ⟨k, n, _, _, hk, hc⟩ := phas_some HPh.out
    have h1 := HH.out.wf.bs k hk _ (List.mem_of_getElem? hc)
    have h2 := (csize_le hk).2
    dsimp only at h1
    omega)
  clear HNS2 HNR2 HO3
  obtain ⟨on, hon⟩ : ∃ n, rb.length = n := ⟨_, rfl⟩
  obtain ⟨ob, hob⟩ : ∃ n, wO.heap.size = n := ⟨_, rfl⟩
  obtain ⟨xs5, hxs5⟩ : ∃ l, bcells rb = l := ⟨_, rfl⟩
  have HOL5 : Hid (rb.length ≤ 65540) := HL
  rw [hon] at HO5 HNS5 HNR5 HZ5 HOL5 ⊢
  rw [hob] at HO5 HOB
  rw [hxs5] at HO5 HZ5
  have hon6 := HOL5.out
  clear hon hob hxs5
  have x0 := HD5.out.s1.cell 0 _ rfl
  go_wp2_with fail
  go_loopw [131] (fun i wr => ∃ (j : Nat) (xs : List Value), j ≤ on ∧ i = .int .i64 j ∧ wr.ownsRow ob 5 1 (.slice OA on oc) on xs ∧ (∀ j, j < on → ∃ z, xs[j]? = some (.int .u8 z)) ∧ Only (fun j => (Value.slice OA on oc).ownBlock = some j) w5 wr) (fun i _ => on - (intOf i).toNat)
  case atStart => exact ⟨0, xs5, by omega, rfl, HO5.out, HZ5.out, Only.refl _ _⟩
  case round =>
    obtain ⟨j, xs, hj, rfl, hown, hxs, hon⟩ := hrel
    have HW := Lib.hid hown
    have HXs := Lib.hid hxs
    have HOn := Lib.hid hon
    clear hxs hon
    by_cases hjl : j < on
    · have hcc2 : on ≤ oc := by
        obtain ⟨_, _, e2, h, _⟩ := own_form hown
        injection e2 with _ _ e2
        rw [e2]
        exact h
      obtain ⟨gg, cap, e, _, hgg⟩ := hown.form (by omega)
      injection e with e el e3
      clear el
      subst e e3
      obtain ⟨z, hz⟩ := HXs.out j hjl
      have hgc : wr.cell? ⟨gg, j, none⟩ = some (.int .u8 z) := by rw [hown.cellAt _ (by omega)]; exact hz
      have hfz := hown.frozenAt j
      have hjI : (j : Int) < (on : Int) := by omega
      have hcI : (on : Int) ≤ (oc : Int) := by omega
      have hj1 : (j : Int) ≤ 65540 := by omega
      clear hown hz
      go_wp2_with fail
      go_roundw
      case rel => exact ⟨j + 1, _, by omega, by go_num, (HW.out.stored j _).1, fun i hi => by
          by_cases e : j = i
          · subst e
            have : j < xs.length := by
              obtain ⟨z', hz'⟩ := HXs.out j hi
              exact (List.getElem?_eq_some_iff.1 hz').1
            exact ⟨_, List.getElem?_set_self this⟩
          · rw [List.getElem?_set_ne e]; exact HXs.out i hi, Only.setCell (S := fun j => (Value.slice (some ⟨gg, 0, none⟩) on oc).ownBlock = some j) HOn.out (p := ⟨gg, j, none⟩) (.inl rfl) _⟩
      case measure => simp [intOf]; omega
    · obtain rfl : on = j := by omega
      have HD6 := Lib.hid (HD5.out.spoilt HO5.out HOB.out HOn.out)
      have HRS6 := Lib.hid (HRS5.out.spoilt HO5.out HOn.out HNS5.out)
      have HRR6 := Lib.hid (HRR5.out.spoiltS HO5.out HOn.out HNR5.out)
      clear x0 hown
      have hS5 : wr.cell? ⟨w.heap.size, 0, none⟩ = some (.int .i64 most) ∧ wr.cell? ⟨w.heap.size, 1, none⟩ = some (.slice CA ks.length cc) ∧ wr.cell? ⟨w.heap.size, 2, none⟩ = some (.slice BA vs.length bc) ∧ wr.cell? ⟨w.heap.size, 3, none⟩ = some (.slice UA us.length uc) ∧ wr.cell? ⟨w.heap.size, 4, none⟩ = some (.slice FA fr.length fc) :=
        ⟨HD6.out.s1.cell 0 _ rfl, HD6.out.s1.cell 1 _ rfl, HD6.out.s1.cell 2 _ rfl, HD6.out.s1.cell 3 _ rfl, HD6.out.s1.cell 4 _ rfl⟩
      have HS5 := Lib.hid hS5
      obtain ⟨s0, s1, s2, s3, s4⟩ := hS5
      have r0 := HD6.out.s3.cell 0 _ rfl
      have r1 := HD6.out.s3.cell 1 _ rfl
      have r2 := HD6.out.s3.cell 2 _ rfl
      have r3 := HD6.out.s3.cell 3 _ rfl
      have r4 := HD6.out.s3.cell 4 _ rfl
      have rf := HD6.out.s3.frozen
      have rl := HD6.out.s3.lt
      have hd1 : ¬ w.heap.size = w.heap.size + 1 + 1 := by omega
      have hnj : ¬ (on : Int) < (on : Int) := by omega
      go_wp2_with fail
      go_region_held_law (fun W => W.cell? ⟨w.heap.size, 0, none⟩ = some (.int .i64 most) ∧ W.cell? ⟨w.heap.size, 1, none⟩ = some (.slice CA ks.length cc) ∧ W.cell? ⟨w.heap.size, 2, none⟩ = some (.slice BA vs.length bc) ∧ W.cell? ⟨w.heap.size, 3, none⟩ = some (.slice UA us.length uc) ∧ W.cell? ⟨w.heap.size, 4, none⟩ = some (.slice FA fr.length fc))
        (repeat (first | with_reducible exact HS5.out | with_reducible refine drew5 ?_ | with_reducible refine far5 ?_ hd1 _ _)) (fail)
      all_goals
        go_wp2_with fail
        obtain ⟨q0, q1, q2, q3, q4⟩ := box5 HD6.out.s3 (.int .i64 most) (.slice CA ks.length cc) (.slice BA vs.length bc) (.slice UA us.length uc) (.slice FA fr.length fc)
        have ho5 := only5 wr (w.heap.size + 1 + 1) (.int .i64 most) (.slice CA ks.length cc) (.slice BA vs.length bc) (.slice UA us.length uc) (.slice FA fr.length fc)
        clear s0 s1 s2 s3 s4
        generalize World.setCell _ _ _ = w14 at q0 q1 q2 q3 q4 ho5 ⊢
        refine bodyPost_ret (v := .tuple #[.pointer (some ⟨b, 0, none⟩), .agg #[.int .i64 most, .slice CA ks.length cc, .slice BA vs.length bc, .slice UA us.length uc, .slice FA fr.length fc], .bool true]) (by simp [results, Try.results20, go_sem, q0, q1, q2, q3, q4]) rfl ?_
        exact do_done HD6.out HRS6.out HIS5.out HRR6.out HSY5.out HWF5.out ho5.drew

set_option maxRecDepth 100000 in
set_option maxHeartbeats 4000000 in
theorem do_get_none (B b m : Nat) (most K N : Int) (st : PSt) (sh : Nat → ShV) (cv bv uv fv v : Value) (bs : List UInt8) (ks : List (Int × Int)) (vs : List (List UInt8 × Value)) (us : List Bool) (fr : List (Int × Int)) (w : World) (h : DoH w B b m most st sh cv bv uv fv ks vs us fr v bs) (hp : phas st K N = none) :
    Calls Try.prog 20 #[.pointer (some ⟨b, 0, none⟩), .agg #[.int .i64 most, cv, bv, uv, fv], .agg #[.int .i64 1, .int .i64 K, .int .i64 N, v]] w (DoPost w B m most) := by
  have HPh := Lib.hid hp
  clear hp
  obtain ⟨CA, cc, rfl, hc1, _⟩ := own_form h.ref.cells
  obtain ⟨BA, bc, rfl, hb1, _⟩ := own_form h.ref.bytes
  obtain ⟨UA, uc, rfl, hu1, _⟩ := own_form h.ref.used
  obtain ⟨FA, fc, rfl, hf1, _⟩ := own_form h.ref.free
  obtain ⟨VA, vc, hve⟩ := h.arg.form
  subst hve
  have HH := Lib.hid h
  have hlI : (bs.length : Int) ≤ 65540 := by have := h.len; omega
  have HL : Hid (bs.length ≤ 65540) := Lib.hid h.len
  obtain ⟨i4, hi, hy0, hy1, hy2⟩ := info_parts u8_info
  have HJ4 := Lib.hid hi
  have HY40 := Lib.hid hy0
  have HY41 := Lib.hid hy1
  have HY42 := Lib.hid hy2
  clear hi hy0 hy1 hy2
  clear h
  go_enter Try.func20, Try.ntmps20
  go_upto_region 1 with fail
  have HD1 := Lib.hid (DoB.new w B HH.out.base #[.int .i64 most, .slice CA ks.length cc, .slice BA vs.length bc, .slice UA us.length uc, .slice FA fr.length fc] 1 K N (.slice VA bs.length vc))
  have HB1 : Hid (Below w.heap.size w (((w.alloc (.cells #[.int .i64 most, .slice CA ks.length cc, .slice BA vs.length bc, .slice UA us.length uc, .slice FA fr.length fc] 55)).alloc (.cells #[.int .i64 1, .int .i64 K, .int .i64 N, .slice VA bs.length vc] 41)).alloc (.cells #[.int .i64 0, .slice none 0 0, .slice none 0 0, .slice none 0 0, .slice none 0 0] 55))) := Lib.hid ((((Below.refl _ _).alloc (Nat.le_refl _) _).alloc (by simp) _).alloc (by simp; omega) _)
  generalize World.alloc (World.alloc (World.alloc w _) _) _ = w1 at HD1 HB1 ⊢
  have c3 : w1.cell? ⟨w.heap.size + 1, 3, none⟩ = some (.slice VA bs.length vc) := HD1.out.s2.cell 3 _ rfl
  go_upto_region 2 with (at_builtin; refine wpList_append_src _ rfl _ _ _ rfl (w.heap.size + 3) 5 i4 _ 1 1 Try.underlying39 HJ4.out HY40.out HY41.out HY42.out rfl (by decide) _ 0 [] rfl (World.ownsRow_nil _ _ _ _) VA bs.length vc (bcells bs) rfl (Bts.src_at (HH.out.arg.below HB1.out)).2 (bcells_one bs) (by have := HL.out; unfold maxLen; omega) (by have := HL.out; omega) HD1.out.size ?_; intro vO wO hown hg hat; have HO : Hid (wO.ownsRow (w.heap.size + 3) 5 1 vO bs.length (bcells bs)) := Lib.hid (by simpa using hown); have HBO := Lib.hid (below_grown hg); obtain ⟨OA, oc, rfl, hy1, hy2⟩ := own_form HO.out; clear hown hg hat hy1 hy2)
  have HD := Lib.hid (HD1.out.below HBO.out)
  have HBw : Hid (Below w.heap.size w wO) := Lib.hid (HB1.out.trans (HBO.out.mono HB1.out.size))
  have HRS := Lib.hid (HH.out.rep.below HBw.out)
  have HRR := Lib.hid (HH.out.ref.below HBw.out)
  have HV := Lib.hid (HH.out.arg.below HBw.out)
  have HNS : Hid (NotS (.slice OA bs.length oc) sh) := Lib.hid (NotS.new HH.out.rep (fun g hg => by have := (row_blockS HO.out hg).1; omega))
  have HNR : Hid (NotR (.slice OA bs.length oc) vs) := Lib.hid (NotR.new HH.out.ref (fun g hg => by have := (row_blockS HO.out hg).1; omega))
  have HBs : Hid (B ≤ wO.heap.size) := Lib.hid (Nat.le_trans HH.out.base HBw.out.size)
  clear c3 HD1 HB1 HBO HBw
  have c0 : wO.cell? ⟨w.heap.size + 1, 0, none⟩ = some (.int .i64 1) := HD.out.s2.cell 0 _ rfl
  have c1 : wO.cell? ⟨w.heap.size + 1, 1, none⟩ = some (.int .i64 K) := HD.out.s2.cell 1 _ rfl
  have c2 : wO.cell? ⟨w.heap.size + 1, 2, none⟩ = some (.int .i64 N) := HD.out.s2.cell 2 _ rfl
  have c3 : wO.cell? ⟨w.heap.size + 1, 3, none⟩ = some (.slice VA bs.length vc) := HD.out.s2.cell 3 _ rfl
  have x0 : wO.cell? ⟨w.heap.size, 0, none⟩ = some (.int .i64 most) := HD.out.s1.cell 0 _ rfl
  have x1 : wO.cell? ⟨w.heap.size, 1, none⟩ = some (.slice CA ks.length cc) := HD.out.s1.cell 1 _ rfl
  have x2 : wO.cell? ⟨w.heap.size, 2, none⟩ = some (.slice BA vs.length bc) := HD.out.s1.cell 2 _ rfl
  have x3 : wO.cell? ⟨w.heap.size, 3, none⟩ = some (.slice UA us.length uc) := HD.out.s1.cell 3 _ rfl
  have x4 : wO.cell? ⟨w.heap.size, 4, none⟩ = some (.slice FA fr.length fc) := HD.out.s1.cell 4 _ rfl
  go_wp2_with fail
  refine (aGet_none B b most st K N wO ⟨sh, HRS.out, HH.out.is⟩ HPh.out).mono ?_
  rintro e w2 ⟨rfl, hb2⟩
  have HD2 := Lib.hid (HD.out.below hb2)
  have HRS2 := Lib.hid (HRS.out.below hb2)
  have HRR2 := Lib.hid (HRR.out.below hb2)
  clear x0 x1 x2 x3 x4 c0 c1 c2 c3 hb2 HD HO HRS HRR HNR HNS HV
  have c1 : w2.cell? ⟨w.heap.size + 1, 1, none⟩ = some (.int .i64 K) := HD2.out.s2.cell 1 _ rfl
  have c2 : w2.cell? ⟨w.heap.size + 1, 2, none⟩ = some (.int .i64 N) := HD2.out.s2.cell 2 _ rfl
  have x0 := HD2.out.s1.cell 0 _ rfl
  have x1 := HD2.out.s1.cell 1 _ rfl
  have x2 := HD2.out.s1.cell 2 _ rfl
  have x3 := HD2.out.s1.cell 3 _ rfl
  have x4 := HD2.out.s1.cell 4 _ rfl
  go_wp2_with fail
  refine (rget_none HRR2.out HH.out.sync (by have := HH.out.small; omega) HPh.out).mono ?_
  rintro e w5 ⟨rfl, hb3⟩
  have HD5 := Lib.hid (HD2.out.below hb3)
  have HRS5 := Lib.hid (HRS2.out.below hb3)
  have HRR5 := Lib.hid (HRR2.out.below hb3)
  have cvt := (Bts.nil w5 0 5).string (P := Try.prog) 39 9 Try.underlying39 Try.underlying5 Try.underlying9
  clear hb3 x0 x1 x2 x3 x4 c1 c2 HD2 HRS2 HRR2
  go_upto_region 28 with fail
  clear cvt
  have HIS5 := Lib.hid HH.out.is
  have HSY5 : Hid (RSync (m + 4) st ks (vs.map Prod.fst) us fr) := Lib.hid (HH.out.sync.mono (by omega))
  have HWF5 : Hid (PWf (m + 4) st) := Lib.hid (HH.out.wf.mono (by omega))
  obtain ⟨OA, on, oc, hov, hon0⟩ : ∃ (OA : Option Addr) (on oc : Nat), Value.slice none 0 0 = .slice OA on oc ∧ on = 0 := ⟨none, 0, 0, rfl, rfl⟩
  have hon6 : on ≤ 65540 := by omega
  have HNS5 : Hid (NotS (.slice OA on oc) sh) := Lib.hid (fun k hk c hc h0 g hg e => by rw [← hov] at e; cases e)
  have HNR5 : Hid (NotR (.slice OA on oc) vs) := Lib.hid (fun x hx h0 g hg e => by rw [← hov] at e; cases e)
  have HZ5 : Hid (∀ j, j < on → ∃ z, ([] : List Value)[j]? = some (.int .u8 z)) := Lib.hid (fun j hj => by omega)
  have HO5 : Hid (w5.ownsRow w.heap.size 5 1 (.slice OA on oc) on []) := Lib.hid (by rw [← hov, hon0]; exact World.ownsRow_nil _ _ _ _)
  have HOB : Hid (w.heap.size ≤ w.heap.size) := Lib.hid (Nat.le_refl _)
  rw [hov]
  clear hov hon0
  obtain ⟨ob, hob⟩ : ∃ n, w.heap.size = n := ⟨_, rfl⟩
  have HOB2 : Hid (w.heap.size ≤ ob) := Lib.hid (by omega)
  have HO6 : Hid (w5.ownsRow ob 5 1 (.slice OA on oc) on []) := hob ▸ HO5
  clear hob HO5 HOB
  have HO5 := HO6
  have HOB := HOB2
  obtain ⟨xs5, hxs5⟩ : ∃ l : List Value, [] = l := ⟨_, rfl⟩
  rw [hxs5] at HO5 HZ5
  clear hxs5 HO6 HOB2
  have x0 := HD5.out.s1.cell 0 _ rfl
  go_wp2_with fail
  go_loopw [131] (fun i wr => ∃ (j : Nat) (xs : List Value), j ≤ on ∧ i = .int .i64 j ∧ wr.ownsRow ob 5 1 (.slice OA on oc) on xs ∧ (∀ j, j < on → ∃ z, xs[j]? = some (.int .u8 z)) ∧ Only (fun j => (Value.slice OA on oc).ownBlock = some j) w5 wr) (fun i _ => on - (intOf i).toNat)
  case atStart => exact ⟨0, xs5, by omega, rfl, HO5.out, HZ5.out, Only.refl _ _⟩
  case round =>
    obtain ⟨j, xs, hj, rfl, hown, hxs, hon⟩ := hrel
    have HW := Lib.hid hown
    have HXs := Lib.hid hxs
    have HOn := Lib.hid hon
    clear hxs hon
    by_cases hjl : j < on
    · have hcc2 : on ≤ oc := by
        obtain ⟨_, _, e2, h, _⟩ := own_form hown
        injection e2 with _ _ e2
        rw [e2]
        exact h
      obtain ⟨gg, cap, e, _, hgg⟩ := hown.form (by omega)
      injection e with e el e3
      clear el
      subst e e3
      obtain ⟨z, hz⟩ := HXs.out j hjl
      have hgc : wr.cell? ⟨gg, j, none⟩ = some (.int .u8 z) := by rw [hown.cellAt _ (by omega)]; exact hz
      have hfz := hown.frozenAt j
      have hjI : (j : Int) < (on : Int) := by omega
      have hcI : (on : Int) ≤ (oc : Int) := by omega
      have hj1 : (j : Int) ≤ 65540 := by omega
      clear hown hz
      go_wp2_with fail
      go_roundw
      case rel => exact ⟨j + 1, _, by omega, by go_num, (HW.out.stored j _).1, fun i hi => by
          by_cases e : j = i
          · subst e
            have : j < xs.length := by
              obtain ⟨z', hz'⟩ := HXs.out j hi
              exact (List.getElem?_eq_some_iff.1 hz').1
            exact ⟨_, List.getElem?_set_self this⟩
          · rw [List.getElem?_set_ne e]; exact HXs.out i hi, Only.setCell (S := fun j => (Value.slice (some ⟨gg, 0, none⟩) on oc).ownBlock = some j) HOn.out (p := ⟨gg, j, none⟩) (.inl rfl) _⟩
      case measure => simp [intOf]; omega
    · obtain rfl : on = j := by omega
      have HD6 := Lib.hid (HD5.out.spoilt HO5.out HOB.out HOn.out)
      have HRS6 := Lib.hid (HRS5.out.spoilt HO5.out HOn.out HNS5.out)
      have HRR6 := Lib.hid (HRR5.out.spoiltS HO5.out HOn.out HNR5.out)
      clear x0 hown
      have hS5 : wr.cell? ⟨w.heap.size, 0, none⟩ = some (.int .i64 most) ∧ wr.cell? ⟨w.heap.size, 1, none⟩ = some (.slice CA ks.length cc) ∧ wr.cell? ⟨w.heap.size, 2, none⟩ = some (.slice BA vs.length bc) ∧ wr.cell? ⟨w.heap.size, 3, none⟩ = some (.slice UA us.length uc) ∧ wr.cell? ⟨w.heap.size, 4, none⟩ = some (.slice FA fr.length fc) :=
        ⟨HD6.out.s1.cell 0 _ rfl, HD6.out.s1.cell 1 _ rfl, HD6.out.s1.cell 2 _ rfl, HD6.out.s1.cell 3 _ rfl, HD6.out.s1.cell 4 _ rfl⟩
      have HS5 := Lib.hid hS5
      obtain ⟨s0, s1, s2, s3, s4⟩ := hS5
      have r0 := HD6.out.s3.cell 0 _ rfl
      have r1 := HD6.out.s3.cell 1 _ rfl
      have r2 := HD6.out.s3.cell 2 _ rfl
      have r3 := HD6.out.s3.cell 3 _ rfl
      have r4 := HD6.out.s3.cell 4 _ rfl
      have rf := HD6.out.s3.frozen
      have rl := HD6.out.s3.lt
      have hd1 : ¬ w.heap.size = w.heap.size + 1 + 1 := by omega
      have hnj : ¬ (on : Int) < (on : Int) := by omega
      go_wp2_with fail
      go_region_held_law (fun W => W.cell? ⟨w.heap.size, 0, none⟩ = some (.int .i64 most) ∧ W.cell? ⟨w.heap.size, 1, none⟩ = some (.slice CA ks.length cc) ∧ W.cell? ⟨w.heap.size, 2, none⟩ = some (.slice BA vs.length bc) ∧ W.cell? ⟨w.heap.size, 3, none⟩ = some (.slice UA us.length uc) ∧ W.cell? ⟨w.heap.size, 4, none⟩ = some (.slice FA fr.length fc))
        (repeat (first | with_reducible exact HS5.out | with_reducible refine drew5 ?_ | with_reducible refine far5 ?_ hd1 _ _)) (fail)
      all_goals
        go_wp2_with fail
        obtain ⟨q0, q1, q2, q3, q4⟩ := box5 HD6.out.s3 (.int .i64 most) (.slice CA ks.length cc) (.slice BA vs.length bc) (.slice UA us.length uc) (.slice FA fr.length fc)
        have ho5 := only5 wr (w.heap.size + 1 + 1) (.int .i64 most) (.slice CA ks.length cc) (.slice BA vs.length bc) (.slice UA us.length uc) (.slice FA fr.length fc)
        clear s0 s1 s2 s3 s4
        generalize World.setCell _ _ _ = w14 at q0 q1 q2 q3 q4 ho5 ⊢
        refine bodyPost_ret (v := .tuple #[.pointer (some ⟨b, 0, none⟩), .agg #[.int .i64 most, .slice CA ks.length cc, .slice BA vs.length bc, .slice UA us.length uc, .slice FA fr.length fc], .bool true]) (by simp [results, Try.results20, go_sem, q0, q1, q2, q3, q4]) rfl ?_
        exact do_done HD6.out HRS6.out HIS5.out HRR6.out HSY5.out HWF5.out ho5.drew

end Go.Proofs.Ytookfhmghchkjaa
