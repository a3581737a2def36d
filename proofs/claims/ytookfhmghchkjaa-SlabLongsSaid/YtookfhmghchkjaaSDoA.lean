/- The walk of do (layer 13): Put. -/
import Derived.Test.YtookfhmghchkjaaSDoM
namespace Go.Proofs.Ytookfhmghchkjaa
open Go Go.RowKit
attribute [local go_sem ↓] Go.wp_at_zero Go.wp_at_succ

set_option maxRecDepth 100000 in
set_option maxHeartbeats 4000000 in
theorem do_put (B b m : Nat) (most K N : Int) (st : PSt) (sh : Nat → ShV) (cv bv uv fv v : Value) (bs : List UInt8) (ks : List (Int × Int)) (vs : List (List UInt8 × Value)) (us : List Bool) (fr : List (Int × Int)) (w : World) (h : DoH w B b m most st sh cv bv uv fv ks vs us fr v bs) :
    Calls Try.prog 20 #[.pointer (some ⟨b, 0, none⟩), .agg #[.int .i64 most, cv, bv, uv, fv], .agg #[.int .i64 0, .int .i64 K, .int .i64 N, v]] w (DoPost w B m most) := by
  obtain ⟨CA, cc, rfl, hc1, _⟩ := own_form h.ref.cells
  obtain ⟨BA, bc, rfl, hb1, _⟩ := own_form h.ref.bytes
  obtain ⟨UA, uc, rfl, hu1, _⟩ := own_form h.ref.used
  obtain ⟨FA, fc, rfl, hf1, _⟩ := own_form h.ref.free
  obtain ⟨VA, vc, hve⟩ := h.arg.form
  subst hve
  have HH := Lib.hid h
  have hlI : (bs.length : Int) ≤ 65540 := by have := h.len; omega
  have HL : Hid (bs.length ≤ 65540) := Lib.hid h.len
  obtain ⟨i4, hi, hy0, hy1, hy2⟩ := info_parts u8_info
  have HJ4 := Lib.hid hi
  have HY40 := Lib.hid hy0
  have HY41 := Lib.hid hy1
  have HY42 := Lib.hid hy2
  clear hi hy0 hy1 hy2
  clear h
  go_enter Try.func20, Try.ntmps20
  go_upto_region 1 with fail
  have HD1 := Lib.hid (DoB.new w B HH.out.base #[.int .i64 most, .slice CA ks.length cc, .slice BA vs.length bc, .slice UA us.length uc, .slice FA fr.length fc] 0 K N (.slice VA bs.length vc))
  have HB1 : Hid (Below w.heap.size w (((w.alloc (.cells #[.int .i64 most, .slice CA ks.length cc, .slice BA vs.length bc, .slice UA us.length uc, .slice FA fr.length fc] 55)).alloc (.cells #[.int .i64 0, .int .i64 K, .int .i64 N, .slice VA bs.length vc] 41)).alloc (.cells #[.int .i64 0, .slice none 0 0, .slice none 0 0, .slice none 0 0, .slice none 0 0] 55))) := Lib.hid ((((Below.refl _ _).alloc (Nat.le_refl _) _).alloc (by simp) _).alloc (by simp; omega) _)
  generalize World.alloc (World.alloc (World.alloc w _) _) _ = w1 at HD1 HB1 ⊢
  have c3 : w1.cell? ⟨w.heap.size + 1, 3, none⟩ = some (.slice VA bs.length vc) := HD1.out.s2.cell 3 _ rfl
  go_upto_region 2 with (at_builtin; refine wpList_append_src _ rfl _ _ _ rfl (w.heap.size + 3) 5 i4 _ 1 1 Try.underlying39 HJ4.out HY40.out HY41.out HY42.out rfl (by decide) _ 0 [] rfl (World.ownsRow_nil _ _ _ _) VA bs.length vc (bcells bs) rfl (Bts.src_at (HH.out.arg.below HB1.out)).2 (bcells_one bs) (by have := HL.out; unfold maxLen; omega) (by have := HL.out; omega) HD1.out.size ?_; intro vO wO hown hg hat; have HO : Hid (wO.ownsRow (w.heap.size + 3) 5 1 vO bs.length (bcells bs)) := Lib.hid (by simpa using hown); have HBO := Lib.hid (below_grown hg); obtain ⟨OA, oc, rfl, hy1, hy2⟩ := own_form HO.out; clear hown hg hat hy1 hy2)
  have HD := Lib.hid (HD1.out.below HBO.out)
  have HBw : Hid (Below w.heap.size w wO) := Lib.hid (HB1.out.trans (HBO.out.mono HB1.out.size))
  have HRS := Lib.hid (HH.out.rep.below HBw.out)
  have HRR := Lib.hid (HH.out.ref.below HBw.out)
  have HV := Lib.hid (HH.out.arg.below HBw.out)
  have HNS : Hid (NotS (.slice OA bs.length oc) sh) := Lib.hid (NotS.new HH.out.rep (fun g hg => by have := (row_blockS HO.out hg).1; omega))
  have HNR : Hid (NotR (.slice OA bs.length oc) vs) := Lib.hid (NotR.new HH.out.ref (fun g hg => by have := (row_blockS HO.out hg).1; omega))
  have HBs : Hid (B ≤ wO.heap.size) := Lib.hid (Nat.le_trans HH.out.base HBw.out.size)
  clear c3 HD1 HB1 HBO HBw
  have c0 : wO.cell? ⟨w.heap.size + 1, 0, none⟩ = some (.int .i64 0) := HD.out.s2.cell 0 _ rfl
  have c1 : wO.cell? ⟨w.heap.size + 1, 1, none⟩ = some (.int .i64 K) := HD.out.s2.cell 1 _ rfl
  have c2 : wO.cell? ⟨w.heap.size + 1, 2, none⟩ = some (.int .i64 N) := HD.out.s2.cell 2 _ rfl
  have c3 : wO.cell? ⟨w.heap.size + 1, 3, none⟩ = some (.slice VA bs.length vc) := HD.out.s2.cell 3 _ rfl
  have x0 : wO.cell? ⟨w.heap.size, 0, none⟩ = some (.int .i64 most) := HD.out.s1.cell 0 _ rfl
  have x1 : wO.cell? ⟨w.heap.size, 1, none⟩ = some (.slice CA ks.length cc) := HD.out.s1.cell 1 _ rfl
  have x2 : wO.cell? ⟨w.heap.size, 2, none⟩ = some (.slice BA vs.length bc) := HD.out.s1.cell 2 _ rfl
  have x3 : wO.cell? ⟨w.heap.size, 3, none⟩ = some (.slice UA us.length uc) := HD.out.s1.cell 3 _ rfl
  have x4 : wO.cell? ⟨w.heap.size, 4, none⟩ = some (.slice FA fr.length fc) := HD.out.s1.cell 4 _ rfl
  obtain ⟨⟨K', N', er, st'⟩, hpp⟩ : ∃ x, pput most st bs = x := ⟨_, rfl⟩
  have HPP := Lib.hid hpp
  have hc := rput_any (B := B) (m' := m) HRR.out HBs.out HH.out.sync HH.out.wf (by have := HH.out.small; omega) HH.out.mo HV.out
  rw [hpp] at hc
  have HC := Lib.hid hc
  clear hc hpp
  go_wp2_with fail
  refine HC.out.mono ?_
  rintro e w2 ⟨av, rfl, ⟨cv', bv', uv', fv', ks', vs', us', fr', rfl, hr2, hs2, hv2⟩, hb2⟩
  obtain ⟨C2, cc2, rfl, _, _⟩ := own_form hr2.cells
  obtain ⟨B2, bc2, rfl, _, _⟩ := own_form hr2.bytes
  obtain ⟨U2, uc2, rfl, _, _⟩ := own_form hr2.used
  obtain ⟨F2, fc2, rfl, _, _⟩ := own_form hr2.free
  have HD2 := Lib.hid (HD.out.below hb2)
  have HO2 := Lib.hid (row_below HO.out hb2)
  have HRS2 := Lib.hid (HRS.out.below hb2)
  have HRR2 := Lib.hid hr2
  have HSY2 := Lib.hid hs2
  have HOlt : Hid (∀ g, (Value.slice OA bs.length oc).ownBlock = some g → g < w2.heap.size) := Lib.hid (fun g hg => Nat.lt_of_lt_of_le (HO.out.lt g hg).2 hb2.size)
  have HNR2 := Lib.hid (NotR.next (W := wO) HNR.out hv2 (fun g hg => (HO.out.lt g hg).2))
  have hz0 : w.heap.size < w2.heap.size := by have := HD2.out.size; omega
  clear x0 x1 x2 x3 x4 c0 c1 c2 c3 hr2 hs2 hv2 hb2 HC HD HO HRS HRR HNR HV
  go_upto_region 13 with fail
  obtain ⟨w3, hw3⟩ : ∃ w3, (w2.alloc (.cells #[.int .i64 most, .slice C2 ks'.length cc2, .slice B2 vs'.length bc2, .slice U2 us'.length uc2, .slice F2 fr'.length fc2] 55)).alloc (.cells #[.int .i64 K', .int .i64 N'] 38) = w3 := ⟨_, rfl⟩
  have hb3 : Below w2.heap.size w2 w3 := hw3 ▸ ((Below.refl _ _).alloc (Nat.le_refl _) _).alloc (by simp) _
  have G3 : Hid (Blk w3 w2.heap.size 55 #[.int .i64 most, .slice C2 ks'.length cc2, .slice B2 vs'.length bc2, .slice U2 us'.length uc2, .slice F2 fr'.length fc2]) := Lib.hid (hw3 ▸ (Blk.new _ _ _).alloc _)
  have X3 : Hid (Blk w3 (w2.heap.size + 1) 38 #[.int .i64 K', .int .i64 N']) := Lib.hid (hw3 ▸ Blk.new2 _ _ _ _)
  have HD3 := Lib.hid (HD2.out.below hb3)
  have HO3 := Lib.hid (row_below HO2.out hb3)
  have HRS3 := Lib.hid (HRS2.out.below hb3)
  have HRR3 := Lib.hid (HRR2.out.below hb3)
  have HOlt3 : Hid (∀ g, (Value.slice OA bs.length oc).ownBlock = some g → g < w3.heap.size) := Lib.hid (fun g hg => Nat.lt_of_lt_of_le (HOlt.out g hg) hb3.size)
  rw [hw3]
  clear hw3 hb3 hz0 HD2 HO2 HRS2 HRR2 HOlt
  obtain ⟨g, hg⟩ : ∃ g, w2.heap.size = g := ⟨_, rfl⟩
  rw [hg] at G3 X3 ⊢
  clear hg
  have y0 := X3.out.cell 0 _ rfl
  have y1 := X3.out.cell 1 _ rfl
  go_wp2_with fail
  refine (puts_f m B b most sh st (.slice OA bs.length oc) bs w3 HRS3.out HH.out.is HH.out.wf (by have := HH.out.small; omega) (Bts.of_own HO3.out B) K' N' er st' HPP.out).mono ?_
  rintro e w4 ⟨rfl, sh', hfp⟩
  have hks := HRS3.out.keepS hfp.only
  have HD4 := Lib.hid (HD3.out.adv hks (HRS3.out.belowB hfp.only))
  have HO4 := Lib.hid (row_keep HO3.out hks.u8)
  have G4 := Lib.hid (hks.blk G3.out (by decide) (by decide) (by decide))
  have HRR4 := Lib.hid (HRR3.out.keepS hks)
  have HRS4 := Lib.hid hfp.rep
  have HIS5 := Lib.hid hfp.is
  have HNS5 := Lib.hid (HNS.out.next HRS3.out hfp HOlt3.out)
  clear hks hfp y0 y1 HD3 HO3 G3 X3 HRR3 HRS3
  have g0 := G4.out.cell 0 _ rfl
  have g1 := G4.out.cell 1 _ rfl
  have g2 := G4.out.cell 2 _ rfl
  have g3 := G4.out.cell 3 _ rfl
  have g4 := G4.out.cell 4 _ rfl
  have x0 := HD4.out.s1.cell 0 _ rfl
  have x1 := HD4.out.s1.cell 1 _ rfl
  have x2 := HD4.out.s1.cell 2 _ rfl
  have x3 := HD4.out.s1.cell 3 _ rfl
  have x4 := HD4.out.s1.cell 4 _ rfl
  have xf := HD4.out.s1.frozen
  have xl := HD4.out.s1.lt
  go_upto_region 28 with fail
  have HD5 := Lib.hid (HD4.out.setA (.int .i64 most) (.slice C2 ks'.length cc2) (.slice B2 vs'.length bc2) (.slice U2 us'.length uc2) (.slice F2 fr'.length fc2))
  have ho5 := only5 w4 w.heap.size (.int .i64 most) (.slice C2 ks'.length cc2) (.slice B2 vs'.length bc2) (.slice U2 us'.length uc2) (.slice F2 fr'.length fc2)
  have HRS5 := Lib.hid (HRS4.out.offbox ho5 (fun g e => by subst e; exact ⟨HH.out.base, _, _, HD4.out.s1, by decide, by decide, by decide, by decide⟩))
  have HRR5 := Lib.hid (HRR4.out.offbox HD4.out.s1 ho5)
  have HO5 := Lib.hid (ownsRow_only HO4.out ho5 (fun k hk e => by have := (row_blockS HO4.out hk).1; omega))
  generalize World.setCell _ _ _ = w5 at HD5 HRS5 HRR5 HO5 ⊢
  have HSY5 : Hid (RSync (m + 4) st' ks' (vs'.map Prod.fst) us' fr') := Lib.hid (HSY2.out.mono (by omega))
  have HWF5 : Hid (PWf (m + 4) st') := Lib.hid (by
    have := HH.out.wf.put most bs
    rw [HPP.out] at this
    exact this.mono (by omega))
  have HNR5 := HNR2
  have HZ5 := Lib.hid (bcells_u8 bs)
  have HOB : Hid (w.heap.size ≤ w.heap.size + 3) := Lib.hid (by omega)
  clear ho5 g0 g1 g2 g3 g4 x0 x1 x2 x3 x4 xf xl HD4 HO4 G4 HRR4 HRS4 HNR2 HSY2
  obtain ⟨on, hon⟩ : ∃ n, bs.length = n := ⟨_, rfl⟩
  obtain ⟨ob, hob⟩ : ∃ n, w.heap.size + 3 = n := ⟨_, rfl⟩
  obtain ⟨xs5, hxs5⟩ : ∃ l, bcells bs = l := ⟨_, rfl⟩
  have HOL5 : Hid (bs.length ≤ 65540) := HL
  rw [hon] at HO5 HNS5 HNR5 HZ5 HOL5 ⊢
  rw [hob] at HO5 HOB
  rw [hxs5] at HO5 HZ5
  have hon6 := HOL5.out
  clear hon hob hxs5
  have x0 := HD5.out.s1.cell 0 _ rfl
  go_wp2_with fail
  go_loopw [131] (fun i wr => ∃ (j : Nat) (xs : List Value), j ≤ on ∧ i = .int .i64 j ∧ wr.ownsRow ob 5 1 (.slice OA on oc) on xs ∧ (∀ j, j < on → ∃ z, xs[j]? = some (.int .u8 z)) ∧ Only (fun j => (Value.slice OA on oc).ownBlock = some j) w5 wr) (fun i _ => on - (intOf i).toNat)
  case atStart => exact ⟨0, xs5, by omega, rfl, HO5.out, HZ5.out, Only.refl _ _⟩
  case round =>
    obtain ⟨j, xs, hj, rfl, hown, hxs, hon⟩ := hrel
    have HW := Lib.hid hown
    have HXs := Lib.hid hxs
    have HOn := Lib.hid hon
    clear hxs hon
    by_cases hjl : j < on
    · have hcc2 : on ≤ oc := by
        obtain ⟨_, _, e2, h, _⟩ := own_form hown
        injection e2 with _ _ e2
        rw [e2]
        exact h
      obtain ⟨gg, cap, e, _, hgg⟩ := hown.form (by omega)
      injection e with e el e3
      clear el
      subst e e3
      obtain ⟨z, hz⟩ := HXs.out j hjl
      have hgc : wr.cell? ⟨gg, j, none⟩ = some (.int .u8 z) := by rw [hown.cellAt _ (by omega)]; exact hz
      have hfz := hown.frozenAt j
      have hjI : (j : Int) < (on : Int) := by omega
      have hcI : (on : Int) ≤ (oc : Int) := by omega
      have hj1 : (j : Int) ≤ 65540 := by omega
      clear hown hz
      go_wp2_with fail
      go_roundw
      case rel => exact ⟨j + 1, _, by omega, by go_num, (HW.out.stored j _).1, fun i hi => by
          by_cases e : j = i
          · subst e
            have : j < xs.length := by
              obtain ⟨z', hz'⟩ := HXs.out j hi
              exact (List.getElem?_eq_some_iff.1 hz').1
            exact ⟨_, List.getElem?_set_self this⟩
          · rw [List.getElem?_set_ne e]; exact HXs.out i hi, Only.setCell (S := fun j => (Value.slice (some ⟨gg, 0, none⟩) on oc).ownBlock = some j) HOn.out (p := ⟨gg, j, none⟩) (.inl rfl) _⟩
      case measure => simp [intOf]; omega
    · obtain rfl : on = j := by omega
      have HD6 := Lib.hid (HD5.out.spoilt HO5.out HOB.out HOn.out)
      have HRS6 := Lib.hid (HRS5.out.spoilt HO5.out HOn.out HNS5.out)
      have HRR6 := Lib.hid (HRR5.out.spoiltS HO5.out HOn.out HNR5.out)
      clear x0 hown
      have hS5 : wr.cell? ⟨w.heap.size, 0, none⟩ = some (.int .i64 most) ∧ wr.cell? ⟨w.heap.size, 1, none⟩ = some (.slice C2 ks'.length cc2) ∧ wr.cell? ⟨w.heap.size, 2, none⟩ = some (.slice B2 vs'.length bc2) ∧ wr.cell? ⟨w.heap.size, 3, none⟩ = some (.slice U2 us'.length uc2) ∧ wr.cell? ⟨w.heap.size, 4, none⟩ = some (.slice F2 fr'.length fc2) :=
        ⟨HD6.out.s1.cell 0 _ rfl, HD6.out.s1.cell 1 _ rfl, HD6.out.s1.cell 2 _ rfl, HD6.out.s1.cell 3 _ rfl, HD6.out.s1.cell 4 _ rfl⟩
      have HS5 := Lib.hid hS5
      obtain ⟨s0, s1, s2, s3, s4⟩ := hS5
      have r0 := HD6.out.s3.cell 0 _ rfl
      have r1 := HD6.out.s3.cell 1 _ rfl
      have r2 := HD6.out.s3.cell 2 _ rfl
      have r3 := HD6.out.s3.cell 3 _ rfl
      have r4 := HD6.out.s3.cell 4 _ rfl
      have rf := HD6.out.s3.frozen
      have rl := HD6.out.s3.lt
      have hd1 : ¬ w.heap.size = w.heap.size + 1 + 1 := by omega
      have hnj : ¬ (on : Int) < (on : Int) := by omega
      go_wp2_with fail
      go_region_held_law (fun W => W.cell? ⟨w.heap.size, 0, none⟩ = some (.int .i64 most) ∧ W.cell? ⟨w.heap.size, 1, none⟩ = some (.slice C2 ks'.length cc2) ∧ W.cell? ⟨w.heap.size, 2, none⟩ = some (.slice B2 vs'.length bc2) ∧ W.cell? ⟨w.heap.size, 3, none⟩ = some (.slice U2 us'.length uc2) ∧ W.cell? ⟨w.heap.size, 4, none⟩ = some (.slice F2 fr'.length fc2))
        (repeat (first | with_reducible exact HS5.out | with_reducible refine drew5 ?_ | with_reducible refine far5 ?_ hd1 _ _)) (fail)
      all_goals
        go_wp2_with fail
        obtain ⟨q0, q1, q2, q3, q4⟩ := box5 HD6.out.s3 (.int .i64 most) (.slice C2 ks'.length cc2) (.slice B2 vs'.length bc2) (.slice U2 us'.length uc2) (.slice F2 fr'.length fc2)
        have ho5 := only5 wr (w.heap.size + 1 + 1) (.int .i64 most) (.slice C2 ks'.length cc2) (.slice B2 vs'.length bc2) (.slice U2 us'.length uc2) (.slice F2 fr'.length fc2)
        clear s0 s1 s2 s3 s4
        generalize World.setCell _ _ _ = w14 at q0 q1 q2 q3 q4 ho5 ⊢
        refine bodyPost_ret (v := .tuple #[.pointer (some ⟨b, 0, none⟩), .agg #[.int .i64 most, .slice C2 ks'.length cc2, .slice B2 vs'.length bc2, .slice U2 us'.length uc2, .slice F2 fr'.length fc2], .bool true]) (by simp [results, Try.results20, go_sem, q0, q1, q2, q3, q4]) rfl ?_
        exact do_done HD6.out HRS6.out HIS5.out HRR6.out HSY5.out HWF5.out ho5.drew

end Go.Proofs.Ytookfhmghchkjaa
