/- Law 45's filled: the walk. -/
import Derived.Test.YtffigmciclopdaaDoorJouY
namespace Go.Proofs.YtffigmciclopdaaDoor
open Go Go.RowKit

theorem below_nil {w w1 : World} (h : w.grownBy w1 (Value.slice none 0 0).ownBlock) : Below w.heap.size w w1 := (Below.refl _ _).grown h (Nat.le_refl _) (by intro k hk; cases hk)
theorem own_zero {w : World} {base : Nat} {e : TypeId} {v : Value} {n : Nat} {xs : List Value} (h : w.ownsRow base e 1 v (0 + n) ([] ++ xs)) : w.ownsRow base e 1 v n xs := by simpa using h

theorem Sp.box {w0 w : World} {base n g : Nat} {v : Value} {t : TypeId} {cs : Array Value} (h : Sp w0 w base n v) (hb : Blk w0 g t cs) (hg : g < base) : Blk w g t cs := by
  obtain ⟨xs, ho, _, hon⟩ := h
  exact hb.only hon (fun e => by have := (row_heap ho (k := g) e).1; omega)
theorem Sp.only {w0 w : World} {base n : Nat} {v : Value} (h : Sp w0 w base n v) : Only (fun j => v.ownBlock = some j ∧ base ≤ j) w0 w := by
  obtain ⟨xs, ho, _, hon⟩ := h
  exact hon.mono (fun i _ hi => ⟨hi, (row_heap ho (k := i) hi).1⟩)

theorem FlI.high {w W : World} {v6 v7 v8 dv ev ov : Value} {da ds : List UInt8} {ea es : List Nat} {pw pj : List (OpV × Value)} (h : FlI w W v6 v7 v8 dv ev ov da ea pw ds es pj) {k : Nat} (hk : W.heap.size ≤ k) :
    ¬ jFp w.heap.size dv ev ov k ∧ (∀ p ∈ pj, p.2.ownBlock ≠ some k) ∧ ¬ (v6.ownBlock = some k ∨ v7.ownBlock = some k ∨ v8.ownBlock = some k) :=
  ⟨fun e => by have := (h.rep.toJS.fp_lt e).2; omega, fun p hp e => by have := ((h.rep.vals p hp).2 k e).1; omega, fun e => by have := (h.rowlt e).2; omega⟩

/-- The last region's facts. -/
def Fl25 (w W : World) (v6 v7 v8 dv ev ov : Value) (ds : List UInt8) (es : List Nat) (pw pj : List (OpV × Value)) : Prop := FlI w W v6 v7 v8 dv ev ov ds es pw ds es pj


/-- What filled gives. -/
def FilRet (ps : List (OpV × Value)) (w : World) (e : Ending) (w' : World) : Prop :=
  ∃ v6 v7 v8 dv ev ov ds es pw pj, e = .returned (.tuple #[.pointer (some ⟨w.heap.size, 0, none⟩), v6, v7]) ∧ FlI w w' v6 v7 v8 dv ev ov ds es pw ds es pj ∧ FlP ps ds es pw pj ps.length

set_option maxRecDepth 100000 in
set_option maxHeartbeats 4000000 in
theorem filled_any (v : Value) (ps : List (OpV × Value)) (w : World) (ha : OpsAt w w.heap.size v ps) (hk : KG w) (hlen : ps.length ≤ 30) (hks : ∀ p ∈ ps, p.1.val.length ≤ 1000) :
    Calls Tryd.prog 11 #[v] w (FilRet ps w) := by
  obtain ⟨i0, hi0, hz0, hz1, hz2⟩ := info_parts u8_info
  obtain ⟨i1, hi1, hy0, hy1, hy2⟩ := info_parts op_info
  obtain ⟨i2, hi2, hx0, hx1, hx2⟩ := info_parts int_info
  obtain ⟨A, cap, rfl⟩ := ha.slice
  have HA := Lib.hid ha
  have HK := Lib.hid hk
  have HKs := Lib.hid hks
  obtain ⟨n, hn⟩ : ∃ n, ps.length = n := ⟨_, rfl⟩
  unfold FilRet
  rw [hn] at HA hlen ⊢
  have HN := Lib.hid hn
  have hnI : (n : Int) ≤ 30 := by omega
  clear ha hk hks hn
  go_enter Tryd.func11, Tryd.ntmps11
  go_wp2_with fail
  go_loopw [6, 7, 8, 9, 10] (fun x6 x7 x8 x9 i wr => ∃ m : Nat, ∃ dv ev ov ds es pw pj, m ≤ n ∧ i = .int .i64 m ∧ x9 = .int .u32 (sumL ds) ∧ FlI w wr x6 x7 x8 dv ev ov ds es pw ds es pj ∧ FlP ps ds es pw pj m) (fun _ _ _ _ i _ => n - (intOf i).toNat)
  case atStart => exact ⟨0, _, _, _, [], [], [], [], by omega, rfl, rfl, FlI.start w, ⟨by simp, rfl, rfl, Nat.zero_le _, Nat.zero_le _, fun i T h => by simp at h⟩⟩
  case round =>
    obtain ⟨m, dv, ev, ov, ds, es, pw, pj, hm, rfl, rfl, hI, hP⟩ := hrel
    obtain ⟨A6, c6, rfl, _, _⟩ := own_form hI.ops
    obtain ⟨A7, c7, rfl, _, _⟩ := own_form hI.ends
    obtain ⟨A8, c8, rfl, _, _⟩ := own_form hI.all
    obtain ⟨W0, hW0⟩ : ∃ W0, W0 = wr := ⟨_, rfl⟩
    subst hW0
    by_cases hml : m < n
    · obtain ⟨⟨o, V⟩, hp⟩ : ∃ p, ps[m]? = some p := ⟨_, List.getElem?_eq_getElem (by have := HN.out; omega)⟩
      have hmI : (m : Int) < (n : Int) := by omega
      have hav := HA.out.below hI.below
      have hvv := hav.vals (o, V) (List.mem_of_getElem? hp)
      have hto := hav.wf (o, V) (List.mem_of_getElem? hp)
      have hvs := HKs.out (o, V) (List.mem_of_getElem? hp)
      dsimp only at hvv hto hvs
      obtain ⟨OA, oc, rfl⟩ := hvv.form
      have hbA : ∃ g off, A = some ⟨g, off, none⟩ := by
        obtain ⟨g, off, e, _⟩ := hav.at_ hp
        exact ⟨g, off, e⟩
      obtain ⟨g, off, rfl⟩ := hbA
      obtain ⟨z0, z1, z2, z3, z4, z5, z6, z7, z8⟩ := hav.atI hp
      have HI := Lib.hid hI
      have HPm := Lib.hid hP
      have HAv := Lib.hid hav
      have HVv := Lib.hid hvv
      have HTo := Lib.hid hto
      have HVs := Lib.hid hvs
      have HP := Lib.hid hp
      clear hI hP hav hvv hto hvs hp
      go_upto_region 10 with fail
      obtain ⟨wA, hwA⟩ : ∃ wA, W0.alloc (.cells (opc o (.slice OA o.val.length oc)) 43) = wA := ⟨_, rfl⟩
      have hbA : Below W0.heap.size W0 wA := hwA ▸ (Below.refl _ _).alloc (Nat.le_refl _) _
      have hbx : Blk wA W0.heap.size 43 (opc o (.slice OA o.val.length oc)) := hwA ▸ Blk.new _ _ _
      have HBA := Lib.hid hbA
      have HBx := Lib.hid hbx
      have hgr : g ≠ W0.heap.size := by
        have := HAv.out.at_ HP.out
        obtain ⟨_, _, e, hlt, _⟩ := this
        injection e with e
        injection e with e1 _
        omega
      have HAA := Lib.hid (HAv.out.below hbA)
      have HVA := Lib.hid (HVv.out.below hbA)
      obtain ⟨y0, y1, y2, y3, y4, y5, y6, y7, y8⟩ := HAA.out.atI HP.out
      unfold opc at hwA
      rw [hwA]
      clear hwA hbA hbx z0 z1 z2 z3 z4 z5 z6 z7 z8
      have hrl := HBx.out.lt
      go_upto_region 11 with (at_builtin; go_loud (refine wpList_append_src _ rfl _ _ _ rfl wA.heap.size 5 i0 _ 1 1 Tryd.underlying22 hi0 hz0 hz1 hz2 rfl (by decide) _ 0 [] rfl (World.ownsRow_nil _ _ _ _) OA o.val.length oc (bcells o.val) rfl HVA.out.src_at.2 (bcells_one _) (by have := HVs.out; unfold maxLen; omega) (by have := HVs.out; omega) (Nat.le_refl _) ?_; intro v1 w1 hown hg hat; have hown1 := own_zero hown; have hb1 := below_nil hg; have HO1 := Lib.hid hown1; have HB1 := Lib.hid hb1; obtain ⟨A1, c1, rfl, _, _⟩ := own_form hown1; have hfx := (HBx.out.below hb1).frozen 3; have hlx := (HBx.out.below hb1).lt; have hcx := (HBx.out.below hb1).cell 3 _ rfl; clear hown hg hat hown1 hb1))
      obtain ⟨w2, hw2⟩ : ∃ w2, w1.setCell ⟨W0.heap.size, 3, none⟩ (.slice A1 o.val.length c1) = w2 := ⟨_, rfl⟩
      have hbx2 : Blk w2 W0.heap.size 43 (opc o (.slice A1 o.val.length c1)) := hw2 ▸ (HBx.out.below HB1.out).set_ 3 _
      have hb2 : Below W0.heap.size W0 w2 := hw2 ▸ (HBA.out.trans (HB1.out.mono HBA.out.size)).setCell (p := ⟨W0.heap.size, 3, none⟩) (Nat.le_refl _) _
      have hoc2 : w2.ownsRow wA.heap.size 5 1 (.slice A1 o.val.length c1) o.val.length (bcells o.val) := hw2 ▸ ownsRow_only HO1.out (Only.set1 w1 W0.heap.size 3 _) (fun k hk e => by subst e; exact blk_differs (HBx.out.below HB1.out) HO1.out (by decide) hk)
      rw [hw2]
      have HX2 := Lib.hid hbx2
      have HB2 := Lib.hid hb2
      have HC2 := Lib.hid hoc2
      have HI2 := Lib.hid (HI.out.adv hb2)
      have HA2 := Lib.hid (HAv.out.below hb2)
      have HV2 := Lib.hid (HVv.out.below hb2)
      have hwAs : W0.heap.size < wA.heap.size := HBx.out.lt
      have HwA := Lib.hid hwAs
      obtain ⟨z0, z1, z2, z3, z4, z5, z6, z7, z8⟩ := HA2.out.atI HP.out
      have HRec := Lib.hid (lawRecord_any w.heap.size (sumL ds) o (.slice OA o.val.length oc) w2 HV2.out (HK.out.below HI2.out.below HK.out.1) HTo.out (sumL_lt ds))
      unfold opv opc at HRec
      clear hw2 hbx2 hb2 hoc2 hfx hlx hcx HBx HBA HO1 HB1 HAA HVA hwAs hrl y0 y1 y2 y3 y4 y5 y6 y7 y8
      go_wp2_with fail
      refine HRec.out.mono ?_
      intro e w3 hret
      have hop : opv o (.slice A1 o.val.length c1) = opv o (.slice A1 o.val.length c1) := rfl
      cases hr : recO (sumL ds) o with
      | none =>
        rw [hr] at hret
        obtain ⟨rfl, hb3⟩ := hret
        have HI3 := Lib.hid (HI2.out.adv hb3)
        have HX3 := Lib.hid (HX2.out.below hb3)
        have HC3 := Lib.hid (own_later HC2.out hb3)
        have HR := Lib.hid hr
        obtain ⟨x0, x1, x2, x3, x4, x5, x6, x7, x8⟩ := op_cells HX3.out
        have HAp := Lib.hid (append_any w.heap.size w.heap.size dv ev ov ds es pj o (.slice A1 o.val.length c1) w3 HI3.out.rep (Bts.of_own HC3.out _) (HK.out.below HI3.out.below HK.out.1) HTo.out HI3.out.below.size)
        unfold opv opc at HAp
        clear hb3 hr hop z0 z1 z2 z3 z4 z5 z6 z7 z8
        go_wp2_with fail
        refine HAp.out.mono ?_
        intro e w4 hap
        unfold ApPost at hap
        rw [HR.out] at hap
        obtain ⟨rfl, hb4⟩ := hap
        have HI4 := Lib.hid (HI3.out.adv hb4)
        have HX4 := Lib.hid (HX3.out.below hb4)
        have HC4 := Lib.hid (own_later HC3.out hb4)
        clear hb4 x0 x1 x2 x3 x4 x5 x6 x7 x8
        go_wp2_with fail
        have HSp := Lib.hid (Sp.start HC4.out)
        go_loopw [15] (fun k wq => ∃ j : Nat, j ≤ o.val.length ∧ k = .int .i64 j ∧ Sp w4 wq wA.heap.size o.val.length (.slice A1 o.val.length c1)) (fun k _ => o.val.length - (intOf k).toNat)
        case atStart => exact ⟨0, by omega, rfl, HSp.out⟩
        case round =>
          obtain ⟨j, hj, rfl, hsp⟩ := hrel
          have hxq : World.cell? wr ⟨W0.heap.size, 3, none⟩ = some (.slice A1 o.val.length c1) := (hsp.box HX4.out HwA.out).cell 3 _ rfl
          have hvI : (o.val.length : Int) ≤ 1000 := by have := HVs.out; omega
          by_cases hjl : j < o.val.length
          · obtain ⟨g1, z, rfl, hgc, hfz, hcc, hgl⟩ := hsp.cell hjl
            have HW := Lib.hid hsp
            have hjI : (j : Int) < (o.val.length : Int) := by omega
            have hcI : (o.val.length : Int) ≤ (c1 : Int) := by omega
            clear hsp hcc
            go_wp2_with fail
            go_roundw
            case rel => exact ⟨j + 1, by omega, by go_num, HW.out.step _⟩
            case measure => simp [intOf]; omega
          · obtain rfl : j = o.val.length := by omega
            have HIq := Lib.hid (HI4.out.spoilt hsp.only (fun k hk => ⟨by have := HI.out.below.size; have := HwA.out; omega, HI.out.high (by have := HwA.out; omega)⟩))
            have HPq := Lib.hid (HPm.out.none HP.out HR.out)
            clear hsp hjl hj
            go_wp2_with fail
            go_roundw
            case rel => exact ⟨m + 1, _, _, _, _, _, _, _, by omega, by go_num, rfl, HIq.out, HPq.out⟩
            case measure => simp [intOf]; omega
      | some r =>
        rw [hr] at hret
        obtain ⟨v3, rfl, ho3, hb3⟩ := hret
        obtain ⟨RA, rc, rfl, hrc, _⟩ := own_form ho3
        have HI3 := Lib.hid (HI2.out.adv hb3)
        have HX3 := Lib.hid (HX2.out.below hb3)
        have HC3 := Lib.hid (own_later HC2.out hb3)
        have HO3 := Lib.hid ho3
        have HR := Lib.hid hr
        have hs23 := hb3.size
        have hs02 := HB2.out.size
        have HS23 := Lib.hid hs23
        have HS02 := Lib.hid hs02
        obtain ⟨x0, x1, x2, x3, x4, x5, x6, x7, x8⟩ := op_cells HX3.out
        have HAp := Lib.hid (append_any w.heap.size w.heap.size dv ev ov ds es pj o (.slice A1 o.val.length c1) w3 HI3.out.rep (Bts.of_own HC3.out _) (HK.out.below HI3.out.below HK.out.1) HTo.out HI3.out.below.size)
        unfold opv opc at HAp
        clear hb3 hr hop ho3 hs23 hs02 z0 z1 z2 z3 z4 z5 z6 z7 z8
        go_wp2_with fail
        refine HAp.out.mono ?_
        intro e w4 hap
        unfold ApPost at hap
        rw [HR.out] at hap
        dsimp only at hap
        rw [if_neg (by have := HPm.out.cnt; have := HPm.out.dl; have := recO_len HR.out; omega)] at hap
        obtain ⟨rfl, d2, e2, o2, V', hr4, ho4, hf4, hV4⟩ := hap
        have HI4 := Lib.hid (HI3.out.append hr4 ho4 hf4 hV4)
        have HX4 := Lib.hid (HX3.out.only ho4 (HI.out.high (Nat.le_refl _)).1)
        have HC4 := Lib.hid (ownsRow_only HC3.out ho4 (fun k hk => (HI.out.high (by have := (row_heap HC3.out hk).1; have := HwA.out; omega)).1))
        have HO4 := Lib.hid (ownsRow_only HO3.out ho4 (fun k hk => (HI.out.high (by have := (row_heap HO3.out hk).1; have := HS02.out; omega)).1))
        have HF4 := Lib.hid hf4
        have HV4 := Lib.hid hV4
        clear hr4 ho4 hf4 hV4 x0 x1 x2 x3 x4 x5 x6 x7 x8
        go_wp2_with fail
        have HSp := Lib.hid (Sp.start HC4.out)
        go_loopw [15] (fun k wq => ∃ j : Nat, j ≤ o.val.length ∧ k = .int .i64 j ∧ Sp w4 wq wA.heap.size o.val.length (.slice A1 o.val.length c1)) (fun k _ => o.val.length - (intOf k).toNat)
        case atStart => exact ⟨0, by omega, rfl, HSp.out⟩
        case round =>
          obtain ⟨j, hj, rfl, hsp⟩ := hrel
          have hxq : World.cell? wr ⟨W0.heap.size, 3, none⟩ = some (.slice A1 o.val.length c1) := (hsp.box HX4.out HwA.out).cell 3 _ rfl
          have hvI : (o.val.length : Int) ≤ 1000 := by have := HVs.out; omega
          by_cases hjl : j < o.val.length
          · obtain ⟨g1, z, rfl, hgc, hfz, hcc, hgl⟩ := hsp.cell hjl
            have HW := Lib.hid hsp
            have hjI : (j : Int) < (o.val.length : Int) := by omega
            have hcI : (o.val.length : Int) ≤ (c1 : Int) := by omega
            clear hsp hcc
            go_wp2_with fail
            go_roundw
            case rel => exact ⟨j + 1, by omega, by go_num, HW.out.step _⟩
            case measure => simp [intOf]; omega
          · obtain rfl : j = o.val.length := by omega
            have HIq := Lib.hid (HI4.out.spoilt hsp.only (fun k hk => by
              have hlt := lt_of_heap (row_heap HC3.out hk.1).2.choose_spec
              have hh := HI.out.high (k := k) (by have := HwA.out; have := hk.2; omega)
              refine ⟨by have := HI.out.below.size; have := HwA.out; have := hk.2; omega, fun e => ?_, fun p hp e => ?_, hh.2.2⟩
              · rcases HF4.out k e with e | e
                · exact hh.1 e
                · omega
              · rcases List.mem_append.1 hp with hp | hp
                · exact hh.2.1 p hp e
                · rw [List.mem_singleton.1 hp] at e
                  have := HV4.out k e
                  omega))
            have HOq := Lib.hid (ownsRow_only HO4.out hsp.only (fun k hk hs => by
              have h1 := (row_heap HO3.out hk).1
              have h2 := lt_of_heap (row_heap HC2.out hs.1).2.choose_spec
              omega))
            have HPq := Lib.hid (HPm.out.some (V' := V') HP.out HR.out)
            have HAq := Lib.hid (HA.out.below HIq.out.below)
            have hlr := recO_len HR.out
            have hlr1 : (7 : Int) ≤ (r.length : Int) := by omega
            have hlr2 : (r.length : Int) ≤ 298 := by omega
            have hlr3 : (r.length : Int) - 4 ≤ (rc : Int) := by omega
            have HSum := sum_rec_any w.heap.size ds r o RA rc wr HR.out (Lib.hid ((Bts.of_own HOq.out _).upto (r.length - 4) (by omega)))
            have hlr4 : ((r.length : Int) - 4).toNat = r.length - 4 := by omega
            have HLr := Lib.hid hlr
            clear hsp hjl hj hlr
            go_wp2_with fail
            refine HSum.out.mono ?_
            rintro e w5 ⟨rfl, hw5⟩
            subst hw5
            clear hlr1 hlr2 hlr3 hlr4
            have hds : ds.length ≤ 298 * m := HPm.out.dl
            have HDs := Lib.hid hds
            clear hds
            go_upto_region 24 with (at_builtin; go_loud (refine wpList_append_src _ rfl _ _ _ rfl w.heap.size 5 i0 _ 1 1 Tryd.underlying22 hi0 hz0 hz1 hz2 rfl (by decide) _ ds.length (bcells ds) rfl HIq.out.all RA r.length rc (bcells r) rfl (Bts.of_own HOq.out 0).src_at.2 (bcells_one _) (by have := HLr.out; have := HDs.out; unfold maxLen; omega) (by have := HLr.out; have := HDs.out; omega) HIq.out.below.size ?_; intro v9 w9 hown9 hg9 hat9))
            have HI9 := Lib.hid (HIq.out.growAll hg9 hown9 hat9)
            have hb9 : Below w.heap.size w w9 := HI9.out.below
            obtain ⟨A9, c9, rfl, _, _⟩ := own_form HI9.out.all
            obtain ⟨D, hD⟩ : ∃ D, (ds ++ r).length = D := ⟨_, rfl⟩
            have hD2 : ds.length + r.length = D := by rw [← hD, List.length_append]
            have HA9 := Lib.hid (HA.out.below hb9)
            obtain ⟨z0, z1, z2, z3, z4, z5, z6, z7, z8⟩ := HA9.out.atI HP.out
            have HSrc := Lib.hid (src_op w9 o (.slice OA o.val.length oc))
            have HI10 := Lib.hid (HI9.out.adv ((Below.refl _ _).alloc (Nat.le_refl _) (.cells (opc o (.slice OA o.val.length oc)) 43)))
            have HD2 := Lib.hid hD2
            have HD := Lib.hid hD
            rw [hD]
            have hpwl : pw.length ≤ m := by
              have h1 := HPm.out.cnt
              have h2 := HI.out.rep.elen
              have h3 := congrArg List.length HPm.out.same
              simp at h3; omega
            have HPw := Lib.hid hpwl
            have HEs := Lib.hid HPm.out.cnt
            unfold opc at HSrc HI10
            clear hown9 hg9 hat9 hb9 hD hD2 hpwl
            go_wp2_with (at_builtin; first
              | (refine wpList_append_src _ rfl _ _ _ rfl w.heap.size 43 i1 _ 9 96 Tryd.underlying25 hi1 hy0 hy1 hy2 rfl (by decide) _ pw.length (ocs pw) rfl HI10.out.ops (some ⟨w9.heap.size, 0, none⟩) 1 1 (opcs o (.slice OA o.val.length oc)) rfl HSrc.out (opcs_one _ _ _ _) (by have := HPw.out; unfold maxLen; omega) (by have := HPw.out; omega) HI10.out.below.size ?_; intro v10 w10 hown10 hg10 hat10; have HI11 := Lib.hid (HI10.out.growOps hg10 hown10 hat10); have HI12 := Lib.hid (HI11.out.adv ((Below.refl _ _).alloc (Nat.le_refl _) (.cells #[.int .i64 (D : Int)] 3))); clear hown10 hg10 hat10)
              | (refine wpList_append_src _ rfl _ _ _ rfl w.heap.size 3 i2 _ 1 8 Tryd.underlying29 hi2 hx0 hx1 hx2 rfl (by decide) _ es.length (ncs es) rfl HI12.out.ends (some ⟨w10.heap.size, 0, none⟩) 1 1 [.int .i64 (D : Int)] rfl (src_cell w10 _ _) (int_one _) (by have := HEs.out; unfold maxLen; omega) (by have := HEs.out; omega) HI12.out.below.size ?_; intro v13 w13 hown13 hg13 hat13; have HI13 := Lib.hid (HI12.out.growEnds hg13 hown13 hat13); clear hown13 hg13 hat13))
            have HI14 : Hid (FlI w w13 v10 v13 (.slice A9 D c9) d2 e2 o2 (ds ++ r) (es ++ [ds.length + r.length]) (pw ++ [(o, .slice OA o.val.length oc)]) (ds ++ r) (es ++ [ds.length + r.length]) (pj ++ [(o, V')])) := by
              have := HI13
              rw [HD2.out]
              rw [HD.out, HD2.out] at this
              exact this
            go_roundw
            case rel => exact ⟨m + 1, _, _, _, _, _, _, _, by omega, by go_num, rfl, HI14.out, HPq.out⟩
            case measure => simp [intOf]; omega
    · obtain rfl : m = n := by omega
      have HI := Lib.hid hI
      have HPm := Lib.hid hP
      obtain ⟨D, hD⟩ : ∃ D, ds.length = D := ⟨_, rfl⟩
      have HDd := Lib.hid hD
      rw [hD]
      have HS0 : Hid (Fl25 w W0 (.slice A6 pw.length c6) (.slice A7 es.length c7) (.slice A8 D c8) dv ev ov ds es pw pj) := Lib.hid (hD ▸ hI)
      clear hI hP hD
      go_upto_region 25 with fail
      refine wp_region_noPanic ?_
      refine wp_region_held_drew (S := fun W => Fl25 w W (.slice A6 pw.length c6) (.slice A7 es.length c7) (.slice A8 D c8) dv ev ov ds es pw pj) (by kernel_rfl) (FlI.adv HS0.out (Below.refl _ _).drew) (fun hHeld => ?_)
      refine wpAnyH_take (i := 0) (oi := ⟨_, _, _, _, _, _⟩) (v := ?_) rfl (by kernel_rfl) (by kernel_rfl) (by kernel_rfl) (fun _ _ _ h => h) (Or.inl ⟨by rfl, ?_⟩) (by assumption) ?_
      rotate_left 1
      · intro W hSw
        have c1 := (Bts.of_own (FlI.all hSw) 0).string (P := Tryd.prog) 22 9 Tryd.underlying22 Tryd.underlying5 Tryd.underlying9
        clear hSw
        go_simp
        try with_reducible rfl
      try simp only [Act.put, List.setIfInBounds_toArray, List.set_cons_zero, List.set_cons_succ]
      refine wpAnyH_take (i := 3) (oi := ⟨_, _, _, _, _, _⟩) (v := ?_) rfl (by kernel_rfl) (by kernel_rfl) (by kernel_rfl) (fun _ _ _ h => h) (Or.inl ⟨by rfl, ?_⟩) (by assumption) ?_
      rotate_left 1
      · intro W hSw
        have c1 := (Bts.of_own (FlI.all hSw) 0).string (P := Tryd.prog) 22 9 Tryd.underlying22 Tryd.underlying5 Tryd.underlying9
        clear hSw
        go_simp
        try with_reducible rfl
      try simp only [Act.put, List.setIfInBounds_toArray, List.set_cons_zero, List.set_cons_succ]
      refine wpAnyH_take (i := 4) (oi := ⟨_, _, _, _, _, _⟩) (v := ?_) rfl (by kernel_rfl) (by kernel_rfl) (by kernel_rfl) (fun _ _ _ h => h) (Or.inl ⟨by rfl, ?_⟩) (by assumption) ?_
      rotate_left 1
      · intro W hSw
        have c1 := (Bts.of_own (FlI.all hSw) 0).string (P := Tryd.prog) 22 9 Tryd.underlying22 Tryd.underlying5 Tryd.underlying9
        clear hSw
        go_simp
        try with_reducible rfl
      try simp only [Act.put, List.setIfInBounds_toArray, List.set_cons_zero, List.set_cons_succ]
      refine wpAnyH_ready (rs := [1]) (by kernel_rfl) (by simp) ?_
      refine AllReadyH.cons (o := ⟨_, _, _, _, _, _⟩) rfl (fun F hF => ?_) AllReadyH.nil
      go_simp
      refine (jBytes_any _ _ _ _ _ _ _ _ _ (FlI.rep hHeld)).mono ?_
      rintro e w9 ⟨v9, rfl, ho9, hb9⟩
      have HS9 : Hid (Fl25 w w9 (.slice A6 pw.length c6) (.slice A7 es.length c7) (.slice A8 D c8) dv ev ov ds es pw pj) := Lib.hid (FlI.adv hHeld hb9)
      obtain ⟨A9, c9, rfl, _, _⟩ := own_form ho9
      obtain ⟨base9, hbase9⟩ : ∃ n, (World.drew W0).heap.size = n := ⟨_, rfl⟩
      rw [hbase9] at ho9
      have HO9 := Lib.hid ho9
      clear hb9 ho9 hHeld hbase9
      go_wp2_with fail
      refine hF.out _ _ HS9.out (fun hHeld => ?_)
      clear hF F
      try simp only [Act.put, List.setIfInBounds_toArray, List.set_cons_zero, List.set_cons_succ]
      refine wpAnyH_weaken (S2 := fun W => Fl25 w W (.slice A6 pw.length c6) (.slice A7 es.length c7) (.slice A8 D c8) dv ev ov ds es pw pj ∧ W.ownsRow base9 5 1 (.slice A9 ds.length c9) ds.length (bcells ds)) (fun W h => h.1) _ _ _ _ ?_
      have hHeld2 : Fl25 w w9 (.slice A6 pw.length c6) (.slice A7 es.length c7) (.slice A8 D c8) dv ev ov ds es pw pj ∧ w9.ownsRow base9 5 1 (.slice A9 ds.length c9) ds.length (bcells ds) := ⟨hHeld, HO9.out⟩
      refine wpAnyH_take (i := 2) (oi := ⟨_, _, _, _, _, _⟩) (v := ?_) rfl (by kernel_rfl) (by kernel_rfl) (by kernel_rfl) (fun _ _ _ h => h) (Or.inl ⟨by rfl, ?_⟩) (by assumption) ?_
      rotate_left 1
      · intro W hSw
        have cb := (Bts.of_own hSw.2 0).string (P := Tryd.prog) 22 9 Tryd.underlying22 Tryd.underlying5 Tryd.underlying9
        clear hSw
        go_simp
        try with_reducible rfl
      try simp only [Act.put, List.setIfInBounds_toArray, List.set_cons_zero, List.set_cons_succ]
      refine wpAnyH_take (i := 5) (oi := ⟨_, _, _, _, _, _⟩) (v := ?_) rfl (by kernel_rfl) (by kernel_rfl) (by kernel_rfl) (fun _ _ _ h => h) (Or.inl ⟨by rfl, ?_⟩) (by assumption) ?_
      rotate_left 1
      · intro W hSw
        have cb := (Bts.of_own hSw.2 0).string (P := Tryd.prog) 22 9 Tryd.underlying22 Tryd.underlying5 Tryd.underlying9
        clear hSw
        go_simp
        try with_reducible rfl
      try simp only [Act.put, List.setIfInBounds_toArray, List.set_cons_zero, List.set_cons_succ]
      refine wpAnyH_take (i := 6) (oi := ⟨_, _, _, _, _, _⟩) (v := ?_) rfl (by kernel_rfl) (by kernel_rfl) (by kernel_rfl) (fun _ _ _ h => h) (Or.inl ⟨by rfl, ?_⟩) (by assumption) ?_
      rotate_left 1
      · intro W hSw
        have cb := (Bts.of_own hSw.2 0).string (P := Tryd.prog) 22 9 Tryd.underlying22 Tryd.underlying5 Tryd.underlying9
        clear hSw
        go_simp
        try with_reducible rfl
      try simp only [Act.put, List.setIfInBounds_toArray, List.set_cons_zero, List.set_cons_succ]
      refine wpAnyH_take (i := 7) (oi := ⟨_, _, _, _, _, _⟩) (v := ?_) rfl (by kernel_rfl) (by kernel_rfl) (by kernel_rfl) (fun _ _ _ h => h) (Or.inl ⟨by rfl, ?_⟩) (by assumption) ?_
      rotate_left 1
      · intro W hSw
        have cb := (Bts.of_own hSw.2 0).string (P := Tryd.prog) 22 9 Tryd.underlying22 Tryd.underlying5 Tryd.underlying9
        clear hSw
        go_simp
        try with_reducible rfl
      try simp only [Act.put, List.setIfInBounds_toArray, List.set_cons_zero, List.set_cons_succ]
      refine wpAnyH_take (i := 9) (oi := ⟨_, _, _, _, _, _⟩) (v := ?_) rfl (by kernel_rfl) (by kernel_rfl) (by kernel_rfl) (fun _ _ _ h => h) (Or.inl ⟨by rfl, ?_⟩) (by assumption) ?_
      rotate_left 1
      · intro W hSw
        have cb := (Bts.of_own hSw.2 0).string (P := Tryd.prog) 22 9 Tryd.underlying22 Tryd.underlying5 Tryd.underlying9
        clear hSw
        go_simp
        try with_reducible rfl
      try simp only [Act.put, List.setIfInBounds_toArray, List.set_cons_zero, List.set_cons_succ]
      refine wpAnyH_ready (rs := [8]) (by kernel_rfl) (by simp) ?_
      refine AllReadyH.cons (o := ⟨_, _, _, _, _, _⟩) rfl (fun F hF => ?_) AllReadyH.nil
      go_simp
      refine (jSum_any _ _ _ _ _ _ _ _ _ (FlI.rep hHeld2.1)).mono ?_
      rintro e w10 ⟨rfl, hb10⟩
      have HS10 : Hid (Fl25 w w10 (.slice A6 pw.length c6) (.slice A7 es.length c7) (.slice A8 D c8) dv ev ov ds es pw pj ∧ w10.ownsRow base9 5 1 (.slice A9 ds.length c9) ds.length (bcells ds)) := Lib.hid ⟨FlI.adv hHeld2.1 hb10, own_later hHeld2.2 hb10⟩
      clear hb10 hHeld hHeld2 HS9 HO9
      go_wp2_with fail
      refine hF.out _ _ HS10.out (fun hHeld2 => ?_)
      clear hF F
      try simp only [Act.put, List.setIfInBounds_toArray, List.set_cons_zero, List.set_cons_succ]
      refine wpAnyH_take (i := 10) (oi := ⟨_, _, _, _, _, _⟩) (v := ?_) rfl (by kernel_rfl) (by kernel_rfl) (by kernel_rfl) (fun _ _ _ h => h) (Or.inl ⟨by rfl, ?_⟩) (by assumption) ?_
      rotate_left 1
      · intro W hSw
        have cb := (Bts.of_own hSw.2 0).string (P := Tryd.prog) 22 9 Tryd.underlying22 Tryd.underlying5 Tryd.underlying9
        clear hSw
        go_simp
        try with_reducible rfl
      try simp only [Act.put, List.setIfInBounds_toArray, List.set_cons_zero, List.set_cons_succ]
      refine wpAnyH_take (i := 11) (oi := ⟨_, _, _, _, _, _⟩) (v := ?_) rfl (by kernel_rfl) (by kernel_rfl) (by kernel_rfl) (fun _ _ _ h => h) (Or.inl ⟨by rfl, ?_⟩) (by assumption) ?_
      rotate_left 1
      · intro W hSw
        have cb := (Bts.of_own hSw.2 0).string (P := Tryd.prog) 22 9 Tryd.underlying22 Tryd.underlying5 Tryd.underlying9
        clear hSw
        go_simp
        try with_reducible rfl
      try simp only [Act.put, List.setIfInBounds_toArray, List.set_cons_zero, List.set_cons_succ]
      refine wpAnyH_done (by kernel_rfl) ?_ _
      refine NoPanic.normal ?_
      have HE := Lib.hid hHeld2.1
      clear hHeld2 HS10 HI
      go_wp2_with fail
      go_ret3
      exact ⟨_, _, _, dv, ev, ov, ds, es, pw, pj, rfl, HE.out, HPm.out⟩

end Go.Proofs.YtffigmciclopdaaDoor
