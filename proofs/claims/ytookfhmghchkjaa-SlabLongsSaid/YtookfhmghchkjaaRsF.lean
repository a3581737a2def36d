/- The reference's arena's Put (layer 13): a new cell. -/
import Derived.Test.YtookfhmghchkjaaRsE
namespace Go.Proofs.Ytookfhmghchkjaa
open Go Go.RowKit
attribute [local go_sem ↓] Go.wp_at_zero Go.wp_at_succ

set_option maxRecDepth 100000 in
set_option maxHeartbeats 4000000 in
theorem refPut_new {V0 : Nat} (B : Nat) (most : Int) (cv bv uv fv v : Value) (bs : List UInt8) (ks : List (Int × Int)) (vs : List (List UInt8 × Value)) (us : List Bool) (fr : List (Int × Int)) (w : World) (h : RRep w B cv bv uv fv ks vs us fr) (hv : Bts w V0 5 v bs) (hl : bs.length ≤ 65536)
    (hn : ks.length ≤ 1000 ∧ us.length = ks.length ∧ vs.length = ks.length ∧ fr.length ≤ 1000) (hK : ∀ k ∈ ks, 0 ≤ k.1 ∧ k.1 < 13) (hB : ∀ x ∈ vs, x.1.length ≤ 65536) (k : Nat) (hk : classN bs.length = k) (hfr : fFr k fr = []) (hfull : (fAll ks : Int) + (csize k : Int) ≤ most) (hm : 0 ≤ most ∧ most ≤ 1099511627776) :
    Calls Try.prog 35 #[.agg #[.int .i64 most, cv, bv, uv, fv], v] w (RRes w most (ks ++ [((k : Int), (cntK k ks : Int))]) (vs.map Prod.fst ++ [bs]) (us ++ [true]) fr (fun a => .tuple #[a, .agg #[.int .i64 k, .int .i64 (cntK k ks)], .int .i64 0])) := by
  have HN := Lib.hid hn
  have HK := Lib.hid hK
  have HB := Lib.hid hB
  have HFR := Lib.hid hfr
  have HL := Lib.hid hl
  have hk13 : k < 13 := by have := classN_le hl; omega
  have hcs := csize_le hk13
  have hall : fAll ks ≤ 65536000 := Nat.le_trans (sum_bound (c := 65536) (fun x hx => (csize_le (k := x.1.toNat) (by have := HK.out x hx; omega)).2)) (by have := HN.out.1; omega)
  have hcl := refClass_ok bs.length hl
  rw [hk] at hcl
  have HCL := Lib.hid hcl
  obtain ⟨i1, hi, hy0, hy1, hy2⟩ := info_parts cellR_info
  have HJ1 := Lib.hid hi
  have HY10 := Lib.hid hy0
  have HY11 := Lib.hid hy1
  have HY12 := Lib.hid hy2
  clear hi hy0 hy1 hy2
  obtain ⟨i2, hi, hy0, hy1, hy2⟩ := info_parts boolR_info
  have HJ2 := Lib.hid hi
  have HY20 := Lib.hid hy0
  have HY21 := Lib.hid hy1
  have HY22 := Lib.hid hy2
  clear hi hy0 hy1 hy2
  obtain ⟨i3, hi, hy0, hy1, hy2⟩ := info_parts bytsR_info
  have HJ3 := Lib.hid hi
  have HY30 := Lib.hid hy0
  have HY31 := Lib.hid hy1
  have HY32 := Lib.hid hy2
  clear hi hy0 hy1 hy2
  obtain ⟨i4, hi, hy0, hy1, hy2⟩ := info_parts u8_info
  have HJ4 := Lib.hid hi
  have HY40 := Lib.hid hy0
  have HY41 := Lib.hid hy1
  have HY42 := Lib.hid hy2
  clear hi hy0 hy1 hy2
  clear hn hK hB hfr hcl hk hl
  obtain ⟨CA, cc, rfl, hc1, _⟩ := own_form h.cells
  obtain ⟨BA, bc, rfl, hb1, _⟩ := own_form h.bytes
  obtain ⟨UA, uc, rfl, hu1, _⟩ := own_form h.used
  obtain ⟨FA, fc, rfl, hf1, _⟩ := own_form h.free
  obtain ⟨VA, vc, rfl⟩ := hv.form
  obtain ⟨w1, hw1⟩ : ∃ w1, ((w.alloc (.cells #[.int .i64 most, .slice CA ks.length cc, .slice BA vs.length bc, .slice UA us.length uc, .slice FA fr.length fc] 55)).alloc (.cells #[.int .i64 0, .slice none 0 0, .slice none 0 0, .slice none 0 0, .slice none 0 0] 55)).alloc (.cells #[.int .i64 0, .int .i64 0] 38) = w1 := ⟨_, rfl⟩
  obtain ⟨k1, k2, k3, k4, k5, k6⟩ := putbox_new w B most _ _ _ _ ks vs us fr h w1 hw1
  have K1 := Lib.hid k1
  have K2 := Lib.hid k2
  have K3 := Lib.hid k3
  have K4 := Lib.hid k4
  have K5 := Lib.hid k5
  have K6 := Lib.hid k6
  have HR := Lib.hid h
  have HV := Lib.hid hv
  have HW := Lib.hid hw1
  clear h hv hw1 k1 k2 k3 k4 k5 k6
  have x0 : w1.cell? ⟨w.heap.size, 0, none⟩ = some (.int .i64 most) := K1.out.cell 0 _ rfl
  have x1 : w1.cell? ⟨w.heap.size, 1, none⟩ = some (.slice CA ks.length cc) := K1.out.cell 1 _ rfl
  have x2 : w1.cell? ⟨w.heap.size, 2, none⟩ = some (.slice BA vs.length bc) := K1.out.cell 2 _ rfl
  have x3 : w1.cell? ⟨w.heap.size, 3, none⟩ = some (.slice UA us.length uc) := K1.out.cell 3 _ rfl
  have x4 : w1.cell? ⟨w.heap.size, 4, none⟩ = some (.slice FA fr.length fc) := K1.out.cell 4 _ rfl
  go_enter Try.func35, Try.ntmps35
  go_upto_region 1 with fail
  rw [HW.out]
  clear HW
  go_wp2_with fail
  refine (HCL.out _).mono ?_
  rintro e w2 ⟨rfl, rfl⟩
  go_wp2_with fail
  refine (refACopy_any B most _ _ _ _ ks vs us fr _ K5.out ⟨HN.out.1, by have := HN.out; omega, HN.out.2.2.2, by have := HN.out; omega⟩ HB.out).mono ?_
  rintro e w3 ⟨cv', bv', uv', fv', vs', rfl, hr3, hm3, hf3, hb3⟩
  obtain ⟨C2, cc2, rfl, _, _⟩ := own_form hr3.cells
  obtain ⟨B2, bc2, rfl, _, _⟩ := own_form hr3.bytes
  obtain ⟨U2, uc2, rfl, _, _⟩ := own_form hr3.used
  obtain ⟨F2, fc2, rfl, _, _⟩ := own_form hr3.free
  have HM3 := Lib.hid hm3
  have hba : Below w2.heap.size w2 (w3.alloc (.cells #[.int .i64 most, .slice C2 ks.length cc2, .slice B2 vs'.length bc2, .slice U2 us.length uc2, .slice F2 fr.length fc2] 55)) := hb3.trans ((Below.refl _ _).alloc hb3.size _)
  have hpa : PA w (w3.alloc (.cells #[.int .i64 most, .slice C2 ks.length cc2, .slice B2 vs'.length bc2, .slice U2 us.length uc2, .slice F2 fr.length fc2] 55)) B (w.heap.size + 3) w.heap.size (w.heap.size + 1) (w.heap.size + 1 + 1) w3.heap.size (.int .i64 0) (.int .i64 0) most (.slice CA ks.length cc) (.slice BA vs.length bc) (.slice UA us.length uc) (.slice FA fr.length fc) ks vs us fr (.slice C2 ks.length cc2) (.slice B2 vs'.length bc2) (.slice U2 us.length uc2) (.slice F2 fr.length fc2) ks vs' us fr :=
    ⟨K5.out.below hba, K1.out.below hba, K2.out.below hba, K3.out.below hba, OInv.of_rep (hr3.base (by rw [K6.out]; exact Nat.le_refl _)) most, by have := hb3.size; rw [K6.out] at this; omega, K4.out.trans (hba.mono K4.out.size), by have := hba.size; rw [K6.out] at this; omega, by omega, by omega, by omega, fun x hx k hk => by have := hf3 x hx k hk; rw [K6.out] at this; omega⟩
  have HPa := Lib.hid hpa
  clear x0 x1 x2 x3 x4 hpa hba hm3
  have x0 : World.cell? w3 ⟨w.heap.size, 0, none⟩ = some (.int .i64 most) := ((K1.out.below hb3)).cell 0 _ rfl
  have x1 : World.cell? w3 ⟨w.heap.size, 1, none⟩ = some (.slice CA ks.length cc) := ((K1.out.below hb3)).cell 1 _ rfl
  have x2 : World.cell? w3 ⟨w.heap.size, 2, none⟩ = some (.slice BA vs.length bc) := ((K1.out.below hb3)).cell 2 _ rfl
  have x3 : World.cell? w3 ⟨w.heap.size, 3, none⟩ = some (.slice UA us.length uc) := ((K1.out.below hb3)).cell 3 _ rfl
  have x4 : World.cell? w3 ⟨w.heap.size, 4, none⟩ = some (.slice FA fr.length fc) := ((K1.out.below hb3)).cell 4 _ rfl
  have hs0 : w.heap.size < w3.heap.size := (K1.out.below hb3).lt
  have hs1 : w.heap.size + 1 < w3.heap.size := (K2.out.below hb3).lt
  have hs2 : w.heap.size + 1 + 1 < w3.heap.size := (K3.out.below hb3).lt
  clear hr3 hf3 hb3 K1 K2 K3 K4 K5 K6
  go_upto_region 5 with fail
  obtain ⟨w4, hw4⟩ : ∃ w4, w3.alloc (.cells #[.int .i64 most, .slice C2 ks.length cc2, .slice B2 vs'.length bc2, .slice U2 us.length uc2, .slice F2 fr.length fc2] 55) = w4 := ⟨_, rfl⟩
  rw [hw4] at HPa ⊢
  clear hw4 hs0 hs1 hs2 x0 x1 x2 x3 x4
  obtain ⟨g, hg⟩ : ∃ g, w3.heap.size = g := ⟨_, rfl⟩
  rw [hg] at HPa ⊢
  clear hg
  have x0 : World.cell? w4 ⟨w.heap.size, 0, none⟩ = some (.int .i64 most) := (HPa.out.b1).cell 0 _ rfl
  have x1 : World.cell? w4 ⟨w.heap.size, 1, none⟩ = some (.slice CA ks.length cc) := (HPa.out.b1).cell 1 _ rfl
  have x2 : World.cell? w4 ⟨w.heap.size, 2, none⟩ = some (.slice BA vs.length bc) := (HPa.out.b1).cell 2 _ rfl
  have x3 : World.cell? w4 ⟨w.heap.size, 3, none⟩ = some (.slice UA us.length uc) := (HPa.out.b1).cell 3 _ rfl
  have x4 : World.cell? w4 ⟨w.heap.size, 4, none⟩ = some (.slice FA fr.length fc) := (HPa.out.b1).cell 4 _ rfl
  go_wp2_with fail
  refine (refFrees_any B most k _ _ _ _ ks vs us fr _ HPa.out.src HN.out.2.2.2).mono ?_
  rw [HFR.out]
  rintro e w5 ⟨lv, rfl, hlv, hb5⟩
  obtain ⟨LA, lc, rfl, _, _⟩ := own_form hlv
  have HP5 := Lib.hid (HPa.out.adv hb5)
  clear hlv hb5 x0 x1 x2 x3 x4 HPa
  have x0 : World.cell? w5 ⟨w.heap.size, 0, none⟩ = some (.int .i64 most) := (HP5.out.b1).cell 0 _ rfl
  have x1 : World.cell? w5 ⟨w.heap.size, 1, none⟩ = some (.slice CA ks.length cc) := (HP5.out.b1).cell 1 _ rfl
  have x2 : World.cell? w5 ⟨w.heap.size, 2, none⟩ = some (.slice BA vs.length bc) := (HP5.out.b1).cell 2 _ rfl
  have x3 : World.cell? w5 ⟨w.heap.size, 3, none⟩ = some (.slice UA us.length uc) := (HP5.out.b1).cell 3 _ rfl
  have x4 : World.cell? w5 ⟨w.heap.size, 4, none⟩ = some (.slice FA fr.length fc) := (HP5.out.b1).cell 4 _ rfl
  go_wp2_with fail
  refine (refSums_any B most _ _ _ _ ks vs us fr _ HP5.out.src HN.out.2.1 HN.out.2.2.1 HN.out.1 HK.out HB.out).mono ?_
  rintro e w6 ⟨rfl, hb6⟩
  have HP6 := Lib.hid (HP5.out.adv hb6)
  clear hb6 x0 x1 x2 x3 x4 HP5
  have x0 : w6.cell? ⟨w.heap.size, 0, none⟩ = some (.int .i64 most) := HP6.out.b1.cell 0 _ rfl
  have hwr : IntKind.i64.wrap ((fAll ks : Int) + (csize k : Int)) = (fAll ks : Int) + (csize k : Int) := IntWalk.i64_in _ (by omega)
  have hgt : decide ((fAll ks : Int) + (csize k : Int) > most) = false := by simpa using hfull
  go_wp2_with fail
  go_quiet ((go_at_call 12; refine Calls.quiet_of_same (refSize_any k (by omega) _)))
  have HP7 := Lib.hid (HP6.out.drewN nq)
  clear x0 hgt hwr HP6
  generalize w6.drewN nq = w7 at HP7 ⊢
  go_upto_region 25 with fail
  obtain ⟨w8, hw8⟩ : ∃ w8, w7.alloc (.cells #[.int .i64 k, .int .i64 0] 38) = w8 := ⟨_, rfl⟩
  have HP8 := Lib.hid (hw8 ▸ HP7.out.alloc (.cells #[.int .i64 k, .int .i64 0] 38))
  have HX8 : Hid (Blk w8 w7.heap.size 38 #[.int .i64 k, .int .i64 0]) := Lib.hid (hw8 ▸ Blk.new _ _ _)
  have HnC : Hid ((Value.slice C2 ks.length cc2).ownBlock ≠ some w7.heap.size) := Lib.hid (fun e => by
    obtain ⟨_, cur, h2⟩ := row_blockS HP7.out.out.rep.cells e
    have := lt_of_heap h2
    omega)
  have HnF : Hid ((Value.slice F2 fr.length fc2).ownBlock ≠ some w7.heap.size) := Lib.hid (fun e => by
    obtain ⟨_, cur, h2⟩ := row_blockS HP7.out.out.rep.free e
    have := lt_of_heap h2
    omega)
  have hmx := HP7.out.size
  rw [hw8]
  clear hw8 HP7
  obtain ⟨x, hx⟩ : ∃ x, w7.heap.size = x := ⟨_, rfl⟩
  rw [hx] at HX8 HnC HnF hmx ⊢
  clear hx
  go_wp2_with fail
  go_loopw [18] (fun i wr => ∃ (j : Nat), j ≤ ks.length ∧ i = .int .i64 j ∧ Only (fun i => i = x) w8 wr ∧ Blk wr x 38 #[.int .i64 k, .int .i64 (cntK k (ks.take j))]) (fun i _ => ks.length - (intOf i).toNat)
  case atStart => exact ⟨0, by omega, rfl, Only.refl _ _, HX8.out⟩
  case round =>
    obtain ⟨j, hj, rfl, ho, hb⟩ := hrel
    have HPr := Lib.hid (PA.offcell HR.out HP8.out HX8.out hmx ho HnC.out HnF.out)
    have HO := Lib.hid ho
    have HXr := Lib.hid hb
    clear ho hb
    have x1 : wr.cell? ⟨w.heap.size, 1, none⟩ = some (.slice CA ks.length cc) := HPr.out.b1.cell 1 _ rfl
    have hcn := cntK_le k (ks.take j)
    rw [List.length_take] at hcn
    have hnn := HN.out.1
    by_cases hjl : j < ks.length
    · obtain ⟨⟨K, N⟩, hkk⟩ : ∃ x, ks[j]? = some x := ⟨_, List.getElem?_eq_getElem hjl⟩
      obtain ⟨gc, cap, e1, _, hcc, _, c0, _⟩ := kread HPr.out.src.cells hkk
      injection e1 with e1 el e4
      clear el
      subst e1 e4
      have hjI : (j : Int) < (ks.length : Int) := by omega
      have hcI : (ks.length : Int) ≤ (cc : Int) := by omega
      have hj1 : (j : Int) ≤ 1000 := by omega
      have HCt := Lib.hid (cntK_take (k := k) hkk)
      have hcnI : (cntK k (ks.take j) : Int) ≤ 1000 := by omega
      have hx0 := HXr.out.cell 1 _ rfl
      have hxf := HXr.out.frozen
      have hxl := HXr.out.lt
      clear hkk
      obtain ⟨cn, hcne⟩ : ∃ cn, cntK k (ks.take j) = cn := ⟨_, rfl⟩
      rw [hcne] at hx0 hcnI hcn HXr HCt
      clear hcne
      by_cases hK : K = (k : Int)
      · subst hK
        go_wp2_with fail
        go_roundw
        case rel => exact ⟨j + 1, by omega, by go_num, HO.out.setCell (p := ⟨x, 1, none⟩) (.inl rfl) _, by rw [HCt.out, if_pos rfl]; exact HXr.out.set_ 1 _⟩
        case measure => simp [intOf]; omega
      · have hd : (K == (k : Int)) = false := by simpa using hK
        go_wp2_with fail
        go_roundw
        case rel => exact ⟨j + 1, by omega, by go_num, HO.out, by rw [HCt.out, if_neg hK]; exact HXr.out⟩
        case measure => simp [intOf]; omega
    · obtain rfl : j = ks.length := by omega
      rw [List.take_length] at HXr hcn
      obtain ⟨cn, hcne⟩ : ∃ cn, cntK k ks = cn := ⟨_, rfl⟩
      rw [hcne] at HXr hcn
      have HCN := Lib.hid hcne
      clear hcne
      have h0 := HXr.out.cell 0 _ rfl
      have h1 := HXr.out.cell 1 _ rfl
      have o1 : wr.cell? ⟨g, 1, none⟩ = some (.slice C2 ks.length cc2) := HPr.out.out.out.cell 1 _ rfl
      have hnj : ¬ (ks.length : Int) < (ks.length : Int) := by omega
      clear HP8 HX8 HO
      go_upto_region 31 with (at_builtin; refine wpList_append_src _ rfl _ _ _ rfl (w.heap.size + 3) 38 i1 _ 2 16 Try.underlying51 HJ1.out HY10.out HY11.out HY12.out rfl (by decide) _ _ _ rfl (HPr.out.alloc _).out.rep.cells (some ⟨wr.heap.size, 0, none⟩) 1 1 [.int .i64 k, .int .i64 cn] rfl (src_twoS (Blk.new _ _ _)) (by simp [Value.oneCell']) (by unfold maxLen; omega) (by omega) (by have := HPr.out.size; simp; omega) ?_; intro v4 w9 hown4 hg4 hat4; have HO4 := Lib.hid hown4; have HG4 := Lib.hid hg4; have HA4 := Lib.hid hat4; have bo := ((HPr.out.alloc _).out.out).grown hg4 (fun e => HPr.out.out.off HPr.out.out.rep.cells (by decide) e.symm); have hf4 := bo.frozen; have ho4 : w9.cell? ⟨g, 1, none⟩ = some (.slice C2 ks.length cc2) := bo.cell 1 _ rfl; have hz4 := bo.lt; obtain ⟨A4, c4, rfl, hy1, hy2⟩ := own_form hown4; clear hy1 hy2 hown4 hg4 hat4 bo)
      have HP9 := Lib.hid (PA.pushC HR.out (HPr.out.alloc _) HG4.out HO4.out HA4.out)
      have HX9 : Hid (Blk (w9.setCell ⟨g, 1, none⟩ (.slice A4 (ks.length + 1) c4)) x 38 #[.int .i64 k, .int .i64 cn]) := Lib.hid (((HXr.out.alloc _).grown HG4.out (fun e => HnC.out e.symm)).far (p := ⟨g, 1, none⟩) (fun e => (HPr.out.out.out.ne_ (e ▸ HXr.out) (by decide)) rfl) _)
      generalize World.setCell _ _ _ = w10 at HP9 HX9 ⊢
      clear HPr HXr ho4 hf4 hz4 o1 h0 h1 HG4 HO4 HA4 x1
      have hvl : vs'.length ≤ 1000 := by have := congrArg List.length HM3.out; simp at this; have := HN.out.2.2.1; omega
      have HVL := Lib.hid hvl
      have HV9 := Lib.hid (HV.out.below HP9.out.below)
      clear hvl
      go_cut [141] (fun _ wc => ∃ (vN b3 : Value), PA w wc B (w.heap.size + 3) w.heap.size (w.heap.size + 1) (w.heap.size + 1 + 1) g (.int .i64 0) (.int .i64 0) most (.slice CA ks.length cc) (.slice BA vs.length bc) (.slice UA us.length uc) (.slice FA fr.length fc) ks vs us fr (.slice A4 (ks.length + 1) c4) b3 (.slice U2 us.length uc2) (.slice F2 fr.length fc2) (ks ++ [((k : Int), (cn : Int))]) (vs' ++ [(bs, vN)]) us fr ∧ Blk wc x 38 #[.int .i64 k, .int .i64 cn])
      case first =>
        have o2 : w10.cell? ⟨g, 2, none⟩ = some (.slice B2 vs'.length bc2) := HP9.out.out.out.cell 2 _ rfl
        have hzl := HP9.out.out.out.lt
        go_region_law
          (first
            | (refine step_append_dstS 138 (by rfl) (by rfl) _ _ _ (by rfl) (w.heap.size + 3) 5 i4 _ 1 1 Try.underlying39 HJ4.out HY40.out HY41.out HY42.out rfl (by decide) _ 0 [] (by rfl) (World.ownsRow_nil _ _ _ _) _ bs.length _ (bcells bs) (by rfl) (Bts.src_at HV9.out.drew).2 (bcells_one bs) (by have := HL.out; unfold maxLen; omega) (by have := HL.out; omega) HP9.out.drew.size ?_
               intro vN wN hownN hgN hatN
               have hbl := below_grown hgN
               have HP9 := Lib.hid (HP9.out.drew.adv hbl)
               have HX9 : Hid (Blk wN x _ _) := Lib.hid (HX9.out.drew.below hbl)
               have HoN : Hid (wN.ownsRow (w.heap.size + 3) 5 1 vN bs.length (bcells bs)) := Lib.hid (by simpa using hownN)
               have o2 : wN.cell? ⟨g, 2, none⟩ = some (.slice B2 vs'.length bc2) := HP9.out.out.out.cell 2 _ rfl
               have hzl := HP9.out.out.out.lt
               obtain ⟨AN, cN, rfl, _, _⟩ := own_form HoN.out
               clear hbl hownN hgN hatN)
            | (refine step_append_dstS 140 (by rfl) (by rfl) _ _ _ (by rfl) (w.heap.size + 3) 39 i3 _ 1 24 Try.underlying52 HJ3.out HY30.out HY31.out HY32.out rfl (by decide) _ vs'.length (vcs vs') (by rfl) ((HP9.out.alloc _).out.rep.bytes) (some ⟨_, 0, none⟩) 1 1 [.slice AN bs.length cN] (by rfl) (src_oneS (t := 39) (Blk.new _ _ _)) (by simp [Value.oneCell']) (by have := HVL.out; unfold maxLen; omega) (by have := HVL.out; omega) (by have := HP9.out.size; simp; omega) ?_
               intro v3 w3 hown3 hg3 hat3
               have HO3 := Lib.hid hown3
               have HG3 := Lib.hid hg3
               have bo := ((HP9.out.alloc _).out.out).grown hg3 (fun e => by have := HP9.out.out.off HP9.out.out.rep.bytes (by decide); exact this e.symm)
               have o2 : w3.cell? ⟨g, 2, none⟩ = some (.slice B2 vs'.length bc2) := bo.cell 2 _ rfl
               have o4 := bo.frozen
               have hz4 := bo.lt
               obtain ⟨L3, lc3, rfl, _, _⟩ := own_form hown3
               clear bo hown3 hg3 hat3))
        all_goals
          go_wp2_with fail
          go_meet
          exact ⟨_, _, PA.pushB (x := (bs, .slice AN bs.length cN)) HR.out (HP9.out.alloc _) ((Bts.of_own HoN.out 0).alloc _) (fun k hk => by have := (row_blockS HoN.out hk).1; omega) HG3.out HO3.out, ((HX9.out.alloc _).grown HG3.out (fun e => by
            obtain ⟨_, cur, h3⟩ := row_blockS HP9.out.out.rep.bytes e.symm
            exact (HX9.out.ne_ h3 (by decide)) rfl)).far (p := ⟨g, 2, none⟩) (fun e => (HP9.out.out.out.ne_ (e ▸ HX9.out) (by decide)) rfl) _⟩
      case rest =>
        obtain ⟨vN, b3, hpa, hxa⟩ := hcut
        have HP11 := Lib.hid hpa
        have HX11 := Lib.hid hxa
        obtain ⟨B3, bc3, rfl, _, _⟩ := own_form hpa.out.rep.bytes
        have o3 : wc.cell? ⟨g, 3, none⟩ = some (.slice U2 us.length uc2) := hpa.out.out.cell 3 _ rfl
        have hul := HN.out.2.1
        have HUL : Hid (us.length ≤ 1000) := Lib.hid (by omega)
        clear hpa hxa HP9 HX9 HV9 hul
        go_upto_region 33 with (at_builtin; refine wpList_append_src _ rfl _ _ _ rfl (w.heap.size + 3) 4 i2 _ 1 1 Try.underlying53 HJ2.out HY20.out HY21.out HY22.out rfl (by decide) _ _ _ rfl (HP11.out.alloc _).out.rep.used (some ⟨wc.heap.size, 0, none⟩) 1 1 [.bool true] rfl (src_oneS (Blk.new _ _ _)) (by simp [Value.oneCell']) (by have := HUL.out; unfold maxLen; omega) (by have := HUL.out; omega) (by have := HP11.out.size; simp; omega) ?_; intro v4 w12 hown4 hg4 hat4; have HO4 := Lib.hid hown4; have HG4 := Lib.hid hg4; have bo := ((HP11.out.alloc _).out.out).grown hg4 (fun e => HP11.out.out.off HP11.out.out.rep.used (by decide) e.symm); have hf4 := bo.frozen; have ho4 : w12.cell? ⟨g, 3, none⟩ = some (.slice U2 us.length uc2) := bo.cell 3 _ rfl; have hz4 := bo.lt; obtain ⟨A5, c5, rfl, hy1, hy2⟩ := own_form hown4; clear hy1 hy2 hown4 hg4 hat4 bo)
        have HP12 := Lib.hid (PA.pushU (u := true) HR.out (HP11.out.alloc _) HG4.out HO4.out)
        have HX12 : Hid (Blk (w12.setCell ⟨g, 3, none⟩ (.slice A5 (us.length + 1) c5)) x 38 #[.int .i64 k, .int .i64 cn]) := Lib.hid (((HX11.out.alloc _).grown HG4.out (fun e => by
            obtain ⟨_, cur, h3⟩ := row_blockS HP11.out.out.rep.used e.symm
            exact (HX11.out.ne_ h3 (by decide)) rfl)).far (p := ⟨g, 3, none⟩) (fun e => (HP11.out.out.out.ne_ (e ▸ HX11.out) (by decide)) rfl) _)
        generalize World.setCell _ _ _ = w13 at HP12 HX12 ⊢
        clear HP11 HX11 ho4 hf4 hz4 o3 HG4 HO4
        obtain ⟨B3n, hB3n⟩ : ∃ n, (vs' ++ [(bs, vN)]).length = n := ⟨_, rfl⟩
        rw [hB3n] at HP12
        have HM5 : Hid ((vs' ++ [(bs, vN)]).map Prod.fst = vs.map Prod.fst ++ [bs]) := Lib.hid (by rw [List.map_append, HM3.out]; rfl)
        have HCN2 := HCN
        clear hB3n HM3
        have hS7 : w13.cell? ⟨g, 0, none⟩ = some (.int .i64 most) ∧ w13.cell? ⟨g, 1, none⟩ = some (.slice A4 (ks.length + 1) c4) ∧ w13.cell? ⟨g, 2, none⟩ = some (.slice B3 B3n bc3) ∧ w13.cell? ⟨g, 3, none⟩ = some (.slice A5 (us.length + 1) c5) ∧ w13.cell? ⟨g, 4, none⟩ = some (.slice F2 fr.length fc2) ∧ w13.cell? ⟨x, 0, none⟩ = some (.int .i64 k) ∧ w13.cell? ⟨x, 1, none⟩ = some (.int .i64 cn) :=
          ⟨HP12.out.out.out.cell 0 _ rfl, HP12.out.out.out.cell 1 _ rfl, HP12.out.out.out.cell 2 _ rfl, HP12.out.out.out.cell 3 _ rfl, HP12.out.out.out.cell 4 _ rfl, HX12.out.cell 0 _ rfl, HX12.out.cell 1 _ rfl⟩
        have hd1 : ¬ g = w.heap.size + 1 := by have := HP12.out.gpos; omega
        have hd2 : ¬ g = w.heap.size + 1 + 1 := by have := HP12.out.gpos; omega
        have hd3 : ¬ x = w.heap.size + 1 := by omega
        have hd4 : ¬ x = w.heap.size + 1 + 1 := by omega
        have HS7 := Lib.hid hS7
        obtain ⟨s0, s1, s2, s3, s4, s5, s6⟩ := hS7
        have r0 := (HP12.out.b2).cell 0 _ rfl
        have r1 := (HP12.out.b2).cell 1 _ rfl
        have r2 := (HP12.out.b2).cell 2 _ rfl
        have r3 := (HP12.out.b2).cell 3 _ rfl
        have r4 := (HP12.out.b2).cell 4 _ rfl
        have rf := (HP12.out.b2).frozen
        have rl := (HP12.out.b2).lt
        have c0 := (HP12.out.b3).cell 0 _ rfl
        have c1 := (HP12.out.b3).cell 1 _ rfl
        have cf := (HP12.out.b3).frozen
        have cl := (HP12.out.b3).lt
        go_region_held_law (fun W => W.cell? ⟨g, 0, none⟩ = some (.int .i64 most) ∧ W.cell? ⟨g, 1, none⟩ = some (.slice A4 (ks.length + 1) c4) ∧ W.cell? ⟨g, 2, none⟩ = some (.slice B3 B3n bc3) ∧ W.cell? ⟨g, 3, none⟩ = some (.slice A5 (us.length + 1) c5) ∧ W.cell? ⟨g, 4, none⟩ = some (.slice F2 fr.length fc2) ∧ W.cell? ⟨x, 0, none⟩ = some (.int .i64 k) ∧ W.cell? ⟨x, 1, none⟩ = some (.int .i64 cn))
          (repeat (first | with_reducible exact HS7.out | with_reducible refine drew7 ?_ | with_reducible refine far7 ?_ hd1 hd3 _ _ | with_reducible refine far7 ?_ hd2 hd4 _ _)) (fail)
        all_goals
          go_wp2_with fail
          obtain ⟨q0, q1, q2, q3, q4, q5, q6⟩ := boxes_ac HP12.out.b2 HP12.out.b3 (.int .i64 most) (.slice A4 (ks.length + 1) c4) (.slice B3 B3n bc3) (.slice A5 (us.length + 1) c5) (.slice F2 fr.length fc2) (.int .i64 k) (.int .i64 cn)
          have hfin := HP12.out.fin (only_rc w13 (w.heap.size + 1) (w.heap.size + 1 + 1) (.int .i64 most) (.slice A4 (ks.length + 1) c4) (.slice B3 B3n bc3) (.slice A5 (us.length + 1) c5) (.slice F2 fr.length fc2) (.int .i64 k) (.int .i64 cn))
          clear s0 s1 s2 s3 s4 s5 s6
          generalize World.setCell _ _ _ = w14 at q0 q1 q2 q3 q4 q5 q6 hfin ⊢
          refine bodyPost_ret (v := .tuple #[.agg #[.int .i64 most, .slice A4 (ks.length + 1) c4, .slice B3 B3n bc3, .slice A5 (us.length + 1) c5, .slice F2 fr.length fc2], .agg #[.int .i64 k, .int .i64 cn], .int .i64 0]) (by simp [results, Try.results35, go_sem, q0, q1, q2, q3, q4, q5, q6]) rfl ?_
          rw [HCN.out]
          exact ⟨_, _, _, _, _, rfl, hfin.1.drew, HM5.out, HP12.out.fresh, hfin.2.drew⟩

end Go.Proofs.Ytookfhmghchkjaa
