/- The reference's arena's Put (layer 13): a free cell. -/
import Derived.Test.YtookfhmghchkjaaRsF
namespace Go.Proofs.Ytookfhmghchkjaa
open Go Go.RowKit
attribute [local go_sem ↓] Go.wp_at_zero Go.wp_at_succ


theorem Blk.drewN {w : World} {g : Nat} {t : TypeId} {cs : Array Value} (h : Blk w g t cs) (n : Nat) : Blk (w.drewN n) g t cs := h
def notC (c : Int × Int) (x : Int × Int) : Bool := decide (x ≠ c)
theorem notC_take {c : Int × Int} {fr : List (Int × Int)} {j : Nat} {x : Int × Int} (h : fr[j]? = some x) : (fr.take (j + 1)).filter (notC c) = (fr.take j).filter (notC c) ++ (if x = c then [] else [x]) := by
  rw [List.take_add_one, h, List.filter_append]
  by_cases he : x = c <;> simp [notC, he]

theorem vcell {W : World} {B g n cap i : Nat} {vs : List (List UInt8 × Value)} {x : List UInt8 × Value} (h : W.ownsRow B 39 1 (.slice (some ⟨g, 0, none⟩) n cap) vs.length (vcs vs)) (hk : vs[i]? = some x) : W.cell? ⟨g, i, none⟩ = some x.2 := by
  obtain ⟨hi, _⟩ := List.getElem?_eq_some_iff.1 hk
  obtain ⟨_, _, e, _⟩ := own_form h
  injection e with _ e _
  subst e
  rw [h.cellAt _ (by omega)]
  simp [vcs, hk]
theorem ucell {W : World} {B g n cap i : Nat} {us : List Bool} {u : Bool} (h : W.ownsRow B 4 1 (.slice (some ⟨g, 0, none⟩) n cap) us.length (ucs us)) (hk : us[i]? = some u) : W.cell? ⟨g, i, none⟩ = some (.bool u) := by
  obtain ⟨hi, _⟩ := List.getElem?_eq_some_iff.1 hk
  obtain ⟨_, _, e, _⟩ := own_form h
  injection e with _ e _
  subst e
  rw [h.cellAt _ (by omega)]
  simp [ucs, hk]
theorem step_if {α : Type} (a b : α) {i j : Nat} (h : j ≠ i) : (if i < j + 1 then a else b) = (if i < j then a else b) := by
  split <;> split <;> first | rfl | (exfalso; omega)

set_option maxRecDepth 100000 in
set_option maxHeartbeats 4000000 in
theorem refPut_free {V0 : Nat} (B : Nat) (most : Int) (cv bv uv fv v : Value) (bs : List UInt8) (ks : List (Int × Int)) (vs : List (List UInt8 × Value)) (us : List Bool) (fr : List (Int × Int)) (w : World) (h : RRep w B cv bv uv fv ks vs us fr) (hv : Bts w V0 5 v bs) (hl : bs.length ≤ 65536)
    (hn : ks.length ≤ 1000 ∧ us.length = ks.length ∧ vs.length = ks.length ∧ fr.length ≤ 1000) (hB : ∀ x ∈ vs, x.1.length ≤ 65536) (k : Nat) (hk : classN bs.length = k) (n : Int) (rest : List Int) (hfr : fFr k fr = n :: rest) (i0 : Nat) (hi : ks[i0]? = some ((k : Int), n)) (hone : ∀ j, ks[j]? = some ((k : Int), n) → j = i0) :
    Calls Try.prog 35 #[.agg #[.int .i64 most, cv, bv, uv, fv], v] w (RRes w most ks ((vs.map Prod.fst).set i0 bs) (us.set i0 true) (fr.filter (notC ((k : Int), n))) (fun a => .tuple #[a, .agg #[.int .i64 k, .int .i64 n], .int .i64 0])) := by
  have HN := Lib.hid hn
  have HB := Lib.hid hB
  have HFR := Lib.hid hfr
  have HL := Lib.hid hl
  have HI := Lib.hid hi
  have HO1 := Lib.hid hone
  have hk13 : k < 13 := by have := classN_le hl; omega
  have hcl := refClass_ok bs.length hl
  rw [hk] at hcl
  have HCL := Lib.hid hcl
  obtain ⟨i1, hi, hy0, hy1, hy2⟩ := info_parts cellR_info
  have HJ1 := Lib.hid hi
  have HY10 := Lib.hid hy0
  have HY11 := Lib.hid hy1
  have HY12 := Lib.hid hy2
  clear hi hy0 hy1 hy2
  obtain ⟨i2, hi, hy0, hy1, hy2⟩ := info_parts boolR_info
  have HJ2 := Lib.hid hi
  have HY20 := Lib.hid hy0
  have HY21 := Lib.hid hy1
  have HY22 := Lib.hid hy2
  clear hi hy0 hy1 hy2
  obtain ⟨i3, hi, hy0, hy1, hy2⟩ := info_parts bytsR_info
  have HJ3 := Lib.hid hi
  have HY30 := Lib.hid hy0
  have HY31 := Lib.hid hy1
  have HY32 := Lib.hid hy2
  clear hi hy0 hy1 hy2
  obtain ⟨i4, hi, hy0, hy1, hy2⟩ := info_parts u8_info
  have HJ4 := Lib.hid hi
  have HY40 := Lib.hid hy0
  have HY41 := Lib.hid hy1
  have HY42 := Lib.hid hy2
  clear hi hy0 hy1 hy2
  clear hn hB hfr hcl hk hl hi hone
  obtain ⟨CA, cc, rfl, hc1, _⟩ := own_form h.cells
  obtain ⟨BA, bc, rfl, hb1, _⟩ := own_form h.bytes
  obtain ⟨UA, uc, rfl, hu1, _⟩ := own_form h.used
  obtain ⟨FA, fc, rfl, hf1, _⟩ := own_form h.free
  obtain ⟨VA, vc, rfl⟩ := hv.form
  obtain ⟨w1, hw1⟩ : ∃ w1, ((w.alloc (.cells #[.int .i64 most, .slice CA ks.length cc, .slice BA vs.length bc, .slice UA us.length uc, .slice FA fr.length fc] 55)).alloc (.cells #[.int .i64 0, .slice none 0 0, .slice none 0 0, .slice none 0 0, .slice none 0 0] 55)).alloc (.cells #[.int .i64 0, .int .i64 0] 38) = w1 := ⟨_, rfl⟩
  obtain ⟨k1, k2, k3, k4, k5, k6⟩ := putbox_new w B most _ _ _ _ ks vs us fr h w1 hw1
  have K1 := Lib.hid k1
  have K2 := Lib.hid k2
  have K3 := Lib.hid k3
  have K4 := Lib.hid k4
  have K5 := Lib.hid k5
  have K6 := Lib.hid k6
  have HR := Lib.hid h
  have HV := Lib.hid hv
  have HW := Lib.hid hw1
  clear h hv hw1 k1 k2 k3 k4 k5 k6
  have x0 : w1.cell? ⟨w.heap.size, 0, none⟩ = some (.int .i64 most) := K1.out.cell 0 _ rfl
  have x1 : w1.cell? ⟨w.heap.size, 1, none⟩ = some (.slice CA ks.length cc) := K1.out.cell 1 _ rfl
  have x2 : w1.cell? ⟨w.heap.size, 2, none⟩ = some (.slice BA vs.length bc) := K1.out.cell 2 _ rfl
  have x3 : w1.cell? ⟨w.heap.size, 3, none⟩ = some (.slice UA us.length uc) := K1.out.cell 3 _ rfl
  have x4 : w1.cell? ⟨w.heap.size, 4, none⟩ = some (.slice FA fr.length fc) := K1.out.cell 4 _ rfl
  go_enter Try.func35, Try.ntmps35
  go_upto_region 1 with fail
  rw [HW.out]
  clear HW
  go_wp2_with fail
  refine (HCL.out _).mono ?_
  rintro e w2 ⟨rfl, rfl⟩
  go_wp2_with fail
  refine (refACopy_any B most _ _ _ _ ks vs us fr _ K5.out ⟨HN.out.1, by have := HN.out; omega, HN.out.2.2.2, by have := HN.out; omega⟩ HB.out).mono ?_
  rintro e w3 ⟨cv', bv', uv', fv', vs', rfl, hr3, hm3, hf3, hb3⟩
  obtain ⟨C2, cc2, rfl, _, _⟩ := own_form hr3.cells
  obtain ⟨B2, bc2, rfl, _, _⟩ := own_form hr3.bytes
  obtain ⟨U2, uc2, rfl, _, _⟩ := own_form hr3.used
  obtain ⟨F2, fc2, rfl, _, _⟩ := own_form hr3.free
  have HM3 := Lib.hid hm3
  have hba : Below w2.heap.size w2 (w3.alloc (.cells #[.int .i64 most, .slice C2 ks.length cc2, .slice B2 vs'.length bc2, .slice U2 us.length uc2, .slice F2 fr.length fc2] 55)) := hb3.trans ((Below.refl _ _).alloc hb3.size _)
  have hpa : PA w (w3.alloc (.cells #[.int .i64 most, .slice C2 ks.length cc2, .slice B2 vs'.length bc2, .slice U2 us.length uc2, .slice F2 fr.length fc2] 55)) B (w.heap.size + 3) w.heap.size (w.heap.size + 1) (w.heap.size + 1 + 1) w3.heap.size (.int .i64 0) (.int .i64 0) most (.slice CA ks.length cc) (.slice BA vs.length bc) (.slice UA us.length uc) (.slice FA fr.length fc) ks vs us fr (.slice C2 ks.length cc2) (.slice B2 vs'.length bc2) (.slice U2 us.length uc2) (.slice F2 fr.length fc2) ks vs' us fr :=
    ⟨K5.out.below hba, K1.out.below hba, K2.out.below hba, K3.out.below hba, OInv.of_rep (hr3.base (by rw [K6.out]; exact Nat.le_refl _)) most, by have := hb3.size; rw [K6.out] at this; omega, K4.out.trans (hba.mono K4.out.size), by have := hba.size; rw [K6.out] at this; omega, by omega, by omega, by omega, fun x hx k hk => by have := hf3 x hx k hk; rw [K6.out] at this; omega⟩
  have HPa := Lib.hid hpa
  clear x0 x1 x2 x3 x4 hpa hba hm3
  have x0 : World.cell? w3 ⟨w.heap.size, 0, none⟩ = some (.int .i64 most) := ((K1.out.below hb3)).cell 0 _ rfl
  have x1 : World.cell? w3 ⟨w.heap.size, 1, none⟩ = some (.slice CA ks.length cc) := ((K1.out.below hb3)).cell 1 _ rfl
  have x2 : World.cell? w3 ⟨w.heap.size, 2, none⟩ = some (.slice BA vs.length bc) := ((K1.out.below hb3)).cell 2 _ rfl
  have x3 : World.cell? w3 ⟨w.heap.size, 3, none⟩ = some (.slice UA us.length uc) := ((K1.out.below hb3)).cell 3 _ rfl
  have x4 : World.cell? w3 ⟨w.heap.size, 4, none⟩ = some (.slice FA fr.length fc) := ((K1.out.below hb3)).cell 4 _ rfl
  have hs0 : w.heap.size < w3.heap.size := (K1.out.below hb3).lt
  have hs1 : w.heap.size + 1 < w3.heap.size := (K2.out.below hb3).lt
  have hs2 : w.heap.size + 1 + 1 < w3.heap.size := (K3.out.below hb3).lt
  clear hr3 hf3 hb3 K1 K2 K3 K4 K5 K6
  go_upto_region 5 with fail
  obtain ⟨w4, hw4⟩ : ∃ w4, w3.alloc (.cells #[.int .i64 most, .slice C2 ks.length cc2, .slice B2 vs'.length bc2, .slice U2 us.length uc2, .slice F2 fr.length fc2] 55) = w4 := ⟨_, rfl⟩
  rw [hw4] at HPa ⊢
  clear hw4 hs0 hs1 hs2 x0 x1 x2 x3 x4
  obtain ⟨g, hg⟩ : ∃ g, w3.heap.size = g := ⟨_, rfl⟩
  rw [hg] at HPa ⊢
  clear hg
  have x0 : World.cell? w4 ⟨w.heap.size, 0, none⟩ = some (.int .i64 most) := (HPa.out.b1).cell 0 _ rfl
  have x1 : World.cell? w4 ⟨w.heap.size, 1, none⟩ = some (.slice CA ks.length cc) := (HPa.out.b1).cell 1 _ rfl
  have x2 : World.cell? w4 ⟨w.heap.size, 2, none⟩ = some (.slice BA vs.length bc) := (HPa.out.b1).cell 2 _ rfl
  have x3 : World.cell? w4 ⟨w.heap.size, 3, none⟩ = some (.slice UA us.length uc) := (HPa.out.b1).cell 3 _ rfl
  have x4 : World.cell? w4 ⟨w.heap.size, 4, none⟩ = some (.slice FA fr.length fc) := (HPa.out.b1).cell 4 _ rfl
  go_wp2_with fail
  refine (refFrees_any B most k _ _ _ _ ks vs us fr _ HPa.out.src HN.out.2.2.2).mono ?_
  rw [HFR.out]
  rintro e w5 ⟨lv, rfl, hlv, hb5⟩
  obtain ⟨ln, hln⟩ : ∃ ln, (n :: rest).length = ln := ⟨_, rfl⟩
  have hln0 : 0 < ln := by rw [← hln]; simp
  rw [hln] at hlv
  obtain ⟨gl, lc, rfl, _, hgl⟩ := hlv.form hln0
  obtain ⟨A, c, e, hlc, _⟩ := own_form hlv
  injection e with e0 el e1
  clear el
  subst e0 e1
  have l0 : w5.cell? ⟨gl, 0, none⟩ = some (.int .i64 n) := by rw [hlv.cellAt _ (by omega)]; rfl
  have hlnI : (0 : Int) < (ln : Int) := by omega
  have hlcI : (ln : Int) ≤ (lc : Int) := by omega
  have HP5 := Lib.hid (HPa.out.adv hb5)
  clear hlv hb5 x0 x1 x2 x3 x4 HPa hln hlc
  go_upto_region 8 with fail
  obtain ⟨w6, hw6⟩ : ∃ w6, w5.alloc (.cells #[.int .i64 k, .int .i64 n] 38) = w6 := ⟨_, rfl⟩
  have HP6 := Lib.hid (hw6 ▸ HP5.out.alloc (.cells #[.int .i64 k, .int .i64 n] 38))
  have HX6 : Hid (Blk w6 w5.heap.size 38 #[.int .i64 k, .int .i64 n]) := Lib.hid (hw6 ▸ Blk.new _ _ _)
  have HnC : Hid ((Value.slice C2 ks.length cc2).ownBlock ≠ some w5.heap.size) := Lib.hid (fun e => by
    obtain ⟨_, cur, h2⟩ := row_blockS HP5.out.out.rep.cells e
    have := lt_of_heap h2
    omega)
  have hmx := HP5.out.size
  rw [hw6]
  clear hw6 HP5 l0 hgl hlnI hlcI hln0
  obtain ⟨x, hx⟩ : ∃ x, w5.heap.size = x := ⟨_, rfl⟩
  rw [hx] at HX6 HnC hmx ⊢
  clear hx
  have o4 : w6.cell? ⟨g, 4, none⟩ = some (.slice F2 fr.length fc2) := HP6.out.out.out.cell 4 _ rfl
  have of := HP6.out.out.out.frozen
  have ol := HP6.out.out.out.lt
  go_upto_region 9 with fail
  have HP7 := Lib.hid (PA.nilF HR.out HP6.out)
  have HX7 : Hid (Blk (w6.setCell ⟨g, 4, none⟩ (.slice none 0 0)) x 38 #[.int .i64 k, .int .i64 n]) := Lib.hid (HX6.out.far (p := ⟨g, 4, none⟩) (fun e => (HP6.out.out.out.ne_ (e ▸ HX6.out) (by decide)) rfl) _)
  generalize World.setCell _ _ _ = w7 at HP7 HX7 ⊢
  clear HP6 HX6 o4 of ol
  go_wp2_with fail
  go_loopw [12] (fun i wr => ∃ (j : Nat) (f2 : Value) (l2 : List (Int × Int)), j ≤ fr.length ∧ i = .int .i64 j ∧ l2 = (fr.take j).filter (notC ((k : Int), n)) ∧ PA w wr B (w.heap.size + 3) w.heap.size (w.heap.size + 1) (w.heap.size + 1 + 1) g (.int .i64 0) (.int .i64 0) most (.slice CA ks.length cc) (.slice BA vs.length bc) (.slice UA us.length uc) (.slice FA fr.length fc) ks vs us fr (.slice C2 ks.length cc2) (.slice B2 vs'.length bc2) (.slice U2 us.length uc2) f2 ks vs' us l2 ∧ Blk wr x 38 #[.int .i64 k, .int .i64 n] ∧ f2.ownBlock ≠ some x) (fun i _ => fr.length - (intOf i).toNat)
  case atStart => exact ⟨0, _, [], by omega, rfl, rfl, HP7.out, HX7.out, fun e => by cases e⟩
  case round =>
    obtain ⟨j, f2, l2, hj, rfl, hl2, hpa, hxa, hfx⟩ := hrel
    obtain ⟨F3, fc3, rfl, _, _⟩ := own_form hpa.out.rep.free
    have HPr := Lib.hid hpa
    have HXr := Lib.hid hxa
    have HFx := Lib.hid hfx
    have HL2 := Lib.hid hl2
    have x4 : wr.cell? ⟨w.heap.size, 4, none⟩ = some (.slice FA fr.length fc) := hpa.b1.cell 4 _ rfl
    have hnf := HN.out.2.2.2
    have hll : l2.length ≤ fr.length := by rw [hl2]; exact Nat.le_trans (List.length_filter_le _ _) (by rw [List.length_take]; omega)
    clear hpa hxa hfx hl2 HP7 HX7
    by_cases hjl : j < fr.length
    · obtain ⟨⟨K, N⟩, hkk⟩ : ∃ x, fr[j]? = some x := ⟨_, List.getElem?_eq_getElem hjl⟩
      have HT := Lib.hid (notC_take (c := ((k : Int), n)) hkk)
      have HKK := Lib.hid hkk
      obtain ⟨gf, cap, e1, _, hcc, _, c0, c1⟩ := kread HPr.out.src.free hkk
      injection e1 with e1 el e4
      clear el
      subst e1 e4
      have hjI : (j : Int) < (fr.length : Int) := by omega
      have hcI : (fr.length : Int) ≤ (fc : Int) := by omega
      have hj1 : (j : Int) ≤ 1000 := by omega
      have h0 := HXr.out.cell 0 _ rfl
      have h1 := HXr.out.cell 1 _ rfl
      clear hkk
      by_cases hK : K = (k : Int)
      · subst hK
        by_cases hN : N = n
        · have hN2 := hN.symm
          subst hN2
          clear hN
          go_wp2_with fail
          go_quiet (fail)
          go_wp2_with fail
          go_roundw
          case rel => exact ⟨j + 1, _, l2, by omega, by go_num, (by rw [HT.out, ← HL2.out]; simp), HPr.out.drewN _, HXr.out.drewN _, HFx.out⟩
          case measure => simp [intOf]; omega
        · have hd : (N == n) = false := by simpa using hN
          have hne : (((k : Int), N) : Int × Int) ≠ ((k : Int), n) := fun e => by
            injection e with e1 e2
            exact hN e2
          clear hN
          have HNE := Lib.hid hne
          clear hne
          go_wp2_with fail
          go_quiet (fail)
          have HP := Lib.hid (HPr.out.drewN nq)
          have HX := Lib.hid (HXr.out.drewN nq)
          generalize wr.drewN nq = w8 at HP HX ⊢
          clear HPr HXr x4 c0 c1 h0 h1
          have x4 : w8.cell? ⟨w.heap.size, 4, none⟩ = some (.slice (some ⟨gf, 0, none⟩) fr.length fc) := HP.out.b1.cell 4 _ rfl
          have o4 : w8.cell? ⟨g, 4, none⟩ = some (.slice F3 l2.length fc3) := HP.out.out.out.cell 4 _ rfl
          obtain ⟨_, _, _, _, _, _, c0, c1⟩ := kread HP.out.src.free HKK.out
          have hf4 := HP.out.out.out.frozen
          have hz4 := HP.out.out.out.lt
          have hnf2 : l2.length ≤ 1000 := by omega
          have HNF := Lib.hid hnf2
          clear hnf2
          go_wp2_with fail
          go_region_law
            (first
              | (refine step_append_dstS 65 (by rfl) (by rfl) _ _ _ (by rfl) (w.heap.size + 3) 38 i1 _ 2 16 Try.underlying51 HJ1.out HY10.out HY11.out HY12.out rfl (by decide) _ l2.length (kcs l2) (by rfl) ((HP.out.drew.alloc _).out.rep.free) (some ⟨_, 0, none⟩) 1 1 [.int .i64 (k : Int), .int .i64 N] (by rfl) (src_twoS (t := 38) (Blk.new _ _ _)) (by simp [Value.oneCell']) (by have := HNF.out; unfold maxLen; omega) (by have := HNF.out; omega) (HP.out.drew.alloc _).size ?_
                 intro v3 w3 hown3 hg3 hat3
                 have HO3 := Lib.hid hown3
                 have HG3 := Lib.hid hg3
                 have HA3 := Lib.hid hat3
                 have bo := ((HP.out.drew.alloc _).out.out).grown hg3 (fun e => by have := HP.out.out.off HP.out.out.rep.free (by decide); exact this e.symm)
                 have o4 : w3.cell? ⟨g, 4, none⟩ = some (.slice F3 l2.length fc3) := bo.cell 4 _ rfl
                 have hf4 := bo.frozen
                 have hz4 := bo.lt
                 obtain ⟨L3, lc3, rfl, _, _⟩ := own_form hown3
                 clear bo hown3 hg3 hat3))
          all_goals
            go_wp2_with fail
            go_roundw
            case rel => exact ⟨j + 1, _, l2 ++ [((k : Int), N)], by omega, by go_num, (by rw [HT.out, ← HL2.out, if_neg HNE.out]), PA.pushF HR.out (HP.out.drew.alloc _) HG3.out HO3.out HA3.out, ((HX.out.drew.alloc _).grown HG3.out (fun e => HFx.out e.symm)).far (p := ⟨g, 4, none⟩) (fun e => (HP.out.out.out.ne_ (e ▸ HX.out) (by decide)) rfl) _, fun e => by
              have hxl := HX.out.lt
              rcases HA3.out with h | h
              · exact HFx.out (h.symm.trans e)
              · rw [h] at e
                injection e with e
                simp at e
                omega⟩
            case measure => simp [intOf]; omega
      · have hd : (K == (k : Int)) = false := by simpa using hK
        have hne : ((K, N) : Int × Int) ≠ ((k : Int), n) := fun e => by
          injection e with e1 e2
          exact hK e1
        clear hK
        have HNE := Lib.hid hne
        clear hne
        go_wp2_with fail
        go_quiet (fail)
        have HP := Lib.hid (HPr.out.drewN nq)
        have HX := Lib.hid (HXr.out.drewN nq)
        generalize wr.drewN nq = w8 at HP HX ⊢
        clear HPr HXr x4 c0 c1 h0 h1
        have x4 : w8.cell? ⟨w.heap.size, 4, none⟩ = some (.slice (some ⟨gf, 0, none⟩) fr.length fc) := HP.out.b1.cell 4 _ rfl
        have o4 : w8.cell? ⟨g, 4, none⟩ = some (.slice F3 l2.length fc3) := HP.out.out.out.cell 4 _ rfl
        obtain ⟨_, _, _, _, _, _, c0, c1⟩ := kread HP.out.src.free HKK.out
        have hf4 := HP.out.out.out.frozen
        have hz4 := HP.out.out.out.lt
        have hnf2 : l2.length ≤ 1000 := by omega
        have HNF := Lib.hid hnf2
        clear hnf2
        go_wp2_with fail
        go_region_law
          (first
            | (refine step_append_dstS 65 (by rfl) (by rfl) _ _ _ (by rfl) (w.heap.size + 3) 38 i1 _ 2 16 Try.underlying51 HJ1.out HY10.out HY11.out HY12.out rfl (by decide) _ l2.length (kcs l2) (by rfl) ((HP.out.drew.alloc _).out.rep.free) (some ⟨_, 0, none⟩) 1 1 [.int .i64 K, .int .i64 N] (by rfl) (src_twoS (t := 38) (Blk.new _ _ _)) (by simp [Value.oneCell']) (by have := HNF.out; unfold maxLen; omega) (by have := HNF.out; omega) (HP.out.drew.alloc _).size ?_
               intro v3 w3 hown3 hg3 hat3
               have HO3 := Lib.hid hown3
               have HG3 := Lib.hid hg3
               have HA3 := Lib.hid hat3
               have bo := ((HP.out.drew.alloc _).out.out).grown hg3 (fun e => by have := HP.out.out.off HP.out.out.rep.free (by decide); exact this e.symm)
               have o4 : w3.cell? ⟨g, 4, none⟩ = some (.slice F3 l2.length fc3) := bo.cell 4 _ rfl
               have hf4 := bo.frozen
               have hz4 := bo.lt
               obtain ⟨L3, lc3, rfl, _, _⟩ := own_form hown3
               clear bo hown3 hg3 hat3))
        all_goals
          go_wp2_with fail
          go_roundw
          case rel => exact ⟨j + 1, _, l2 ++ [(K, N)], by omega, by go_num, (by rw [HT.out, ← HL2.out, if_neg HNE.out]), PA.pushF HR.out (HP.out.drew.alloc _) HG3.out HO3.out HA3.out, ((HX.out.drew.alloc _).grown HG3.out (fun e => HFx.out e.symm)).far (p := ⟨g, 4, none⟩) (fun e => (HP.out.out.out.ne_ (e ▸ HX.out) (by decide)) rfl) _, fun e => by
            have hxl := HX.out.lt
            rcases HA3.out with h | h
            · exact HFx.out (h.symm.trans e)
            · rw [h] at e
              injection e with e
              simp at e
              omega⟩
          case measure => simp [intOf]; omega
    · obtain rfl : j = fr.length := by omega
      rw [List.take_length] at HL2
      have hnj : ¬ (fr.length : Int) < (fr.length : Int) := by omega
      clear HFx
      go_wp2_with fail
      clear x4
      go_loopw [13] (fun i wr => ∃ (j : Nat) (b2 u2 : Value) (vs2 : List (List UInt8 × Value)) (us2 : List Bool), j ≤ ks.length ∧ i = .int .i64 j ∧ vs2.map Prod.fst = (if i0 < j then (vs.map Prod.fst).set i0 bs else vs.map Prod.fst) ∧ us2 = (if i0 < j then us.set i0 true else us) ∧ PA w wr B (w.heap.size + 3) w.heap.size (w.heap.size + 1) (w.heap.size + 1 + 1) g (.int .i64 0) (.int .i64 0) most (.slice CA ks.length cc) (.slice BA vs.length bc) (.slice UA us.length uc) (.slice FA fr.length fc) ks vs us fr (.slice C2 ks.length cc2) b2 u2 (.slice F3 l2.length fc3) ks vs2 us2 l2 ∧ Blk wr x 38 #[.int .i64 k, .int .i64 n]) (fun i _ => ks.length - (intOf i).toNat)
      case atStart => exact ⟨0, _, _, vs', us, by omega, rfl, by rw [if_neg (by omega)]; exact HM3.out, by rw [if_neg (by omega)], HPr.out, HXr.out⟩
      case round =>
        obtain ⟨j, b2, u2, vs2, us2, hj2, rfl, hm2, hu2, hpa, hxa⟩ := hrel
        obtain ⟨B4, bc4, rfl, hB4, _⟩ := own_form hpa.out.rep.bytes
        obtain ⟨U4, uc4, rfl, hU4, _⟩ := own_form hpa.out.rep.used
        have hvl2 : vs2.length = ks.length := by
          have h1 := congrArg List.length hm2
          have h2 := HN.out.2.2.1
          split at h1 <;> simp at h1 <;> omega
        have hul2 : us2.length = ks.length := by
          have h2 := HN.out.2.1
          rw [hu2]
          split <;> simp [h2]
        have HPt := Lib.hid hpa
        have HXt := Lib.hid hxa
        have HM2 := Lib.hid hm2
        have HU2 := Lib.hid hu2
        have HVl := Lib.hid hvl2
        have HUl := Lib.hid hul2
        have o1 : wr.cell? ⟨g, 1, none⟩ = some (.slice C2 ks.length cc2) := hpa.out.out.cell 1 _ rfl
        have hnn := HN.out.1
        clear hpa hxa hm2 hu2 hvl2 hul2 HPr HXr
        by_cases hjl2 : j < ks.length
        · obtain ⟨⟨K, N⟩, hkk⟩ : ∃ x, ks[j]? = some x := ⟨_, List.getElem?_eq_getElem hjl2⟩
          have HKK := Lib.hid hkk
          obtain ⟨gc, cap, e1, _, hcc, _, c0, c1⟩ := kread HPt.out.out.rep.cells hkk
          injection e1 with e1 el e4
          clear el
          subst e1 e4
          have hjI : (j : Int) < (ks.length : Int) := by omega
          have hcI : (ks.length : Int) ≤ (cc2 : Int) := by omega
          have hj1 : (j : Int) ≤ 1000 := by omega
          have h0 := HXt.out.cell 0 _ rfl
          have h1 := HXt.out.cell 1 _ rfl
          clear hkk
          by_cases hK : K = (k : Int)
          · subst hK
            by_cases hN : N = n
            · have hN2 := hN.symm
              subst hN2
              clear hN
              have hji := (HO1.out j HKK.out).symm
              subst hji
              go_wp2_with fail
              go_quiet (fail)
              have HP := Lib.hid (HPt.out.drewN nq)
              have HX := Lib.hid (HXt.out.drewN nq)
              generalize wr.drewN nq = w8 at HP HX ⊢
              clear HPt HXt o1 c0 c1 h0 h1
              have HV8 := Lib.hid (HV.out.below HP.out.below)
              obtain ⟨y, hy⟩ : ∃ y, vs2[i0]? = some y := ⟨_, List.getElem?_eq_getElem (by have := HVl.out; omega)⟩
              have HY := Lib.hid hy
              obtain ⟨gb, capb, eb, _, hcb, _, d2⟩ := vread HP.out.out.rep.bytes hy
              injection eb with eb el eb4
              clear el hy
              subst eb eb4
              have hjb : (i0 : Int) < (vs2.length : Int) := by have := HVl.out; omega
              have hcbI : (vs2.length : Int) ≤ (bc4 : Int) := by omega
              have o2 : w8.cell? ⟨g, 2, none⟩ = some (.slice (some ⟨gb, 0, none⟩) vs2.length bc4) := HP.out.out.out.cell 2 _ rfl
              have db := HP.out.out.rep.bytes.frozenAt i0
              have dl : gb < w8.heap.size := (HP.out.out.rep.bytes.lt gb rfl).2
              go_wp2_with fail
              go_region_law
                (first
                  | (refine step_append_dstS 85 (by rfl) (by rfl) _ _ _ (by rfl) (w.heap.size + 3) 5 i4 _ 1 1 Try.underlying39 HJ4.out HY40.out HY41.out HY42.out rfl (by decide) _ 0 [] (by rfl) (World.ownsRow_nil _ _ _ _) _ bs.length _ (bcells bs) (by rfl) (Bts.src_at HV8.out.drew).2 (bcells_one bs) (by have := HL.out; unfold maxLen; omega) (by have := HL.out; omega) HP.out.drew.size ?_
                     intro vN wN hownN hgN hatN
                     have hbl := below_grown hgN
                     have HP := Lib.hid (HP.out.drew.adv hbl)
                     have HX : Hid (Blk wN x _ _) := Lib.hid (HX.out.drew.below hbl)
                     have HoN : Hid (wN.ownsRow (w.heap.size + 3) 5 1 vN bs.length (bcells bs)) := Lib.hid (by simpa using hownN)
                     have o2 : wN.cell? ⟨g, 2, none⟩ = some (.slice (some ⟨gb, 0, none⟩) vs2.length bc4) := HP.out.out.out.cell 2 _ rfl
                     have d2 := vcell HP.out.out.rep.bytes HY.out
                     have db := HP.out.out.rep.bytes.frozenAt i0
                     have dl : gb < wN.heap.size := (HP.out.out.rep.bytes.lt gb rfl).2
                     obtain ⟨AN, cN, rfl, _, _⟩ := own_form HoN.out
                     clear hbl hownN hgN hatN))
              all_goals
                go_upto_region 19 with fail
                have hln2 : i0 < vs2.length := by omega
                have HPb := Lib.hid (PA.setB HR.out HP.out (i := i0) (gb := gb) (cap := bc4) hln2 rfl (x := (bs, .slice AN bs.length cN)) (Bts.of_own HoN.out 0) (fun k hk => by have := (row_blockS HoN.out hk).1; omega))
                have HXb := Lib.hid (HX.out.far (p := ⟨gb, i0, none⟩) (fun e => by
                  obtain ⟨_, cur, h3⟩ := row_blockS HP.out.out.rep.bytes (k := gb) rfl
                  exact (HX.out.ne_ h3 (by decide)) e) (.slice AN bs.length cN))
                dsimp only at HPb
                generalize World.setCell _ _ _ = w9 at HPb HXb ⊢
                clear HP HX o2 d2 db dl
                obtain ⟨u, hu⟩ : ∃ u, us2[i0]? = some u := ⟨_, List.getElem?_eq_getElem (by have := HUl.out; omega)⟩
                have HU := Lib.hid hu
                obtain ⟨gu, capu, eu, _, hcu, _, d3⟩ := uread HPb.out.out.rep.used hu
                injection eu with eu el eu4
                clear el hu
                subst eu eu4
                have hju : (i0 : Int) < (us2.length : Int) := by have := HUl.out; omega
                have hcuI : (us2.length : Int) ≤ (uc4 : Int) := by omega
                have o3 : w9.cell? ⟨g, 3, none⟩ = some (.slice (some ⟨gu, 0, none⟩) us2.length uc4) := HPb.out.out.out.cell 3 _ rfl
                have ub := HPb.out.out.rep.used.frozenAt i0
                have ul : gu < w9.heap.size := (HPb.out.out.rep.used.lt gu rfl).2
                go_wp2_with fail
                have hlu2 : i0 < us2.length := by omega
                go_roundw
                case rel => exact ⟨i0 + 1, _, _, vs2.set i0 (bs, .slice AN bs.length cN), us2.set i0 true, by omega, by go_num, by rw [if_pos (by omega), List.map_set, HM2.out, if_neg (by omega)], by rw [if_pos (by omega), HU2.out, if_neg (by omega)], by
                  have h := PA.setU HR.out HPb.out (i := i0) (gu := gu) (cap := uc4) hlu2 rfl true
                  exact h, HXb.out.far (p := ⟨gu, i0, none⟩) (fun e => by
                  obtain ⟨_, cur, h3⟩ := row_blockS HPb.out.out.rep.used (k := gu) rfl
                  exact (HXb.out.ne_ h3 (by decide)) e) _⟩
                case measure => simp [intOf]; omega
            · have hd : (N == n) = false := by simpa using hN
              have hne : j ≠ i0 := fun e => by
                subst e
                have := HKK.out.symm.trans HI.out
                injection this with e1
                injection e1 with e1 e2
                exact hN e2
              have HNE := Lib.hid hne
              clear hne hN
              go_wp2_with fail
              go_quiet (fail)
              go_wp2_with fail
              go_roundw
              case rel => exact ⟨j + 1, _, _, vs2, us2, by omega, by go_num, by rw [step_if _ _ HNE.out]; exact HM2.out, by rw [step_if _ _ HNE.out]; exact HU2.out, HPt.out.drewN _, HXt.out.drewN _⟩
              case measure => simp [intOf]; omega
          · have hd : (K == (k : Int)) = false := by simpa using hK
            have hne : j ≠ i0 := fun e => by
              subst e
              have := HKK.out.symm.trans HI.out
              injection this with e1
              injection e1 with e1 e2
              exact hK e1
            have HNE := Lib.hid hne
            clear hne hK
            go_wp2_with fail
            go_quiet (fail)
            go_wp2_with fail
            go_roundw
            case rel => exact ⟨j + 1, _, _, vs2, us2, by omega, by go_num, by rw [step_if _ _ HNE.out]; exact HM2.out, by rw [step_if _ _ HNE.out]; exact HU2.out, HPt.out.drewN _, HXt.out.drewN _⟩
            case measure => simp [intOf]; omega
        · obtain rfl : j = ks.length := by omega
          have hi0 : i0 < ks.length := (List.getElem?_eq_some_iff.1 HI.out).1
          rw [if_pos hi0] at HM2 HU2
          have hnk : ¬ (ks.length : Int) < (ks.length : Int) := by omega
          clear hi0
          go_wp2_with fail
          have hS7 : World.cell? wr ⟨g, 0, none⟩ = some (.int .i64 most) ∧ World.cell? wr ⟨g, 1, none⟩ = some (.slice C2 ks.length cc2) ∧ World.cell? wr ⟨g, 2, none⟩ = some (.slice B4 vs2.length bc4) ∧ World.cell? wr ⟨g, 3, none⟩ = some (.slice U4 us2.length uc4) ∧ World.cell? wr ⟨g, 4, none⟩ = some (.slice F3 l2.length fc3) ∧ World.cell? wr ⟨x, 0, none⟩ = some (.int .i64 k) ∧ World.cell? wr ⟨x, 1, none⟩ = some (.int .i64 n) :=
            ⟨(HPt).out.out.out.cell 0 _ rfl, (HPt).out.out.out.cell 1 _ rfl, (HPt).out.out.out.cell 2 _ rfl, (HPt).out.out.out.cell 3 _ rfl, (HPt).out.out.out.cell 4 _ rfl, (HXt).out.cell 0 _ rfl, (HXt).out.cell 1 _ rfl⟩
          have hd1 : ¬ g = w.heap.size + 1 := by have := (HPt).out.gpos; omega
          have hd2 : ¬ g = w.heap.size + 1 + 1 := by have := (HPt).out.gpos; omega
          have hd3 : ¬ x = w.heap.size + 1 := by omega
          have hd4 : ¬ x = w.heap.size + 1 + 1 := by omega
          have HS7 := Lib.hid hS7
          obtain ⟨s0, s1, s2, s3, s4, s5, s6⟩ := hS7
          have r0 := ((HPt).out.b2).cell 0 _ rfl
          have r1 := ((HPt).out.b2).cell 1 _ rfl
          have r2 := ((HPt).out.b2).cell 2 _ rfl
          have r3 := ((HPt).out.b2).cell 3 _ rfl
          have r4 := ((HPt).out.b2).cell 4 _ rfl
          have rf := ((HPt).out.b2).frozen
          have rl := ((HPt).out.b2).lt
          have c0 := ((HPt).out.b3).cell 0 _ rfl
          have c1 := ((HPt).out.b3).cell 1 _ rfl
          have cf := ((HPt).out.b3).frozen
          have cl := ((HPt).out.b3).lt
          go_region_held_law (fun W => W.cell? ⟨g, 0, none⟩ = some (.int .i64 most) ∧ W.cell? ⟨g, 1, none⟩ = some (.slice C2 ks.length cc2) ∧ W.cell? ⟨g, 2, none⟩ = some (.slice B4 vs2.length bc4) ∧ W.cell? ⟨g, 3, none⟩ = some (.slice U4 us2.length uc4) ∧ W.cell? ⟨g, 4, none⟩ = some (.slice F3 l2.length fc3) ∧ W.cell? ⟨x, 0, none⟩ = some (.int .i64 k) ∧ W.cell? ⟨x, 1, none⟩ = some (.int .i64 n))
            (repeat (first | with_reducible exact HS7.out | with_reducible refine drew7 ?_ | with_reducible refine far7 ?_ hd1 hd3 _ _ | with_reducible refine far7 ?_ hd2 hd4 _ _)) (fail)
          all_goals
            go_wp2_with fail
            obtain ⟨q0, q1, q2, q3, q4, q5, q6⟩ := boxes_ac (HPt).out.b2 (HPt).out.b3 (.int .i64 most) (.slice C2 ks.length cc2) (.slice B4 vs2.length bc4) (.slice U4 us2.length uc4) (.slice F3 l2.length fc3) (.int .i64 k) (.int .i64 n)
            have hfin := (HPt).out.fin (only_rc wr (w.heap.size + 1) (w.heap.size + 1 + 1) (.int .i64 most) (.slice C2 ks.length cc2) (.slice B4 vs2.length bc4) (.slice U4 us2.length uc4) (.slice F3 l2.length fc3) (.int .i64 k) (.int .i64 n))
            clear s0 s1 s2 s3 s4 s5 s6
            generalize World.setCell _ _ _ = w14 at q0 q1 q2 q3 q4 q5 q6 hfin ⊢
            refine bodyPost_ret (v := .tuple #[.agg #[.int .i64 most, .slice C2 ks.length cc2, .slice B4 vs2.length bc4, .slice U4 us2.length uc4, .slice F3 l2.length fc3], .agg #[.int .i64 k, .int .i64 n], .int .i64 0]) (by simp [results, Try.results35, go_sem, q0, q1, q2, q3, q4, q5, q6]) rfl ?_
            refine ⟨_, _, _, _, _, rfl, ?_, HM2.out, HPt.out.fresh, hfin.2.drew⟩
            rw [← HU2.out, ← HL2.out]
            exact hfin.1.drew

end Go.Proofs.Ytookfhmghchkjaa
