/- The walk of SlabPlays. -/
import Derived.Test.YtookfhmghchkjaaSPlaysM
import Derived.Test.YtookfhmghchkjaaSLooks
namespace Go.Proofs.Ytookfhmghchkjaa
open Go Go.RowKit
attribute [local go_sem ↓] Go.wp_at_zero Go.wp_at_succ


set_option maxRecDepth 100000 in
set_option maxHeartbeats 4000000 in
theorem splays_walk (most : Int) (v : Value) (ls : List ActS) (w : World) (h : Acts w w.heap.size v ls) :
    Calls Try.prog 5 #[.int .i64 most, v] w fun e w' => e = .returned (.bool true) ∧ Below w.heap.size w w' := by
  have HA := Lib.hid h
  obtain ⟨A, cap, rfl, hc1, hc2, _⟩ := h.row
  have hn : (ls.length : Int) ≤ 9223372036854775807 := by unfold maxLen at hc2; omega
  clear h hc2
  go_enter Try.func5, Try.ntmps5
  go_wp2_with fail
  refine (few_any _ _ _ _ HA.out).mono ?_
  rintro e w' ⟨rfl, rfl⟩
  cases hs : fewB ls with
  | false =>
    go_wp2_with fail
    refine (known_true _).mono ?_
    rintro e w9 ⟨rfl, hb9⟩
    have HG := Lib.hid hb9
    clear hb9
    go_wp2_with fail
    go_ret
    exact ⟨rfl, HG.out⟩
  | true =>
    have hsm := fewB_is hs
    have HS := Lib.hid hsm
    have hl60 := hsm.1
    clear hs hsm
    by_cases hmb : most < 0 ∨ 1099511627776 < most
    · go_wp2_with fail
      refine (slabNew_bad most hmb _).mono ?_
      rintro e w1 ⟨rfl, hw1⟩
      rw [hw1]
      clear hw1 w1
      rcases hmb with hm0 | hm1
      · go_wp2_with fail
        refine (known_true _).mono ?_
        rintro e w9 ⟨rfl, hb9⟩
        have HG := Lib.hid hb9
        clear hb9
        go_wp2_with fail
        go_ret
        exact ⟨rfl, HG.out⟩
      · have hm0 : ¬ most < 0 := by omega
        go_wp2_with fail
        refine (known_true _).mono ?_
        rintro e w9 ⟨rfl, hb9⟩
        have HG := Lib.hid hb9
        clear hb9
        go_wp2_with fail
        go_ret
        exact ⟨rfl, HG.out⟩
    · have h0 : 0 ≤ most := by omega
      have h1 : most ≤ 1099511627776 := by omega
      have HMo := Lib.hid (And.intro h0 h1)
      go_wp2_with fail
      refine (slabNew_ok most h0 h1 _).mono ?_
      rintro e w1 ⟨rfl, hw1⟩
      have hb1 : Below w.heap.size w w1 := hw1 ▸ (Below.refl w.heap.size w).alloc (Nat.le_refl _) _
      have hr1 : ARep w1 w.heap.size w.heap.size most p0 := ⟨sh0, hw1 ▸ slabNew_rep w w.heap.size (Nat.le_refl _) most, sh0_is⟩
      have HB1 := Lib.hid hb1
      have HR1 := Lib.hid hr1
      clear hw1 hb1 hr1 hmb
      go_upto_region 9 with fail
      obtain ⟨w2, hw2⟩ : ∃ w2, w1.alloc (.cells #[.int .i64 most, .slice none 0 0, .slice none 0 0, .slice none 0 0, .slice none 0 0] 55) = w2 := ⟨_, rfl⟩
      have hb2 : Below w1.heap.size w1 w2 := hw2 ▸ (Below.refl _ _).alloc (Nat.le_refl _) _
      have HI1 : Hid (PInvS w w2 w.heap.size w1.heap.size w.heap.size (4 * 0) most p0 (.slice none 0 0) (.slice none 0 0) (.slice none 0 0) (.slice none 0 0) [] [] [] []) := Lib.hid
        ⟨HR1.out.below hb2, RRep.nil _ _, RSync.nil, p0_wf, HB1.out.trans (hb2.mono HB1.out.size), hw2 ▸ Blk.new _ _ _, HB1.out.size, Nat.le_refl _⟩
      have HAc1 : Hid (Acts w2 w.heap.size (.slice A ls.length cap) ls) := Lib.hid ((HA.out.below HB1.out).below hb2)
      rw [hw2]
      obtain ⟨g, hg⟩ : ∃ g, w1.heap.size = g := ⟨_, rfl⟩
      rw [hg] at HI1 ⊢
      clear hw2 hb2 hg HR1 HB1
      go_wp2_with fail
      go_loopw [5, 45] (fun x i wr => ∃ (k b : Nat) (st : PSt) (cv bv uv fv : Value) (ks : List (Int × Int)) (vs : List (List UInt8 × Value)) (us : List Bool) (fr : List (Int × Int)), k ≤ ls.length ∧ i = .int .i64 k ∧ x = .pointer (some ⟨b, 0, none⟩) ∧ PInvS w wr w.heap.size g b (4 * k) most st cv bv uv fv ks vs us fr ∧ Acts wr w.heap.size (.slice A ls.length cap) ls) (fun _ i _ => ls.length - (intOf i).toNat)
      case atStart => exact ⟨0, w.heap.size, p0, _, _, _, _, [], [], [], [], by omega, rfl, rfl, HI1.out, HAc1.out⟩
      case round =>
        obtain ⟨k, b, st, cv, bv, uv, fv, ks, vs, us, fr, hk, rfl, rfl, hinv, hacts⟩ := hrel
        obtain ⟨CA, cc, rfl, _, _⟩ := own_form hinv.ref.cells
        obtain ⟨BA, bc, rfl, _, _⟩ := own_form hinv.ref.bytes
        obtain ⟨UA, uc, rfl, _, _⟩ := own_form hinv.ref.used
        obtain ⟨FA, fc, rfl, _, _⟩ := own_form hinv.ref.free
        have HI := Lib.hid hinv
        have HAc := Lib.hid hacts
        clear hinv hacts HI1 HAc1
        by_cases hkl : k < ls.length
        · obtain ⟨a, ha⟩ : ∃ a, ls[k]? = some a := ⟨_, List.getElem?_eq_getElem hkl⟩
          obtain ⟨bb, off, cap', e, _, hbB, c0, c1, c2, c3, hao⟩ := HAc.out.at_ ha
          injection e with e1 el e3
          clear el
          subst e1 e3
          obtain ⟨A', vc, hv'⟩ := hao.val.form
          rw [hv'] at c3
          have hklI : (k : Int) < (ls.length : Int) := by omega
          have hcI : (ls.length : Int) ≤ (cap : Int) := by omega
          have HSm := Lib.hid (HS.out.2 a (List.mem_of_getElem? ha))
          have HV : Hid (Bts wr w.heap.size 5 (.slice A' a.bs.length vc) a.bs) := Lib.hid (hv' ▸ hao.val)
          clear hao hv' ha
          go_upto_region 13 with fail
          obtain ⟨w0, hw0⟩ : ∃ w0, wr.alloc (.cells #[.int .i64 a.what, .int .i64 a.K, .int .i64 a.N, .slice A' a.bs.length vc] 41) = w0 := ⟨_, rfl⟩
          have hb0 : Below wr.heap.size wr w0 := hw0 ▸ (Below.refl _ _).alloc (Nat.le_refl _) _
          have hbx : Blk w0 wr.heap.size 41 #[.int .i64 a.what, .int .i64 a.K, .int .i64 a.N, .slice A' a.bs.length vc] := hw0 ▸ Blk.new _ _ _
          have HI0 := Lib.hid (HI.out.adv hb0)
          have HAc0 := Lib.hid (HAc.out.below hb0)
          have HV0 := Lib.hid (HV.out.below hb0)
          rw [hw0]
          clear hw0 hb0 HI HAc HV c0 c1 c2 c3
          have c0 := hbx.cell 0 _ rfl
          have c1 := hbx.cell 1 _ rfl
          have c2 := hbx.cell 2 _ rfl
          have c3 := hbx.cell 3 _ rfl
          clear hbx
          have x0 := HI0.out.box.cell 0 _ rfl
          have x1 := HI0.out.box.cell 1 _ rfl
          have x2 := HI0.out.box.cell 2 _ rfl
          have x3 := HI0.out.box.cell 3 _ rfl
          have x4 := HI0.out.box.cell 4 _ rfl
          go_wp2_with fail
          obtain ⟨sh, hsr, hsi⟩ := HI0.out.rep
          refine (do_any w.heap.size b (4 * k) a.what most a.K a.N st sh _ _ _ _ (.slice A' a.bs.length vc) a.bs ks vs us fr w0 ⟨hsr, hsi, HI0.out.size, HI0.out.ref, HI0.out.sync, HI0.out.wf, by omega, HMo.out, HV0.out, by have := HSm.out; omega⟩).mono ?_
          clear hsr hsi sh
          rintro e w2 ⟨b', st', av', rfl, hr2, ⟨cv', bv', uv', fv', ks', vs', us', fr', rfl, hR2, hs2⟩, hw2, hk2, hb2⟩
          obtain ⟨C2, cc2, rfl, _, _⟩ := own_form hR2.cells
          obtain ⟨B2, bc2, rfl, _, _⟩ := own_form hR2.bytes
          obtain ⟨U2, uc2, rfl, _, _⟩ := own_form hR2.used
          obtain ⟨F2, fc2, rfl, _, _⟩ := own_form hR2.free
          have hx := hk2.blk HI0.out.box (by decide) (by decide) (by decide)
          have f1 := hx.frozen
          have hz := hx.lt
          have hD := HI0.out.done hr2 hR2 hs2 hw2 hk2 hb2
          have HAc2 := Lib.hid (HAc0.out.kept hD.2.1 hD.2.2.1)
          have HI2 := Lib.hid hD.1
          clear hr2 hR2 hs2 hw2 hk2 hb2 hD c0 c1 c2 c3 x0 x1 x2 x3 x4 HI0 HAc0 HV0
          have y0 := hx.cell 0 _ rfl
          have y1 := hx.cell 1 _ rfl
          have y2 := hx.cell 2 _ rfl
          have y3 := hx.cell 3 _ rfl
          have y4 := hx.cell 4 _ rfl
          clear hx
          go_upto_region 14 with fail
          generalize hw3 : World.setCell _ _ _ = w3
          rw [hw3] at HI2 HAc2
          clear hw3 hz f1 y0 y1 y2 y3 y4
          have x0 := HI2.out.box.cell 0 _ rfl
          have x1 := HI2.out.box.cell 1 _ rfl
          have x2 := HI2.out.box.cell 2 _ rfl
          have x3 := HI2.out.box.cell 3 _ rfl
          have x4 := HI2.out.box.cell 4 _ rfl
          go_wp2_with fail
          refine (slooks_any (4 * k + 4) (4 * k + 4) w.heap.size b' most st' _ _ _ _ ks' vs' us' fr' _ HI2.out.rep HI2.out.ref HI2.out.sync HI2.out.wf (by omega) (by omega)).mono ?_
          rintro e w4 ⟨rfl, hb4⟩
          have HI4 := Lib.hid (HI2.out.adv hb4)
          have HAc4 := Lib.hid (HAc2.out.below hb4)
          clear hb4 x0 x1 x2 x3 x4 HI2 HAc2
          go_wp2_with fail
          go_roundw
          case rel => exact ⟨k + 1, b', st', _, _, _, _, ks', vs', us', fr', by omega, by go_num, rfl, HI4.out, HAc4.out⟩
          case measure => simp [intOf]; omega
        · obtain rfl : k = ls.length := by omega
          go_wp2_with fail
          refine (known_true _).mono ?_
          rintro e w9 ⟨rfl, hb9⟩
          have HG := Lib.hid (HI.out.below.trans (hb9.mono HI.out.below.size))
          clear hb9
          go_wp2_with fail
          go_ret
          exact ⟨rfl, HG.out⟩

end Go.Proofs.Ytookfhmghchkjaa
