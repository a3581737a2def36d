/- The walk of EntrylogIterates. -/
import Derived.Test.YtjjhndhigkhkpaaIterT
namespace Go.Proofs.Ytjjhndhigkhkpaa
open Go Go.RowKit
attribute [local go_sem ↓] Go.wp_at_zero Go.wp_at_succ

set_option maxRecDepth 100000 in
set_option maxHeartbeats 4000000 in
theorem iterates_walk (v : Value) (many : Int) (ls : List ActV) (w : World) (h : Acts w w.heap.size v ls) :
    Calls Try.prog 6 #[v, .int .i64 many] w fun e w' => e = .returned (.bool true) ∧ Below w.heap.size w w' := by
  have HA := Lib.hid h
  obtain ⟨A, cap, rfl, hc1, hc2, _⟩ := h.row
  have hn : (ls.length : Int) ≤ 9223372036854775807 := by unfold maxLen at hc2; omega
  clear h hc2
  refine (callsIn_wide (n := 9)).1 ?_
  refine callsIn_of_wp_marks Try.func6 rfl trivial ?_ rfl
  simp only [Try.ntmps6, List.size_toArray, List.length_cons, List.length_nil, Nat.reduceAdd, Nat.reduceSub, Array.replicate_succ, Array.replicate_zero, List.push_toArray, List.append_toArray, List.nil_append, List.cons_append]
  refine wpIn_wide.2 ?_
  go_upto_region 1 with fail
  obtain ⟨wa, hwa⟩ : ∃ wa, (w.alloc (.cells #[.int .i64 many] 3)).alloc (.cells #[.bool false] 4) = wa := ⟨_, rfl⟩
  have hba : Below w.heap.size w wa := hwa ▸ ((Below.refl _ _).alloc (Nat.le_refl _) _).alloc (by simp) _
  have H3 : Hid (Blk wa w.heap.size 3 #[.int .i64 many]) := Lib.hid (hwa ▸ (Blk.new _ _ _).alloc _)
  have H4 : Hid (Blk wa (w.heap.size + 1) 4 #[.bool false]) := Lib.hid (hwa ▸ Blk.new2 _ _ _ _)
  have HAa := Lib.hid (HA.out.below hba)
  have HBa := Lib.hid hba
  have hz4 := H4.out.lt
  rw [hwa]
  clear hwa hba HA
  go_wp2_with fail
  refine (small_any _ _ _ _ HAa.out).mono ?_
  rintro e w' ⟨rfl, rfl⟩
  cases hs : smallB ls with
  | false =>
    go_wp2_with fail
    refine (known_true _).mono ?_
    rintro e w9 ⟨rfl, hb9⟩
    have hb4 := H4.out.below hb9
    have r4 := hb4.frozen
    have r0 := hb4.cell 0 _ rfl
    have hz9 := hb4.lt
    have HG := Lib.hid (HBa.out.trans (hb9.mono HBa.out.size))
    have HB4 := Lib.hid hb4
    clear hb9 hb4
    go_wp2_with fail
    have hr := (HB4.out.set_ 0 (.bool true)).cell 0 _ rfl
    exact ⟨_, by simp [results, Try.results6, go_sem, hr], rfl, HG.out.setCell (p := ⟨w.heap.size + 1, 0, none⟩) (by simp) _⟩
  | true =>
    have hsm : ls.length ≤ 60 ∧ ∀ a ∈ ls, a.e.key.size ≤ 300 ∧ a.e.val.length ≤ 300 := by
      unfold smallB at hs
      rw [Bool.and_eq_true, List.all_eq_true] at hs
      refine ⟨of_decide_eq_true hs.1, fun a ha => ?_⟩
      have := hs.2 a ha
      simpa [okA] using this
    have HS := Lib.hid hsm
    have hl60 := hsm.1
    clear hs hsm
    go_wp2_with fail
    refine (logNew_any _).mono ?_
    rintro e w1 ⟨rfl, hw1⟩
    have hbn : Below wa.heap.size wa w1 := hw1 ▸ (Below.refl wa.heap.size wa).alloc (Nat.le_refl _) _
    have HL1 : Hid (LogRep w1 w.heap.size wa.heap.size (.slice none 0 0) []) := Lib.hid (hw1 ▸ logNew_rep wa w.heap.size HBa.out.size)
    have HB1 : Hid (Below w.heap.size w w1) := Lib.hid (HBa.out.trans (hbn.mono HBa.out.size))
    have HA1 := Lib.hid (HAa.out.below hbn)
    have H31 := Lib.hid ((H3.out.below hbn).alloc (.cells #[.slice none 0 0, .slice none 0 0] 49))
    have H41 := Lib.hid ((H4.out.below hbn).alloc (.cells #[.slice none 0 0, .slice none 0 0] 49))
    have HI1 : Hid (PInv w (w1.alloc (.cells #[.slice none 0 0, .slice none 0 0] 49)) w1.heap.size wa.heap.size (.slice none 0 0) (.slice none 0 0) (.slice none 0 0) [] [] (.slice A ls.length cap) ls) := Lib.hid
      ⟨HL1.out.alloc _, RRep.nil _ _, Sync.nil, (fun k hk => by cases hk), HA1.out.below ((Below.refl _ _).alloc (Nat.le_refl _) _), HB1.out.alloc HB1.out.size _, Blk.new _ _ _, HB1.out.size⟩
    have hz1 : w.heap.size + 1 < w1.heap.size := by have := hbn.size; omega
    clear hw1 hbn
    go_wp2_with fail
    go_loopw [5, 27] (fun x i wr => ∃ (k b : Nat) (ps : List (Ent × Value)) (rs : List RE) (lv lw gw : Value), k ≤ ls.length ∧ i = .int .i64 k ∧ x = .pointer (some ⟨b, 0, none⟩) ∧ rs.length ≤ k ∧ PInv w wr w1.heap.size b lv lw gw ps rs (.slice A ls.length cap) ls ∧ Blk wr w.heap.size 3 #[.int .i64 many] ∧ Blk wr (w.heap.size + 1) 4 #[.bool false]) (fun _ i _ => ls.length - (intOf i).toNat)
    case atStart => exact ⟨0, wa.heap.size, [], [], _, _, _, by omega, rfl, rfl, by simp, HI1.out, H31.out, H41.out⟩
    case round =>
      obtain ⟨k, b, ps, rs, lv, lw, gw, hk, rfl, rfl, hrk, hinv, h3, h4⟩ := hrel
      obtain ⟨LA, lc, rfl, hx1, hx2⟩ := own_form hinv.ref.row
      obtain ⟨GA, gc, rfl, hx3, hx4⟩ := own_form hinv.ref.gone
      have HI := Lib.hid hinv
      have HX3 := Lib.hid h3
      have HX4 := Lib.hid h4
      clear hinv HI1 HL1 HB1 H31 H41 HA1 hx2 hx4 h3 h4
      by_cases hkl : k < ls.length
      · obtain ⟨a, ha⟩ : ∃ a, ls[k]? = some a := ⟨_, List.getElem?_eq_getElem hkl⟩
        obtain ⟨bb, off, cap', e, _, hbB, c0, c1, c2, c3, c4, c5, hao⟩ := HI.out.acts.at_ ha
        injection e with e1 _ e3
        subst e1 e3
        obtain ⟨A', vc, hv'⟩ := hao.val.form
        rw [hv'] at c3
        have hklI : (k : Int) < (ls.length : Int) := by omega
        have hcI : (ls.length : Int) ≤ (cap : Int) := by omega
        have HV' := Lib.hid hv'
        have HSm := Lib.hid (HS.out.2 a (List.mem_of_getElem? ha))
        have hbal := (Below.refl wr.heap.size wr).alloc (Nat.le_refl _) (.cells #[.int .i64 a.what, .int .u32 a.slot, .string a.e.key, .slice A' a.e.val.length vc, .int .u64 a.e.dl, .int .u64 a.e.birth] 44)
        have HI0 := Lib.hid (HI.out.adv hbal)
        have HX30 := Lib.hid (HX3.out.below hbal)
        have HX40 := Lib.hid (HX4.out.below hbal)
        have HAO : Hid (a.Ok (wr.alloc (.cells #[.int .i64 a.what, .int .u32 a.slot, .string a.e.key, .slice A' a.e.val.length vc, .int .u64 a.e.dl, .int .u64 a.e.birth] 44)) w.heap.size) := Lib.hid (HI0.out.acts.each a (List.mem_of_getElem? ha))
        have hrk9 : rs.length ≤ 1000 := by omega
        have HN := Lib.hid hrk9
        have x0 : wr.cell? ⟨w1.heap.size, 0, none⟩ = some (.slice LA rs.length lc) := HI.out.box.cell 0 _ rfl
        have x1 : wr.cell? ⟨w1.heap.size, 1, none⟩ = some (.slice GA rs.length gc) := HI.out.box.cell 1 _ rfl
        have hzz := HI.out.box.lt
        clear hao hv' ha hrk9 hbal
        go_wp2_with fail
        have hdo := do_any w.heap.size b lv _ _ ps rs a _ HI0.out.rep HI0.out.ref HI0.out.sync HI0.out.apart HAO.out HSm.out HN.out
        rw [HV'.out] at hdo
        refine hdo.mono ?_
        clear hdo
        rintro e w2 ⟨b', lv', lw', gw', ps', rs', rfl, hl2, hr2, hs2, ha2, hb2, hk2, hn2⟩
        obtain ⟨LA', lc', rfl, hy1, hy2⟩ := own_form hr2.row
        obtain ⟨GA', gc', rfl, hy3, hy4⟩ := own_form hr2.gone
        have hx := hk2.blk HI0.out.box (by decide) (by decide)
        have f1 := hx.frozen
        have HI2 := Lib.hid (HI0.out.done hl2 hr2 hs2 ha2 hb2 hk2)
        have hx3 := hk2.blk HX30.out (by decide) (by decide)
        have hx4 := hk2.blk HX40.out (by decide) (by decide)
        have HX32 := Lib.hid ((hx3.far (p := ⟨w1.heap.size, 0, none⟩) (by dsimp only; omega) (.slice LA' rs'.length lc')).far (p := ⟨w1.heap.size, 1, none⟩) (by dsimp only; omega) (.slice GA' rs'.length gc'))
        have HX42 := Lib.hid ((hx4.far (p := ⟨w1.heap.size, 0, none⟩) (by dsimp only; omega) (.slice LA' rs'.length lc')).far (p := ⟨w1.heap.size, 1, none⟩) (by dsimp only; omega) (.slice GA' rs'.length gc'))
        clear hl2 hr2 hs2 ha2 hb2 hk2 c0 c1 c2 c3 c4 c5 x0 x1 hy2 hy4 hx3 hx4
        have hz := hx.lt
        have y0 : w2.cell? ⟨w1.heap.size, 0, none⟩ = some (.slice LA rs.length lc) := hx.cell 0 _ rfl
        have y1 : w2.cell? ⟨w1.heap.size, 1, none⟩ = some (.slice GA rs.length gc) := hx.cell 1 _ rfl
        clear hx
        go_upto_region 10 with fail
        generalize hw3 : World.setCell _ _ _ = w3
        rw [hw3] at HI2 HX32 HX42
        clear hw3 hz f1 y0 y1
        go_wp2_with fail
        go_roundw
        case rel => exact ⟨k + 1, b', ps', rs', lv', _, _, by omega, by go_num, rfl, by omega, HI2.out, HX32.out, HX42.out⟩
        case measure => simp [intOf]; omega
      · obtain rfl : k = ls.length := by omega
        have x0 : wr.cell? ⟨w1.heap.size, 0, none⟩ = some (.slice LA rs.length lc) := HI.out.box.cell 0 _ rfl
        have x1 : wr.cell? ⟨w1.heap.size, 1, none⟩ = some (.slice GA rs.length gc) := HI.out.box.cell 1 _ rfl
        go_wp2_with fail
        refine (refSlots_any w.heap.size _ _ rs _ HI.out.ref).mono ?_
        rintro e w5 ⟨sv, rfl, hsv, hb5⟩
        obtain ⟨SA, sc, rfl, _, _⟩ := own_form hsv
        have hba5 := (Below.refl w5.heap.size w5).alloc (Nat.le_refl _) (.cells #[.slice SA (slotsR rs rs.length).length sc] 53)
        have HSv := Lib.hid ((ownsRow_base hsv (Nat.zero_le _)).alloc (.cells #[.slice SA (slotsR rs rs.length).length sc] 53))
        have HI5 := Lib.hid ((HI.out.adv hb5).adv hba5)
        have HX35 := Lib.hid ((HX3.out.below hb5).below hba5)
        have HX45 := Lib.hid ((HX4.out.below hb5).below hba5)
        have HS9 : Hid (Blk (w5.alloc (.cells #[.slice SA (slotsR rs rs.length).length sc] 53)) w5.heap.size 53 #[.slice SA (slotsR rs rs.length).length sc]) := Lib.hid (Blk.new _ _ _)
        clear hsv hb5 hba5 x0 x1
        go_wp2_with fail
        refine (logAll_any w.heap.size b lv ps _ HI5.out.rep).mono ?_
        rintro e w7 ⟨rfl, ⟨av, hab, hav⟩, hb7⟩
        have hba7 := (Below.refl w7.heap.size w7).alloc (Nat.le_refl _) (.cells #[.int .i64 0] 3)
        have HI7 := Lib.hid ((HI5.out.adv hb7).adv hba7)
        have HII : Hid (IInv w (w7.alloc (.cells #[.int .i64 0] 3)) b lv ps (.slice LA rs.length lc) (.slice GA rs.length gc) rs ps w1.heap.size w5.heap.size (w5.heap.size + 1) av SA sc many []) := Lib.hid
          { rep := HI7.out.rep
            qlen := by rw [HI7.out.sync.len]; omega
            qval := HI7.out.sync.vals HI7.out.ref
            ref := HI7.out.ref
            apart := HI7.out.apart
            below := HI7.out.below
            b3 := (HX35.out.below hb7).below hba7
            b4 := (HX45.out.below hb7).below hba7
            b6 := HI7.out.box
            b9 := (HS9.out.below hb7).below hba7
            want := (ownsRow_only (S := fun _ => False) HSv.out (Only.of_below hb7) (fun _ _ h => h)).alloc _
            bs := by have h1 := hab.below hba7; rw [World.size_alloc] at h1; exact h1
            own := (ownsRow_base hav (Nat.zero_le _)).alloc _
            avs := fun k hk e => by
              have h1 := (row_block hav hk).1
              have h2 := (HI5.out.rep.fp_lt e).2
              omega
            vals := HI7.out.rep.vals
            marks := trivial }
        have HQl := Lib.hid (show ps.length ≤ 100 by rw [HI7.out.sync.len]; omega)
        clear hab hav hb7 hba7
        have kq := run_eql_seq_nil
        go_wp2_with fail
        refine iter_turns (t12 := _) (t16 := _) (t46 := _) (t47 := _) (t48 := _) (t49 := _) (t50 := _) (t86 := _) (t87 := _) (t88 := _) (t89 := _) (t90 := _) (t91 := _) (t92 := _) (t93 := _) (t94 := _) (t95 := _) (t96 := _) (t97 := _) (t98 := _) (t99 := _) (t100 := _) (t101 := _) (t102 := _) (t103 := _) (t104 := _) (t105 := _) (t106 := _) (t107 := _) (t108 := _) (t109 := _) (t110 := _) (t111 := _) (t112 := _) (t113 := _) (t114 := _) (t115 := _) (t116 := _) (t117 := _) (t118 := _) (t119 := _) (t120 := _) (t121 := _) (t122 := _) (t123 := _) (t124 := _) (hc := by kernel_rfl) (h := HII.out) (hs := HI7.out.sync) (hp := HQl.out) (hq := HQl.out) (h11 := Blk.new _ _ _) (hQ := ?_)
        intro _ _ _ _ _ _ _ _ _ _ _ _ _ _ _ _ _ _ _ _ _ _ _ _ _ _ _ _ _ _ _ _ _ _ _ _ _ _ _ _ _ _ _ _ _ _ g11 lv' qs' ds W hI
        have HI := Lib.hid hI
        clear hI
        go_wp2_with fail
        refine (known_true _).mono ?_
        rintro e w9 ⟨rfl, hb9⟩
        have hI9 := HI.out.adv hb9
        have r4 := hI9.b4.frozen
        have r0 := hI9.b4.cell 0 _ rfl
        have hz9 := hI9.b4.lt
        have HI9 := Lib.hid hI9
        clear hb9 hI9
        go_wp2_with fail
        refine marks_leave (B := w.heap.size) ds _ (HI9.out.marks.keep ((KeepsOthers.setCell w9 ⟨w.heap.size + 1, 0, none⟩ (.bool true)).from _)) (fun W' hs => ?_)
        have hr := (hs.blk (HI9.out.b4.set_ 0 (.bool true))).cell 0 _ rfl
        exact ⟨_, by simp [results, Try.results6, go_sem, hr], rfl, (HI9.out.below.setCell (p := ⟨w.heap.size + 1, 0, none⟩) (by simp) _).trans hs.below⟩

end Go.Proofs.Ytjjhndhigkhkpaa
