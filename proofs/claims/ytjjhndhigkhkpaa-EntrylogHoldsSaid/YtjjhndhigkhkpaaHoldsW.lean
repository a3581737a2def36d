/- The walk of EntrylogHolds. -/
import Derived.Test.YtjjhndhigkhkpaaHoldsR
import Derived.Deep.RegionHeld3
import Derived.Deep.CutBlock
import Derived.Deep.DeepCutAuto
import Derived.BigQuiet
namespace Go.Proofs.Ytjjhndhigkhkpaa
open Go Go.RowKit
attribute [local go_sem ↓] Go.wp_at_zero Go.wp_at_succ

theorem str_info : (Try.prog.info? 9).map (fun i => (i.zero, i.size, i.bytes)) = some (some (.string ⟨#[]⟩), 1, 16) := by kernel_rfl
theorem u64_info : (Try.prog.info? 27).map (fun i => (i.zero, i.size, i.bytes)) = some (some (.int .u64 0), 1, 8) := by kernel_rfl
theorem bool_info : (Try.prog.info? 4).map (fun i => (i.zero, i.size, i.bytes)) = some (some (.bool false), 1, 1) := by kernel_rfl

theorem HInv.drewN {w W : World} {lv kv bv gv v : Value} {ls : List ActV} {ps : List (Ent × Value)} {hs : List HRow} (h : HInv w W lv kv bv gv v ls ps hs) (n : Nat) : HInv w (W.drewN n) lv kv bv gv v ls ps hs := h.adv ⟨rfl, rfl, rfl, Nat.le_refl _, fun _ _ => rfl⟩
theorem vl_snoc {ps : List (Ent × Value)} {x : Ent} {v : Value} (h : ∀ p ∈ ps, p.1.val.length ≤ 65536) (hx : x.val.length ≤ 65536) : ∀ p ∈ ps ++ [(x, v)], p.1.val.length ≤ 65536 := fun p hp => by
  rcases List.mem_append.1 hp with hp | hp
  · exact h p hp
  · simp at hp; subst hp; exact hx
theorem vl_set {ps : List (Ent × Value)} {i : Nat} {x : Ent} {v : Value} (h : ∀ p ∈ ps, p.1.val.length ≤ 65536) (hx : x.val.length ≤ 65536) : ∀ p ∈ ps.set i (x, v), p.1.val.length ≤ 65536 := fun p hp => by
  rcases List.mem_or_eq_of_mem_set hp with hp | rfl
  · exact h p hp
  · exact hx

set_option maxRecDepth 100000 in
set_option maxHeartbeats 4000000 in
theorem holds_walk (v : Value) (ls : List ActV) (w : World) (h : Acts w w.heap.size v ls) :
    Calls Try.prog 4 #[v] w fun e w' => e = .returned (.bool true) ∧ Below w.heap.size w w' := by
  have HA := Lib.hid h
  obtain ⟨A, cap, rfl, hc1, hc2, _⟩ := h.row
  have hn : (ls.length : Int) ≤ 9223372036854775807 := by unfold maxLen at hc2; omega
  clear h hc2
  go_enter Try.func4, Try.ntmps4
  go_wp2_with fail
  refine (small_any _ _ _ _ HA.out).mono ?_
  rintro e w' ⟨rfl, rfl⟩
  cases hs : smallB ls with
  | false =>
    go_wp2_with fail
    refine (known_true _).mono ?_
    rintro e w9 ⟨rfl, hb9⟩
    have HG := Lib.hid hb9
    clear hb9
    go_wp2_with fail
    go_ret
    exact ⟨rfl, HG.out⟩
  | true =>
    have hsm : ls.length ≤ 60 ∧ ∀ a ∈ ls, a.e.key.size ≤ 300 ∧ a.e.val.length ≤ 300 := by
      unfold smallB at hs
      rw [Bool.and_eq_true, List.all_eq_true] at hs
      refine ⟨of_decide_eq_true hs.1, fun a ha => ?_⟩
      have := hs.2 a ha
      simpa [okA] using this
    have HS := Lib.hid hsm
    have hl60 := hsm.1
    clear hs hsm
    go_wp2_with fail
    refine (logNew_any _).mono ?_
    rintro e w1 ⟨rfl, hw1⟩
    have HI1 : Hid (HInv w w1 (.slice none 0 0) (.slice none 0 0) (.slice none 0 0) (.slice none 0 0) (.slice A ls.length cap) ls [] []) := Lib.hid (by
      have hb : Below w.heap.size w w1 := hw1 ▸ (Below.refl w.heap.size w).alloc (Nat.le_refl _) _
      exact ⟨⟨hw1 ▸ logNew_rep w w.heap.size (Nat.le_refl _), World.ownsRow_nil _ _ _ _, World.ownsRow_nil _ _ _ _, World.ownsRow_nil _ _ _ _, hb, HA.out.below hb⟩, Fits.nil, by simp⟩)
    clear hw1
    go_wp2_with fail
    go_loopw [4, 5, 6, 26] (fun vk vb vg i wr => ∃ (k : Nat) (ps : List (Ent × Value)) (hs : List HRow) (lv : Value), k ≤ ls.length ∧ i = .int .i64 k ∧ hs.length ≤ k ∧ HInv w wr lv vk vb vg (.slice A ls.length cap) ls ps hs) (fun _ _ _ i _ => ls.length - (intOf i).toNat)
    case atStart => exact ⟨0, [], [], _, by omega, rfl, by simp, HI1.out⟩
    case round =>
      obtain ⟨k, ps, hs, lv, hk, rfl, hhk, hinv⟩ := hrel
      obtain ⟨KA, kc, rfl, hx1, hx2⟩ := own_form hinv.base.keys
      obtain ⟨BA, bc, rfl, hx3, hx4⟩ := own_form hinv.base.births
      obtain ⟨GA, gc, rfl, hx5, hx6⟩ := own_form hinv.base.gone
      have HI := Lib.hid hinv
      clear hinv HI1 hx2 hx4 hx6
      by_cases hkl : k < ls.length
      · obtain ⟨a, ha⟩ : ∃ a, ls[k]? = some a := ⟨_, List.getElem?_eq_getElem hkl⟩
        obtain ⟨b, off, cap', e, _, hbB, c0, c1, c2, c3, c4, c5, hao⟩ := HI.out.base.acts.at_ ha
        injection e with e1 _ e3
        subst e1 e3
        obtain ⟨A', vc, hv'⟩ := hao.val.form
        rw [hv'] at c3
        have hklI : (k : Int) < (ls.length : Int) := by omega
        have hcI : (ls.length : Int) ≤ (cap : Int) := by omega
        have HAO := Lib.hid hao
        have HV' := Lib.hid hv'
        have HAa := Lib.hid ha
        have hasm := HS.out.2 a (List.mem_of_getElem? ha)
        have HSm := Lib.hid hasm
        clear hao hv' ha hasm
        have HI0 := Lib.hid (HI.out.alloc (.cells #[.int .i64 a.what, .int .u32 a.slot, .string a.e.key, .slice A' a.e.val.length vc, .int .u64 a.e.dl, .int .u64 a.e.birth] 44))
        have HBA := Lib.hid (Blk.new wr 44 #[.int .i64 a.what, .int .u32 a.slot, .string a.e.key, .slice A' a.e.val.length vc, .int .u64 a.e.dl, .int .u64 a.e.birth])
        have HVa := Lib.hid (HV'.out ▸ HAO.out.val.alloc (.cells #[.int .i64 a.what, .int .u32 a.slot, .string a.e.key, .slice A' a.e.val.length vc, .int .u64 a.e.dl, .int .u64 a.e.birth] 44) : Bts _ _ _ _ _)
        have hslot := HAO.out.slot
        have hsl0 : (0 : Int) ≤ a.slot := Int.natCast_nonneg _
        have hk60 : k < 60 := by omega
        go_upto_block 2 with fail
        clear c0 c1 c2 c3 c4 c5
        go_cut [4, 5, 6, 26, 31] (fun vk vb vg i _ wc => i = .int .i64 k ∧ ∃ (ps' : List (Ent × Value)) (hs' : List HRow) (lv' : Value), hs'.length ≤ k + 1 ∧ HInv w wc lv' vk vb vg (.slice (some ⟨b, off, none⟩) ls.length cap) ls ps' hs')
        case first =>
          by_cases hw0 : a.what = 0
          · rw [hw0] at HI0 HBA HVa
            go_wp2_with fail
            by_cases hch : chkE a.e.key a.e.val.length a.e.birth = 0
            · refine (logAppend_ok w.heap.size w.heap.size lv ps a.e.key _ a.e.val a.e.dl a.e.birth _ HI0.out.base.rep HAO.out.key HVa.out hch (by have := HI0.out.fit.len; omega)).mono ?_
              rintro e w2 ⟨rfl, lv2, v2, hr2, ho2, hrow2, hval2⟩
              have HI2 := Lib.hid (HI0.out.base.next hr2 ho2)
              rw [HI0.out.fit.len]
              have HF2 := Lib.hid (HI0.out.fit.snoc ⟨a.e.key, a.e.val, a.e.dl, a.e.birth⟩ v2 (chkE_pos hch).2.1)
              have hbf : ¬ logFp w.heap.size lv wr.heap.size := fun e => by have := (HI.out.base.rep.fp_lt e).2; omega
              have bA2 := HBA.out.only ho2 hbf
              have HBA2 := Lib.hid bA2
              have HVL2 := Lib.hid (vl_snoc (x := ⟨a.e.key, a.e.val, a.e.dl, a.e.birth⟩) (v := v2) HI0.out.vl (by have := HSm.out.2; show a.e.val.length ≤ 65536; omega))
              clear hr2 ho2 hrow2 hval2 hbf bA2
              have q2 := HBA2.out.cell 2 _ rfl
              have q5 := HBA2.out.cell 5 _ rfl
              have hn59 : hs.length < 60 := by omega
              go_upto_region 18 with fail
              refine three_appends (t48 := _) (t49 := _) (t50 := _) (t51 := _) (t52 := _) (t53 := _) (t54 := _) (t55 := _) (t56 := _) (t57 := _) (t58 := _) (t59 := _) (t60 := _) (t61 := _) (t62 := _) (hops := by kernel_rfl) (hB := HI2.out) (hX := HBA2.out) (hn := hn59) (hQ := ?_)
              intro K' B' G' kc' bc' gc' u48' u49' u50' u51' u52' u53' u54' u55' u56' u57' u58' u59' u60' u61' u62' w5 hB5
              have HB5 := Lib.hid hB5
              clear hB5
              go_wp2_with fail
              go_meet
              case rel => exact ⟨rfl, _, _, lv2, by rw [List.length_append]; simp; omega, HInv.snoc HB5.out HF2.out HVL2.out⟩
            · refine (logAppend_err w.heap.size w.heap.size lv ps a.e.key _ a.e.val a.e.dl a.e.birth _ HI0.out.base.rep HAO.out.key HVa.out hch).mono ?_
              rintro e w2 ⟨rfl, hb2⟩
              have hcv : (chkE a.e.key a.e.val.length a.e.birth != 0) = true := by simpa using hch
              have HI2 := Lib.hid (HI0.out.adv hb2)
              generalize chkE a.e.key a.e.val.length a.e.birth = c at hcv
              clear hch hb2
              go_wp2_with fail
              go_roundw
              case rel => exact ⟨k + 1, ps, hs, lv, by omega, by go_num, by omega, HI2.out⟩
              case measure => simp [intOf]; omega
          · by_cases hw2 : a.what = 2
            · rw [hw2] at HI0 HBA HVa
              go_wp2_with fail
              rcases has_or ps a.slot with ⟨x, xv, hp⟩ | hp
              · refine (logSet_ok w.heap.size w.heap.size lv ps a.slot _ a.e.val a.e.dl _ x xv HI0.out.base.rep hp HVa.out (by have := HSm.out.2; omega)).mono ?_
                rintro e w2 ⟨rfl, v', hr2, ho2, _⟩
                have HI2 := Lib.hid (HI0.out.next hr2 ho2 (HI0.out.fit.set hp.at_ hp.birth rfl rfl) (vl_set HI0.out.vl (by have := HSm.out.2; show a.e.val.length ≤ 65536; omega)))
                clear hr2 ho2 hp
                go_wp2_with fail
                go_meet
                case rel => exact ⟨rfl, _, hs, lv, by omega, HI2.out⟩
              · refine (logSet_none w.heap.size w.heap.size lv ps a.slot _ a.e.dl _ HI0.out.base.rep hp hslot).mono ?_
                rintro e w2 ⟨rfl, rfl⟩
                go_wp2_with fail
                go_meet
                case rel => exact ⟨rfl, ps, hs, lv, by omega, HI0.out⟩
            · by_cases hw3 : a.what = 3
              · rw [hw3] at HI0 HBA HVa
                go_wp2_with fail
                rcases has_or ps a.slot with ⟨x, xv, hp⟩ | hp
                · refine (logRemove_ok w.heap.size w.heap.size lv ps a.slot _ x xv HI0.out.base.rep hp (by have := HI0.out.vl _ hp.mem; dsimp only at this; omega)).mono ?_
                  rintro e w2 ⟨xv2, rfl, hxo, hr2, ho2⟩
                  obtain ⟨XA, xc, rfl, _, _⟩ := own_form hxo
                  obtain ⟨r, hr, hrf⟩ := HI0.out.fit.false_of hp
                  obtain ⟨hrl, hri⟩ := List.getElem?_eq_some_iff.1 hr
                  have HI2 := Lib.hid (HI0.out.base.next hr2 ho2)
                  have HI2a := Lib.hid (HI2.out.alloc (.cells #[.string x.key, .slice XA x.val.length xc, .int .u64 x.dl, .int .u64 x.birth] 31))
                  have hbf : ¬ logFp w.heap.size lv wr.heap.size := fun e => by have := (HI.out.base.rep.fp_lt e).2; omega
                  have bA2 := HBA.out.only ho2 hbf
                  have HBA2 := Lib.hid bA2
                  have q1 := HBA2.out.cell 1 _ rfl
                  have hslI : (a.slot : Int) < (hs.length : Int) := by omega
                  obtain ⟨gG, hgG, rfl, hgc, hgle⟩ := own_at HI2.out.gone hrl
                  have HFR := Lib.hid (HI2a.out.gone.frozenAt a.slot)
                  have HGC := Lib.hid (HI2a.out.gone.cellAt a.slot (by omega))
                  have hgf : (gcells hs)[a.slot]? = some (.bool false) := by unfold gcells; simp [hr, hrf]
                  rw [hgf] at hgc HGC
                  have hgcI : (hs.length : Int) ≤ (gc : Int) := by omega
                  have hfz := HFR.out
                  have hcz := HGC.out
                  have HR := Lib.hid hr
                  have hne : gG ≠ w2.heap.size := by omega
                  have hw12 : wr.heap.size < w2.heap.size := HBA2.out.lt
                  clear hxo hr2 ho2 hp hr hri hgf bA2 hbf hgc
                  go_wp2_with fail
                  go_meet
                  case rel => exact ⟨rfl, ps.set a.slot (zent, .slice none 0 0), hs.set a.slot (r.1, r.2.1, true), lv, by rw [List.length_set]; omega, (HInv.gone1 HI2.out HI0.out.fit HR.out HI0.out.vl).alloc _⟩
                · refine (logRemove_none w.heap.size w.heap.size lv ps a.slot _ HI0.out.base.rep hp hslot).mono ?_
                  rintro e w2 ⟨rfl, hb2⟩
                  have HI2 := Lib.hid (HI0.out.adv hb2)
                  clear hb2
                  unfold noEnt
                  go_wp2_with fail
                  go_meet
                  case rel => exact ⟨rfl, ps, hs, lv, by omega, HI2.out.alloc _⟩
              · go_wp2_with fail
                go_meet
                case rel => exact ⟨rfl, ps, hs, lv, by omega, HI0.out⟩
        case rest =>
          obtain ⟨rfl, ps2, hs2, lv2, hle2, hinv2⟩ := hcut
          clear HI0 HBA HVa HI HAO HV' HAa HSm
          obtain ⟨KA2, kc2, rfl, hx1, hx2⟩ := own_form hinv2.base.keys
          obtain ⟨BA2, bc2, rfl, hx3, hx4⟩ := own_form hinv2.base.births
          obtain ⟨GA2, gc2, rfl, hx5, hx6⟩ := own_form hinv2.base.gone
          have HI := Lib.hid hinv2
          clear hinv2 hx2 hx4 hx6
          go_wp2_with fail
          go_loopw [13, 105] (fun lvn j wr2 => ∃ m : Nat, m ≤ hs2.length ∧ j = .int .i64 m ∧ lvn = .int .i64 (liveH (hs2.take m)) ∧ HInv w wr2 lv2 (.slice KA2 hs2.length kc2) (.slice BA2 hs2.length bc2) (.slice GA2 hs2.length gc2) (.slice (some ⟨b, off, none⟩) ls.length cap) ls ps2 hs2) (fun _ j _ => hs2.length - (intOf j).toNat)
          case atStart => exact ⟨0, by omega, rfl, by simp [liveH], HI.out⟩
          case round =>
            obtain ⟨m, hm, rfl, rfl, hinv3⟩ := hrel
            have HI3 := Lib.hid hinv3
            clear hinv3
            by_cases hmn : m < hs2.length
            · obtain ⟨r, hr⟩ : ∃ r, hs2[m]? = some r := ⟨_, List.getElem?_eq_getElem hmn⟩
              have hlv := liveH_take hr
              have hmI : (m : Int) < (hs2.length : Int) := by omega
              have hm0 : (0 : Int) ≤ (m : Int) := Int.natCast_nonneg _
              have hl60 : (hs2.length : Int) ≤ 60 := by omega
              have HLV := Lib.hid hlv
              have HR := Lib.hid hr
              clear hlv
              cases hg : r.2.2 with
              | true =>
                have HN := Lib.hid (HI3.out.fit.hasnt hr hg)
                clear hr
                go_wp2_with fail
                refine (logGet_none w.heap.size w.heap.size lv2 ps2 m _ HI3.out.base.rep HN.out (by omega)).mono ?_
                rintro e w4 ⟨rfl, hb4⟩
                have HI4 := Lib.hid (HI3.out.adv hb4)
                clear hb4
                have hB4 := Lib.hid (HI4.out.alloc (.cells #[.string ⟨#[]⟩, .slice none 0 0, .int .u64 0, .int .u64 0] 31))
                have hN4 := Lib.hid (Blk.new w4 31 #[.string ⟨#[]⟩, .slice none 0 0, .int .u64 0, .int .u64 0])
                obtain ⟨gG, hgG, rfl, hgc, hgle⟩ := own_at HI4.out.base.gone hmn
                have hgf : (gcells hs2)[m]? = some (.bool true) := by unfold gcells; simp [HR.out, hg]
                rw [hgf] at hgc
                have hgcI : (hs2.length : Int) ≤ (gc2 : Int) := by omega
                clear hgf
                unfold noEnt
                go_wp2_with fail
                go_quiet (fail)
                go_wp2_with fail
                go_roundw
                case rel => exact ⟨m + 1, by omega, by go_num, by rw [HLV.out, hg]; simp, hB4.out.drewN _⟩
                case measure => simp [intOf]; omega
              | false =>
                obtain ⟨val, dl, u, hp⟩ := HI3.out.fit.has hr hg
                have hvl := HI3.out.vl _ hp.mem
                have HVL : Hid (val.length ≤ 1000000000) := Lib.hid (by dsimp only at hvl; omega)
                have HP := Lib.hid hp
                clear hr hp hvl
                go_wp2_with fail
                refine (logGet_some w.heap.size w.heap.size lv2 ps2 m _ ⟨r.1, val, dl, r.2.1⟩ u HI3.out.base.rep HP.out HVL.out).mono ?_
                rintro e w4 ⟨xv, rfl, hxo, hb4⟩
                dsimp only at hxo
                obtain ⟨XA, xc, rfl, _, _⟩ := own_form hxo
                have HI4 := Lib.hid (HI3.out.adv hb4)
                clear hxo hb4
                have hB4 := Lib.hid (HI4.out.alloc (.cells #[.string r.1, .slice XA val.length xc, .int .u64 dl, .int .u64 r.2.1] 31))
                obtain ⟨gG, hgG, rfl, hgc, hgle⟩ := own_at HI4.out.base.gone hmn
                obtain ⟨gK, hgK, rfl, hkc, hkle⟩ := own_at HI4.out.base.keys hmn
                obtain ⟨gB, hgB, rfl, hbc, hble⟩ := own_at HI4.out.base.births hmn
                have hgf : (gcells hs2)[m]? = some (.bool false) := by unfold gcells; simp [HR.out, hg]
                have hkf : (kcells hs2)[m]? = some (.string r.1) := by unfold kcells; simp [HR.out]
                have hbf : (ucells hs2)[m]? = some (.int .u64 r.2.1) := by unfold ucells; simp [HR.out]
                rw [hgf] at hgc
                rw [hkf] at hkc
                rw [hbf] at hbc
                have hgcI : (hs2.length : Int) ≤ (gc2 : Int) := by omega
                have hkcI : (hs2.length : Int) ≤ (kc2 : Int) := by omega
                have hbcI : (hs2.length : Int) ≤ (bc2 : Int) := by omega
                have hL0 : ((liveH (hs2.take m) : Nat) : Int) ≤ 60 := by
                  have : liveH (hs2.take m) ≤ (hs2.take m).length := List.length_filter_le _ _
                  rw [List.length_take] at this
                  omega
                clear hgf hkf hbf
                dsimp only
                go_wp2_with fail
                go_quiet (fail)
                go_wp2_with fail
                go_roundw
                case rel => exact ⟨m + 1, by omega, by go_num, by rw [HLV.out, hg]; go_num, hB4.out.drewN _⟩
                case measure => simp [intOf]; omega
            · obtain rfl : m = hs2.length := by omega
              have hfl := HI3.out.fit.live
              have hfn := HI3.out.fit.len
              rw [List.take_length]
              go_wp2_with fail
              refine (logLive_any w.heap.size w.heap.size lv2 ps2 _ HI3.out.base.rep).mono ?_
              rintro e w5 ⟨rfl, rfl⟩
              rw [hfl]
              go_wp2_with fail
              refine (logLen_any w.heap.size w.heap.size lv2 ps2 _ HI3.out.base.rep).mono ?_
              rintro e w5 ⟨rfl, rfl⟩
              rw [hfn]
              go_wp2_with fail
              go_roundw
              case rel => exact ⟨k + 1, ps2, hs2, lv2, by omega, by go_num, by omega, HI3.out⟩
              case measure => simp [intOf]; omega
      · obtain rfl : k = ls.length := by omega
        go_wp2_with fail
        refine (known_true _).mono ?_
        rintro e w9 ⟨rfl, hb9⟩
        have HG := Lib.hid (HI.out.base.below.trans (hb9.mono HI.out.base.below.size))
        clear hb9
        go_wp2_with fail
        go_ret
        exact ⟨rfl, HG.out⟩

end Go.Proofs.Ytjjhndhigkhkpaa
