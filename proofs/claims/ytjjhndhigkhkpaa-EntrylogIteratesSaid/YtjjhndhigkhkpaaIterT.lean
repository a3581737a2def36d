/- EntrylogIterates: the two turns. Printed by wip/gen_iter2.py. -/
import Derived.Test.YtjjhndhigkhkpaaIterR
namespace Go.Proofs.Ytjjhndhigkhkpaa
open Go Go.RowKit
attribute [local go_sem ↓] Go.wp_at_zero Go.wp_at_succ

/-- How many turns are left: 2 less the number in the box that slot 11 points at. -/
def turnsLeft (a : Act) (W : World) : Nat := match a.tmps[11]? with
  | some (Value.pointer (some p)) => 2 - (intOf ((W.cell? p).getD undef)).toNat
  | _ => 0

theorem slots_small {ps : List (Ent × Value)} {rs : List RE} (hs : Sync ps rs) {s : Nat} (h : s ∈ slotsR rs rs.length) : s < rs.length := by
  rw [← hs.slots rs.length] at h
  obtain ⟨x, hx, rfl⟩ := List.mem_map.1 h
  unfold itemsTo at hx
  obtain ⟨i, hi, he⟩ := List.mem_filterMap.1 hx
  unfold itemAt at he
  split at he
  · split at he
    · cases he
    · injection he with he
      subst he
      exact List.mem_range.1 hi
  · cases he


set_option maxRecDepth 100000 in
set_option maxHeartbeats 4000000 in
theorem iter_turns (c : Code) (hc : Try.f6.body.bind (blkAt 2) = some c) (w W1 : World) (b : Nat) (lv : Value) (qs : List (Ent × Value)) (lw gw : Value) (rs : List RE) (ps : List (Ent × Value)) (g6 g9 Bs : Nat) (av : Value) (SA : Option Addr) (sc : Nat) (many : Int) (g11 : Nat)
    (t0 t1 t2 t7 t8 t12 t13 t14 t15 t16 t17 t18 t19 t20 t21 t22 t23 t24 t25 t26 t27 t28 t29 t30 t31 t32 t33 t34 t35 t36 t37 t38 t39 t40 t41 t42 t43 t44 t45 t46 t47 t48 t49 t50 t51 t52 t53 t54 t55 t56 t57 t58 t59 t60 t61 t62 t63 t64 t65 t66 t67 t68 t69 t70 t71 t72 t73 t74 t75 t76 t77 t78 t79 t80 t81 t82 t83 t84 t85 t86 t87 t88 t89 t90 t91 t92 t93 t94 t95 t96 t97 t98 t99 t100 t101 t102 t103 t104 t105 t106 t107 t108 t109 t110 t111 t112 t113 t114 t115 t116 t117 t118 t119 t120 t121 t122 t123 t124 t125 : Value) (Q : Exit → Act → World → Prop)
    (h : IInv w W1 b lv qs lw gw rs ps g6 g9 Bs av SA sc many []) (hs : Sync ps rs) (hp : ps.length ≤ 100) (hq : qs.length ≤ 100) (h11 : Blk W1 g11 3 #[.int .i64 0])
    (hQ : ∀ (u12 u16 u46 u47 u48 u49 u50 u86 u87 u88 u89 u90 u91 u92 u93 u94 u95 u96 u97 u98 u99 u100 u101 u102 u103 u104 u105 u106 u107 u108 u109 u110 u111 u112 u113 u114 u115 u116 u117 u118 u119 u120 u121 u122 u123 u124 : Value) (g11 : Nat) (lv : Value) (qs : List (Ent × Value)) (ds : List Deferred) (W : World), IInv w W b lv qs lw gw rs ps g6 g9 Bs av SA sc many ds → Q (.exit 2) { tmps := (t0 :: t1 :: t2 :: (.pointer (some ⟨w.heap.size, 0, none⟩)) :: (.pointer (some ⟨w.heap.size + 1, 0, none⟩)) :: (.pointer (some ⟨b, 0, none⟩)) :: (.pointer (some ⟨g6, 0, none⟩)) :: t7 :: t8 :: (.pointer (some ⟨g9, 0, none⟩)) :: (.func (.func 42) #[] #[.pointer (some ⟨Bs, 0, none⟩)]) :: (.pointer (some ⟨g11, 0, none⟩)) :: (u12) :: t13 :: t14 :: t15 :: (u16) :: t17 :: t18 :: t19 :: t20 :: t21 :: t22 :: t23 :: t24 :: t25 :: t26 :: t27 :: t28 :: t29 :: t30 :: t31 :: t32 :: t33 :: t34 :: t35 :: t36 :: t37 :: t38 :: t39 :: t40 :: t41 :: t42 :: t43 :: t44 :: t45 :: (u46) :: (u47) :: (u48) :: (u49) :: (u50) :: t51 :: t52 :: t53 :: t54 :: t55 :: t56 :: t57 :: t58 :: t59 :: t60 :: t61 :: t62 :: t63 :: t64 :: t65 :: t66 :: t67 :: t68 :: t69 :: t70 :: t71 :: t72 :: t73 :: t74 :: t75 :: t76 :: t77 :: t78 :: t79 :: t80 :: t81 :: t82 :: t83 :: t84 :: t85 :: (u86) :: (u87) :: (u88) :: (u89) :: (u90) :: (u91) :: (u92) :: (u93) :: (u94) :: (u95) :: (u96) :: (u97) :: (u98) :: (u99) :: (u100) :: (u101) :: (u102) :: (u103) :: (u104) :: (u105) :: (u106) :: (u107) :: (u108) :: (u109) :: (u110) :: (u111) :: (u112) :: (u113) :: (u114) :: (u115) :: (u116) :: (u117) :: (u118) :: (u119) :: (u120) :: (u121) :: (u122) :: (u123) :: (u124) :: t125 :: []).toArray, defers := ds } W) :
    c.wp Try.prog Q { tmps := (t0 :: t1 :: t2 :: (.pointer (some ⟨w.heap.size, 0, none⟩)) :: (.pointer (some ⟨w.heap.size + 1, 0, none⟩)) :: (.pointer (some ⟨b, 0, none⟩)) :: (.pointer (some ⟨g6, 0, none⟩)) :: t7 :: t8 :: (.pointer (some ⟨g9, 0, none⟩)) :: (.func (.func 42) #[] #[.pointer (some ⟨Bs, 0, none⟩)]) :: (.pointer (some ⟨g11, 0, none⟩)) :: t12 :: t13 :: t14 :: t15 :: t16 :: t17 :: t18 :: t19 :: t20 :: t21 :: t22 :: t23 :: t24 :: t25 :: t26 :: t27 :: t28 :: t29 :: t30 :: t31 :: t32 :: t33 :: t34 :: t35 :: t36 :: t37 :: t38 :: t39 :: t40 :: t41 :: t42 :: t43 :: t44 :: t45 :: t46 :: t47 :: t48 :: t49 :: t50 :: t51 :: t52 :: t53 :: t54 :: t55 :: t56 :: t57 :: t58 :: t59 :: t60 :: t61 :: t62 :: t63 :: t64 :: t65 :: t66 :: t67 :: t68 :: t69 :: t70 :: t71 :: t72 :: t73 :: t74 :: t75 :: t76 :: t77 :: t78 :: t79 :: t80 :: t81 :: t82 :: t83 :: t84 :: t85 :: t86 :: t87 :: t88 :: t89 :: t90 :: t91 :: t92 :: t93 :: t94 :: t95 :: t96 :: t97 :: t98 :: t99 :: t100 :: t101 :: t102 :: t103 :: t104 :: t105 :: t106 :: t107 :: t108 :: t109 :: t110 :: t111 :: t112 :: t113 :: t114 :: t115 :: t116 :: t117 :: t118 :: t119 :: t120 :: t121 :: t122 :: t123 :: t124 :: t125 :: []).toArray, defers := [] } W1 := by
  simp [Try.f6, blkAt] at hc
  subst hc
  have HI := Lib.hid h
  have HS := Lib.hid hs
  have HP := Lib.hid hp
  have H11 := Lib.hid h11
  have HQ := Lib.hid hQ
  have HRow := Lib.hid h.want
  have kc := fun (w : World) (C : Array Value) (n c : Nat) => Lib.run_convert_bytes_const (P := Try.prog) w 28 5 C n c Try.underlying28 Try.underlying5
  obtain ⟨_, _, _, hnsc, hscm⟩ := own_form h.want
  have hnI : ((slotsR rs rs.length).length : Int) ≤ 1000 := by
    have h1 := items_length hs
    have h2 := itemsTo_le ps ps.length
    omega
  have hq0 := hq
  clear h hs hp h11 hQ hq
  refine wp_loop (fun a W => ∃ (T g11 : Nat) (lv : Value) (qs : List (Ent × Value)) (ds : List Deferred) (u12 u16 u46 u47 u48 u49 u50 u86 u87 u88 u89 u90 u91 u92 u93 u94 u95 u96 u97 u98 u99 u100 u101 u102 u103 u104 u105 u106 u107 u108 u109 u110 u111 u112 u113 u114 u115 u116 u117 u118 u119 u120 u121 u122 u123 u124 : Value), a = { tmps := (t0 :: t1 :: t2 :: (.pointer (some ⟨w.heap.size, 0, none⟩)) :: (.pointer (some ⟨w.heap.size + 1, 0, none⟩)) :: (.pointer (some ⟨b, 0, none⟩)) :: (.pointer (some ⟨g6, 0, none⟩)) :: t7 :: t8 :: (.pointer (some ⟨g9, 0, none⟩)) :: (.func (.func 42) #[] #[.pointer (some ⟨Bs, 0, none⟩)]) :: (.pointer (some ⟨g11, 0, none⟩)) :: (u12) :: t13 :: t14 :: t15 :: (u16) :: t17 :: t18 :: t19 :: t20 :: t21 :: t22 :: t23 :: t24 :: t25 :: t26 :: t27 :: t28 :: t29 :: t30 :: t31 :: t32 :: t33 :: t34 :: t35 :: t36 :: t37 :: t38 :: t39 :: t40 :: t41 :: t42 :: t43 :: t44 :: t45 :: (u46) :: (u47) :: (u48) :: (u49) :: (u50) :: t51 :: t52 :: t53 :: t54 :: t55 :: t56 :: t57 :: t58 :: t59 :: t60 :: t61 :: t62 :: t63 :: t64 :: t65 :: t66 :: t67 :: t68 :: t69 :: t70 :: t71 :: t72 :: t73 :: t74 :: t75 :: t76 :: t77 :: t78 :: t79 :: t80 :: t81 :: t82 :: t83 :: t84 :: t85 :: (u86) :: (u87) :: (u88) :: (u89) :: (u90) :: (u91) :: (u92) :: (u93) :: (u94) :: (u95) :: (u96) :: (u97) :: (u98) :: (u99) :: (u100) :: (u101) :: (u102) :: (u103) :: (u104) :: (u105) :: (u106) :: (u107) :: (u108) :: (u109) :: (u110) :: (u111) :: (u112) :: (u113) :: (u114) :: (u115) :: (u116) :: (u117) :: (u118) :: (u119) :: (u120) :: (u121) :: (u122) :: (u123) :: (u124) :: t125 :: []).toArray, defers := ds } ∧ T ≤ 2 ∧ qs.length ≤ 100 + T ∧ Blk W g11 3 #[.int .i64 T] ∧ IInv w W b lv qs lw gw rs ps g6 g9 Bs av SA sc many ds)
    turnsLeft ⟨0, g11, lv, qs, [], t12, t16, t46, t47, t48, t49, t50, t86, t87, t88, t89, t90, t91, t92, t93, t94, t95, t96, t97, t98, t99, t100, t101, t102, t103, t104, t105, t106, t107, t108, t109, t110, t111, t112, t113, t114, t115, t116, t117, t118, t119, t120, t121, t122, t123, t124, rfl, by omega, by omega, H11.out, HI.out⟩ ?_
  clear HI H11 hq0
  rintro a W ⟨T, g11, lv, qs, ds, u12, u16, u46, u47, u48, u49, u50, u86, u87, u88, u89, u90, u91, u92, u93, u94, u95, u96, u97, u98, u99, u100, u101, u102, u103, u104, u105, u106, u107, u108, u109, u110, u111, u112, u113, u114, u115, u116, u117, u118, u119, u120, u121, u122, u123, u124, rfl, hT, hql, h11, hI⟩
  have y11 : W.cell? ⟨g11, 0, none⟩ = some (.int .i64 T) := h11.cell 0 _ rfl
  have HI := Lib.hid hI
  have H11 := Lib.hid h11
  have HMu : Hid (turnsLeft { tmps := (t0 :: t1 :: t2 :: (.pointer (some ⟨w.heap.size, 0, none⟩)) :: (.pointer (some ⟨w.heap.size + 1, 0, none⟩)) :: (.pointer (some ⟨b, 0, none⟩)) :: (.pointer (some ⟨g6, 0, none⟩)) :: t7 :: t8 :: (.pointer (some ⟨g9, 0, none⟩)) :: (.func (.func 42) #[] #[.pointer (some ⟨Bs, 0, none⟩)]) :: (.pointer (some ⟨g11, 0, none⟩)) :: (u12) :: t13 :: t14 :: t15 :: (u16) :: t17 :: t18 :: t19 :: t20 :: t21 :: t22 :: t23 :: t24 :: t25 :: t26 :: t27 :: t28 :: t29 :: t30 :: t31 :: t32 :: t33 :: t34 :: t35 :: t36 :: t37 :: t38 :: t39 :: t40 :: t41 :: t42 :: t43 :: t44 :: t45 :: (u46) :: (u47) :: (u48) :: (u49) :: (u50) :: t51 :: t52 :: t53 :: t54 :: t55 :: t56 :: t57 :: t58 :: t59 :: t60 :: t61 :: t62 :: t63 :: t64 :: t65 :: t66 :: t67 :: t68 :: t69 :: t70 :: t71 :: t72 :: t73 :: t74 :: t75 :: t76 :: t77 :: t78 :: t79 :: t80 :: t81 :: t82 :: t83 :: t84 :: t85 :: (u86) :: (u87) :: (u88) :: (u89) :: (u90) :: (u91) :: (u92) :: (u93) :: (u94) :: (u95) :: (u96) :: (u97) :: (u98) :: (u99) :: (u100) :: (u101) :: (u102) :: (u103) :: (u104) :: (u105) :: (u106) :: (u107) :: (u108) :: (u109) :: (u110) :: (u111) :: (u112) :: (u113) :: (u114) :: (u115) :: (u116) :: (u117) :: (u118) :: (u119) :: (u120) :: (u121) :: (u122) :: (u123) :: (u124) :: t125 :: []).toArray, defers := ds } W = 2 - T) := Lib.hid (by simp [turnsLeft, y11, intOf])
  clear hI h11
  by_cases hT2 : T < 2
  · have hTI : (T : Int) < 2 := by omega
    go_wp2_with fail
    refine (wpIn_wide (n := 9)).1 ?_
    refine iter_range (hops := by kernel_rfl) (h := HI.out) (hs := HS.out) (hp := by have := HP.out; omega) (h11 := H11.out) (hT := by omega) (hQ := ?_)
    intro D k W' hD hK hB hcn h0 h1
    refine (fun h => ⟨h, h⟩) ?_
    have HIm := Lib.hid (HI.out.marked hB (by omega) hK)
    have b11 : Blk W' g11 3 #[.int .i64 T] := H11.out.below hB
    have HB11 := Lib.hid b11
    have y11 : W'.cell? ⟨g11, 0, none⟩ = some (.int .i64 T) := b11.cell 0 _ rfl
    have y12 : W'.cell? ⟨W.heap.size, 0, none⟩ = some (.int .i64 k) := hcn.cell 0 _ rfl
    have y9 : W'.cell? ⟨g9, 0, none⟩ = some (.slice SA (slotsR rs rs.length).length sc) := HIm.out.b9.cell 0 _ rfl
    have y3 : W'.cell? ⟨w.heap.size, 0, none⟩ = some (.int .i64 many) := HIm.out.b3.cell 0 _ rfl
    clear hD hK hB hcn b11
    rcases (by omega : T = 0 ∨ T = 1) with rfl | rfl
    · have h0 := h0 rfl
      clear h1
      go_wp2_with fail
      all_goals
        go_loopw [109] (fun i wr => ∃ (m : Nat) (qs' : List (Ent × Value)), m ≤ (slotsR rs rs.length).length ∧ i = .int .i64 m ∧ qs'.length = qs.length ∧ Blk wr g11 3 #[.int .i64 0] ∧ IInv w wr b lv qs' lw gw rs ps g6 g9 Bs av SA sc many ({ target := .collected D, args := #[] } :: ds)) (fun i _ => (slotsR rs rs.length).length - (intOf i).toNat)
        case atStart => exact ⟨0, qs, by omega, rfl, rfl, HB11.out, HIm.out⟩
        case round =>
          obtain ⟨m, qs', hm, rfl, hql', hb, hi⟩ := hrel
          have HIr := Lib.hid hi
          have HBr := Lib.hid hb
          clear hb hi y11 y12 y9 y3
          by_cases hml : m < (slotsR rs rs.length).length
          · obtain ⟨gq, hgq, hA, hcq, hnsc⟩ := own_at HIr.out.want hml
            subst hA
            obtain ⟨s, hs⟩ : ∃ s, (slotsR rs rs.length)[m]? = some s := ⟨_, List.getElem?_eq_getElem hml⟩
            have hs32 := slots_small HS.out (List.mem_of_getElem? hs)
            have hrs : rs.length ≤ 100 := by have := HS.out.len; have := HP.out; omega
            have hcq' : wr.cell? ⟨gq, m, none⟩ = some (.int .u32 s) := by
              rw [hcq]
              simp [u32cells, hs]
            have hmI : (m : Int) < ((slotsR rs rs.length).length : Int) := by omega
            have hncI : ((slotsR rs rs.length).length : Int) ≤ (sc : Int) := by omega
            have hba := (Below.refl wr.heap.size wr).alloc (Nat.le_refl _) (.cells #[.int .u8 110, .int .u8 101, .int .u8 119] 5 (3, 4))
            have hbt : Bts (wr.alloc (.cells #[.int .u8 110, .int .u8 101, .int .u8 119] 5 (3, 4))) w.heap.size 5 (.slice (some ⟨wr.heap.size, 0, none⟩) 3 3) [110, 101, 119] := Bts.mark wr _ [110, 101, 119] _ (by rfl) 3 rfl _ _ (by decide)
            have HIa := Lib.hid (HIr.out.adv hba)
            have HBa := Lib.hid (HBr.out.below hba)
            have HBt := Lib.hid hbt
            clear hcq hs hba hbt
            go_wp2_with fail
            refine (iter_set w.heap.size b lv qs' s _ [110, 101, 119] 1 _ HIa.out.rep (by omega) HIa.out.qval HBt.out (by decide)).mono ?_
            rintro e w4 ⟨⟨u, rfl⟩, qs4, hn4, hv4, hl4, ho4⟩
            have HI4 := Lib.hid (HIa.out.step hl4 ho4 (.inl rfl) (by omega) hv4)
            have HB4 := Lib.hid ((HIa.out.rep.keepT ho4).blk HBa.out (by decide) (by decide))
            clear hv4 hl4 ho4 hcq'
            go_wp2_with fail
            go_roundw
            case rel => exact ⟨m + 1, qs4, by omega, by go_num, by omega, HB4.out, HI4.out⟩
            case measure => simp [intOf]; omega
          · have hmn : m = (slotsR rs rs.length).length := by omega
            subst hmn
            go_wp2_with fail
            refine (old_remove w.heap.size b lv qs' _ HIr.out.rep HIr.out.qval).mono ?_
            rintro e w5 ⟨⟨u5, rfl⟩, qs5, hn5, hv5, hl5, ho5⟩
            have HI5 := Lib.hid (HIr.out.step hl5 ho5 (.inl rfl) (by omega) hv5)
            have HB5 := Lib.hid ((HIr.out.rep.keepT ho5).blk HBr.out (by decide) (by decide))
            clear hv5 hl5 ho5
            go_wp2_with fail
            refine (iter_append w.heap.size b lv qs5 _ _ [] _ _ _ HI5.out.rep (by decide) HI5.out.qval (Bts.nil _ _ _) (by decide) (by omega)).mono ?_
            rintro e w6 ⟨⟨u6, rfl⟩, lv6, qs6, hl6, hn6, hv6, ho6, hg6⟩
            have HI6 := Lib.hid (HI5.out.step hl6 ho6 hg6 (by omega) hv6)
            have hb6 := (HI5.out.rep.keepT ho6).blk HB5.out (by decide) (by decide)
            have z11 : w6.cell? ⟨g11, 0, none⟩ = some (.int .i64 0) := hb6.cell 0 _ rfl
            have hz := hb6.lt
            clear hl6 hv6 ho6 hg6 hb6
            go_wp2_with fail
            refine ⟨⟨0 + 1, w6.heap.size, lv6, qs6, _, _, _, _, _, _, _, _, _, _, _, _, _, _, _, _, _, _, _, _, _, _, _, _, _, _, _, _, _, _, _, _, _, _, _, _, _, _, _, _, _, _, _, _, _, _, _, rfl, by omega, by omega, Blk.new w6 3 _, HI6.out.adv ((Below.refl w6.heap.size w6).alloc (Nat.le_refl _) _)⟩, ?_⟩
            rw [HMu.out]
            simp [turnsLeft, intOf]
    · have h1 := h1 rfl
      clear h0
      go_wp2_with fail
      all_goals
        go_loopw [109] (fun i wr => ∃ (m : Nat) (qs' : List (Ent × Value)), m ≤ (slotsR rs rs.length).length ∧ i = .int .i64 m ∧ qs'.length = qs.length ∧ Blk wr g11 3 #[.int .i64 1] ∧ IInv w wr b lv qs' lw gw rs ps g6 g9 Bs av SA sc many ({ target := .collected D, args := #[] } :: ds)) (fun i _ => (slotsR rs rs.length).length - (intOf i).toNat)
        case atStart => exact ⟨0, qs, by omega, rfl, rfl, HB11.out, HIm.out⟩
        case round =>
          obtain ⟨m, qs', hm, rfl, hql', hb, hi⟩ := hrel
          have HIr := Lib.hid hi
          have HBr := Lib.hid hb
          clear hb hi y11 y12 y9 y3
          by_cases hml : m < (slotsR rs rs.length).length
          · obtain ⟨gq, hgq, hA, hcq, hnsc⟩ := own_at HIr.out.want hml
            subst hA
            obtain ⟨s, hs⟩ : ∃ s, (slotsR rs rs.length)[m]? = some s := ⟨_, List.getElem?_eq_getElem hml⟩
            have hs32 := slots_small HS.out (List.mem_of_getElem? hs)
            have hrs : rs.length ≤ 100 := by have := HS.out.len; have := HP.out; omega
            have hcq' : wr.cell? ⟨gq, m, none⟩ = some (.int .u32 s) := by
              rw [hcq]
              simp [u32cells, hs]
            have hmI : (m : Int) < ((slotsR rs rs.length).length : Int) := by omega
            have hncI : ((slotsR rs rs.length).length : Int) ≤ (sc : Int) := by omega
            have hba := (Below.refl wr.heap.size wr).alloc (Nat.le_refl _) (.cells #[.int .u8 110, .int .u8 101, .int .u8 119] 5 (3, 4))
            have hbt : Bts (wr.alloc (.cells #[.int .u8 110, .int .u8 101, .int .u8 119] 5 (3, 4))) w.heap.size 5 (.slice (some ⟨wr.heap.size, 0, none⟩) 3 3) [110, 101, 119] := Bts.mark wr _ [110, 101, 119] _ (by rfl) 3 rfl _ _ (by decide)
            have HIa := Lib.hid (HIr.out.adv hba)
            have HBa := Lib.hid (HBr.out.below hba)
            have HBt := Lib.hid hbt
            clear hcq hs hba hbt
            go_wp2_with fail
            refine (iter_set w.heap.size b lv qs' s _ [110, 101, 119] 1 _ HIa.out.rep (by omega) HIa.out.qval HBt.out (by decide)).mono ?_
            rintro e w4 ⟨⟨u, rfl⟩, qs4, hn4, hv4, hl4, ho4⟩
            have HI4 := Lib.hid (HIa.out.step hl4 ho4 (.inl rfl) (by omega) hv4)
            have HB4 := Lib.hid ((HIa.out.rep.keepT ho4).blk HBa.out (by decide) (by decide))
            clear hv4 hl4 ho4 hcq'
            go_wp2_with fail
            go_roundw
            case rel => exact ⟨m + 1, qs4, by omega, by go_num, by omega, HB4.out, HI4.out⟩
            case measure => simp [intOf]; omega
          · have hmn : m = (slotsR rs rs.length).length := by omega
            subst hmn
            go_wp2_with fail
            refine (old_remove w.heap.size b lv qs' _ HIr.out.rep HIr.out.qval).mono ?_
            rintro e w5 ⟨⟨u5, rfl⟩, qs5, hn5, hv5, hl5, ho5⟩
            have HI5 := Lib.hid (HIr.out.step hl5 ho5 (.inl rfl) (by omega) hv5)
            have HB5 := Lib.hid ((HIr.out.rep.keepT ho5).blk HBr.out (by decide) (by decide))
            clear hv5 hl5 ho5
            go_wp2_with fail
            refine (iter_append w.heap.size b lv qs5 _ _ [] _ _ _ HI5.out.rep (by decide) HI5.out.qval (Bts.nil _ _ _) (by decide) (by omega)).mono ?_
            rintro e w6 ⟨⟨u6, rfl⟩, lv6, qs6, hl6, hn6, hv6, ho6, hg6⟩
            have HI6 := Lib.hid (HI5.out.step hl6 ho6 hg6 (by omega) hv6)
            have hb6 := (HI5.out.rep.keepT ho6).blk HB5.out (by decide) (by decide)
            have z11 : w6.cell? ⟨g11, 0, none⟩ = some (.int .i64 1) := hb6.cell 0 _ rfl
            have hz := hb6.lt
            clear hl6 hv6 ho6 hg6 hb6
            go_wp2_with fail
            refine ⟨⟨1 + 1, w6.heap.size, lv6, qs6, _, _, _, _, _, _, _, _, _, _, _, _, _, _, _, _, _, _, _, _, _, _, _, _, _, _, _, _, _, _, _, _, _, _, _, _, _, _, _, _, _, _, _, _, _, _, _, rfl, by omega, by omega, Blk.new w6 3 _, HI6.out.adv ((Below.refl w6.heap.size w6).alloc (Nat.le_refl _) _)⟩, ?_⟩
            rw [HMu.out]
            simp [turnsLeft, intOf]
  · obtain rfl : T = 2 := by omega
    go_wp2_with fail
    exact HQ.out _ _ _ _ _ _ _ _ _ _ _ _ _ _ _ _ _ _ _ _ _ _ _ _ _ _ _ _ _ _ _ _ _ _ _ _ _ _ _ _ _ _ _ _ _ _ _ _ _ _ _ HI.out

end Go.Proofs.Ytjjhndhigkhkpaa
