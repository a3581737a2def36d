/- EntrylogIterates: the loop over the iterator, in one of the two turns. Printed by wip/gen_iter.py. -/
import Derived.Test.YtjjhndhigkhkpaaIterM
namespace Go.Proofs.Ytjjhndhigkhkpaa
open Go Go.RowKit Go.Sort
attribute [local go_sem ↓] Go.wp_at_zero Go.wp_at_succ
attribute [local go_sem] Oper.semAt_some

/-- The first range over a function in a code. -/
def rfAt : Code → Option (Operand × Array Nat × Code × Code)
  | .rangeFunc g ps a b => some (g, ps, a, b)
  | .seq a b => match rfAt a with
    | some x => some x
    | none => rfAt b
  | .cond _ a b => match rfAt a with
    | some x => some x
    | none => rfAt b
  | .block _ c => rfAt c
  | .loop c => rfAt c
  | .scope c => rfAt c
  | _ => none

/-- The code in a block of a number. -/
def blkAt (n : Nat) : Code → Option Code
  | .block i c => if i = n then some c else blkAt n c
  | .seq a b => match blkAt n a with
    | some x => some x
    | none => blkAt n b
  | .cond _ a b => match blkAt n a with
    | some x => some x
    | none => blkAt n b
  | .loop c => blkAt n c
  | .scope c => blkAt n c
  | _ => none

theorem slots_item {ps : List (Ent × Value)} {rs : List RE} (hs : Sync ps rs) {pre : List (Nat × Ent)} {x : Nat × Ent} (h : pre ++ [x] <+: itemsTo ps ps.length) : pre.length < (slotsR rs rs.length).length ∧ (slotsR rs rs.length)[pre.length]? = some x.1 := by
  have e := hs.slots ps.length
  rw [hs.len] at e
  obtain ⟨tl, ht⟩ := h
  rw [← e, ← hs.len, ← ht]
  simp

theorem items_length {ps : List (Ent × Value)} {rs : List RE} (hs : Sync ps rs) : (itemsTo ps ps.length).length = (slotsR rs rs.length).length := by
  have e := congrArg List.length (hs.slots ps.length)
  rw [List.length_map, hs.len] at e
  rw [hs.len]; exact e

set_option maxRecDepth 100000 in
set_option maxHeartbeats 4000000 in
theorem iter_range (g : Operand) (pp : Array Nat) (asg bd : Code) (hops : Try.f6.body.bind rfAt = some (g, pp, asg, bd)) (w V : World) (b : Nat) (lv : Value) (qs : List (Ent × Value)) (lw gw : Value) (rs : List RE) (ps : List (Ent × Value)) (g6 g9 Bs : Nat) (av : Value) (SA : Option Addr) (sc : Nat) (many : Int) (ds : List Deferred) (T g11 : Nat)
    (t0 t1 t2 t5 t7 t8 t10 t13 t14 t15 t16 t17 t18 t19 t20 t21 t22 t23 t24 t25 t26 t27 t28 t29 t30 t31 t32 t33 t34 t35 t36 t37 t38 t39 t40 t41 t42 t43 t44 t45 t46 t47 t48 t49 t51 t52 t53 t54 t55 t56 t57 t58 t59 t60 t61 t62 t63 t64 t65 t66 t67 t68 t69 t70 t71 t72 t73 t74 t75 t76 t77 t78 t79 t80 t81 t82 t83 t84 t85 t86 t87 t88 t89 t90 t91 t92 t93 t94 t95 t96 t97 t98 t99 t100 t101 t102 t103 t104 t105 t106 t107 t108 t109 t110 t111 t112 t113 t114 t115 t116 t117 t118 t119 t120 t121 t122 t123 t124 t125 : Value) (Q : Exit → Act → World → Prop)
    (h : IInv w V b lv qs lw gw rs ps g6 g9 Bs av SA sc many ds) (hs : Sync ps rs) (hp : ps.length ≤ 1000) (h11 : Blk V g11 3 #[.int .i64 T]) (hT : T = 0 ∨ T = 1)
    (hQ : ∀ (D k : Nat) (W' : World), V.heap.size < D → W'.heap[D]? = some (.deferred (some [])) → Below V.heap.size V W' → Blk W' V.heap.size 3 #[.int .i64 k] → (T = 0 → (k : Int) = min ((slotsR rs rs.length).length : Int) (max 1 many)) → (T = 1 → k = (slotsR rs rs.length).length) →
      Q .normal { tmps := (t0 :: t1 :: t2 :: (.pointer (some ⟨w.heap.size, 0, none⟩)) :: (.pointer (some ⟨w.heap.size + 1, 0, none⟩)) :: t5 :: (.pointer (some ⟨g6, 0, none⟩)) :: t7 :: t8 :: (.pointer (some ⟨g9, 0, none⟩)) :: t10 :: (.pointer (some ⟨g11, 0, none⟩)) :: (.pointer (some ⟨V.heap.size, 0, none⟩)) :: t13 :: t14 :: t15 :: t16 :: t17 :: t18 :: t19 :: t20 :: t21 :: t22 :: t23 :: t24 :: t25 :: t26 :: t27 :: t28 :: t29 :: t30 :: t31 :: t32 :: t33 :: t34 :: t35 :: t36 :: t37 :: t38 :: t39 :: t40 :: t41 :: t42 :: t43 :: t44 :: t45 :: t46 :: t47 :: t48 :: t49 :: (.func (.func 42) #[] #[.pointer (some ⟨Bs, 0, none⟩)]) :: t51 :: t52 :: t53 :: t54 :: t55 :: t56 :: t57 :: t58 :: t59 :: t60 :: t61 :: t62 :: t63 :: t64 :: t65 :: t66 :: t67 :: t68 :: t69 :: t70 :: t71 :: t72 :: t73 :: t74 :: t75 :: t76 :: t77 :: t78 :: t79 :: t80 :: t81 :: t82 :: t83 :: t84 :: t85 :: t86 :: t87 :: t88 :: t89 :: t90 :: t91 :: t92 :: t93 :: t94 :: t95 :: t96 :: t97 :: t98 :: t99 :: t100 :: t101 :: t102 :: t103 :: t104 :: t105 :: t106 :: t107 :: t108 :: t109 :: t110 :: t111 :: t112 :: t113 :: t114 :: t115 :: t116 :: t117 :: t118 :: t119 :: t120 :: t121 :: t122 :: t123 :: t124 :: t125 :: []).toArray, defers := { target := .collected D, args := #[] } :: ds } W' ∧ Q (.exit 4) { tmps := (t0 :: t1 :: t2 :: (.pointer (some ⟨w.heap.size, 0, none⟩)) :: (.pointer (some ⟨w.heap.size + 1, 0, none⟩)) :: t5 :: (.pointer (some ⟨g6, 0, none⟩)) :: t7 :: t8 :: (.pointer (some ⟨g9, 0, none⟩)) :: t10 :: (.pointer (some ⟨g11, 0, none⟩)) :: (.pointer (some ⟨V.heap.size, 0, none⟩)) :: t13 :: t14 :: t15 :: t16 :: t17 :: t18 :: t19 :: t20 :: t21 :: t22 :: t23 :: t24 :: t25 :: t26 :: t27 :: t28 :: t29 :: t30 :: t31 :: t32 :: t33 :: t34 :: t35 :: t36 :: t37 :: t38 :: t39 :: t40 :: t41 :: t42 :: t43 :: t44 :: t45 :: t46 :: t47 :: t48 :: t49 :: (.func (.func 42) #[] #[.pointer (some ⟨Bs, 0, none⟩)]) :: t51 :: t52 :: t53 :: t54 :: t55 :: t56 :: t57 :: t58 :: t59 :: t60 :: t61 :: t62 :: t63 :: t64 :: t65 :: t66 :: t67 :: t68 :: t69 :: t70 :: t71 :: t72 :: t73 :: t74 :: t75 :: t76 :: t77 :: t78 :: t79 :: t80 :: t81 :: t82 :: t83 :: t84 :: t85 :: t86 :: t87 :: t88 :: t89 :: t90 :: t91 :: t92 :: t93 :: t94 :: t95 :: t96 :: t97 :: t98 :: t99 :: t100 :: t101 :: t102 :: t103 :: t104 :: t105 :: t106 :: t107 :: t108 :: t109 :: t110 :: t111 :: t112 :: t113 :: t114 :: t115 :: t116 :: t117 :: t118 :: t119 :: t120 :: t121 :: t122 :: t123 :: t124 :: t125 :: []).toArray, defers := { target := .collected D, args := #[] } :: ds } W') :
    (Code.rangeFunc g pp asg bd).wpIn Fence.wide 9 Try.prog Q { tmps := (t0 :: t1 :: t2 :: (.pointer (some ⟨w.heap.size, 0, none⟩)) :: (.pointer (some ⟨w.heap.size + 1, 0, none⟩)) :: t5 :: (.pointer (some ⟨g6, 0, none⟩)) :: t7 :: t8 :: (.pointer (some ⟨g9, 0, none⟩)) :: t10 :: (.pointer (some ⟨g11, 0, none⟩)) :: (.pointer (some ⟨V.heap.size, 0, none⟩)) :: t13 :: t14 :: t15 :: t16 :: t17 :: t18 :: t19 :: t20 :: t21 :: t22 :: t23 :: t24 :: t25 :: t26 :: t27 :: t28 :: t29 :: t30 :: t31 :: t32 :: t33 :: t34 :: t35 :: t36 :: t37 :: t38 :: t39 :: t40 :: t41 :: t42 :: t43 :: t44 :: t45 :: t46 :: t47 :: t48 :: t49 :: (.func (.func 42) #[] #[.pointer (some ⟨Bs, 0, none⟩)]) :: t51 :: t52 :: t53 :: t54 :: t55 :: t56 :: t57 :: t58 :: t59 :: t60 :: t61 :: t62 :: t63 :: t64 :: t65 :: t66 :: t67 :: t68 :: t69 :: t70 :: t71 :: t72 :: t73 :: t74 :: t75 :: t76 :: t77 :: t78 :: t79 :: t80 :: t81 :: t82 :: t83 :: t84 :: t85 :: t86 :: t87 :: t88 :: t89 :: t90 :: t91 :: t92 :: t93 :: t94 :: t95 :: t96 :: t97 :: t98 :: t99 :: t100 :: t101 :: t102 :: t103 :: t104 :: t105 :: t106 :: t107 :: t108 :: t109 :: t110 :: t111 :: t112 :: t113 :: t114 :: t115 :: t116 :: t117 :: t118 :: t119 :: t120 :: t121 :: t122 :: t123 :: t124 :: t125 :: []).toArray, defers := ds } (V.alloc (.cells #[.int .i64 0] 3)) := by
  simp [Try.f6, rfAt] at hops
  obtain ⟨rfl, rfl, rfl, rfl⟩ := hops
  obtain ⟨LA, lc, rfl, _, _⟩ := own_form h.ref.row
  obtain ⟨GA, gc, rfl, _, _⟩ := own_form h.ref.gone
  have HI := Lib.hid h
  have HS := Lib.hid hs
  have HP := Lib.hid hp
  have H11 := Lib.hid h11
  have HT := Lib.hid hT
  have HQ := Lib.hid hQ
  have HVl := Lib.hid (hs.vals h.ref)
  clear h hs hp h11 hT hQ
  refine range_law2 rfl (by omega) (gf := 42) (lb := #[.pointer (some ⟨Bs, 0, none⟩)]) rfl trivial (enters_of Try.func42 (by kernel_rfl) rfl) (itemPx_put V.heap.size ps)
    (log_stops 8 (by omega) w.heap.size Bs av ps V HI.out.bs HI.out.own HI.out.vals (fun p hp => by have := HVl.out p hp; omega) (by have := HP.out; omega)) belowK_t (belowK_b (by simp)) ((Below.refl _ _).alloc (Nat.le_refl _) _) (fun _ => rfl)
    (fun pre W => Below V.heap.size V W ∧ Blk W V.heap.size 3 #[.int .i64 (pre.length : Nat)] ∧ (T = 0 → pre = [] ∨ (pre.length : Int) < many))
    (fun c pre W => c = .exit 4 ∧ Below V.heap.size V W ∧ Blk W V.heap.size 3 #[.int .i64 (pre.length : Nat)] ∧ T = 0 ∧ many ≤ (pre.length : Int) ∧ (pre.length = 1 ∨ (pre.length : Int) - 1 < many) ∧ 1 ≤ pre.length)
    (fun s A B row hs hg hr => ⟨ownFrom_below (n₀ := V.heap.size) (w₀ := V) (by simp) (by simp) s A B row hs.1 hg hr, blk_own _ V.heap.size 3 (fun pre : List Item => #[.int .i64 (pre.length : Nat)]) s A B row hs.2.1 hg hr, hs.2.2⟩)
    (fun c s A B row hs hg hr => ⟨hs.1, ownFrom_below (n₀ := V.heap.size) (w₀ := V) (by simp) (by simp) s A B row hs.2.1 hg hr, blk_own _ V.heap.size 3 (fun pre : List Item => #[.int .i64 (pre.length : Nat)]) s A B row hs.2.2.1 hg hr, hs.2.2.2⟩)
    ⟨(Below.refl _ _).alloc (Nat.le_refl _) _, Blk.new _ _ _, fun _ => .inl rfl⟩ ?a₁ (fun x => .cells #[.string x.2.1.key, x.2.2, .int .u64 x.2.1.dl, .int .u64 x.2.1.birth] 31) ?pa (fun W o h => (Below.refl _ W).alloc (by have := h; simp at this; omega) o) ?assign ?body (fun _ => rfl) ?done ?stop
  case a₁ =>
    exact fun x W0 => { tmps := (t0 :: t1 :: t2 :: (.pointer (some ⟨w.heap.size, 0, none⟩)) :: (.pointer (some ⟨w.heap.size + 1, 0, none⟩)) :: t5 :: (.pointer (some ⟨g6, 0, none⟩)) :: t7 :: t8 :: (.pointer (some ⟨g9, 0, none⟩)) :: t10 :: (.pointer (some ⟨g11, 0, none⟩)) :: (.pointer (some ⟨V.heap.size, 0, none⟩)) :: (.int .u32 x.1) :: (.pointer (some ⟨W0.heap.size, 0, none⟩)) :: t15 :: t16 :: t17 :: t18 :: t19 :: t20 :: t21 :: t22 :: t23 :: t24 :: t25 :: t26 :: t27 :: t28 :: t29 :: t30 :: t31 :: t32 :: t33 :: t34 :: t35 :: t36 :: t37 :: t38 :: t39 :: t40 :: t41 :: t42 :: t43 :: t44 :: t45 :: t46 :: t47 :: t48 :: t49 :: (.func (.func 42) #[] #[.pointer (some ⟨Bs, 0, none⟩)]) :: (.int .u32 x.1) :: (.agg #[.string x.2.1.key, x.2.2, .int .u64 x.2.1.dl, .int .u64 x.2.1.birth]) :: t53 :: t54 :: t55 :: t56 :: t57 :: t58 :: t59 :: t60 :: t61 :: t62 :: t63 :: t64 :: t65 :: t66 :: t67 :: t68 :: t69 :: t70 :: t71 :: t72 :: t73 :: t74 :: t75 :: t76 :: t77 :: t78 :: t79 :: t80 :: t81 :: t82 :: t83 :: t84 :: t85 :: t86 :: t87 :: t88 :: t89 :: t90 :: t91 :: t92 :: t93 :: t94 :: t95 :: t96 :: t97 :: t98 :: t99 :: t100 :: t101 :: t102 :: t103 :: t104 :: t105 :: t106 :: t107 :: t108 :: t109 :: t110 :: t111 :: t112 :: t113 :: t114 :: t115 :: t116 :: t117 :: t118 :: t119 :: t120 :: t121 :: t122 :: t123 :: t124 :: t125 :: []).toArray, defers := [] }
  case pa => exact fun pre x W o h => ⟨h.1.alloc o, h.2⟩
  case assign =>
    intro l pre x W K hpx hK
    obtain ⟨s, en, v⟩ := x
    obtain ⟨A, c, hv, _, _⟩ := own_form hpx.1
    dsimp only at hv
    subst hv
    simp [Item.enc]
    gi_wp2
    simpa using hK
  case body =>
    rintro l pre ⟨s, en, v⟩ W0 W hW0 hbx ⟨hB, hcnt, hTm⟩ hpx hlt
    obtain ⟨hown, hpre⟩ := hpx
    dsimp only at hown hpre hbx ⊢
    have hW0' : V.heap.size < W0.heap.size := by simp at hW0; omega
    clear hW0
    obtain ⟨A, c, hv, _, _⟩ := own_form hown
    subst hv
    obtain ⟨hkn, hks⟩ := slots_item HS.out (pre := pre.map Item.bare) (x := (s, en)) (by simpa [Item.bare] using hpre)
    rw [List.length_map] at hkn hks
    obtain ⟨tl, hpr⟩ := hpre
    have hmem : (s, en) ∈ itemsTo ps ps.length := by
      rw [← hpr]
      simp [Item.bare]
    unfold itemsTo at hmem
    obtain ⟨j, hj, hit⟩ := List.mem_filterMap.1 hmem
    unfold itemAt at hit
    cases hpj : ps[j]? with
    | none => rw [hpj] at hit; cases hit
    | some p =>
      rw [hpj] at hit
      dsimp only at hit
      by_cases hbz : p.1.birth = 0
      · rw [if_pos hbz] at hit; cases hit
      · rw [if_neg hbz] at hit
        injection hit with hit
        injection hit with h1 h2
        subst h1 h2
        obtain ⟨hjl, _⟩ := List.getElem?_eq_some_iff.1 hpj
        obtain ⟨r, hrj⟩ : ∃ r, rs[j]? = some r := ⟨_, List.getElem?_eq_getElem (by rw [← HS.out.len]; exact hjl)⟩
        have hsy := HS.out.at_ j p r hpj hrj
        unfold SyncAt at hsy
        split at hsy
        · exact absurd (by rw [hsy]; rfl) hbz
        · obtain ⟨hee, _⟩ := hsy
          have HIW := Lib.hid (HI.out.adv hB)
          obtain ⟨gl, cap, _, _, e1, _, hg, _, hc, _, c0, c1, c2, c3, _⟩ := HIW.out.ref.at_ hrj
          injection e1 with e1 _ e3
          subst e1 e3
          obtain ⟨RA, rc, hrv, _, _⟩ := own_form (HIW.out.ref.vals r (List.mem_of_getElem? hrj)).1
          have HRB := Lib.hid (HIW.out.ref.bts (List.mem_of_getElem? hrj) w.heap.size)
          rw [hrv] at c1
          have hbk : Blk W W0.heap.size 31 #[.string p.1.key, .slice A p.1.val.length c, .int .u64 p.1.dl, .int .u64 p.1.birth] := hbx
          have HBk := Lib.hid hbk
          have b0 : W.cell? ⟨W0.heap.size, 0, none⟩ = some (.string p.1.key) := hbk.cell 0 _ rfl
          have b1 : W.cell? ⟨W0.heap.size, 1, none⟩ = some (.slice A p.1.val.length c) := hbk.cell 1 _ rfl
          have b2 : W.cell? ⟨W0.heap.size, 2, none⟩ = some (.int .u64 p.1.dl) := hbk.cell 2 _ rfl
          have b3 : W.cell? ⟨W0.heap.size, 3, none⟩ = some (.int .u64 p.1.birth) := hbk.cell 3 _ rfl
          have HCn := Lib.hid hcnt
          have x12 : W.cell? ⟨V.heap.size, 0, none⟩ = some (.int .i64 (pre.length : Nat)) := hcnt.cell 0 _ rfl
          have x9 : W.cell? ⟨g9, 0, none⟩ = some (.slice SA (slotsR rs rs.length).length sc) := HIW.out.b9.cell 0 _ rfl
          have x6 : W.cell? ⟨g6, 0, none⟩ = some (.slice (some ⟨gl, 0, none⟩) rs.length lc) := HIW.out.b6.cell 0 _ rfl
          obtain ⟨gq, hgq, rfl, hcq, hnsc⟩ := own_at HIW.out.want hkn
          have hcq' : W.cell? ⟨gq, pre.length, none⟩ = some (.int .u32 j) := by
            rw [hcq]
            simp [u32cells, hks]
          clear hcq
          have k12 := cell_regrown x12
          have k9 := cell_regrown x9
          have k6 := cell_regrown x6
          have kq := cell_regrown hcq'
          have kb0 := cell_regrown b0
          have kb1 := cell_regrown b1
          have kb2 := cell_regrown b2
          have kb3 := cell_regrown b3
          have kc0 := cell_regrown c0
          have kc1 := cell_regrown c1
          have kc2 := cell_regrown c2
          have kc3 := cell_regrown c3
          have hjI : (j : Int) < (rs.length : Int) := by have := HS.out.len; omega
          have hj0 : (0 : Int) ≤ (j : Int) := Int.natCast_nonneg _
          have hcI : (rs.length : Int) ≤ (lc : Int) := by omega
          have hkI : (pre.length : Int) < ((slotsR rs rs.length).length : Int) := by omega
          have hk0 : (0 : Int) ≤ (pre.length : Int) := Int.natCast_nonneg _
          have hncI : ((slotsR rs rs.length).length : Int) ≤ (sc : Int) := by omega
          have hk9 : (pre.length : Int) < 1000 := by have := HP.out; omega
          have hgd : decide ((slotsR rs rs.length).length ≤ pre.length) = false := decide_eq_false (by omega)
          have HOw : Hid (W.ownsRow V.heap.size 5 1 (.slice A p.1.val.length c) p.1.val.length (bcells p.1.val)) := Lib.hid hown
          have hpvl := HVl.out p (List.mem_of_getElem? hpj)
          have HPv : Hid (p.1.val.length ≤ 1000000000) := Lib.hid (by omega)
          have HBt : Hid (Bts W w.heap.size 5 (.slice A p.1.val.length c) p.1.val) := Lib.hid (Bts.of_own hown w.heap.size)
          have HRv : Hid (Bts W w.heap.size 5 (.slice RA r.e.val.length rc) r.e.val) := Lib.hid (hrv ▸ HRB.out : Bts W w.heap.size 5 (.slice RA r.e.val.length rc) r.e.val)
          have HEq : Hid (eqE p.1 r.e = true) := Lib.hid (by rw [hee]; exact eqE_self _)
          have cE : ∀ d os, CallsIn Fence.wide 6 Try.prog 22 #[.agg #[.string p.1.key, .slice A p.1.val.length c, .int .u64 p.1.dl, .int .u64 p.1.birth], .agg #[.string r.e.key, .slice RA r.e.val.length rc, .int .u64 r.e.dl, .int .u64 r.e.birth]] (grow (redrawn W d) os) fun e w'' => e = .returned (.bool true) ∧ ∃ p : Regrown, w'' = grow (redrawn W p.d) p.os := fun d os =>
            callsIn_wide.2 (Calls.regrown_of (HEq.out ▸ refEqual_any w.heap.size w.heap.size p.1 r.e _ _ _ (HBt.out.below (below_regrown W d os)) (HRv.out.below (below_regrown W d os))))
          have HB := Lib.hid hB
          have HTm := Lib.hid hTm
          clear hown hbx hbk hB hpr hee hcnt hTm hlt hks hkn
          clear hmem hrj
          have hf1 : Fence.wide.fn 22 := trivial
          have hf2 : Fence.wide.fn 23 := trivial
          gi_wp2_with fail
          refine region_round_below l (F := Fence.wide) rfl (by kernel_rfl) (by kernel_rfl) (by simp) ?_
          repeat (gi_big_quiet_step (first | exact cE _ _ | exact ⟨fun _ => (by omega), cE _ _⟩))
          refine wpQuietIn_nil ?_
          rintro _ ⟨⟨dq, osq⟩, rfl⟩
          have hb9 := below_regrown W dq osq
          dsimp only
          generalize grow (redrawn W dq) osq = w9 at hb9
          have HB9 := Lib.hid hb9
          have HBk9 := Lib.hid (HBk.out.below hb9)
          have HOw9 : Hid (w9.ownsRow V.heap.size 5 1 (.slice A p.1.val.length c) p.1.val.length (bcells p.1.val)) := Lib.hid (ownsRow_only (S := fun _ => False) HOw.out (Only.of_below hb9) (fun _ _ h => h))
          have HCn9 := Lib.hid (HCn.out.below hb9)
          have HIW9 := Lib.hid (HIW.out.adv hb9)
          have H119 := Lib.hid ((H11.out.below HB.out).below hb9)
          have HBW9 := Lib.hid (HB.out.trans (hb9.mono HB.out.size))
          clear k12 k9 k6 kq kb0 kb1 kb2 kb3 kc0 kc1 kc2 kc3 b0 b1 b2 b3 c0 c1 c2 c3 x12 x9 x6 hcq' cE hb9 hgd
          have b0 : w9.cell? ⟨W0.heap.size, 0, none⟩ = some (.string p.1.key) := HBk9.out.cell 0 _ rfl
          have b1 : w9.cell? ⟨W0.heap.size, 1, none⟩ = some (.slice A p.1.val.length c) := HBk9.out.cell 1 _ rfl
          have b2 : w9.cell? ⟨W0.heap.size, 2, none⟩ = some (.int .u64 p.1.dl) := HBk9.out.cell 2 _ rfl
          have b3 : w9.cell? ⟨W0.heap.size, 3, none⟩ = some (.int .u64 p.1.birth) := HBk9.out.cell 3 _ rfl
          gi_wp2_with fail
          refine (CallsIn.inRound l (callsIn_wide.2 (spoil_any V.heap.size _ _ p.1.val _ _ _ HOw9.out HPv.out))).mono ?_
          rintro e w10 ⟨⟨u, rfl⟩, ho10⟩
          have hBl : Below V.heap.size w9 w10 := ho10.below (fun i hi _ e => by have := (row_block HOw9.out e).1; omega) HBW9.out.size
          have HK := Lib.hid ((keepsOthers_below HB9.out).trans (keepsOthers_only ho10 (fun k hk => by obtain ⟨_, cur, h2⟩ := row_block HOw9.out hk; exact ⟨_, _, _, h2⟩)))
          have hcn : Blk w10 V.heap.size 3 #[.int .i64 (pre.length : Nat)] := HCn9.out.only ho10 (fun e => by
            obtain ⟨_, cur, h2⟩ := row_block HOw9.out e
            exact (HCn9.out.ne_ h2 (by decide)) rfl)
          have HBl := Lib.hid ((HB9.out.mono HB.out.size).trans hBl)
          have HBV := Lib.hid (HBW9.out.trans hBl)
          have HC10 := Lib.hid hcn
          have h11' : Blk w10 g11 3 #[.int .i64 T] := H11.out.below HBV.out
          have h3' : Blk w10 w.heap.size 3 #[.int .i64 many] := HI.out.b3.below HBV.out
          have y12 : w10.cell? ⟨V.heap.size, 0, none⟩ = some (.int .i64 (pre.length : Nat)) := hcn.cell 0 _ rfl
          have y11 : w10.cell? ⟨g11, 0, none⟩ = some (.int .i64 T) := h11'.cell 0 _ rfl
          have y3 : w10.cell? ⟨w.heap.size, 0, none⟩ = some (.int .i64 many) := h3'.cell 0 _ rfl
          have yf := hcn.frozen
          have n1 : g11 < V.heap.size := H11.out.lt
          have n2 : w.heap.size < V.heap.size := HI.out.b3.lt
          clear ho10 b0 b1 b2 b3 hBl hcn h11' h3'
          have HF := Lib.hid (fun (u : Value) => (⟨(HK.out.trans (KeepsOthers.setCell w10 ⟨V.heap.size, 0, none⟩ u)).from (V.heap.size + 1), HBl.out.setCell (p := ⟨V.heap.size, 0, none⟩) (Nat.le_refl _) u, HBV.out.setCell (p := ⟨V.heap.size, 0, none⟩) (Nat.le_refl _) u, HC10.out.set_ 0 u⟩ : KeepsFrom (V.heap.size + 1) W (w10.setCell ⟨V.heap.size, 0, none⟩ u) ∧ Below V.heap.size W (w10.setCell ⟨V.heap.size, 0, none⟩ u) ∧ Below V.heap.size V (w10.setCell ⟨V.heap.size, 0, none⟩ u) ∧ Blk (w10.setCell ⟨V.heap.size, 0, none⟩ u) V.heap.size 3 #[u]))
          rcases HT.out with rfl | rfl
          · by_cases hm : many ≤ (pre.length : Int) + 1
            · gi_wp2_with fail
              obtain ⟨f1, f2, f3, f4⟩ := HF.out (.int .i64 ((pre.length : Int) + 1))
              have hl : (((pre ++ [(j, p.1, Value.slice A p.1.val.length c)] : List Item).length : Nat) : Int) = (pre.length : Int) + 1 := by simp
              refine ⟨f1, rfl, f3, by rw [hl]; exact f4, by rw [hl]; exact hm, ?_, by simp⟩
              rcases HTm.out (by simp) with e | e
              · exact .inl (by rw [e]; rfl)
              · exact .inr (by rw [hl]; omega)
            · gi_wp2_with fail
              obtain ⟨f1, f2, f3, f4⟩ := HF.out (.int .i64 ((pre.length : Int) + 1))
              have hl : (((pre ++ [(j, p.1, Value.slice A p.1.val.length c)] : List Item).length : Nat) : Int) = (pre.length : Int) + 1 := by simp
              exact ⟨f1, f2, f3, by rw [hl]; exact f4, .inr (by rw [hl]; omega)⟩
          · gi_wp2_with fail
            obtain ⟨f1, f2, f3, f4⟩ := HF.out (.int .i64 ((pre.length : Int) + 1))
            have hl : (((pre ++ [(j, p.1, Value.slice A p.1.val.length c)] : List Item).length : Nat) : Int) = (pre.length : Int) + 1 := by simp
            rw [World.size_alloc]
            exact ⟨f1, f2, f3, by rw [hl]; exact f4, fun e => by omega⟩
  case done =>
    rintro D ys W hD hS ⟨hB, hcnt, hTm⟩ hK
    have hl : ys.length = (slotsR rs rs.length).length := by rw [← items_length HS.out, ← hS, List.length_map]
    refine (HQ.out D ys.length W (by simp at hD; omega) hK hB hcnt (fun hT => ?_) (fun _ => hl)).1
    rcases hTm hT with e | hlt
    · rw [e] at hl ⊢
      simp only [List.length_nil] at hl ⊢
      omega
    · omega
  case stop =>
    rintro D c pre W hD ⟨k, hk, hpk⟩ ⟨rfl, hB, hcnt, hT, hm, h1, h2⟩ hK
    have hl : pre.length ≤ (slotsR rs rs.length).length := by
      rw [← items_length HS.out, ← List.length_map (f := Item.bare), hpk]
      exact (itemsTo_prefix ps hk).length_le
    have hq := (HQ.out D pre.length W (by simp at hD; omega) hK hB hcnt (fun _ => by omega) (fun e => by omega)).2
    gi_wp2
    exact hq

end Go.Proofs.Ytjjhndhigkhkpaa
