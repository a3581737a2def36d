/- The walk of EntrylogPlays. -/
import Derived.Test.YtjjhndhigkhkpaaLooks
import Derived.Test.YtjjhndhigkhkpaaLogK
namespace Go.Proofs.Ytjjhndhigkhkpaa
open Go Go.RowKit
attribute [local go_sem ↓] Go.wp_at_zero Go.wp_at_succ

/-- What holds between two calls: the log, the reference's log in its box, the calls. -/
structure PInv (w W : World) (g b : Nat) (lv lw gw : Value) (ps : List (Ent × Value)) (rs : List RE) (v : Value) (ls : List ActV) : Prop where
  rep : LogRep W w.heap.size b lv ps
  ref : RRep W w.heap.size lw gw rs
  sync : Sync ps rs
  apart : ∀ k, lw.ownBlock = some k → lv.ownBlock ≠ some k
  acts : Acts W w.heap.size v ls
  below : Below w.heap.size w W
  box : Blk W g 49 #[lw, gw]
  gpos : w.heap.size ≤ g

section
variable {w W W' : World} {g b : Nat} {lv lw gw : Value} {ps : List (Ent × Value)} {rs : List RE} {v : Value} {ls : List ActV}
theorem PInv.adv (h : PInv w W g b lv lw gw ps rs v ls) (hb : Below W.heap.size W W') : PInv w W' g b lv lw gw ps rs v ls :=
  ⟨h.rep.below hb, h.ref.below hb, h.sync, h.apart, h.acts.below hb, h.below.trans (hb.mono h.below.size), h.box.below hb, h.gpos⟩
theorem PInv.alloc (h : PInv w W g b lv lw gw ps rs v ls) (o : Obj) : PInv w (W.alloc o) g b lv lw gw ps rs v ls := h.adv ((Below.refl _ _).alloc (Nat.le_refl _) o)

/-- Behind a call of do: the new log and the new reference's log, which is then laid into the box. -/
theorem PInv.done {b' : Nat} {lv' lw' gw' : Value} {ps' : List (Ent × Value)} {rs' : List RE} (h : PInv w W g b lv lw gw ps rs v ls) (hl : LogRep W' w.heap.size b' lv' ps') (hr : RRep W' w.heap.size lw' gw' rs') (hs : Sync ps' rs')
    (ha : ∀ k, lw'.ownBlock = some k → lv'.ownBlock ≠ some k) (hb : Below w.heap.size W W') (hk : KeepT w.heap.size W W') : PInv w ((W'.setCell ⟨g, 0, none⟩ lw').setCell ⟨g, 1, none⟩ gw') g b' lv' lw' gw' ps' rs' v ls := by
  have hx : Blk W' g 49 #[lw, gw] := hk.blk h.box (by decide) (by decide)
  have g2 : Blk (W'.setCell ⟨g, 0, none⟩ lw') g 49 #[lw', gw] := hx.set_ 0 _
  have g3 : Blk ((W'.setCell ⟨g, 0, none⟩ lw').setCell ⟨g, 1, none⟩ gw') g 49 #[lw', gw'] := g2.set_ 1 _
  have hg := h.gpos
  have ho : Only (fun k => k = g) W' ((W'.setCell ⟨g, 0, none⟩ lw').setCell ⟨g, 1, none⟩ gw') := Only.setCell (S := fun k => k = g) (Only.setCell (S := fun k => k = g) (Only.refl _ _) (p := ⟨g, 0, none⟩) (.inl rfl) _) (p := ⟨g, 1, none⟩) (.inl rfl) _
  have hne : ∀ k : Nat, k = b' → ¬ k = g := fun k e e2 => by
    subst e e2
    exact (hl.blk.ne_ hx (by decide)) rfl
  have hb2 : Below w.heap.size W' ((W'.setCell ⟨g, 0, none⟩ lw').setCell ⟨g, 1, none⟩ gw') := ho.below (fun i hi _ e => by omega) (by have := hb.size; have := h.below.size; omega)
  have hkb : KeepB w.heap.size 5 W' ((W'.setCell ⟨g, 0, none⟩ lw').setCell ⟨g, 1, none⟩ gw') := KeepB.of_only ho fun k _ hk => ⟨by omega, fun c fr e => by
    subst hk
    unfold Blk at hx
    rw [hx] at e
    injection e with e
    injection e with _ e
    exact absurd e (by decide)⟩
  exact ⟨(hl.only ho (fun k hk e => by
      rcases hk with hk | hk
      · exact hne k hk e
      · subst e
        obtain ⟨_, cur, h2⟩ := row_block hl.row hk
        exact (hx.ne_ h2 (by decide)) rfl) hkb), (hr.farset hx).farset g2, hs, ha, (h.acts.kept hb hk.u8).kept hb2 hkb, (h.below.trans hb).trans hb2, g3, h.gpos⟩
end

set_option maxRecDepth 100000 in
set_option maxHeartbeats 4000000 in
theorem plays_walk (v : Value) (ls : List ActV) (w : World) (h : Acts w w.heap.size v ls) :
    Calls Try.prog 5 #[v] w fun e w' => e = .returned (.bool true) ∧ Below w.heap.size w w' := by
  have HA := Lib.hid h
  obtain ⟨A, cap, rfl, hc1, hc2, _⟩ := h.row
  have hn : (ls.length : Int) ≤ 9223372036854775807 := by unfold maxLen at hc2; omega
  clear h hc2
  go_enter Try.func5, Try.ntmps5
  go_wp2_with fail
  refine (small_any _ _ _ _ HA.out).mono ?_
  rintro e w' ⟨rfl, rfl⟩
  cases hs : smallB ls with
  | false =>
    go_wp2_with fail
    refine (known_true _).mono ?_
    rintro e w9 ⟨rfl, hb9⟩
    have HG := Lib.hid hb9
    clear hb9
    go_wp2_with fail
    go_ret
    exact ⟨rfl, HG.out⟩
  | true =>
    have hsm : ls.length ≤ 60 ∧ ∀ a ∈ ls, a.e.key.size ≤ 300 ∧ a.e.val.length ≤ 300 := by
      unfold smallB at hs
      rw [Bool.and_eq_true, List.all_eq_true] at hs
      refine ⟨of_decide_eq_true hs.1, fun a ha => ?_⟩
      have := hs.2 a ha
      simpa [okA] using this
    have HS := Lib.hid hsm
    have hl60 := hsm.1
    clear hs hsm
    go_wp2_with fail
    refine (logNew_any _).mono ?_
    rintro e w1 ⟨rfl, hw1⟩
    have HL1 : Hid (LogRep w1 w.heap.size w.heap.size (.slice none 0 0) []) := Lib.hid (hw1 ▸ logNew_rep w w.heap.size (Nat.le_refl _))
    have HB1 : Hid (Below w.heap.size w w1) := Lib.hid (hw1 ▸ (Below.refl w.heap.size w).alloc (Nat.le_refl _) _)
    have HI1 : Hid (PInv w (w1.alloc (.cells #[.slice none 0 0, .slice none 0 0] 49)) w1.heap.size w.heap.size (.slice none 0 0) (.slice none 0 0) (.slice none 0 0) [] [] (.slice A ls.length cap) ls) := Lib.hid
      ⟨HL1.out.alloc _, RRep.nil _ _, Sync.nil, (fun k hk => by cases hk), HA.out.below (HB1.out.alloc HB1.out.size _), HB1.out.alloc HB1.out.size _, Blk.new _ _ _, HB1.out.size⟩
    clear hw1
    go_wp2_with fail
    go_loopw [3, 18] (fun x i wr => ∃ (k b : Nat) (ps : List (Ent × Value)) (rs : List RE) (lv lw gw : Value), k ≤ ls.length ∧ i = .int .i64 k ∧ x = .pointer (some ⟨b, 0, none⟩) ∧ rs.length ≤ k ∧ PInv w wr w1.heap.size b lv lw gw ps rs (.slice A ls.length cap) ls) (fun _ i _ => ls.length - (intOf i).toNat)
    case atStart => exact ⟨0, w.heap.size, [], [], _, _, _, by omega, rfl, rfl, by simp, HI1.out⟩
    case round =>
      obtain ⟨k, b, ps, rs, lv, lw, gw, hk, rfl, rfl, hrk, hinv⟩ := hrel
      obtain ⟨LA, lc, rfl, hx1, hx2⟩ := own_form hinv.ref.row
      obtain ⟨GA, gc, rfl, hx3, hx4⟩ := own_form hinv.ref.gone
      have HI := Lib.hid hinv
      clear hinv HI1 HL1 HB1 hx2 hx4
      by_cases hkl : k < ls.length
      · obtain ⟨a, ha⟩ : ∃ a, ls[k]? = some a := ⟨_, List.getElem?_eq_getElem hkl⟩
        obtain ⟨bb, off, cap', e, _, hbB, c0, c1, c2, c3, c4, c5, hao⟩ := HI.out.acts.at_ ha
        injection e with e1 _ e3
        subst e1 e3
        obtain ⟨A', vc, hv'⟩ := hao.val.form
        rw [hv'] at c3
        have hklI : (k : Int) < (ls.length : Int) := by omega
        have hcI : (ls.length : Int) ≤ (cap : Int) := by omega
        have HV' := Lib.hid hv'
        have HSm := Lib.hid (HS.out.2 a (List.mem_of_getElem? ha))
        have HI0 := Lib.hid (HI.out.alloc (.cells #[.int .i64 a.what, .int .u32 a.slot, .string a.e.key, .slice A' a.e.val.length vc, .int .u64 a.e.dl, .int .u64 a.e.birth] 44))
        have HAO : Hid (a.Ok (wr.alloc (.cells #[.int .i64 a.what, .int .u32 a.slot, .string a.e.key, .slice A' a.e.val.length vc, .int .u64 a.e.dl, .int .u64 a.e.birth] 44)) w.heap.size) := Lib.hid (HI0.out.acts.each a (List.mem_of_getElem? ha))
        have hrk9 : rs.length ≤ 1000 := by omega
        have HN := Lib.hid hrk9
        have x0 : wr.cell? ⟨w1.heap.size, 0, none⟩ = some (.slice LA rs.length lc) := HI.out.box.cell 0 _ rfl
        have x1 : wr.cell? ⟨w1.heap.size, 1, none⟩ = some (.slice GA rs.length gc) := HI.out.box.cell 1 _ rfl
        have hzz := HI.out.box.lt
        clear hao hv' ha hrk9
        go_wp2_with fail
        have hdo := do_any w.heap.size b lv _ _ ps rs a _ HI0.out.rep HI0.out.ref HI0.out.sync HI0.out.apart HAO.out HSm.out HN.out
        rw [HV'.out] at hdo
        refine hdo.mono ?_
        clear hdo
        rintro e w2 ⟨b', lv', lw', gw', ps', rs', rfl, hl2, hr2, hs2, ha2, hb2, hk2, hn2⟩
        obtain ⟨LA', lc', rfl, hy1, hy2⟩ := own_form hr2.row
        obtain ⟨GA', gc', rfl, hy3, hy4⟩ := own_form hr2.gone
        have hx := hk2.blk HI0.out.box (by decide) (by decide)
        have f1 := hx.frozen
        have HI2 := Lib.hid (HI0.out.done hl2 hr2 hs2 ha2 hb2 hk2)
        have HN2 := Lib.hid (show rs'.length ≤ 1000 by have := HN.out; omega)
        clear hl2 hr2 hs2 ha2 hb2 hk2 c0 c1 c2 c3 c4 c5 x0 x1 hy2 hy4
        have hz := hx.lt
        have y0 : w2.cell? ⟨w1.heap.size, 0, none⟩ = some (.slice LA rs.length lc) := hx.cell 0 _ rfl
        have y1 : w2.cell? ⟨w1.heap.size, 1, none⟩ = some (.slice GA rs.length gc) := hx.cell 1 _ rfl
        clear hx
        go_upto_region 11 with fail
        generalize hw3 : World.setCell _ _ _ = w3
        rw [hw3] at HI2
        have y0 : w3.cell? ⟨w1.heap.size, 0, none⟩ = some (.slice LA' rs'.length lc') := HI2.out.box.cell 0 _ rfl
        have y1 : w3.cell? ⟨w1.heap.size, 1, none⟩ = some (.slice GA' rs'.length gc') := HI2.out.box.cell 1 _ rfl
        clear hw3 hz f1
        go_wp2_with fail
        refine (looks_true w.heap.size b' lv' _ _ ps' rs' _ HI2.out.rep HI2.out.ref HI2.out.sync HN2.out).mono ?_
        rintro e w4 ⟨rfl, hb4⟩
        have HI4 := Lib.hid (HI2.out.adv hb4)
        clear hb4 y0 y1
        go_wp2_with fail
        go_roundw
        case rel => exact ⟨k + 1, b', ps', rs', lv', _, _, by omega, by go_num, rfl, by omega, HI4.out⟩
        case measure => simp [intOf]; omega
      · obtain rfl : k = ls.length := by omega
        go_wp2_with fail
        refine (known_true _).mono ?_
        rintro e w9 ⟨rfl, hb9⟩
        have HG := Lib.hid (HI.out.below.trans (hb9.mono HI.out.below.size))
        clear hb9
        go_wp2_with fail
        go_ret
        exact ⟨rfl, HG.out⟩

end Go.Proofs.Ytjjhndhigkhkpaa
