/- The walks of the reference's log (layer 9): Set, Remove. -/
import Derived.Test.YtjjhndhigkhkpaaRefD
namespace Go.Proofs.Ytjjhndhigkhkpaa
open Go Go.RowKit
attribute [local go_sem ↓] Go.wp_at_zero Go.wp_at_succ

theorem cells_far2 {W : World} {a : Addr} {b : Nat} {x u0 u1 : Value} (h : W.cell? a = some x) (hne : ¬ a.block = b) : ((W.setCell ⟨b, 0, none⟩ u0).setCell ⟨b, 1, none⟩ u1).cell? a = some x := cell_far (cell_far h hne) hne
theorem cells_far4 {W : World} {a : Addr} {b : Nat} {x u0 u1 u2 u3 : Value} (h : W.cell? a = some x) (hne : ¬ a.block = b) : ((((W.setCell ⟨b, 0, none⟩ u0).setCell ⟨b, 1, none⟩ u1).setCell ⟨b, 2, none⟩ u2).setCell ⟨b, 3, none⟩ u3).cell? a = some x := cell_far (cell_far (cell_far (cell_far h hne) hne) hne) hne
theorem cell_drew {W : World} {a : Addr} {v : Value} (h : W.cell? a = some v) : W.drew.cell? a = some v := h

theorem ren_set (rs : List RE) (i : Nat) (q : RE) : ren (rs.set i q) = (ren rs).set i (q.e, q.v) := by unfold ren; rw [List.map_set]
theorem rgs_set (rs : List RE) (i : Nat) (q : RE) : rgs (rs.set i q) = (rgs rs).set i (.bool q.gone) := by unfold rgs; rw [List.map_set]
theorem rgs_set_same {rs : List RE} {i : Nat} {r q : RE} (hr : rs[i]? = some r) (hg : q.gone = r.gone) : rgs (rs.set i q) = rgs rs := by
  rw [rgs_set, hg]
  obtain ⟨hi, hx⟩ := List.getElem?_eq_some_iff.1 hr
  refine List.ext_getElem? fun j => ?_
  by_cases e : i = j
  · subst e
    rw [List.getElem?_set_self (by simpa [rgs] using hi)]
    simp [rgs, hr]
  · rw [List.getElem?_set_ne e]
theorem ren_set_same {rs : List RE} {i : Nat} {r q : RE} (hr : rs[i]? = some r) (he : q.e = r.e) (hv : q.v = r.v) : ren (rs.set i q) = ren rs := by
  rw [ren_set, he, hv]
  obtain ⟨hi, hx⟩ := List.getElem?_eq_some_iff.1 hr
  refine List.ext_getElem? fun j => ?_
  by_cases e : i = j
  · subst e
    rw [List.getElem?_set_self (by simpa [ren] using hi)]
    simp [ren, hr]
  · rw [List.getElem?_set_ne e]

section
variable {w wr wr' : World} {n0 b g cap i : Nat} {lv' gv' : Value} {rs : List RE} {r : RE}

theorem OutInv.setE {v3 : Value} {bs : List UInt8} {d : Int} (h : OutInv wr n0 b (.slice (some ⟨g, 0, none⟩) rs.length cap) gv' rs rs) (hr : rs[i]? = some r) (hl : bs.length ≤ 65536) (hv : wr.ownsRow n0 5 1 v3 bs.length (bcells bs)) :
    OutInv ((wr.setCell ⟨g, i * 4 + 1, none⟩ v3).setCell ⟨g, i * 4 + 2, none⟩ (.int .u64 d)) n0 b (.slice (some ⟨g, 0, none⟩) rs.length cap) gv' (rs.set i ⟨⟨r.e.key, bs, d, r.e.birth⟩, v3, r.gone⟩) (rs.set i ⟨⟨r.e.key, bs, d, r.e.birth⟩, v3, r.gone⟩) ∧
      Below n0 wr ((wr.setCell ⟨g, i * 4 + 1, none⟩ v3).setCell ⟨g, i * 4 + 2, none⟩ (.int .u64 d)) := by
  obtain ⟨hi, hx⟩ := List.getElem?_eq_some_iff.1 hr
  have hgb : g ≠ b := fun e => h.off_row (by rw [e]; rfl)
  have hn0 : n0 ≤ g := (row_block h.row (k := g) rfl).1
  have ho : Only (fun k => k = g) wr ((wr.setCell ⟨g, i * 4 + 1, none⟩ v3).setCell ⟨g, i * 4 + 2, none⟩ (.int .u64 d)) :=
    Only.setCell (S := fun k => k = g) (Only.setCell (S := fun k => k = g) (Only.refl _ wr) (p := ⟨g, i * 4 + 1, none⟩) (.inl rfl) _) (p := ⟨g, i * 4 + 2, none⟩) (.inl rfl) _
  have key : ∀ {u : Value} {m : Nat} {xs : List Value}, wr.ownsRow n0 5 1 u m xs → ((wr.setCell ⟨g, i * 4 + 1, none⟩ v3).setCell ⟨g, i * 4 + 2, none⟩ (.int .u64 d)).ownsRow n0 5 1 u m xs := fun hu => ownsRow_only hu ho (fun k hk e => by
      subst e
      exact rows_off hu h.row (by decide) k hk rfl)
  refine ⟨⟨?_, ?_, ?_, ?_⟩, ((Below.refl _ _).setCell (p := ⟨g, i * 4 + 1, none⟩) hn0 _).setCell (p := ⟨g, i * 4 + 2, none⟩) hn0 _⟩
  · exact h.out.only ho (fun e => hgb e.symm)
  · have hp : (ren rs)[i]? = some (r.e, r.v) := by simp [ren, hr]
    have r1 := set_row (q := (⟨r.e.key, bs, r.e.dl, r.e.birth⟩, v3)) h.row hp (show 1 < 4 by decide) (u := v3) rfl
    have hp2 : ((ren rs).set i (⟨r.e.key, bs, r.e.dl, r.e.birth⟩, v3))[i]? = some (⟨r.e.key, bs, r.e.dl, r.e.birth⟩, v3) := List.getElem?_set_self (by simpa [ren] using hi)
    have r2 := set_row (q := (⟨r.e.key, bs, d, r.e.birth⟩, v3)) r1 hp2 (show 2 < 4 by decide) (u := .int .u64 d) rfl
    rw [List.set_set] at r2
    rw [List.length_set, ren_set]
    exact r2
  · rw [List.length_set, rgs_set_same (q := ⟨⟨r.e.key, bs, d, r.e.birth⟩, v3, r.gone⟩) hr rfl]
    exact ownsRow_only h.gone ho (fun k hk e => by subst e; exact rows_off h.gone h.row (by decide) k hk rfl)
  · intro q hq
    rcases List.mem_or_eq_of_mem_set hq with hq | rfl
    · exact ⟨key (h.vals q hq).1, (h.vals q hq).2⟩
    · exact ⟨key hv, hl⟩

theorem OutInv.setG (h : OutInv wr n0 b lv' (.slice (some ⟨g, 0, none⟩) rs.length cap) rs rs) (hr : rs[i]? = some r) :
    OutInv (wr.setCell ⟨g, i, none⟩ (.bool true)) n0 b lv' (.slice (some ⟨g, 0, none⟩) rs.length cap) (rs.set i ⟨r.e, r.v, true⟩) (rs.set i ⟨r.e, r.v, true⟩) ∧ Below n0 wr (wr.setCell ⟨g, i, none⟩ (.bool true)) := by
  have hgb : g ≠ b := fun e => h.off_gone (by rw [e]; rfl)
  have hn0 : n0 ≤ g := (row_block h.gone (k := g) rfl).1
  have ho : Only (fun k => k = g) wr (wr.setCell ⟨g, i, none⟩ (.bool true)) := Only.setCell (S := fun k => k = g) (Only.refl _ wr) (p := ⟨g, i, none⟩) (.inl rfl) _
  refine ⟨⟨h.out.only ho (fun e => hgb e.symm), ?_, ?_, ?_⟩, (Below.refl _ _).setCell (p := ⟨g, i, none⟩) hn0 _⟩
  · rw [List.length_set, ren_set_same (q := ⟨r.e, r.v, true⟩) hr rfl rfl]
    exact ownsRow_only h.row ho (fun k hk e => by subst e; exact rows_off h.row h.gone (by decide) k hk rfl)
  · rw [List.length_set, rgs_set]
    exact (h.gone.stored i (.bool true)).1
  · have key : ∀ {u : Value} {m : Nat} {xs : List Value}, wr.ownsRow n0 5 1 u m xs → (wr.setCell ⟨g, i, none⟩ (.bool true)).ownsRow n0 5 1 u m xs := fun hu => ownsRow_only hu ho (fun k hk e => by
      subst e
      exact rows_off hu h.gone (by decide) k hk rfl)
    intro q hq
    rcases List.mem_or_eq_of_mem_set hq with hq | rfl
    · exact ⟨key (h.vals q hq).1, (h.vals q hq).2⟩
    · exact ⟨key (h.vals r (List.mem_of_getElem? hr)).1, (h.vals r (List.mem_of_getElem? hr)).2⟩
end

theorem Alike.at_ {rs' rs : List RE} (h : Alike rs' rs) {i : Nat} {r : RE} (hr : rs[i]? = some r) : ∃ v, rs'[i]? = some ⟨r.e, v, r.gone⟩ := by
  have := congrArg (·[i]?) h
  simp only [List.getElem?_map, hr, Option.map_some] at this
  cases hx : rs'[i]? with
  | none => rw [hx] at this; simp at this
  | some q =>
    rw [hx] at this
    simp [RE.bare] at this
    exact ⟨q.v, by obtain ⟨a, b, c⟩ := q; simp at this ⊢; exact this⟩

/-- The two boxes at a method's head. -/
structure Boxes2 (w wr : World) (t1 : TypeId) (o1 : Array Value) (t2 : TypeId) (o2 : Array Value) : Prop where
  b1 : Blk wr w.heap.size t1 o1
  b2 : Blk wr (w.heap.size + 1) t2 o2
  below : Below w.heap.size w wr
  size : w.heap.size + 2 ≤ wr.heap.size

theorem Boxes2.new (w : World) (t1 : TypeId) (o1 : Array Value) (t2 : TypeId) (o2 : Array Value) : Boxes2 w ((w.alloc (.cells o1 t1)).alloc (.cells o2 t2)) t1 o1 t2 o2 :=
  ⟨(Blk.new _ _ _).alloc _, Blk.new2 _ _ _ _, ((Below.refl _ _).alloc (Nat.le_refl _) _).alloc (by simp) _, by simp⟩

theorem Boxes2.adv {w wr wr' : World} {t1 t2 : TypeId} {o1 o2 : Array Value} (h : Boxes2 w wr t1 o1 t2 o2) (hb : Below (w.heap.size + 2) wr wr') : Boxes2 w wr' t1 o1 t2 o2 :=
  ⟨h.b1.below_at hb (by omega), h.b2.below_at hb (by omega), h.below.trans (hb.mono (by omega)), Nat.le_trans h.size hb.size⟩



set_option maxHeartbeats 1000000 in
theorem rlogSet_none (B B2 : Nat) (lv gv : Value) (rs : List RE) (i : Nat) (v : Value) (bs : List UInt8) (d : Int) (w : World) (h : RRep w B lv gv rs) (h32 : (i : Int) ≤ 4294967295) (hb : Bts w B2 5 v bs) (hs : hasR rs i = false) :
    Calls Try.prog 37 #[.agg #[lv, gv], .int .u32 i, v, .int .u64 d] w fun e w' => e = .returned (.tuple #[.agg #[lv, gv], .int .i64 9]) ∧ Below w.heap.size w w' := by
  have HR := Lib.hid h
  obtain ⟨LA, lc, rfl, hx1, _⟩ := own_form h.row
  obtain ⟨GA, gc, rfl, hx2, _⟩ := own_form h.gone
  obtain ⟨A, cap, rfl⟩ := hb.form
  have HB := Lib.hid hb
  have HS := Lib.hid hs
  clear h hb hs
  go_enter Try.func37, Try.ntmps37
  go_wp2_with fail
  refine (refHas_any B _ _ rs i _ ((HR.out.alloc _).alloc _) h32).mono ?_
  rw [HS.out]
  rintro e w1 ⟨rfl, hb1⟩
  have HBx : Hid (Boxes2 w w1 49 #[.slice LA rs.length lc, .slice GA rs.length gc] 49 #[.slice none 0 0, .slice none 0 0]) := Lib.hid ((Boxes2.new _ _ _ _ _).adv (hb1.mono (by simp)))
  have HBt := Lib.hid (((HB.out.alloc _).alloc _).below hb1)
  have HR1 := Lib.hid (((HR.out.alloc _).alloc _).below hb1)
  have l0 := HBx.out.b1.cell 0 _ rfl
  have l1 := HBx.out.b1.cell 1 _ rfl
  have r0 := HBx.out.b2.cell 0 _ rfl
  have r1 := HBx.out.b2.cell 1 _ rfl
  have r4 := HBx.out.b2.frozen
  have hz6 := HBx.out.b2.lt
  clear hb1
  go_wp2_with fail
  refine bodyPost_ret (v := .tuple #[.agg #[.slice LA rs.length lc, .slice GA rs.length gc], .int .i64 9]) (by simp [results, Try.results37, go_sem, r0, r1, hz6]) rfl ⟨rfl, ?_⟩
  exact (HBx.out.below.setCell (p := ⟨w.heap.size + 1, 0, none⟩) (by simp) _).setCell (p := ⟨w.heap.size + 1, 1, none⟩) (by simp) _

set_option maxHeartbeats 1000000 in
theorem rlogSet_long (B B2 : Nat) (lv gv : Value) (rs : List RE) (i : Nat) (v : Value) (bs : List UInt8) (d : Int) (w : World) (h : RRep w B lv gv rs) (h32 : (i : Int) ≤ 4294967295) (hb : Bts w B2 5 v bs) (hs : hasR rs i = true) (hl : 65536 < bs.length) :
    Calls Try.prog 37 #[.agg #[lv, gv], .int .u32 i, v, .int .u64 d] w fun e w' => e = .returned (.tuple #[.agg #[lv, gv], .int .i64 5]) ∧ Below w.heap.size w w' := by
  have hd : decide ((65536 : Int) < (bs.length : Int)) = true := decide_eq_true (by omega)
  clear hl
  have HR := Lib.hid h
  obtain ⟨LA, lc, rfl, hx1, _⟩ := own_form h.row
  obtain ⟨GA, gc, rfl, hx2, _⟩ := own_form h.gone
  obtain ⟨A, cap, rfl⟩ := hb.form
  have HB := Lib.hid hb
  have HS := Lib.hid hs
  clear h hb hs
  go_enter Try.func37, Try.ntmps37
  go_wp2_with fail
  refine (refHas_any B _ _ rs i _ ((HR.out.alloc _).alloc _) h32).mono ?_
  rw [HS.out]
  rintro e w1 ⟨rfl, hb1⟩
  have HBx : Hid (Boxes2 w w1 49 #[.slice LA rs.length lc, .slice GA rs.length gc] 49 #[.slice none 0 0, .slice none 0 0]) := Lib.hid ((Boxes2.new _ _ _ _ _).adv (hb1.mono (by simp)))
  have HBt := Lib.hid (((HB.out.alloc _).alloc _).below hb1)
  have HR1 := Lib.hid (((HR.out.alloc _).alloc _).below hb1)
  have l0 := HBx.out.b1.cell 0 _ rfl
  have l1 := HBx.out.b1.cell 1 _ rfl
  have r0 := HBx.out.b2.cell 0 _ rfl
  have r1 := HBx.out.b2.cell 1 _ rfl
  have r4 := HBx.out.b2.frozen
  have hz6 := HBx.out.b2.lt
  clear hb1
  go_wp2_with fail
  refine bodyPost_ret (v := .tuple #[.agg #[.slice LA rs.length lc, .slice GA rs.length gc], .int .i64 5]) (by simp [results, Try.results37, go_sem, r0, r1, hz6]) rfl ⟨rfl, ?_⟩
  exact (HBx.out.below.setCell (p := ⟨w.heap.size + 1, 0, none⟩) (by simp) _).setCell (p := ⟨w.heap.size + 1, 1, none⟩) (by simp) _

set_option maxRecDepth 100000 in
set_option maxHeartbeats 2000000 in
theorem rlogSet_ok (B B2 : Nat) (lv gv : Value) (rs : List RE) (i : Nat) (r : RE) (v : Value) (bs : List UInt8) (d : Int) (w : World) (h : RRep w B lv gv rs) (h32 : (i : Int) ≤ 4294967295) (hb : Bts w B2 5 v bs) (hr : rs[i]? = some r) (hgn : r.gone = false) (hl : bs.length ≤ 65536) :
    Calls Try.prog 37 #[.agg #[lv, gv], .int .u32 i, v, .int .u64 d] w fun e w' => ∃ lv' gv' rs' v', e = .returned (.tuple #[.agg #[lv', gv'], .int .i64 0]) ∧
      RRep w' w.heap.size lv' gv' (rs'.set i ⟨⟨r.e.key, bs, d, r.e.birth⟩, v', false⟩) ∧ Alike rs' rs ∧ Below w.heap.size w w' := by
  have hs : hasR rs i = true := by simp [hasR, hr, hgn]
  have hd : decide ((65536 : Int) < (bs.length : Int)) = false := decide_eq_false (by omega)
  obtain ⟨hir, _⟩ := List.getElem?_eq_some_iff.1 hr
  have hiI : (i : Int) < (rs.length : Int) := by omega
  have hi0 : (0 : Int) ≤ (i : Int) := Int.natCast_nonneg _
  have HRr := Lib.hid hr
  have HGn := Lib.hid hgn
  have HL := Lib.hid hl
  clear hr hgn hl
  obtain ⟨i0, hi, hy0, hy1, hy2⟩ := info_parts u8_info
  have HJ1 := Lib.hid hi
  have HY10 := Lib.hid hy0
  have HY11 := Lib.hid hy1
  have HY12 := Lib.hid hy2
  clear hi hy0 hy1 hy2
  have HR := Lib.hid h
  obtain ⟨LA, lc, rfl, hx1, _⟩ := own_form h.row
  obtain ⟨GA, gc, rfl, hx2, _⟩ := own_form h.gone
  obtain ⟨A, cap, rfl⟩ := hb.form
  have HB := Lib.hid hb
  have HS := Lib.hid hs
  clear h hb hs
  go_enter Try.func37, Try.ntmps37
  go_wp2_with fail
  refine (refHas_any B _ _ rs i _ ((HR.out.alloc _).alloc _) h32).mono ?_
  rw [HS.out]
  rintro e w1 ⟨rfl, hb1⟩
  have HBx : Hid (Boxes2 w w1 49 #[.slice LA rs.length lc, .slice GA rs.length gc] 49 #[.slice none 0 0, .slice none 0 0]) := Lib.hid ((Boxes2.new _ _ _ _ _).adv (hb1.mono (by simp)))
  have HBt := Lib.hid (((HB.out.alloc _).alloc _).below hb1)
  have HR1 := Lib.hid (((HR.out.alloc _).alloc _).below hb1)
  have l0 := HBx.out.b1.cell 0 _ rfl
  have l1 := HBx.out.b1.cell 1 _ rfl
  have r0 := HBx.out.b2.cell 0 _ rfl
  have r1 := HBx.out.b2.cell 1 _ rfl
  have r4 := HBx.out.b2.frozen
  have hz6 := HBx.out.b2.lt
  clear hb1
  go_wp2_with fail
  refine (rlogCopy_any B _ _ rs _ HR1.out).mono ?_
  rintro e w2 ⟨lv1, gv1, rs1, rfl, hr1, hal, hb2⟩
  have hr := hr1.base HBx.out.size
  have HBx := Lib.hid (HBx.out.adv (hb2.mono HBx.out.size))
  have HBt := Lib.hid (HBt.out.below hb2)
  have hlen : rs1.length = rs.length := by have := congrArg List.length hal; simpa using this
  obtain ⟨v0, hr0⟩ := hal.at_ HRr.out
  have HR0 := Lib.hid hr0
  obtain ⟨g, cap1, gg, gcap, rfl, rfl, hgl, _, hc, _, c0, c1, c2, c3, _⟩ := hr.at_ hr0
  have HAL := Lib.hid hal
  have HRb := Lib.hid hr
  have HLen := Lib.hid hlen
  have hcI : (rs1.length : Int) ≤ (cap1 : Int) := by omega
  have hiI1 : (i : Int) < (rs1.length : Int) := by omega
  clear hr1 hb2 hal hr hlen hr0 l0 l1 r0 r1 r4 hz6 c0 c1 c2 c3
  go_upto_region 6 with fail
  obtain ⟨wa, hwa⟩ : ∃ wa, w2.alloc (.cells #[.slice (some ⟨g, 0, none⟩) rs1.length cap1, .slice (some ⟨gg, 0, none⟩) rs1.length gcap] 49) = wa := ⟨_, rfl⟩
  have HOI := Lib.hid (hwa ▸ OutInv.of_rep HRb.out : OutInv wa (w.heap.size + 2) w2.heap.size _ _ rs1 rs1)
  have HBa := Lib.hid (hwa ▸ HBx.out.adv ((Below.refl _ _).alloc HBx.out.size _) : Boxes2 w wa _ _ _ _)
  have HBu := Lib.hid (hwa ▸ HBt.out.alloc _ : Bts wa B2 _ _ _)
  rw [hwa]
  have hszb := HBx.out.size
  have o0 := HOI.out.out.cell 0 _ rfl
  have hz0 := HOI.out.out.lt
  clear hwa
  go_region_held_law (fun w' => w'.cell? ⟨w2.heap.size, 0, none⟩ = some (.slice (some ⟨g, 0, none⟩) rs1.length cap1)) (first | exact o0 | exact cell_far o0 (by simp; omega) | go_keep)
    (first
      | (refine step_append_dst 26 (by rfl) (by rfl) _ _ _ (by rfl) (w.heap.size + 2) 5 i0 _ 1 1 Try.underlying28 HJ1.out HY10.out HY11.out HY12.out rfl (by decide) _ 0 [] (by rfl) (World.ownsRow_nil _ _ _ _) A bs.length cap (bcells bs) (by rfl) (HBu.out.drew.src_at.2) (bcells_one _) (by have := HL.out; unfold maxLen; omega) (by have := HL.out; omega) (by have := HBa.out.size; simp; omega) ?_
         intro v3 w3 hown3 hg3 hat3
         have hbl : Below wa.heap.size wa w3 := below_drew ((Below.refl _ _).grown hg3 (by simp) (by intro j hj; simp [Value.ownBlock] at hj))
         have HOI := Lib.hid (HOI.out.adv hbl)
         have HBa := Lib.hid (HBa.out.adv (hbl.mono HBa.out.size))
         have o0 := HOI.out.out.cell 0 _ rfl
         obtain ⟨V3, vc3, rfl, _, _⟩ := own_form hown3
         obtain ⟨g', cap', gg', gcap', e1, e2, hgl3, _, _, _, c0, c1, c2, c3, _⟩ := (HOI.out.rep HRb.out.len).at_ HR0.out
         injection e1 with e1 _ e3
         injection e1 with e1
         injection e1 with e1
         subst e1 e3
         have cf := HOI.out.row.frozenAt (i * 4 + 1)
         have cf2 := HOI.out.row.frozenAt (i * 4 + 2)
         obtain ⟨X0, xc0, hxe, _, _⟩ := own_form (HOI.out.vals _ (List.mem_of_getElem? HR0.out)).1
         have hz0 := HOI.out.out.lt
         have hgo : g ≠ w2.heap.size := by omega
         have HO3 := Lib.hid hown3
         clear hown3 hg3 hat3 hbl hxe e2))
  have o1 := HOI.out.out.cell 1 _ rfl
  have r0 := HBa.out.b2.cell 0 _ rfl
  have r1 := HBa.out.b2.cell 1 _ rfl
  have r4 := HBa.out.b2.frozen
  have hz6 := HBa.out.b2.lt
  have hn0 : w.heap.size + 2 ≤ g := (row_block HOI.out.row (k := g) rfl).1
  have hn1 : w.heap.size + 1 ≠ g := by omega
  have hn2 : w.heap.size + 1 ≠ w2.heap.size := by omega
  go_wp2_with fail
  have hown := HO3.out
  rw [Nat.zero_add, List.nil_append] at hown
  obtain ⟨he, hbel⟩ := HOI.out.setE (d := d) HR0.out HL.out hown
  refine bodyPost_ret (v := .tuple #[.agg #[.slice (some ⟨g, 0, none⟩) rs1.length cap1, .slice (some ⟨gg, 0, none⟩) rs1.length gcap], .int .i64 0]) (by simp [results, Try.results37, go_sem, r0, r1, hz6, hn1, hn2]) rfl ⟨_, _, rfl, rs1, ⟨.slice V3 bs.length vc3, ?_⟩, HAL.out, ?_⟩
  · have h1 := ((he.rep (by rw [List.length_set]; exact HRb.out.len)).low (a := ⟨w.heap.size + 1, 0, none⟩) (by simp) (.slice (some ⟨g, 0, none⟩) rs1.length cap1)).low (a := ⟨w.heap.size + 1, 1, none⟩) (by simp) (.slice (some ⟨gg, 0, none⟩) rs1.length gcap)
    rw [HGn.out] at h1
    exact h1.base (by omega)
  · exact ((HBa.out.below.trans (hbel.mono (by omega))).setCell (p := ⟨w.heap.size + 1, 0, none⟩) (by simp) _).setCell (p := ⟨w.heap.size + 1, 1, none⟩) (by simp) _


set_option maxHeartbeats 1000000 in
theorem rlogRemove_none (B : Nat) (lv gv : Value) (rs : List RE) (i : Nat) (w : World) (h : RRep w B lv gv rs) (h32 : (i : Int) ≤ 4294967295) (hs : hasR rs i = false) :
    Calls Try.prog 38 #[.agg #[lv, gv], .int .u32 i] w fun e w' => e = .returned (.tuple #[.agg #[lv, gv], .agg #[.string ⟨#[]⟩, .slice none 0 0, .int .u64 0, .int .u64 0], .int .i64 9]) ∧ Below w.heap.size w w' := by
  have HR := Lib.hid h
  obtain ⟨LA, lc, rfl, hx1, _⟩ := own_form h.row
  obtain ⟨GA, gc, rfl, hx2, _⟩ := own_form h.gone
  have HS := Lib.hid hs
  clear h hs
  go_enter Try.func38, Try.ntmps38
  go_wp2_with fail
  refine (refHas_any B _ _ rs i _ (((HR.out.alloc _).alloc _).alloc _) h32).mono ?_
  rw [HS.out]
  rintro e w1 ⟨rfl, hb1⟩
  have HBx : Hid (Boxes3 w w1 49 #[.slice LA rs.length lc, .slice GA rs.length gc] 49 #[.slice none 0 0, .slice none 0 0] 31 #[.string ⟨#[]⟩, .slice none 0 0, .int .u64 0, .int .u64 0]) := Lib.hid ((Boxes3.new _ _ _ _ _ _ _).adv (hb1.mono (by simp)))
  have HR1 := Lib.hid ((((HR.out.alloc _).alloc _).alloc _).below hb1)
  clear hb1
  have l0 := HBx.out.b1.cell 0 _ rfl
  have l1 := HBx.out.b1.cell 1 _ rfl
  have r0 := HBx.out.b2.cell 0 _ rfl
  have r1 := HBx.out.b2.cell 1 _ rfl
  have r4 := HBx.out.b2.frozen
  have e0 := HBx.out.b3.cell 0 _ rfl
  have e1 := HBx.out.b3.cell 1 _ rfl
  have e2 := HBx.out.b3.cell 2 _ rfl
  have e3 := HBx.out.b3.cell 3 _ rfl
  have e4 := HBx.out.b3.frozen
  have hz6 := HBx.out.b3.lt
  have hz7 := HBx.out.b2.lt
  go_wp2_with fail
  generalize hw5 : World.setCell _ _ _ = w5
  have q2 : Blk w5 (w.heap.size + 1) 49 #[.slice LA rs.length lc, .slice GA rs.length gc] := by
    rw [← hw5]
    exact (((((HBx.out.b2.set_ 0 _).set_ 1 _).far (by simp) _).far (by simp) _).far (by simp) _).far (by simp) _
  have q3 : Blk w5 (w.heap.size + 2) 31 #[.string ⟨#[]⟩, .slice none 0 0, .int .u64 0, .int .u64 0] := by
    rw [← hw5]
    exact (((((HBx.out.b3.far (by simp) _).far (by simp) _).set_ 0 _).set_ 1 _).set_ 2 _).set_ 3 _
  have hB : Below w.heap.size w w5 := by
    rw [← hw5]
    exact (((((HBx.out.below.setCell (p := ⟨w.heap.size + 1, 0, none⟩) (by simp) _).setCell (p := ⟨w.heap.size + 1, 1, none⟩) (by simp) _).setCell (p := ⟨w.heap.size + 1 + 1, 0, none⟩) (by simp; omega) _).setCell (p := ⟨w.heap.size + 1 + 1, 1, none⟩) (by simp; omega) _).setCell (p := ⟨w.heap.size + 1 + 1, 2, none⟩) (by simp; omega) _).setCell (p := ⟨w.heap.size + 1 + 1, 3, none⟩) (by simp; omega) _
  have g0 := q2.cell 0 _ rfl
  have g1 := q2.cell 1 _ rfl
  have f0 := q3.cell 0 _ rfl
  have f1 := q3.cell 1 _ rfl
  have f2 := q3.cell 2 _ rfl
  have f3 := q3.cell 3 _ rfl
  clear hw5 r0 r1 e0 e1 e2 e3
  exact bodyPost_ret (v := .tuple #[.agg #[.slice LA rs.length lc, .slice GA rs.length gc], .agg #[.string ⟨#[]⟩, .slice none 0 0, .int .u64 0, .int .u64 0], .int .i64 9]) (by simp [results, Try.results38, go_sem, g0, g1, f0, f1, f2, f3]) rfl ⟨rfl, hB⟩

set_option maxRecDepth 100000 in
set_option maxHeartbeats 2000000 in
theorem rlogRemove_ok (B : Nat) (lv gv : Value) (rs : List RE) (i : Nat) (r : RE) (w : World) (h : RRep w B lv gv rs) (h32 : (i : Int) ≤ 4294967295) (hr : rs[i]? = some r) (hgn : r.gone = false) :
    Calls Try.prog 38 #[.agg #[lv, gv], .int .u32 i] w fun e w' => ∃ lv' gv' rs' v', e = .returned (.tuple #[.agg #[lv', gv'], .agg #[.string r.e.key, r.v, .int .u64 r.e.dl, .int .u64 r.e.birth], .int .i64 0]) ∧
      RRep w' w.heap.size lv' gv' (rs'.set i ⟨r.e, v', true⟩) ∧ Alike rs' rs ∧ Below w.heap.size w w' := by
  have hs : hasR rs i = true := by simp [hasR, hr, hgn]
  obtain ⟨hir, _⟩ := List.getElem?_eq_some_iff.1 hr
  have hiI : (i : Int) < (rs.length : Int) := by omega
  have hi0 : (0 : Int) ≤ (i : Int) := Int.natCast_nonneg _
  have HRr := Lib.hid hr
  have HGn := Lib.hid hgn
  clear hr hgn
  have HR := Lib.hid h
  obtain ⟨LA, lc, rfl, hx1, _⟩ := own_form h.row
  obtain ⟨GA, gc, rfl, hx2, _⟩ := own_form h.gone
  have HS := Lib.hid hs
  clear h hs
  go_enter Try.func38, Try.ntmps38
  go_wp2_with fail
  refine (refHas_any B _ _ rs i _ (((HR.out.alloc _).alloc _).alloc _) h32).mono ?_
  rw [HS.out]
  rintro e w1 ⟨rfl, hb1⟩
  have HBx : Hid (Boxes3 w w1 49 #[.slice LA rs.length lc, .slice GA rs.length gc] 49 #[.slice none 0 0, .slice none 0 0] 31 #[.string ⟨#[]⟩, .slice none 0 0, .int .u64 0, .int .u64 0]) := Lib.hid ((Boxes3.new _ _ _ _ _ _ _).adv (hb1.mono (by simp)))
  have HR1 := Lib.hid ((((HR.out.alloc _).alloc _).alloc _).below hb1)
  clear hb1
  have l0 := HBx.out.b1.cell 0 _ rfl
  have l1 := HBx.out.b1.cell 1 _ rfl
  go_wp2_with fail
  refine (rlogCopy_any B _ _ rs _ HR1.out).mono ?_
  rintro e w2 ⟨lv1, gv1, rs1, rfl, hr1, hal, hb2⟩
  have hr := hr1.base HBx.out.size
  have HBx := Lib.hid (HBx.out.adv (hb2.mono HBx.out.size))
  have HR2 := Lib.hid (HR1.out.below hb2)
  have hlen : rs1.length = rs.length := by have := congrArg List.length hal; simpa using this
  obtain ⟨v0, hr0⟩ := hal.at_ HRr.out
  have HR0 := Lib.hid hr0
  obtain ⟨g, cap1, gg, gcap, rfl, rfl, _, hggl, _, hgc, _, _, _, _, _⟩ := hr.at_ hr0
  have HAL := Lib.hid hal
  have HRb := Lib.hid hr
  have HLen := Lib.hid hlen
  have hcI : (rs1.length : Int) ≤ (gcap : Int) := by omega
  have hiI1 : (i : Int) < (rs1.length : Int) := by omega
  have hszb := HBx.out.size
  clear hr1 hb2 hal hr hlen hr0 l0 l1
  obtain ⟨wa, hwa⟩ : ∃ wa, w2.alloc (.cells #[.slice (some ⟨g, 0, none⟩) rs1.length cap1, .slice (some ⟨gg, 0, none⟩) rs1.length gcap] 49) = wa := ⟨_, rfl⟩
  have HOI := Lib.hid (hwa ▸ OutInv.of_rep HRb.out : OutInv wa (w.heap.size + 3) w2.heap.size _ _ rs1 rs1)
  have HBa := Lib.hid (hwa ▸ HBx.out.adv ((Below.refl _ _).alloc HBx.out.size _) : Boxes3 w wa _ _ _ _ _ _)
  have HR3 := Lib.hid (hwa ▸ HR2.out.alloc _ : RRep wa B _ _ rs)
  go_upto_region 4 with fail
  clear hwa
  have o1 := HOI.out.out.cell 1 _ rfl
  have hz0 := HOI.out.out.lt
  obtain ⟨_, _, _, _, _, e2, _, hggl2, _, _, _, _, _, _, c4⟩ := (HOI.out.rep HRb.out.len).at_ HR0.out
  injection e2 with e2 _ e4
  injection e2 with e2
  injection e2 with e2
  subst e2 e4
  rw [show RE.gone _ = false from HGn.out] at c4
  have cf := HOI.out.gone.frozenAt i
  have hgo : gg ≠ w2.heap.size := fun e => HOI.out.off_gone (by rw [← e]; rfl)
  go_upto_region 5 with fail
  obtain ⟨w5, hw5⟩ : ∃ w5, wa.setCell ⟨gg, i, none⟩ (.bool true) = w5 := ⟨_, rfl⟩
  obtain ⟨he, hbel⟩ := HOI.out.setG HR0.out
  rw [hw5] at he hbel
  have HE := Lib.hid he
  have HB5 := Lib.hid (HBa.out.adv hbel)
  rw [hw5]
  clear he hbel hw5 o1 c4 cf hz0 hggl2
  have HB := Lib.hid HB5.out.below
  obtain ⟨g0, cap0, _, _, e1, _, hg0, _, hc0, _, c0, c1, c2, c3, _⟩ := HR.out.at_ HRr.out
  injection e1 with e1 _ e3
  subst e1 e3
  obtain ⟨VA, vc, hve, _, _⟩ := own_form (HR.out.vals r (List.mem_of_getElem? HRr.out)).1
  rw [hve] at c1
  have HVE := Lib.hid hve
  have d0 : w5.cell? ⟨g0, i * 4, none⟩ = some (.string r.e.key) := by rw [HB.out.cell (p := ⟨g0, i * 4, none⟩) hg0]; exact c0
  have d1 : w5.cell? ⟨g0, i * 4 + 1, none⟩ = some (.slice VA r.e.val.length vc) := by rw [HB.out.cell (p := ⟨g0, i * 4 + 1, none⟩) hg0]; exact c1
  have d2 : w5.cell? ⟨g0, i * 4 + 2, none⟩ = some (.int .u64 r.e.dl) := by rw [HB.out.cell (p := ⟨g0, i * 4 + 2, none⟩) hg0]; exact c2
  have d3 : w5.cell? ⟨g0, i * 4 + 3, none⟩ = some (.int .u64 r.e.birth) := by rw [HB.out.cell (p := ⟨g0, i * 4 + 3, none⟩) hg0]; exact c3
  have l0 : w5.cell? ⟨w.heap.size, 0, none⟩ = some (.slice (some ⟨g0, 0, none⟩) rs.length lc) := HB5.out.b1.cell 0 _ rfl
  have o0 : w5.cell? ⟨w2.heap.size, 0, none⟩ = some (.slice (some ⟨g, 0, none⟩) rs1.length cap1) := HE.out.out.cell 0 _ rfl
  have o1 : w5.cell? ⟨w2.heap.size, 1, none⟩ = some (.slice (some ⟨gg, 0, none⟩) rs1.length gcap) := HE.out.out.cell 1 _ rfl
  have r0 := HB5.out.b2.cell 0 _ rfl
  have r1 := HB5.out.b2.cell 1 _ rfl
  have r4 := HB5.out.b2.frozen
  have e0 := HB5.out.b3.cell 0 _ rfl
  have e1 := HB5.out.b3.cell 1 _ rfl
  have e2 := HB5.out.b3.cell 2 _ rfl
  have e3 := HB5.out.b3.cell 3 _ rfl
  have e4 := HB5.out.b3.frozen
  have hz5 := HE.out.out.lt
  have hz6 := HB5.out.b3.lt
  have hcI0 : (rs.length : Int) ≤ (lc : Int) := by omega
  clear c0 c1 c2 c3 hve
  go_region_held_law (fun w' => w'.cell? ⟨w2.heap.size, 0, none⟩ = some (.slice (some ⟨g, 0, none⟩) rs1.length cap1) ∧ w'.cell? ⟨w2.heap.size, 1, none⟩ = some (.slice (some ⟨gg, 0, none⟩) rs1.length gcap) ∧ w'.cell? ⟨w.heap.size, 0, none⟩ = some (.slice (some ⟨g0, 0, none⟩) rs.length lc) ∧ w'.cell? ⟨g0, i * 4, none⟩ = some (.string r.e.key) ∧ w'.cell? ⟨g0, i * 4 + 1, none⟩ = some (.slice VA r.e.val.length vc) ∧ w'.cell? ⟨g0, i * 4 + 2, none⟩ = some (.int .u64 r.e.dl) ∧ w'.cell? ⟨g0, i * 4 + 3, none⟩ = some (.int .u64 r.e.birth))
    (first | with_reducible exact ⟨cell_drew o0, cell_drew o1, cell_drew l0, cell_drew d0, cell_drew d1, cell_drew d2, cell_drew d3⟩ | with_reducible exact ⟨cell_drew (cells_far2 (b := w.heap.size + 1) o0 (by dsimp only; omega)), cell_drew (cells_far2 (b := w.heap.size + 1) o1 (by dsimp only; omega)), cell_drew (cells_far2 (b := w.heap.size + 1) l0 (by dsimp only; omega)), cell_drew (cells_far2 (b := w.heap.size + 1) d0 (by dsimp only; omega)), cell_drew (cells_far2 (b := w.heap.size + 1) d1 (by dsimp only; omega)), cell_drew (cells_far2 (b := w.heap.size + 1) d2 (by dsimp only; omega)), cell_drew (cells_far2 (b := w.heap.size + 1) d3 (by dsimp only; omega))⟩ | with_reducible exact ⟨cell_drew (cells_far4 (b := w.heap.size + 1 + 1) (cells_far2 (b := w.heap.size + 1) o0 (by dsimp only; omega)) (by dsimp only; omega)), cell_drew (cells_far4 (b := w.heap.size + 1 + 1) (cells_far2 (b := w.heap.size + 1) o1 (by dsimp only; omega)) (by dsimp only; omega)), cell_drew (cells_far4 (b := w.heap.size + 1 + 1) (cells_far2 (b := w.heap.size + 1) l0 (by dsimp only; omega)) (by dsimp only; omega)), cell_drew (cells_far4 (b := w.heap.size + 1 + 1) (cells_far2 (b := w.heap.size + 1) d0 (by dsimp only; omega)) (by dsimp only; omega)), cell_drew (cells_far4 (b := w.heap.size + 1 + 1) (cells_far2 (b := w.heap.size + 1) d1 (by dsimp only; omega)) (by dsimp only; omega)), cell_drew (cells_far4 (b := w.heap.size + 1 + 1) (cells_far2 (b := w.heap.size + 1) d2 (by dsimp only; omega)) (by dsimp only; omega)), cell_drew (cells_far4 (b := w.heap.size + 1 + 1) (cells_far2 (b := w.heap.size + 1) d3 (by dsimp only; omega)) (by dsimp only; omega))⟩ | go_keep) (fail)
  go_wp2_with fail
  generalize hw6 : World.setCell _ _ _ = w6
  have q2 : Blk w6 (w.heap.size + 1) 49 #[.slice (some ⟨g, 0, none⟩) rs1.length cap1, .slice (some ⟨gg, 0, none⟩) rs1.length gcap] := by
    rw [← hw6]
    exact (((((HB5.out.b2.set_ 0 _).set_ 1 _).far (by simp) _).far (by simp) _).far (by simp) _).far (by simp) _
  have q3 : Blk w6 (w.heap.size + 2) 31 #[.string r.e.key, .slice VA r.e.val.length vc, .int .u64 r.e.dl, .int .u64 r.e.birth] := by
    rw [← hw6]
    exact (((((HB5.out.b3.far (by simp) _).far (by simp) _).set_ 0 _).set_ 1 _).set_ 2 _).set_ 3 _
  have hB : Below w.heap.size w w6 := by
    rw [← hw6]
    exact (((((HB5.out.below.setCell (p := ⟨w.heap.size + 1, 0, none⟩) (by simp) _).setCell (p := ⟨w.heap.size + 1, 1, none⟩) (by simp) _).setCell (p := ⟨w.heap.size + 1 + 1, 0, none⟩) (by dsimp only; omega) _).setCell (p := ⟨w.heap.size + 1 + 1, 1, none⟩) (by dsimp only; omega) _).setCell (p := ⟨w.heap.size + 1 + 1, 2, none⟩) (by dsimp only; omega) _).setCell (p := ⟨w.heap.size + 1 + 1, 3, none⟩) (by dsimp only; omega) _
  have hR : RRep w6 (w.heap.size + 3) (.slice (some ⟨g, 0, none⟩) rs1.length cap1) (.slice (some ⟨gg, 0, none⟩) rs1.length gcap) (rs1.set i ⟨r.e, v0, true⟩) := by
    rw [← hw6]
    exact ((((((HE.out.rep (by rw [List.length_set]; exact HRb.out.len)).low (a := ⟨w.heap.size + 1, 0, none⟩) (by simp) _).low (a := ⟨w.heap.size + 1, 1, none⟩) (by simp) _).low (a := ⟨w.heap.size + 1 + 1, 0, none⟩) (by dsimp only; omega) _).low (a := ⟨w.heap.size + 1 + 1, 1, none⟩) (by dsimp only; omega) _).low (a := ⟨w.heap.size + 1 + 1, 2, none⟩) (by dsimp only; omega) _).low (a := ⟨w.heap.size + 1 + 1, 3, none⟩) (by dsimp only; omega) _
  have g0 := q2.cell 0 _ rfl
  have g1 := q2.cell 1 _ rfl
  have f0 := q3.cell 0 _ rfl
  have f1 := q3.cell 1 _ rfl
  have f2 := q3.cell 2 _ rfl
  have f3 := q3.cell 3 _ rfl
  clear hw6 r0 r1 e0 e1 e2 e3 o0 o1 l0 d0 d1 d2 d3
  exact bodyPost_ret (v := .tuple #[.agg #[.slice (some ⟨g, 0, none⟩) rs1.length cap1, .slice (some ⟨gg, 0, none⟩) rs1.length gcap], .agg #[.string r.e.key, .slice VA r.e.val.length vc, .int .u64 r.e.dl, .int .u64 r.e.birth], .int .i64 0]) (by simp [results, Try.results38, go_sem, g0, g1, f0, f1, f2, f3]) rfl ⟨_, _, by rw [HVE.out], rs1, ⟨v0, (hR.base (show w.heap.size ≤ w.heap.size + 3 by omega)).drew⟩, HAL.out, hB.drew⟩

end Go.Proofs.Ytjjhndhigkhkpaa
