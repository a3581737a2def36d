/- The walks of the reference's log (layer 9): Append. -/
import Derived.Test.YtjjhndhigkhkpaaRefC
namespace Go.Proofs.Ytjjhndhigkhkpaa
open Go Go.RowKit
attribute [local go_sem ↓] Go.wp_at_zero Go.wp_at_succ

/-- A log in a box of its own, its two rows for themselves. -/
structure OutInv (wr : World) (n0 b : Nat) (lv' gv' : Value) (rs1 rs2 : List RE) : Prop where
  out : Blk wr b 49 #[lv', gv']
  row : wr.ownsRow n0 31 4 lv' rs1.length (ecs (ren rs1))
  gone : wr.ownsRow n0 4 1 gv' rs2.length (rgs rs2)
  vals : ∀ r ∈ rs1, wr.ownsRow n0 5 1 r.v r.e.val.length (bcells r.e.val) ∧ r.e.val.length ≤ 65536

section
variable {w wr wr' : World} {n0 b : Nat} {lv' gv' : Value} {rs1 rs2 : List RE}

theorem OutInv.adv (h : OutInv wr n0 b lv' gv' rs1 rs2) (hb : Below wr.heap.size wr wr') : OutInv wr' n0 b lv' gv' rs1 rs2 := by
  have ho : Only (fun _ => False) wr wr' := Only.of_below hb
  exact ⟨h.out.below hb, ownsRow_only h.row ho (fun _ _ h => h), ownsRow_only h.gone ho (fun _ _ h => h), fun r hr => ⟨ownsRow_only (h.vals r hr).1 ho (fun _ _ h => h), (h.vals r hr).2⟩⟩
theorem OutInv.alloc (h : OutInv wr n0 b lv' gv' rs1 rs2) (o : Obj) : OutInv (wr.alloc o) n0 b lv' gv' rs1 rs2 := h.adv ((Below.refl _ _).alloc (Nat.le_refl _) o)
theorem OutInv.drew (h : OutInv wr n0 b lv' gv' rs1 rs2) : OutInv wr.drew n0 b lv' gv' rs1 rs2 := h.adv (Below.refl _ _).drew

theorem OutInv.of_rep {rs : List RE} (h : RRep wr n0 lv' gv' rs) : OutInv (wr.alloc (.cells #[lv', gv'] 49)) n0 wr.heap.size lv' gv' rs rs :=
  ⟨Blk.new _ _ _, (h.alloc _).row, (h.alloc _).gone, (h.alloc _).vals⟩

theorem OutInv.rep {rs : List RE} (h : OutInv wr n0 b lv' gv' rs rs) (hl : rs.length ≤ 1000000) : RRep wr n0 lv' gv' rs := ⟨h.row, h.gone, h.vals, hl⟩

theorem OutInv.off_row (h : OutInv wr n0 b lv' gv' rs1 rs2) : some b ≠ lv'.ownBlock := fun e => by
  obtain ⟨_, cur, h2⟩ := row_block h.row e.symm
  exact (h.out.ne_ h2 (by decide)) rfl
theorem OutInv.off_gone (h : OutInv wr n0 b lv' gv' rs1 rs2) : some b ≠ gv'.ownBlock := fun e => by
  obtain ⟨_, cur, h2⟩ := row_block h.gone e.symm
  exact (h.out.ne_ h2 (by decide)) rfl

theorem OutInv.pushL (h : OutInv wr n0 b lv' gv' rs1 rs2) {r : RE} {v3 : Value} (hl : r.e.val.length ≤ 65536) (hv : wr.ownsRow n0 5 1 r.v r.e.val.length (bcells r.e.val)) (hg : wr.grownBy wr' lv'.ownBlock)
    (hown : wr'.ownsRow n0 31 4 v3 (rs1.length + 1) (ecs (ren rs1) ++ [.string r.e.key, r.v, .int .u64 r.e.dl, .int .u64 r.e.birth])) :
    OutInv (wr'.setCell ⟨b, 0, none⟩ v3) n0 b v3 gv' (rs1 ++ [r]) rs2 := by
  have ho : Only (fun k => lv'.ownBlock = some k ∨ k = b) wr (wr'.setCell ⟨b, 0, none⟩ v3) :=
    ((Only.of_grown hg).mono (fun _ _ h => .inl h)).setCell (p := ⟨b, 0, none⟩) (.inl (.inr rfl)) _
  have bo := h.out.grown hg h.off_row
  have hn3 : v3.ownBlock ≠ some b := fun e => by
    obtain ⟨_, cur, h2⟩ := row_block hown e
    exact (bo.ne_ h2 (by decide)) rfl
  refine ⟨bo.set_ 0 v3, ?_, ?_, ?_⟩
  · rw [List.length_append, List.length_singleton, ren_snoc, ecs_append]
    exact ownsRow_setCell_other hown (a := ⟨b, 0, none⟩) hn3 _
  · exact ownsRow_only h.gone ho (fun k hk e => by
      rcases e with e | e
      · exact rows_off h.gone h.row (by decide) k hk e
      · subst e; exact h.off_gone hk.symm)
  · have key : ∀ {u : Value} {n : Nat} {xs : List Value}, wr.ownsRow n0 5 1 u n xs → (wr'.setCell ⟨b, 0, none⟩ v3).ownsRow n0 5 1 u n xs := fun hu => ownsRow_only hu ho (fun k hk e => by
      rcases e with e | e
      · exact rows_off hu h.row (by decide) k hk e
      · subst e
        obtain ⟨_, cur, h2⟩ := row_block hu hk
        exact (h.out.ne_ h2 (by decide)) rfl)
    intro q hq
    rcases List.mem_append.1 hq with hq | hq
    · exact ⟨key (h.vals q hq).1, (h.vals q hq).2⟩
    · obtain rfl : q = r := by simpa using hq
      exact ⟨key hv, hl⟩

theorem OutInv.pushG (h : OutInv wr n0 b lv' gv' rs1 rs2) {g : Bool} {r : RE} {v3 : Value} (hr : r.gone = g) (hg : wr.grownBy wr' gv'.ownBlock)
    (hown : wr'.ownsRow n0 4 1 v3 (rs2.length + 1) (rgs rs2 ++ [.bool g])) :
    OutInv (wr'.setCell ⟨b, 1, none⟩ v3) n0 b lv' v3 rs1 (rs2 ++ [r]) := by
  subst hr
  have ho : Only (fun k => gv'.ownBlock = some k ∨ k = b) wr (wr'.setCell ⟨b, 1, none⟩ v3) :=
    ((Only.of_grown hg).mono (fun _ _ h => .inl h)).setCell (p := ⟨b, 1, none⟩) (.inl (.inr rfl)) _
  have bo := h.out.grown hg h.off_gone
  have hn3 : v3.ownBlock ≠ some b := fun e => by
    obtain ⟨_, cur, h2⟩ := row_block hown e
    exact (bo.ne_ h2 (by decide)) rfl
  refine ⟨bo.set_ 1 v3, ?_, ?_, ?_⟩
  · exact ownsRow_only h.row ho (fun k hk e => by
      rcases e with e | e
      · exact rows_off h.row h.gone (by decide) k hk e
      · subst e; exact h.off_row hk.symm)
  · rw [List.length_append, List.length_singleton, rgs_snoc]
    exact ownsRow_setCell_other hown (a := ⟨b, 1, none⟩) hn3 _
  · intro q hq
    exact ⟨ownsRow_only (h.vals q hq).1 ho (fun k hk e => by
        rcases e with e | e
        · exact rows_off (h.vals q hq).1 h.gone (by decide) k hk e
        · subst e
          obtain ⟨_, cur, h2⟩ := row_block (h.vals q hq).1 hk
          exact (h.out.ne_ h2 (by decide)) rfl), (h.vals q hq).2⟩
end

/-- The three boxes at a method's head. -/
structure Boxes3 (w wr : World) (t1 : TypeId) (o1 : Array Value) (t2 : TypeId) (o2 : Array Value) (t3 : TypeId) (o3 : Array Value) : Prop where
  b1 : Blk wr w.heap.size t1 o1
  b2 : Blk wr (w.heap.size + 1) t2 o2
  b3 : Blk wr (w.heap.size + 2) t3 o3
  below : Below w.heap.size w wr
  size : w.heap.size + 3 ≤ wr.heap.size

theorem Boxes3.new (w : World) (t1 : TypeId) (o1 : Array Value) (t2 : TypeId) (o2 : Array Value) (t3 : TypeId) (o3 : Array Value) : Boxes3 w (((w.alloc (.cells o1 t1)).alloc (.cells o2 t2)).alloc (.cells o3 t3)) t1 o1 t2 o2 t3 o3 :=
  ⟨((Blk.new _ _ _).alloc _).alloc _, (Blk.new2 _ _ _ _).alloc _, Blk.new3 _ _ _ _ _, (((Below.refl _ _).alloc (Nat.le_refl _) _).alloc (by simp) _).alloc (by simp; omega) _, by simp⟩

theorem Boxes3.adv {w wr wr' : World} {t1 t2 t3 : TypeId} {o1 o2 o3 : Array Value} (h : Boxes3 w wr t1 o1 t2 o2 t3 o3) (hb : Below (w.heap.size + 3) wr wr') : Boxes3 w wr' t1 o1 t2 o2 t3 o3 :=
  ⟨h.b1.below_at hb (by omega), h.b2.below_at hb (by omega), h.b3.below_at hb (by omega), h.below.trans (hb.mono (by omega)), Nat.le_trans h.size hb.size⟩

theorem wrapU32_in (n : Int) (h0 : 0 ≤ n) (h : n ≤ 4294967295) : IntKind.u32.wrap n = n := by
  have hb : IntKind.u32.bits = 32 := rfl
  have hs : IntKind.u32.signed = false := rfl
  unfold IntKind.wrap
  simp only [hb, hs, Bool.false_and, Bool.false_eq_true, if_false]
  omega

theorem RRep.low {wr : World} {n0 : Nat} {lv gv : Value} {rs : List RE} (h : RRep wr n0 lv gv rs) {a : Addr} (ha : a.block < n0) (u : Value) : RRep (wr.setCell a u) n0 lv gv rs :=
  ⟨ownsRow_setCell_below h.row ha u, ownsRow_setCell_below h.gone ha u, fun r hr => ⟨ownsRow_setCell_below (h.vals r hr).1 ha u, (h.vals r hr).2⟩, h.len⟩

set_option maxHeartbeats 1000000 in
theorem rlogAppend_err (B B2 : Nat) (lv gv : Value) (rs : List RE) (k : ByteArray) (v : Value) (bs : List UInt8) (d n : Int) (w : World) (h : RRep w B lv gv rs) (hk : k.size ≤ maxLen) (hb : Bts w B2 5 v bs) (hc : chkE k bs.length n ≠ 0) :
    Calls Try.prog 35 #[.agg #[lv, gv], .agg #[.string k, v, .int .u64 d, .int .u64 n]] w fun e w' => e = .returned (.tuple #[.agg #[lv, gv], .int .u32 0, .int .i64 (chkE k bs.length n)]) ∧ Below w.heap.size w w' := by
  obtain ⟨LA, lc, rfl, hx1, _⟩ := own_form h.row
  obtain ⟨GA, gc, rfl, hx2, _⟩ := own_form h.gone
  obtain ⟨A, cap, rfl⟩ := hb.form
  have HB := Lib.hid hb
  have hcv : (chkE k bs.length n != 0) = true := by simpa using hc
  clear h hb hc
  go_enter Try.func35, Try.ntmps35
  go_wp2_with fail
  refine (refCheck_any B2 _ _ bs _ _ hk (((HB.out.alloc _).alloc _).alloc _)).mono ?_
  rintro e w1 ⟨rfl, rfl⟩
  go_wp2_with fail
  refine bodyPost_ret (v := .tuple #[.agg #[.slice LA rs.length lc, .slice GA rs.length gc], .int .u32 0, .int .i64 (chkE k bs.length n)]) (by simp [results, Try.results35, go_sem]) rfl ⟨rfl, ?_⟩
  exact ((((Below.refl _ w).alloc (Nat.le_refl _) _).alloc (by simp) _).alloc (by simp; omega) _)

set_option maxRecDepth 100000 in
set_option maxHeartbeats 2000000 in
theorem rlogAppend_ok (B B2 : Nat) (lv gv : Value) (rs : List RE) (k : ByteArray) (v : Value) (bs : List UInt8) (d n : Int) (w : World) (h : RRep w B lv gv rs) (hk : k.size ≤ maxLen) (hb : Bts w B2 5 v bs) (hc : chkE k bs.length n = 0) (hl : rs.length < 1000000) :
    Calls Try.prog 35 #[.agg #[lv, gv], .agg #[.string k, v, .int .u64 d, .int .u64 n]] w fun e w' => ∃ lv' gv' rs' v', e = .returned (.tuple #[.agg #[lv', gv'], .int .u32 rs.length, .int .i64 0]) ∧
      RRep w' w.heap.size lv' gv' (rs' ++ [⟨⟨k, bs, d, n⟩, v', false⟩]) ∧ Alike rs' rs ∧ Below w.heap.size w w' := by
  have HR := Lib.hid h
  obtain ⟨LA, lc, rfl, hx1, _⟩ := own_form h.row
  obtain ⟨GA, gc, rfl, hx2, _⟩ := own_form h.gone
  obtain ⟨A, cap, rfl⟩ := hb.form
  have HB := Lib.hid hb
  have HC := Lib.hid hc
  have HL := Lib.hid hl
  have hb65 := (chkE_pos hc).2.2
  have HVL := Lib.hid hb65
  clear h hb hc hl hb65
  obtain ⟨i1, hi, hy0, hy1, hy2⟩ := info_parts ent_info
  have HJ1 := Lib.hid hi
  have HY10 := Lib.hid hy0
  have HY11 := Lib.hid hy1
  have HY12 := Lib.hid hy2
  clear hi hy0 hy1 hy2
  obtain ⟨i2, hi, hy0, hy1, hy2⟩ := info_parts boolI_info
  have HJ2 := Lib.hid hi
  have HY20 := Lib.hid hy0
  have HY21 := Lib.hid hy1
  have HY22 := Lib.hid hy2
  clear hi hy0 hy1 hy2
  go_enter Try.func35, Try.ntmps35
  go_wp2_with fail
  refine (refCheck_any B2 _ _ bs _ _ hk (((HB.out.alloc _).alloc _).alloc _)).mono ?_
  rw [HC.out]
  rintro e w1 ⟨rfl, rfl⟩
  go_wp2_with fail
  have HRa := Lib.hid (((HR.out.alloc (.cells #[.slice LA rs.length lc, .slice GA rs.length gc] 49)).alloc (.cells #[.string k, .slice A bs.length cap, .int .u64 d, .int .u64 n] 31)).alloc (.cells #[.slice none 0 0, .slice none 0 0] 49))
  refine (rlogCopy_any B _ _ rs _ HRa.out).mono ?_
  rintro e w2 ⟨lv1, gv1, rs1, rfl, hr1, hal, hb2⟩
  have hr := hr1.base (show w.heap.size + 3 ≤ _ by simp)
  have HBx : Hid (Boxes3 w w2 49 #[.slice LA rs.length lc, .slice GA rs.length gc] 31 #[.string k, .slice A bs.length cap, .int .u64 d, .int .u64 n] 49 #[.slice none 0 0, .slice none 0 0]) := Lib.hid ((Boxes3.new _ _ _ _ _ _ _).adv (hb2.mono (by simp)))
  have HBt := Lib.hid ((((HB.out.alloc _).alloc _).alloc _).below hb2)
  have HAL := Lib.hid hal
  have hlen : rs1.length = rs.length := by have := congrArg List.length hal; simpa using this
  have HLen := Lib.hid hlen
  obtain ⟨L1, lc1, rfl, _, _⟩ := own_form hr.row
  obtain ⟨G1, gc1, rfl, _, _⟩ := own_form hr.gone
  have HRb := Lib.hid hr
  clear hr1 hb2 hal hr hlen
  go_upto_region 5 with fail
  obtain ⟨wa, hwa⟩ : ∃ wa, w2.alloc (.cells #[.slice L1 rs1.length lc1, .slice G1 rs1.length gc1] 49) = wa := ⟨_, rfl⟩
  have HOI : Hid (OutInv wa (w.heap.size + 3) w2.heap.size (.slice L1 rs1.length lc1) (.slice G1 rs1.length gc1) rs1 rs1) := Lib.hid (hwa ▸ OutInv.of_rep HRb.out)
  have HBa : Hid (Boxes3 w wa 49 #[.slice LA rs.length lc, .slice GA rs.length gc] 31 #[.string k, .slice A bs.length cap, .int .u64 d, .int .u64 n] 49 #[.slice none 0 0, .slice none 0 0]) := Lib.hid (hwa ▸ HBx.out.adv ((Below.refl _ _).alloc HBx.out.size _))
  have HBu : Hid (Bts wa B2 5 (.slice A bs.length cap) bs) := Lib.hid (hwa ▸ HBt.out.alloc _)
  rw [hwa]
  have hszb := HBx.out.size
  clear hwa
  go_cut [] (fun wc => ∃ lv3 v1, OutInv wc (w.heap.size + 3) w2.heap.size lv3 (.slice G1 rs1.length gc1) (rs1 ++ [⟨⟨k, bs, d, n⟩, v1, false⟩]) rs1 ∧ Boxes3 w wc 49 #[.slice LA rs.length lc, .slice GA rs.length gc] 31 #[.string k, .slice A bs.length cap, .int .u64 d, .int .u64 n] 49 #[.slice none 0 0, .slice none 0 0])
  case first =>
    have d0 := HBa.out.b2.cell 0 _ rfl
    have d1 := HBa.out.b2.cell 1 _ rfl
    have d2 := HBa.out.b2.cell 2 _ rfl
    have d3 := HBa.out.b2.cell 3 _ rfl
    have o0 := HOI.out.out.cell 0 _ rfl
    have hz0 := HOI.out.out.lt
    go_region_law
      (first
        | (refine step_append_dst 27 (by rfl) (by rfl) _ _ _ (by rfl) (w.heap.size + 3) 31 i1 _ 4 56 Try.underlying47 HJ1.out HY10.out HY11.out HY12.out rfl (by decide) _ rs1.length (ecs (ren rs1)) (by rfl) (HOI.out.row.alloc _) (some ⟨_, 0, none⟩) 1 1 [.string k, .slice A1 bs.length c1, .int .u64 d, .int .u64 n] (by rfl) (src_four (t := 31) ?_) (by simp [Value.oneCell']) (by have := HLen.out; have := HL.out; unfold maxLen; omega) (by have := HLen.out; have := HL.out; omega) (by have := HBa.out.size; simp; omega) ?_
           · exact Blk.new _ _ _
           intro v3 w3 hown3 hg3 hat3
           have bo := ((HOI.out.alloc _).out).grown hg3 HOI.out.off_row
           have hbl : Below (w.heap.size + 3) _ w3 := (((Below.refl _ _).alloc HBa.out.size _).grown hg3 (by have := HBa.out.size; simp; omega) (fun j hj => (row_block HOI.out.row hj).1))
           have bb := HBa.out.adv hbl
           have d0 := bb.b2.cell 0 _ rfl
           have d1 := bb.b2.cell 1 _ rfl
           have d2 := bb.b2.cell 2 _ rfl
           have d3 := bb.b2.cell 3 _ rfl
           have o0 := bo.cell 0 _ rfl
           have o4 := bo.frozen
           have hz4 := bo.lt
           have HBa := Lib.hid bb
           have HO3 := Lib.hid hown3
           have HG3 := Lib.hid hg3
           obtain ⟨L3, lc3, rfl, _, _⟩ := own_form hown3
           clear bo bb hown3 hg3 hat3 hbl)
        | (go_simp
           go_at_call 34
           refine (refCopy_any B2 _ _ bs _ _ _ HBu.out.drew (by have := HVL.out; omega)).mono ?_
           rintro e w1 ⟨v1, rfl, hown, hb1⟩
           obtain ⟨A1, c1, rfl, _, _⟩ := own_form hown
           have HO := Lib.hid (ownsRow_base hown (show w.heap.size + 3 ≤ _ from HBa.out.size))
           have HOI := Lib.hid (HOI.out.drew.adv hb1)
           have HBa := Lib.hid (HBa.out.adv (below_drew (hb1.mono HBa.out.size)))
           have o0 := HOI.out.out.cell 0 _ rfl
           have hz1 := HOI.out.out.lt
           have d0 := HBa.out.b2.cell 0 _ rfl
           have d1 := HBa.out.b2.cell 1 _ rfl
           have d2 := HBa.out.b2.cell 2 _ rfl
           have d3 := HBa.out.b2.cell 3 _ rfl
           clear hown hb1))
    all_goals
      go_wp2_with fail
      go_meet
      exact ⟨_, _, OutInv.pushL (r := ⟨⟨k, bs, d, n⟩, .slice A1 bs.length c1, false⟩) (HOI.out.alloc _) HVL.out (HO.out.alloc _) HG3.out HO3.out, HBa.out.adv ((Below.refl _ _).setCell (p := ⟨w2.heap.size, 0, none⟩) hszb _)⟩
  case rest =>
    obtain ⟨lv3, v1, hoi, hbx⟩ := hcut
    obtain ⟨L3, lc3, rfl, _, _⟩ := own_form hoi.row
    have o1 := hoi.out.cell 1 _ rfl
    have o0 := hoi.out.cell 0 _ rfl
    have HOI := Lib.hid hoi
    have HBa := Lib.hid hbx
    have hz0 := hoi.out.lt
    clear hoi hbx
    go_upto_region 7 with (at_builtin; refine wpList_append_src _ rfl _ _ _ rfl (w.heap.size + 3) 4 i2 _ 1 1 Try.underlying42 HJ2.out HY20.out HY21.out HY22.out rfl (by decide) _ rs1.length (rgs rs1) rfl (HOI.out.gone.alloc _) (some ⟨wc.heap.size, 0, none⟩) 1 1 [.bool false] rfl (src_one (Blk.new _ _ _)) (by simp [Value.oneCell']) (by have := HLen.out; have := HL.out; unfold maxLen; omega) (by have := HLen.out; have := HL.out; omega) (by have := HBa.out.size; simp; omega) ?_; intro v4 w4 hown4 hg4 hat4; have bo := ((HOI.out.alloc (.cells #[.bool false] 4)).out).grown hg4 HOI.out.off_gone; have hbl : Below (w.heap.size + 3) _ w4 := (((Below.refl _ wc).alloc HBa.out.size (.cells #[.bool false] 4)).grown hg4 (by have := HBa.out.size; simp; omega) (fun j hj => (row_block HOI.out.gone hj).1)); have HB4 := Lib.hid (HBa.out.adv hbl); have HO4 := Lib.hid hown4; have HG4 := Lib.hid hg4; obtain ⟨G4, gc4, rfl, _, _⟩ := own_form hown4; have o1 := bo.cell 1 _ rfl; have o4 := bo.frozen; have hz4 := bo.lt; clear bo hown4 hg4 hat4 hbl)
    obtain ⟨w5, hw5⟩ : ∃ w5, w4.setCell ⟨w2.heap.size, 1, none⟩ (.slice G4 (rs1.length + 1) gc4) = w5 := ⟨_, rfl⟩
    have HO5 : Hid (OutInv w5 (w.heap.size + 3) w2.heap.size (.slice L3 (rs1 ++ [(⟨⟨k, bs, d, n⟩, v1, false⟩ : RE)]).length lc3) (.slice G4 (rs1.length + 1) gc4) (rs1 ++ [⟨⟨k, bs, d, n⟩, v1, false⟩]) (rs1 ++ [⟨⟨k, bs, d, n⟩, v1, false⟩])) := Lib.hid (hw5 ▸ OutInv.pushG (HOI.out.alloc _) rfl HG4.out HO4.out)
    have HB5 := Lib.hid (hw5 ▸ HB4.out.adv ((Below.refl _ _).setCell (p := ⟨w2.heap.size, 1, none⟩) hszb _) : Boxes3 w w5 _ _ _ _ _ _)
    rw [hw5]
    clear hw5 o0 o1 o4 hz0 hz4
    have e0 := HO5.out.out.cell 0 _ rfl
    have e1 := HO5.out.out.cell 1 _ rfl
    have p0 := HB5.out.b1.cell 0 _ rfl
    have r0 := HB5.out.b3.cell 0 _ rfl
    have r1 := HB5.out.b3.cell 1 _ rfl
    have r4 := HB5.out.b3.frozen
    have hz5 := HO5.out.out.lt
    have hz6 := HB5.out.b3.lt
    have hlI : (rs.length : Int) < 1000000 := by have := HL.out; omega
    go_region_held_law (fun w' => w'.cell? ⟨w.heap.size, 0, none⟩ = some (.slice LA rs.length lc) ∧ w'.cell? ⟨w2.heap.size, 0, none⟩ = some (.slice L3 (rs1 ++ [(⟨⟨k, bs, d, n⟩, v1, false⟩ : RE)]).length lc3) ∧ w'.cell? ⟨w2.heap.size, 1, none⟩ = some (.slice G4 (rs1.length + 1) gc4)) (first | exact ⟨p0, e0, e1⟩ | exact ⟨cell_far (cell_far p0 (by simp; omega)) (by simp; omega), cell_far (cell_far e0 (by simp; omega)) (by simp; omega), cell_far (cell_far e1 (by simp; omega)) (by simp; omega)⟩ | go_keep) (fail)
    all_goals
      go_wp2_with fail
    have hwr := wrapU32_in (rs.length : Int) (by omega) (by omega)
    refine bodyPost_ret (v := .tuple #[.agg #[.slice L3 (rs1 ++ [(⟨⟨k, bs, d, n⟩, v1, false⟩ : RE)]).length lc3, .slice G4 (rs1.length + 1) gc4], .int .u32 rs.length, .int .i64 0]) (by simp [results, Try.results35, go_sem, r0, r1, hz6, hwr]) rfl ⟨_, _, rs1, v1, rfl, ?_, HAL.out, ?_⟩
    · exact ((((HO5.out.rep (by rw [List.length_append]; have := HLen.out; have := HL.out; simp; omega)).low (a := ⟨w.heap.size + 2, 0, none⟩) (by simp) _).low (a := ⟨w.heap.size + 2, 1, none⟩) (by simp) _)).drew.base (by omega)
    · exact ((HB5.out.below.setCell (p := ⟨w.heap.size + 2, 0, none⟩) (by simp) _).setCell (p := ⟨w.heap.size + 2, 1, none⟩) (by simp) _).drew

end Go.Proofs.Ytjjhndhigkhkpaa
