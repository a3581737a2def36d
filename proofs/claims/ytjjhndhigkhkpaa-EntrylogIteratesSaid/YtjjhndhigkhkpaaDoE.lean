/- The walk of do (layer 9): Copy; all cases of do. -/
import Derived.Test.YtjjhndhigkhkpaaDoD
import Derived.Lib.SlBytesConst
import Derived.Lib.SmallJoins
namespace Go.Proofs.Ytjjhndhigkhkpaa
open Go Go.RowKit
attribute [local go_sem ↓] Go.wp_at_zero Go.wp_at_succ

/-- The bytes of a constant string. -/
theorem Bts.mark (w : World) (U : Nat) (bs : List UInt8) (C : Array Value) (hC : C = (bcells bs).toArray) (n : Nat) (hn : n = bs.length) (fr : Nat × Nat) (B : Nat) (hm : bs.length ≤ maxLen) : Bts (w.alloc (.cells C U fr)) B U (.slice (some ⟨w.heap.size, 0, none⟩) n n) bs := by
  subst hC hn
  refine ⟨_, _, rfl, Nat.le_refl _, hm, (fun h => by cases h), fun _ => ⟨w.heap.size, 0, rfl, by simp, .inr ⟨_, _, heap_alloc_new w _⟩, fun i hi => ?_⟩⟩
  rw [Nat.zero_add]
  have h2 : (w.alloc (.cells (bcells bs).toArray U fr)).cell? ⟨w.heap.size, i, none⟩ = (bcells bs).toArray[i]? := World.cell?_alloc_mark w _ U fr i
  rw [h2]
  simp [bcells, hi]

/-- What an operation on a log leaves that nobody looks at any more. -/
def OldPost (B b : Nat) (lv : Value) (n : Nat) (W : World) (e : Ending) (W' : World) : Prop :=
  (∃ v, e = .returned v) ∧ ∃ ps', ps'.length = n ∧ (∀ p ∈ ps', p.1.val.length ≤ 65536) ∧ LogRep W' B b lv ps' ∧ Only (logFp b lv) W W'

theorem old_remove (B b : Nat) (lv : Value) (ps : List (Ent × Value)) (W : World) (h : LogRep W B b lv ps) (hv : ∀ p ∈ ps, p.1.val.length ≤ 65536) :
    Calls Try.prog 15 #[.pointer (some ⟨b, 0, none⟩), .int .u32 0] W (OldPost B b lv ps.length W) := by
  rcases has_or ps 0 with ⟨x, xv, hp⟩ | hp
  · refine (logRemove_ok B b lv ps 0 W x xv h hp (by have := hv _ hp.mem; dsimp only at this; omega)).mono ?_
    rintro e W' ⟨v, rfl, _, hl, ho⟩
    refine ⟨⟨_, rfl⟩, _, by simp, fun p hp => ?_, hl, ho⟩
    rcases List.mem_or_eq_of_mem_set hp with hp | rfl
    · exact hv p hp
    · exact Nat.zero_le _
  · refine (logRemove_none B b lv ps 0 W h hp (by decide)).mono ?_
    rintro e W' ⟨rfl, hb⟩
    exact ⟨⟨_, rfl⟩, ps, rfl, hv, h.below hb, Only.of_below hb⟩

theorem old_set (B b : Nat) (lv : Value) (ps : List (Ent × Value)) (v : Value) (bs : List UInt8) (d : Int) (W : World) (h : LogRep W B b lv ps) (hv : ∀ p ∈ ps, p.1.val.length ≤ 65536) (hb : Bts W B 5 v bs) (hl : bs.length ≤ 65536) :
    Calls Try.prog 12 #[.pointer (some ⟨b, 0, none⟩), .int .u32 1, v, .int .u64 d] W (OldPost B b lv ps.length W) := by
  rcases has_or ps 1 with ⟨x, xv, hp⟩ | hp
  · refine (logSet_ok B b lv ps 1 v bs d W x xv h hp hb hl).mono ?_
    rintro e W' ⟨rfl, v', hl', ho, _⟩
    refine ⟨⟨_, rfl⟩, _, by simp, fun p hp => ?_, hl', ho⟩
    rcases List.mem_or_eq_of_mem_set hp with hp | rfl
    · exact hv p hp
    · exact hl
  · refine (logSet_none B b lv ps 1 v d W h hp (by decide)).mono ?_
    rintro e W' ⟨rfl, rfl⟩
    exact ⟨⟨_, rfl⟩, ps, rfl, hv, h, Only.refl _ _⟩

theorem old_append (B b : Nat) (lv : Value) (ps : List (Ent × Value)) (k : ByteArray) (v : Value) (bs : List UInt8) (d n : Int) (W : World) (h : LogRep W B b lv ps) (hk : k.size ≤ maxLen) (hb : Bts W B 5 v bs) (hn : ps.length < 4194304) :
    Calls Try.prog 11 #[.pointer (some ⟨b, 0, none⟩), .agg #[.string k, v, .int .u64 d, .int .u64 n]] W fun e W' => (∃ v, e = .returned v) ∧ Only (logFp b lv) W W' := by
  by_cases hc : chkE k bs.length n = 0
  · refine (logAppend_ok B b lv ps k v bs d n W h hk hb hc hn).mono ?_
    rintro e W' ⟨rfl, lv', v', hl', ho, _, _⟩
    exact ⟨⟨_, rfl⟩, ho⟩
  · refine (logAppend_err B b lv ps k v bs d n W h hk hb hc).mono ?_
    rintro e W' ⟨rfl, hb'⟩
    exact ⟨⟨_, rfl⟩, Only.of_below hb'⟩

/-- Another log stays what it is. -/
theorem LogRep.other {W W' : World} {B b c : Nat} {lv lvc : Value} {ps psc : List (Ent × Value)} (hc : LogRep W B c lvc psc) (h : LogRep W B b lv ps) (ha : ∀ k, logFp c lvc k → ¬ logFp b lv k) (ho : Only (logFp b lv) W W') : LogRep W' B c lvc psc :=
  hc.only ho ha (h.keepB ho)


set_option maxRecDepth 100000 in
set_option maxHeartbeats 2000000 in
theorem do_copy (B b : Nat) (lv lw gw : Value) (ps : List (Ent × Value)) (rs : List RE) (a : ActV) (W : World) (hl : LogRep W B b lv ps) (hr : RRep W B lw gw rs) (hs : Sync ps rs) (hap : ∀ k, lw.ownBlock = some k → lv.ownBlock ≠ some k) (ha : a.Ok W B) (hww : ¬ a.what = 0 ∧ ¬ a.what = 1 ∧ ¬ a.what = 2 ∧ ¬ a.what = 3 ∧ ¬ a.what = 4) (hz : a.e.key.size ≤ 300 ∧ a.e.val.length ≤ 300) (hn : rs.length ≤ 1000) :
    Calls Try.prog 18 #[.pointer (some ⟨b, 0, none⟩), .agg #[lw, gw], .agg #[.int .i64 a.what, .int .u32 a.slot, .string a.e.key, a.v, .int .u64 a.e.dl, .int .u64 a.e.birth]] W (DoPost B W rs.length) := by
  obtain ⟨hw0, hw1, hw2, hw3, hw4⟩ := hww
  have kc := fun (w : World) (C : Array Value) (n c : Nat) => Lib.run_convert_bytes_const (P := Try.prog) w 28 5 C n c Try.underlying28 Try.underlying5
  have hB := hl.base
  have hblt := hl.blk.lt
  have hfp := Lib.hid (fun k hk => (hl.fp_lt (k := k) hk).2)
  obtain ⟨VA, vc, hve⟩ := ha.val.form
  have HV : Hid (Bts W B 5 (.slice VA a.e.val.length vc) a.e.val) := Lib.hid (hve ▸ ha.val)
  rw [hve]
  try rw [hw]
  obtain ⟨LA, lc, rfl, _, _⟩ := own_form hr.row
  obtain ⟨GA, gc, rfl, _, _⟩ := own_form hr.gone
  have HL := Lib.hid hl
  have HR := Lib.hid hr
  have HS := Lib.hid hs
  have HAp := Lib.hid hap
  have HA := Lib.hid ha
  have hvl : a.e.val.length ≤ 1000000000 := by omega
  have HZ := Lib.hid hz
  have HN := Lib.hid hn
  have HVL := Lib.hid hvl
  clear hl hr hs hap ha hve hz hn hvl
  go_enter Try.func18, Try.ntmps18
  go_wp2_with fail
  refine (refCopy_any B _ _ a.e.val _ _ _ (((HV.out.alloc _).alloc _).alloc _) HVL.out).mono ?_
  rintro e w1 ⟨v1, rfl, hown, hb1⟩
  obtain ⟨V1, vc1, rfl, _, _⟩ := own_form hown
  have HO1 := Lib.hid (ownsRow_base hown (show W.heap.size + 3 ≤ _ by simp))
  have HD1 := Lib.hid ((DoBox.new W _ _ _).below hb1)
  have hb1' : Below W.heap.size W w1 := ((((Below.refl _ W).alloc (Nat.le_refl _) _).alloc (by simp) _).alloc (by simp; omega) _).trans (hb1.mono (by simp; omega))
  have HL1 := Lib.hid (HL.out.below hb1')
  have HR1 := Lib.hid (HR.out.below hb1')
  have HV1 := Lib.hid (HV.out.below hb1')
  have HBW := Lib.hid hb1'
  have c0 := HD1.out.b2.cell 0 _ rfl
  have c1 := HD1.out.b2.cell 1 _ rfl
  have c2 := HD1.out.b2.cell 2 _ rfl
  have c3 := HD1.out.b2.cell 3 _ rfl
  have c4 := HD1.out.b2.cell 4 _ rfl
  have c5 := HD1.out.b2.cell 5 _ rfl
  have hsz1 := HD1.out.size
  have hp0 : W.heap.size < w1.heap.size := by omega
  have hp1 : W.heap.size + 1 < w1.heap.size := by omega
  have hp2 : W.heap.size + 1 + 1 < w1.heap.size := by omega
  clear hown hb1 hb1'
  have hsl := HA.out.slot
  have hba := (Below.refl w1.heap.size w1).alloc (Nat.le_refl _) (.cells #[.string a.e.key, .slice V1 a.e.val.length vc1, .int .u64 a.e.dl, .int .u64 a.e.birth] 31)
  have HLa := Lib.hid (HL1.out.below hba)
  have HRa := Lib.hid (HR1.out.below hba)
  have HDa := Lib.hid (HD1.out.below hba)
  have HBa := Lib.hid hba
  clear hba
  go_wp2_with fail
  refine (logCopy_any B b lv ps _ HLa.out (by simp; omega)).mono ?_
  rintro e w2 ⟨c, lv2, rfl, hl2, hb2, hc2, hv2⟩
  have hb2' : Below w1.heap.size w1 w2 := HBa.out.trans (hb2.mono HBa.out.size)
  simp at hc2 hv2
  have HLc2 := Lib.hid hl2
  have HL2 := Lib.hid (HL1.out.below hb2')
  have HR2 := Lib.hid (HR1.out.below hb2')
  have HD2 := Lib.hid (HD1.out.below hb2')
  have HBe2 : Hid (Below B W w2) := Lib.hid ((HBW.out.mono (by omega)).trans (hb2'.mono (by omega)))
  have HKe2 : Hid (KeepT B W w2) := Lib.hid ((KeepT.of_below HBW.out).trans (KeepT.of_below hb2'))
  have HVc := Lib.hid hv2
  have hs2 := hb2'.size
  have HVl := Lib.hid (HS.out.vals HR.out)
  have HLb := Lib.hid HL.out.base
  clear hl2 hb2 hb2' hv2 hw0 hw1 hw2 hw3 hw4 c0 c1 c2 c3 c4 c5
  go_wp2_with fail
  refine (old_remove B b lv ps _ HL2.out HVl.out).mono ?_
  rintro e w3 ⟨⟨u3, rfl⟩, ps3, hn3, hv3, hl3, ho3⟩
  have hf : ∀ k, logFp b lv k → B ≤ k ∧ k < W.heap.size := fun k hk => HL.out.fp_lt hk
  have hcf : ∀ k, logFp c lv2 k → ¬ logFp b lv k := fun k hk e => by
    have h1 := (hf k e).2
    rcases hk with hk | hk
    · omega
    · have := HVc.out k hk; omega
  have HF := Lib.hid hf
  have HCF := Lib.hid hcf
  have HLc3 := Lib.hid (HLc2.out.other HL2.out hcf ho3)
  have HR3 := Lib.hid (HR2.out.logged HL2.out HAp.out ho3)
  have HD3 := Lib.hid (HD2.out.only ho3 (fun k hk _ e => by have := (hf k e).2; omega))
  have HBe3 : Hid (Below B W w3) := Lib.hid (HBe2.out.trans (ho3.below (fun i hi _ e => by have := (hf i e).1; omega) (by omega)))
  have HKe3 : Hid (KeepT B W w3) := Lib.hid (HKe2.out.trans (HL2.out.keepT ho3))
  have HL3 := Lib.hid hl3
  have HN3 := Lib.hid hn3
  have HV3 := Lib.hid hv3
  have hs3 := ho3.size
  clear hf hcf hn3 hv3 hl3 ho3
  go_wp2_with fail
  have hba := (Below.refl w3.heap.size w3).alloc (Nat.le_refl _) (.cells #[.int .u8 111, .int .u8 108, .int .u8 100] 5 (3, 4))
  have hbt : Bts (w3.alloc (.cells #[.int .u8 111, .int .u8 108, .int .u8 100] 5 (3, 4))) B 5 (.slice (some ⟨w3.heap.size, 0, none⟩) 3 3) [111, 108, 100] := Bts.mark w3 _ [111, 108, 100] _ (by rfl) 3 rfl _ B (by decide)
  have HBA := Lib.hid hba
  refine (old_set B b lv ps3 _ [111, 108, 100] 0 _ (HL3.out.below hba) HV3.out hbt (by decide)).mono ?_
  rintro e w4 ⟨⟨u4, rfl⟩, ps4, hn4, hv4, hl4, ho4⟩
  have HLc4 := Lib.hid ((HLc3.out.below hba).other (HL3.out.below hba) HCF.out ho4)
  have HR4 := Lib.hid ((HR3.out.below hba).logged (HL3.out.below hba) HAp.out ho4)
  have HD4 := Lib.hid ((HD3.out.below hba).only ho4 (fun k hk _ e => by have := (HF.out k e).2; omega))
  have HBe4 : Hid (Below B W w4) := Lib.hid ((HBe3.out.trans (hba.mono (by omega))).trans (ho4.below (fun i hi _ e => by have := (HF.out i e).1; omega) (by have := hba.size; omega)))
  have HKe4 : Hid (KeepT B W w4) := Lib.hid ((HKe3.out.trans (KeepT.of_below hba)).trans ((HL3.out.below hba).keepT ho4))
  have HL4 := Lib.hid hl4
  have hs4 := ho4.size
  have hn4' : ps4.length ≤ 1000 := by have := HN3.out; have := HS.out.len; have := HN.out; omega
  have HN4 := Lib.hid hn4'
  clear hba hbt hn4 hv4 hl4 ho4 hn4'
  go_wp2_with fail
  refine (old_append B b lv ps4 _ _ [] _ _ _ HL4.out (by decide) (Bts.nil _ _ _) (by have := HN4.out; omega)).mono ?_
  rintro e w6 ⟨⟨u6, rfl⟩, ho6⟩
  have HL5 := Lib.hid (HLc4.out.other HL4.out HCF.out ho6)
  have HR5 := Lib.hid (HR4.out.logged HL4.out HAp.out ho6)
  have HD5 := Lib.hid (HD4.out.only ho6 (fun k hk _ e => by have := (HF.out k e).2; omega))
  have HBe5 : Hid (Below B W w6) := Lib.hid (HBe4.out.trans (ho6.below (fun i hi _ e => by have := (HF.out i e).1; omega) (by have := HBe4.out.size; omega)))
  have HKe5 : Hid (KeepT B W w6) := Lib.hid (HKe4.out.trans (HL4.out.keepT ho6))
  have HSy := HS
  have HAp3 : Hid (∀ k, (Value.slice LA rs.length lc).ownBlock = some k → lv2.ownBlock ≠ some k) := Lib.hid (fun k hk e => by
    have h1 := HVc.out k e
    have h2 := (HR.out.row.lt k hk).2
    omega)
  have HLn : Hid (rs.length ≤ rs.length + 1) := Lib.hid (by omega)
  have x0 : w6.cell? ⟨W.heap.size, 0, none⟩ = some (.slice LA rs.length lc) := HD5.out.b1.cell 0 _ rfl
  have x1 : w6.cell? ⟨W.heap.size, 1, none⟩ = some (.slice GA rs.length gc) := HD5.out.b1.cell 1 _ rfl
  have r0 := HD5.out.b3.cell 0 _ rfl
  have r1 := HD5.out.b3.cell 1 _ rfl
  have r4 := HD5.out.b3.frozen
  have hz6 := HD5.out.b3.lt
  clear ho6
  go_upto_region 36 with fail
  go_region_held_law (fun w' => w'.cell? ⟨W.heap.size, 0, none⟩ = some (.slice LA rs.length lc) ∧ w'.cell? ⟨W.heap.size, 1, none⟩ = some (.slice GA rs.length gc)) (first | with_reducible exact ⟨cell_drew x0, cell_drew x1⟩ | with_reducible exact ⟨x0, x1⟩ | with_reducible exact ⟨cell_drew (cells_far2 (b := W.heap.size + 1 + 1) x0 (by dsimp only; omega)), cell_drew (cells_far2 (b := W.heap.size + 1 + 1) x1 (by dsimp only; omega))⟩ | with_reducible exact ⟨cells_far2 (b := W.heap.size + 1 + 1) x0 (by dsimp only; omega), cells_far2 (b := W.heap.size + 1 + 1) x1 (by dsimp only; omega)⟩ | go_keep) (fail)
  all_goals
    go_wp2_with fail
    generalize hw6 : World.setCell _ _ _ = w6
    have g2 : Blk (World.setCell _ ⟨W.heap.size + 2, 0, none⟩ (.slice LA rs.length lc)) (W.heap.size + 2) 49 #[.slice LA rs.length lc, .slice none 0 0] := HD5.out.b3.set_ 0 _
    have g3 : Blk w6 (W.heap.size + 2) 49 #[.slice LA rs.length lc, .slice GA rs.length gc] := by rw [← hw6]; exact g2.set_ 1 _
    have hL6 : LogRep w6 B c (lv2) (ps) := by rw [← hw6]; exact (HL5.out.farset HD5.out.b3 (by omega)).farset g2 (by omega)
    have hR6 : RRep w6 B (.slice LA rs.length lc) (.slice GA rs.length gc) (rs) := by rw [← hw6]; exact (HR5.out.farset HD5.out.b3).farset g2
    have hB6 : Below B W w6 := by rw [← hw6]; exact (HBe5.out.setCell (p := ⟨W.heap.size + 1 + 1, 0, none⟩) (by dsimp only; omega) _).setCell (p := ⟨W.heap.size + 1 + 1, 1, none⟩) (by dsimp only; omega) _
    have hK6 : KeepT B W w6 := by rw [← hw6]; exact HKe5.out.after (S := fun k => k = W.heap.size + 2) (Only.setCell (S := fun k => k = W.heap.size + 2) (Only.setCell (S := fun k => k = W.heap.size + 2) (Only.refl _ _) (p := ⟨W.heap.size + 1 + 1, 0, none⟩) (.inl rfl) _) (p := ⟨W.heap.size + 1 + 1, 1, none⟩) (.inl rfl) _) (fun k hk e => by omega)
    have q0 := g3.cell 0 _ rfl
    have q1 := g3.cell 1 _ rfl
    clear hw6 r0 r1 x0 x1
    first
      | exact bodyPost_ret (v := .tuple #[.pointer (some ⟨c, 0, none⟩), .agg #[.slice LA rs.length lc, .slice GA rs.length gc], .bool true]) (by simp [results, Try.results18, go_sem, q0, q1]) rfl ⟨c, lv2, .slice LA rs.length lc, .slice GA rs.length gc, ps, rs, rfl, hL6, hR6, HSy.out, HAp3.out, hB6, hK6, HLn.out⟩
      | exact bodyPost_ret (v := .tuple #[.pointer (some ⟨c, 0, none⟩), .agg #[.slice LA rs.length lc, .slice GA rs.length gc], .bool true]) (by simp [results, Try.results18, go_sem, q0, q1]) rfl ⟨c, lv2, .slice LA rs.length lc, .slice GA rs.length gc, ps, rs, rfl, hL6.below (Below.refl _ _).drew, hR6.drew, HSy.out, HAp3.out, hB6.drew, hK6, HLn.out⟩

/-- What do does, whatever the call. -/
theorem do_any (B b : Nat) (lv lw gw : Value) (ps : List (Ent × Value)) (rs : List RE) (a : ActV) (W : World) (hl : LogRep W B b lv ps) (hr : RRep W B lw gw rs) (hs : Sync ps rs) (hap : ∀ k, lw.ownBlock = some k → lv.ownBlock ≠ some k) (ha : a.Ok W B) (hz : a.e.key.size ≤ 300 ∧ a.e.val.length ≤ 300) (hn : rs.length ≤ 1000) :
    Calls Try.prog 18 #[.pointer (some ⟨b, 0, none⟩), .agg #[lw, gw], .agg #[.int .i64 a.what, .int .u32 a.slot, .string a.e.key, a.v, .int .u64 a.e.dl, .int .u64 a.e.birth]] W (DoPost B W rs.length) := by
  by_cases h0 : a.what = 0
  · exact do_append B b lv lw gw ps rs a W hl hr hs hap ha h0 hz hn
  by_cases h1 : a.what = 1
  · exact do_get B b lv lw gw ps rs a W hl hr hs hap ha h1 hz hn
  by_cases h2 : a.what = 2
  · exact do_set B b lv lw gw ps rs a W hl hr hs hap ha h2 hz hn
  by_cases h3 : a.what = 3
  · exact do_remove B b lv lw gw ps rs a W hl hr hs hap ha h3 hz hn
  by_cases h4 : a.what = 4
  · exact do_next B b lv lw gw ps rs a W hl hr hs hap ha h4 hz hn
  exact do_copy B b lv lw gw ps rs a W hl hr hs hap ha ⟨h0, h1, h2, h3, h4⟩ hz hn

end Go.Proofs.Ytjjhndhigkhkpaa
