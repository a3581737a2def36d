/- The walk of do (layer 9): Set. -/
import Derived.Test.YtjjhndhigkhkpaaDoB
namespace Go.Proofs.Ytjjhndhigkhkpaa
open Go Go.RowKit
attribute [local go_sem ↓] Go.wp_at_zero Go.wp_at_succ



set_option maxRecDepth 100000 in
set_option maxHeartbeats 2000000 in
theorem do_set (B b : Nat) (lv lw gw : Value) (ps : List (Ent × Value)) (rs : List RE) (a : ActV) (W : World) (hl : LogRep W B b lv ps) (hr : RRep W B lw gw rs) (hs : Sync ps rs) (hap : ∀ k, lw.ownBlock = some k → lv.ownBlock ≠ some k) (ha : a.Ok W B) (hw : a.what = 2) (hz : a.e.key.size ≤ 300 ∧ a.e.val.length ≤ 300) (hn : rs.length ≤ 1000) :
    Calls Try.prog 18 #[.pointer (some ⟨b, 0, none⟩), .agg #[lw, gw], .agg #[.int .i64 a.what, .int .u32 a.slot, .string a.e.key, a.v, .int .u64 a.e.dl, .int .u64 a.e.birth]] W (DoPost B W rs.length) := by
  have hB := hl.base
  have hblt := hl.blk.lt
  have hfp := Lib.hid (fun k hk => (hl.fp_lt (k := k) hk).2)
  obtain ⟨VA, vc, hve⟩ := ha.val.form
  have HV : Hid (Bts W B 5 (.slice VA a.e.val.length vc) a.e.val) := Lib.hid (hve ▸ ha.val)
  rw [hve]
  try rw [hw]
  obtain ⟨LA, lc, rfl, _, _⟩ := own_form hr.row
  obtain ⟨GA, gc, rfl, _, _⟩ := own_form hr.gone
  have HL := Lib.hid hl
  have HR := Lib.hid hr
  have HS := Lib.hid hs
  have HAp := Lib.hid hap
  have HA := Lib.hid ha
  have hvl : a.e.val.length ≤ 1000000000 := by omega
  have HZ := Lib.hid hz
  have HN := Lib.hid hn
  have HVL := Lib.hid hvl
  clear hl hr hs hap ha hve hz hn hvl
  go_enter Try.func18, Try.ntmps18
  go_wp2_with fail
  refine (refCopy_any B _ _ a.e.val _ _ _ (((HV.out.alloc _).alloc _).alloc _) HVL.out).mono ?_
  rintro e w1 ⟨v1, rfl, hown, hb1⟩
  obtain ⟨V1, vc1, rfl, _, _⟩ := own_form hown
  have HO1 := Lib.hid (ownsRow_base hown (show W.heap.size + 3 ≤ _ by simp))
  have HD1 := Lib.hid ((DoBox.new W _ _ _).below hb1)
  have hb1' : Below W.heap.size W w1 := ((((Below.refl _ W).alloc (Nat.le_refl _) _).alloc (by simp) _).alloc (by simp; omega) _).trans (hb1.mono (by simp; omega))
  have HL1 := Lib.hid (HL.out.below hb1')
  have HR1 := Lib.hid (HR.out.below hb1')
  have HV1 := Lib.hid (HV.out.below hb1')
  have HBW := Lib.hid hb1'
  have c0 := HD1.out.b2.cell 0 _ rfl
  have c1 := HD1.out.b2.cell 1 _ rfl
  have c2 := HD1.out.b2.cell 2 _ rfl
  have c3 := HD1.out.b2.cell 3 _ rfl
  have c4 := HD1.out.b2.cell 4 _ rfl
  have c5 := HD1.out.b2.cell 5 _ rfl
  have hsz1 := HD1.out.size
  have hp0 : W.heap.size < w1.heap.size := by omega
  have hp1 : W.heap.size + 1 < w1.heap.size := by omega
  have hp2 : W.heap.size + 1 + 1 < w1.heap.size := by omega
  clear hown hb1 hb1'
  have hsl := HA.out.slot
  have hba := (Below.refl w1.heap.size w1).alloc (Nat.le_refl _) (.cells #[.string a.e.key, .slice V1 a.e.val.length vc1, .int .u64 a.e.dl, .int .u64 a.e.birth] 31)
  have HLa := Lib.hid (HL1.out.below hba)
  have HRa := Lib.hid (HR1.out.below hba)
  have HDa := Lib.hid (HD1.out.below hba)
  have HVa := Lib.hid (HV1.out.below hba)
  have HBa := Lib.hid hba
  have HBo := Lib.hid (Blk.new w1 31 #[.string a.e.key, .slice V1 a.e.val.length vc1, .int .u64 a.e.dl, .int .u64 a.e.birth])
  have HOa := Lib.hid (HO1.out.alloc (.cells #[.string a.e.key, .slice V1 a.e.val.length vc1, .int .u64 a.e.dl, .int .u64 a.e.birth] 31))
  clear hba
  have h65 : a.e.val.length ≤ 65536 := by have := HZ.out.2; omega
  have H65 := Lib.hid h65
  clear h65
  cases hh : hasR rs a.slot with
  | true =>
    obtain ⟨r, u, hq, hg, hp⟩ := HS.out.has hh
    have HQ := Lib.hid hq
    have HG := Lib.hid hg
    have HP := Lib.hid hp
    clear hq hg hp
    go_wp2_with fail
    refine (logSet_ok B b lv ps a.slot _ a.e.val a.e.dl _ r.e u HLa.out HP.out (Bts.of_own HOa.out B) H65.out).mono ?_
    rintro e w2 ⟨rfl, v2, hl2, ho2, hv2⟩
    have hof : ∀ k, W.heap.size ≤ k → ¬ logFp b lv k := fun k hk e => by have := hfp.out k e; omega
    have HD2 := Lib.hid (HDa.out.only ho2 (fun k hk _ => hof k hk))
    have HBo2 := Lib.hid (HBo.out.only ho2 (hof _ (by omega)))
    have HO2 := Lib.hid (ownsRow_only HOa.out ho2 (fun k hk => hof k (by have := (row_block HO1.out hk).1; omega)))
    have HR2 := Lib.hid (HRa.out.logged HLa.out HAp.out ho2)
    have HV2 := Lib.hid (HVa.out.keep (HLa.out.keepB ho2))
    have HL2 := Lib.hid hl2
    have HO2' := Lib.hid ho2
    have HVf2 := Lib.hid hv2
    have hs12 : w1.heap.size + 1 ≤ w2.heap.size := by have := ho2.size; simp at this; omega
    have l0 := HD2.out.b1.cell 0 _ rfl
    have l1 := HD2.out.b1.cell 1 _ rfl
    have d0 := HD2.out.b2.cell 1 _ rfl
    have d1 := HD2.out.b2.cell 3 _ rfl
    have d2 := HD2.out.b2.cell 4 _ rfl
    clear hl2 ho2 hv2 hof c0 c1 c2 c3 c4 c5
    go_wp2_with fail
    refine (rlogSet_ok B B _ _ rs a.slot r _ a.e.val a.e.dl _ HR2.out hsl HV2.out HQ.out HG.out H65.out).mono ?_
    rintro e w3 ⟨lw3, gw3, rs1, v3, rfl, hr3, hal, hb3⟩
    have HAl := Lib.hid hal
    obtain ⟨L3, lc3, hL3, _, _⟩ := own_form hr3.row
    obtain ⟨G3, gc3, hG3, _, _⟩ := own_form hr3.gone
    rw [List.length_set] at hL3 hG3
    subst hL3 hG3
    have HR3 := Lib.hid hr3
    clear hr3 hal d0 d1 d2 l0 l1
    have HD3 := Lib.hid (HD2.out.below hb3)
    have HBo3 := Lib.hid (HBo2.out.below hb3)
    have HO3 := Lib.hid (ownsRow_only HO2.out (S := fun _ => False) (Only.of_below hb3) (fun _ _ h => h))
    have HB3 := Lib.hid hb3
    have o0 := HBo3.out.cell 0 _ rfl
    have o1 := HBo3.out.cell 1 _ rfl
    have o2 := HBo3.out.cell 2 _ rfl
    have o3 := HBo3.out.cell 3 _ rfl
    have hs23 := hb3.size
    have hp3 : w1.heap.size < w3.heap.size := by omega
    clear hb3
    go_wp2_with fail
    obtain ⟨w4, hw4⟩ : ∃ w4, w3.alloc (.cells #[.slice L3 rs1.length lc3, .slice G3 rs1.length gc3] 49) = w4 := ⟨_, rfl⟩
    have HB4 : Hid (Below w3.heap.size w3 w4) := Lib.hid (hw4 ▸ (Below.refl _ _).alloc (Nat.le_refl _) _)
    have HX4 : Hid (Blk w4 w3.heap.size 49 #[.slice L3 rs1.length lc3, .slice G3 rs1.length gc3]) := Lib.hid (hw4 ▸ Blk.new w3 _ _)
    have HD4 := Lib.hid (HD3.out.below HB4.out)
    have HO4 := Lib.hid (ownsRow_only HO3.out (S := fun _ => False) (Only.of_below HB4.out) (fun _ _ h => h))
    rw [hw4]
    clear hw4
    have hV1 : ∀ k, (Value.slice V1 a.e.val.length vc1).ownBlock = some k → k < w1.heap.size := fun k hk => (HO1.out.lt k hk).2
    have HL3 := Lib.hid (HL2.out.below HB3.out)
    have HVF : Hid (∀ p ∈ ps.set a.slot ((⟨r.e.key, a.e.val, a.e.dl, r.e.birth⟩ : Ent), v2), 0 < p.1.val.length → ∀ k, p.2.ownBlock = some k → (Value.slice V1 a.e.val.length vc1).ownBlock ≠ some k) := Lib.hid (fun p hp h0 k hk e => by
      rcases List.mem_or_eq_of_mem_set hp with hp | hp
      · have h1 := HL.out.val_lt hp h0 hk
        have h2 := (HO1.out.lt k e).1
        omega
      · subst hp
        have h1 := HVf2.out k hk
        have h2 := hV1 k e
        simp at h1
        omega)
    have HRF : Hid (∀ q ∈ rs1.set a.slot (⟨⟨r.e.key, a.e.val, a.e.dl, r.e.birth⟩, v3, false⟩ : RE), ∀ k, q.v.ownBlock = some k → (Value.slice V1 a.e.val.length vc1).ownBlock ≠ some k) := Lib.hid (fun q hq k hk e => by
      have h1 := ((HR3.out.vals q hq).1.lt k hk).1
      have h2 := hV1 k e
      omega)
    have HAp3 : Hid (∀ k, (Value.slice L3 rs1.length lc3).ownBlock = some k → lv.ownBlock ≠ some k) := Lib.hid (fun k hk e => by
      have h1 := (row_block HR3.out.row hk).1
      have := hfp.out k (.inr e)
      omega)
    have HR3 := Lib.hid (HR3.out.base (show B ≤ w2.heap.size by omega))
    have HSy := Lib.hid ((HS.out.alike HAl.out).set (i := a.slot) (y := ⟨r.e.key, a.e.val, a.e.dl, r.e.birth⟩) (u := v2) (v := v3) (g := false) ⟨rfl, HP.out.birth⟩)
    have HBe : Hid (Below B W w3) := Lib.hid ((((HBW.out.mono (by omega)).trans (HBa.out.mono (by omega))).trans (HO2'.out.below (fun i hi _ e => by have := (HL.out.fp_lt e).1; omega) (by simp; omega))).trans (HB3.out.mono (by omega)))
    have HKe : Hid (KeepT B W w3) := Lib.hid ((((KeepT.of_below HBW.out).trans (KeepT.of_below HBa.out)).trans (HLa.out.keepT HO2'.out)).trans (KeepT.of_below HB3.out))
    have hln : (rs1.set a.slot (⟨⟨r.e.key, a.e.val, a.e.dl, r.e.birth⟩, v3, false⟩ : RE)).length ≤ rs.length + 1 := by
      have := congrArg List.length HAl.out
      simp at this ⊢
      omega
    have HLn := Lib.hid hln
    clear hln
    go_wp2_with fail
    refine (spoil_any (W.heap.size + 3) _ _ a.e.val _ _ _ HO4.out HVL.out).mono ?_
    rintro e w5 ⟨⟨u, rfl⟩, ho5⟩
    have hofX : ¬ (Value.slice V1 a.e.val.length vc1).ownBlock = some w3.heap.size := fun e => by
      obtain ⟨_, cur, h2⟩ := row_block HO4.out e
      exact (HX4.out.ne_ h2 (by decide)) rfl
    have HX5 := Lib.hid (HX4.out.only ho5 hofX)
    have HD5 := Lib.hid (HD4.out.only ho5 (fun k hk hk3 e => by have := (row_block HO4.out e).1; omega))
    have HL5 := Lib.hid ((HL3.out.below HB4.out).spoilt HO4.out ho5 HVF.out)
    have HR5 := Lib.hid ((HR3.out.below HB4.out).spoilt HO4.out ho5 HRF.out)
    have HBe5 : Hid (Below B W w5) := Lib.hid ((HBe.out.trans (HB4.out.mono (by have := HBe.out.size; omega))).trans (ho5.below (fun i hi _ e => by have := (row_block HO4.out e).1; omega) (by have := HB4.out.size; have := HBe.out.size; omega)))
    have HKe5 : Hid (KeepT B W w5) := Lib.hid ((HKe.out.trans (KeepT.of_below HB4.out)).after ho5 (fun k hk e => by have := (row_block HO4.out e).1; omega))
    have x0 : w5.cell? ⟨w3.heap.size, 0, none⟩ = some (.slice L3 rs1.length lc3) := HX5.out.cell 0 _ rfl
    have x1 : w5.cell? ⟨w3.heap.size, 1, none⟩ = some (.slice G3 rs1.length gc3) := HX5.out.cell 1 _ rfl
    have r0 := HD5.out.b3.cell 0 _ rfl
    have r1 := HD5.out.b3.cell 1 _ rfl
    have r4 := HD5.out.b3.frozen
    have hz5 := HX5.out.lt
    have hz6 := HD5.out.b3.lt
    have hs35 : W.heap.size + 3 ≤ w3.heap.size := HD3.out.size
    clear ho5 hofX o0 o1 o2 o3
    go_upto_region 20 with fail
    go_region_held_law (fun w' => w'.cell? ⟨w3.heap.size, 0, none⟩ = some (.slice L3 rs1.length lc3) ∧ w'.cell? ⟨w3.heap.size, 1, none⟩ = some (.slice G3 rs1.length gc3)) (first | with_reducible exact ⟨cell_drew x0, cell_drew x1⟩ | with_reducible exact ⟨x0, x1⟩ | with_reducible exact ⟨cell_drew (cells_far2 (b := W.heap.size + 1 + 1) x0 (by dsimp only; omega)), cell_drew (cells_far2 (b := W.heap.size + 1 + 1) x1 (by dsimp only; omega))⟩ | with_reducible exact ⟨cells_far2 (b := W.heap.size + 1 + 1) x0 (by dsimp only; omega), cells_far2 (b := W.heap.size + 1 + 1) x1 (by dsimp only; omega)⟩ | go_keep) (fail)
    all_goals
      go_wp2_with fail
      generalize hw6 : World.setCell _ _ _ = w6
      have g2 : Blk (World.setCell _ ⟨W.heap.size + 2, 0, none⟩ (.slice L3 rs1.length lc3)) (W.heap.size + 2) 49 #[.slice L3 rs1.length lc3, .slice none 0 0] := HD5.out.b3.set_ 0 _
      have g3 : Blk w6 (W.heap.size + 2) 49 #[.slice L3 rs1.length lc3, .slice G3 rs1.length gc3] := by rw [← hw6]; exact g2.set_ 1 _
      have hL6 : LogRep w6 B b (lv) (ps.set a.slot (⟨r.e.key, a.e.val, a.e.dl, r.e.birth⟩, v2)) := by rw [← hw6]; exact (HL5.out.farset HD5.out.b3 (by omega)).farset g2 (by omega)
      have hR6 : RRep w6 B (.slice L3 rs1.length lc3) (.slice G3 rs1.length gc3) (rs1.set a.slot ⟨⟨r.e.key, a.e.val, a.e.dl, r.e.birth⟩, v3, false⟩) := by rw [← hw6]; exact (HR5.out.farset HD5.out.b3).farset g2
      have hB6 : Below B W w6 := by rw [← hw6]; exact (HBe5.out.setCell (p := ⟨W.heap.size + 1 + 1, 0, none⟩) (by dsimp only; omega) _).setCell (p := ⟨W.heap.size + 1 + 1, 1, none⟩) (by dsimp only; omega) _
      have hK6 : KeepT B W w6 := by rw [← hw6]; exact HKe5.out.after (S := fun k => k = W.heap.size + 2) (Only.setCell (S := fun k => k = W.heap.size + 2) (Only.setCell (S := fun k => k = W.heap.size + 2) (Only.refl _ _) (p := ⟨W.heap.size + 1 + 1, 0, none⟩) (.inl rfl) _) (p := ⟨W.heap.size + 1 + 1, 1, none⟩) (.inl rfl) _) (fun k hk e => by omega)
      have q0 := g3.cell 0 _ rfl
      have q1 := g3.cell 1 _ rfl
      clear hw6 r0 r1 x0 x1
      first
        | exact bodyPost_ret (v := .tuple #[.pointer (some ⟨b, 0, none⟩), .agg #[.slice L3 rs1.length lc3, .slice G3 rs1.length gc3], .bool true]) (by simp [results, Try.results18, go_sem, q0, q1]) rfl ⟨b, lv, .slice L3 rs1.length lc3, .slice G3 rs1.length gc3, ps.set a.slot (⟨r.e.key, a.e.val, a.e.dl, r.e.birth⟩, v2), rs1.set a.slot ⟨⟨r.e.key, a.e.val, a.e.dl, r.e.birth⟩, v3, false⟩, rfl, hL6, hR6, HSy.out, HAp3.out, hB6, hK6, HLn.out⟩
        | exact bodyPost_ret (v := .tuple #[.pointer (some ⟨b, 0, none⟩), .agg #[.slice L3 rs1.length lc3, .slice G3 rs1.length gc3], .bool true]) (by simp [results, Try.results18, go_sem, q0, q1]) rfl ⟨b, lv, .slice L3 rs1.length lc3, .slice G3 rs1.length gc3, ps.set a.slot (⟨r.e.key, a.e.val, a.e.dl, r.e.birth⟩, v2), rs1.set a.slot ⟨⟨r.e.key, a.e.val, a.e.dl, r.e.birth⟩, v3, false⟩, rfl, hL6.below (Below.refl _ _).drew, hR6.drew, HSy.out, HAp3.out, hB6.drew, hK6, HLn.out⟩
  | false =>
    have HNo := Lib.hid (HS.out.hasnt hh)
    have HHh := Lib.hid hh
    clear hh
    go_wp2_with fail
    refine (logSet_none B b lv ps a.slot _ a.e.dl _ HLa.out HNo.out hsl).mono ?_
    rintro e w2 ⟨rfl, hw2⟩
    have HD2 := Lib.hid (hw2 ▸ HDa.out : DoBox _ w2 _ _ _)
    have HBo2 := Lib.hid (hw2 ▸ HBo.out : Blk w2 _ _ _)
    have HO2 := Lib.hid (hw2 ▸ HOa.out : w2.ownsRow _ _ _ _ _ _)
    have HR2 := Lib.hid (hw2 ▸ HRa.out : RRep w2 _ _ _ _)
    have HV2 := Lib.hid (hw2 ▸ HVa.out : Bts w2 _ _ _ _)
    have HL2 := Lib.hid (hw2 ▸ HLa.out : LogRep w2 _ _ _ _)
    have HB2 := Lib.hid (hw2 ▸ HBa.out : Below w1.heap.size w1 w2)
    have hs12 : w1.heap.size + 1 ≤ w2.heap.size := by rw [← hw2]; simp
    have l0 := HD2.out.b1.cell 0 _ rfl
    have l1 := HD2.out.b1.cell 1 _ rfl
    have d0 := HD2.out.b2.cell 1 _ rfl
    have d1 := HD2.out.b2.cell 3 _ rfl
    have d2 := HD2.out.b2.cell 4 _ rfl
    clear hw2 c0 c1 c2 c3 c4 c5
    go_wp2_with fail
    refine (rlogSet_none B B _ _ rs a.slot _ a.e.val a.e.dl _ HR2.out hsl HV2.out HHh.out).mono ?_
    rintro e w3 ⟨rfl, hb3⟩
    have HR3 := Lib.hid (HR2.out.below hb3)
    have HL3 := Lib.hid (HL2.out.below hb3)
    clear d0 d1 d2 l0 l1
    have HD3 := Lib.hid (HD2.out.below hb3)
    have HBo3 := Lib.hid (HBo2.out.below hb3)
    have HO3 := Lib.hid (ownsRow_only HO2.out (S := fun _ => False) (Only.of_below hb3) (fun _ _ h => h))
    have HB3 := Lib.hid hb3
    have o0 := HBo3.out.cell 0 _ rfl
    have o1 := HBo3.out.cell 1 _ rfl
    have o2 := HBo3.out.cell 2 _ rfl
    have o3 := HBo3.out.cell 3 _ rfl
    have hs23 := hb3.size
    have hp3 : w1.heap.size < w3.heap.size := by omega
    clear hb3
    go_wp2_with fail
    obtain ⟨w4, hw4⟩ : ∃ w4, w3.alloc (.cells #[.slice LA rs.length lc, .slice GA rs.length gc] 49) = w4 := ⟨_, rfl⟩
    have HB4 : Hid (Below w3.heap.size w3 w4) := Lib.hid (hw4 ▸ (Below.refl _ _).alloc (Nat.le_refl _) _)
    have HX4 : Hid (Blk w4 w3.heap.size 49 #[.slice LA rs.length lc, .slice GA rs.length gc]) := Lib.hid (hw4 ▸ Blk.new w3 _ _)
    have HD4 := Lib.hid (HD3.out.below HB4.out)
    have HO4 := Lib.hid (ownsRow_only HO3.out (S := fun _ => False) (Only.of_below HB4.out) (fun _ _ h => h))
    rw [hw4]
    clear hw4
    have HVF : Hid (∀ p ∈ ps, 0 < p.1.val.length → ∀ k, p.2.ownBlock = some k → (Value.slice V1 a.e.val.length vc1).ownBlock ≠ some k) := Lib.hid (fun p hp h0 k hk e => by
      have h1 := HL.out.val_lt hp h0 hk
      have h2 := (HO1.out.lt k e).1
      omega)
    have HRF : Hid (∀ r ∈ rs, ∀ k, r.v.ownBlock = some k → (Value.slice V1 a.e.val.length vc1).ownBlock ≠ some k) := Lib.hid (fun r hr k hk e => by
      have h1 := ((HR.out.vals r hr).1.lt k hk).2
      have h2 := (HO1.out.lt k e).1
      omega)
    have HAp3 := HAp
    have HSy := HS
    have HBe : Hid (Below B W w3) := Lib.hid (((HBW.out.mono (by omega)).trans (HB2.out.mono (by omega))).trans (HB3.out.mono (by omega)))
    have HKe : Hid (KeepT B W w3) := Lib.hid (((KeepT.of_below HBW.out).trans (KeepT.of_below HB2.out)).trans (KeepT.of_below HB3.out))
    have HLn : Hid (rs.length ≤ rs.length + 1) := Lib.hid (by omega)
    go_wp2_with fail
    refine (spoil_any (W.heap.size + 3) _ _ a.e.val _ _ _ HO4.out HVL.out).mono ?_
    rintro e w5 ⟨⟨u, rfl⟩, ho5⟩
    have hofX : ¬ (Value.slice V1 a.e.val.length vc1).ownBlock = some w3.heap.size := fun e => by
      obtain ⟨_, cur, h2⟩ := row_block HO4.out e
      exact (HX4.out.ne_ h2 (by decide)) rfl
    have HX5 := Lib.hid (HX4.out.only ho5 hofX)
    have HD5 := Lib.hid (HD4.out.only ho5 (fun k hk hk3 e => by have := (row_block HO4.out e).1; omega))
    have HL5 := Lib.hid ((HL3.out.below HB4.out).spoilt HO4.out ho5 HVF.out)
    have HR5 := Lib.hid ((HR3.out.below HB4.out).spoilt HO4.out ho5 HRF.out)
    have HBe5 : Hid (Below B W w5) := Lib.hid ((HBe.out.trans (HB4.out.mono (by have := HBe.out.size; omega))).trans (ho5.below (fun i hi _ e => by have := (row_block HO4.out e).1; omega) (by have := HB4.out.size; have := HBe.out.size; omega)))
    have HKe5 : Hid (KeepT B W w5) := Lib.hid ((HKe.out.trans (KeepT.of_below HB4.out)).after ho5 (fun k hk e => by have := (row_block HO4.out e).1; omega))
    have x0 : w5.cell? ⟨w3.heap.size, 0, none⟩ = some (.slice LA rs.length lc) := HX5.out.cell 0 _ rfl
    have x1 : w5.cell? ⟨w3.heap.size, 1, none⟩ = some (.slice GA rs.length gc) := HX5.out.cell 1 _ rfl
    have r0 := HD5.out.b3.cell 0 _ rfl
    have r1 := HD5.out.b3.cell 1 _ rfl
    have r4 := HD5.out.b3.frozen
    have hz5 := HX5.out.lt
    have hz6 := HD5.out.b3.lt
    have hs35 : W.heap.size + 3 ≤ w3.heap.size := HD3.out.size
    clear ho5 hofX o0 o1 o2 o3
    go_upto_region 20 with fail
    go_region_held_law (fun w' => w'.cell? ⟨w3.heap.size, 0, none⟩ = some (.slice LA rs.length lc) ∧ w'.cell? ⟨w3.heap.size, 1, none⟩ = some (.slice GA rs.length gc)) (first | with_reducible exact ⟨cell_drew x0, cell_drew x1⟩ | with_reducible exact ⟨x0, x1⟩ | with_reducible exact ⟨cell_drew (cells_far2 (b := W.heap.size + 1 + 1) x0 (by dsimp only; omega)), cell_drew (cells_far2 (b := W.heap.size + 1 + 1) x1 (by dsimp only; omega))⟩ | with_reducible exact ⟨cells_far2 (b := W.heap.size + 1 + 1) x0 (by dsimp only; omega), cells_far2 (b := W.heap.size + 1 + 1) x1 (by dsimp only; omega)⟩ | go_keep) (fail)
    all_goals
      go_wp2_with fail
      generalize hw6 : World.setCell _ _ _ = w6
      have g2 : Blk (World.setCell _ ⟨W.heap.size + 2, 0, none⟩ (.slice LA rs.length lc)) (W.heap.size + 2) 49 #[.slice LA rs.length lc, .slice none 0 0] := HD5.out.b3.set_ 0 _
      have g3 : Blk w6 (W.heap.size + 2) 49 #[.slice LA rs.length lc, .slice GA rs.length gc] := by rw [← hw6]; exact g2.set_ 1 _
      have hL6 : LogRep w6 B b (lv) (ps) := by rw [← hw6]; exact (HL5.out.farset HD5.out.b3 (by omega)).farset g2 (by omega)
      have hR6 : RRep w6 B (.slice LA rs.length lc) (.slice GA rs.length gc) (rs) := by rw [← hw6]; exact (HR5.out.farset HD5.out.b3).farset g2
      have hB6 : Below B W w6 := by rw [← hw6]; exact (HBe5.out.setCell (p := ⟨W.heap.size + 1 + 1, 0, none⟩) (by dsimp only; omega) _).setCell (p := ⟨W.heap.size + 1 + 1, 1, none⟩) (by dsimp only; omega) _
      have hK6 : KeepT B W w6 := by rw [← hw6]; exact HKe5.out.after (S := fun k => k = W.heap.size + 2) (Only.setCell (S := fun k => k = W.heap.size + 2) (Only.setCell (S := fun k => k = W.heap.size + 2) (Only.refl _ _) (p := ⟨W.heap.size + 1 + 1, 0, none⟩) (.inl rfl) _) (p := ⟨W.heap.size + 1 + 1, 1, none⟩) (.inl rfl) _) (fun k hk e => by omega)
      have q0 := g3.cell 0 _ rfl
      have q1 := g3.cell 1 _ rfl
      clear hw6 r0 r1 x0 x1
      first
        | exact bodyPost_ret (v := .tuple #[.pointer (some ⟨b, 0, none⟩), .agg #[.slice LA rs.length lc, .slice GA rs.length gc], .bool true]) (by simp [results, Try.results18, go_sem, q0, q1]) rfl ⟨b, lv, .slice LA rs.length lc, .slice GA rs.length gc, ps, rs, rfl, hL6, hR6, HSy.out, HAp3.out, hB6, hK6, HLn.out⟩
        | exact bodyPost_ret (v := .tuple #[.pointer (some ⟨b, 0, none⟩), .agg #[.slice LA rs.length lc, .slice GA rs.length gc], .bool true]) (by simp [results, Try.results18, go_sem, q0, q1]) rfl ⟨b, lv, .slice LA rs.length lc, .slice GA rs.length gc, ps, rs, rfl, hL6.below (Below.refl _ _).drew, hR6.drew, HSy.out, HAp3.out, hB6.drew, hK6, HLn.out⟩

end Go.Proofs.Ytjjhndhigkhkpaa
