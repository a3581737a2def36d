/- The walk of do (layer 9): Remove. -/
import Derived.Test.YtjjhndhigkhkpaaDoC
namespace Go.Proofs.Ytjjhndhigkhkpaa
open Go Go.RowKit
attribute [local go_sem ↓] Go.wp_at_zero Go.wp_at_succ





set_option maxRecDepth 100000 in
set_option maxHeartbeats 2000000 in
theorem do_remove (B b : Nat) (lv lw gw : Value) (ps : List (Ent × Value)) (rs : List RE) (a : ActV) (W : World) (hl : LogRep W B b lv ps) (hr : RRep W B lw gw rs) (hs : Sync ps rs) (hap : ∀ k, lw.ownBlock = some k → lv.ownBlock ≠ some k) (ha : a.Ok W B) (hw : a.what = 3) (hz : a.e.key.size ≤ 300 ∧ a.e.val.length ≤ 300) (hn : rs.length ≤ 1000) :
    Calls Try.prog 18 #[.pointer (some ⟨b, 0, none⟩), .agg #[lw, gw], .agg #[.int .i64 a.what, .int .u32 a.slot, .string a.e.key, a.v, .int .u64 a.e.dl, .int .u64 a.e.birth]] W (DoPost B W rs.length) := by
  have hB := hl.base
  have hblt := hl.blk.lt
  have hfp := Lib.hid (fun k hk => (hl.fp_lt (k := k) hk).2)
  obtain ⟨VA, vc, hve⟩ := ha.val.form
  have HV : Hid (Bts W B 5 (.slice VA a.e.val.length vc) a.e.val) := Lib.hid (hve ▸ ha.val)
  rw [hve]
  try rw [hw]
  obtain ⟨LA, lc, rfl, _, _⟩ := own_form hr.row
  obtain ⟨GA, gc, rfl, _, _⟩ := own_form hr.gone
  have HL := Lib.hid hl
  have HR := Lib.hid hr
  have HS := Lib.hid hs
  have HAp := Lib.hid hap
  have HA := Lib.hid ha
  have hvl : a.e.val.length ≤ 1000000000 := by omega
  have HZ := Lib.hid hz
  have HN := Lib.hid hn
  have HVL := Lib.hid hvl
  clear hl hr hs hap ha hve hz hn hvl
  go_enter Try.func18, Try.ntmps18
  go_wp2_with fail
  refine (refCopy_any B _ _ a.e.val _ _ _ (((HV.out.alloc _).alloc _).alloc _) HVL.out).mono ?_
  rintro e w1 ⟨v1, rfl, hown, hb1⟩
  obtain ⟨V1, vc1, rfl, _, _⟩ := own_form hown
  have HO1 := Lib.hid (ownsRow_base hown (show W.heap.size + 3 ≤ _ by simp))
  have HD1 := Lib.hid ((DoBox.new W _ _ _).below hb1)
  have hb1' : Below W.heap.size W w1 := ((((Below.refl _ W).alloc (Nat.le_refl _) _).alloc (by simp) _).alloc (by simp; omega) _).trans (hb1.mono (by simp; omega))
  have HL1 := Lib.hid (HL.out.below hb1')
  have HR1 := Lib.hid (HR.out.below hb1')
  have HV1 := Lib.hid (HV.out.below hb1')
  have HBW := Lib.hid hb1'
  have c0 := HD1.out.b2.cell 0 _ rfl
  have c1 := HD1.out.b2.cell 1 _ rfl
  have c2 := HD1.out.b2.cell 2 _ rfl
  have c3 := HD1.out.b2.cell 3 _ rfl
  have c4 := HD1.out.b2.cell 4 _ rfl
  have c5 := HD1.out.b2.cell 5 _ rfl
  have hsz1 := HD1.out.size
  have hp0 : W.heap.size < w1.heap.size := by omega
  have hp1 : W.heap.size + 1 < w1.heap.size := by omega
  have hp2 : W.heap.size + 1 + 1 < w1.heap.size := by omega
  clear hown hb1 hb1'
  have hsl := HA.out.slot
  have hba := (Below.refl w1.heap.size w1).alloc (Nat.le_refl _) (.cells #[.string a.e.key, .slice V1 a.e.val.length vc1, .int .u64 a.e.dl, .int .u64 a.e.birth] 31)
  have HLa := Lib.hid (HL1.out.below hba)
  have HRa := Lib.hid (HR1.out.below hba)
  have HDa := Lib.hid (HD1.out.below hba)
  have HBa := Lib.hid hba
  clear hba
  cases hh : hasR rs a.slot with
  | true =>
    obtain ⟨r, u, hq, hg, hp⟩ := HS.out.has hh
    have hrl := (HR.out.vals r (List.mem_of_getElem? hq)).2
    obtain ⟨R2, rc2, hve, _, _⟩ := own_form (HR.out.vals r (List.mem_of_getElem? hq)).1
    have HVE := Lib.hid hve
    have HRl : Hid (r.e.val.length ≤ 1000000000) := Lib.hid (by omega)
    have HQ := Lib.hid hq
    have HG := Lib.hid hg
    have HP := Lib.hid hp
    clear hq hg hp hrl hve
    go_wp2_with fail
    refine (logRemove_ok B b lv ps a.slot _ r.e u HLa.out HP.out HRl.out).mono ?_
    rintro e w2 ⟨x2, rfl, hx2, hl2, ho2⟩
    obtain ⟨X2, xc2, rfl, _, _⟩ := own_form hx2
    have hof : ∀ k, W.heap.size ≤ k → ¬ logFp b lv k := fun k hk e => by have := hfp.out k e; omega
    have HX2 := Lib.hid hx2
    have HD2 := Lib.hid (HDa.out.only ho2 (fun k hk _ => hof k hk))
    have HR2 := Lib.hid (HRa.out.logged HLa.out HAp.out ho2)
    have HL2 := Lib.hid hl2
    have HO2' := Lib.hid ho2
    have hs12 : w1.heap.size + 1 ≤ w2.heap.size := by have := ho2.size; simp at this; omega
    have l0 := HD2.out.b1.cell 0 _ rfl
    have l1 := HD2.out.b1.cell 1 _ rfl
    have d1 := HD2.out.b2.cell 1 _ rfl
    have hp4 : W.heap.size < w2.heap.size := by omega
    have hp5 : W.heap.size + 1 < w2.heap.size := by omega
    clear hx2 hl2 ho2 hof c0 c1 c2 c3 c4 c5
    go_wp2_with fail
    have hbx := (Below.refl w2.heap.size w2).alloc (Nat.le_refl _) (.cells #[.string r.e.key, .slice X2 r.e.val.length xc2, .int .u64 r.e.dl, .int .u64 r.e.birth] 31)
    refine (rlogRemove_ok B _ _ rs a.slot r _ (HR2.out.below hbx) hsl HQ.out HG.out).mono ?_
    rintro e w3 ⟨lw3, gw3, rs1, v3, rfl, hr3, hal, hb3⟩
    rw [HVE.out]
    have HB3 : Hid (Below w2.heap.size w2 w3) := Lib.hid (hbx.trans (hb3.mono hbx.size))
    have HAl := Lib.hid hal
    obtain ⟨L3, lc3, hL3, _, _⟩ := own_form hr3.row
    obtain ⟨G3, gc3, hG3, _, _⟩ := own_form hr3.gone
    rw [List.length_set] at hL3 hG3
    subst hL3 hG3
    have HR3 := Lib.hid hr3
    have HO3 := Lib.hid (ownsRow_only HX2.out (S := fun _ => False) (Only.of_below HB3.out) (fun _ _ h => h))
    have HV3 : Hid (w3.ownsRow B 5 1 (.slice R2 r.e.val.length rc2) r.e.val.length (bcells r.e.val)) := Lib.hid (HVE.out ▸ ((HR2.out.below HB3.out).vals r (List.mem_of_getElem? HQ.out)).1)
    clear hr3 hal hbx
    have HD3 := Lib.hid (HD2.out.below HB3.out)
    have HX3 := Lib.hid ((Blk.new w2 31 #[.string r.e.key, .slice X2 r.e.val.length xc2, .int .u64 r.e.dl, .int .u64 r.e.birth]).below hb3)
    have e0 := HX3.out.cell 0 _ rfl
    have e1 := HX3.out.cell 1 _ rfl
    have e2 := HX3.out.cell 2 _ rfl
    have e3 := HX3.out.cell 3 _ rfl
    have hs23 := hb3.size
    simp at hs23
    have hp3 : w2.heap.size < w3.heap.size := by omega
    clear hb3 l0 l1 d1
    go_wp2_with fail
    refine (refEqual_any B B r.e r.e _ _ _ (Bts.of_own ((HO3.out.alloc _).alloc _) B) (Bts.of_own ((HV3.out.alloc _).alloc _) B)).mono ?_
    rw [eqE_self]
    rintro e w5 ⟨rfl, hb5⟩
    have hb5' : Below w3.heap.size w3 w5 := (((Below.refl _ _).alloc (Nat.le_refl _) _).alloc (by simp) _).trans (hb5.mono (by simp; omega))
    have HB4 := Lib.hid hb5'
    have HX4 : Hid (Blk w5 w3.heap.size 49 #[.slice L3 rs1.length lc3, .slice G3 rs1.length gc3]) := Lib.hid (((Blk.new _ _ _).alloc _).below hb5)
    have HE4 := Lib.hid (HX3.out.below hb5')
    have HD4 := Lib.hid (HD3.out.below hb5')
    have HO4 := Lib.hid (ownsRow_only HO3.out (S := fun _ => False) (Only.of_below hb5') (fun _ _ h => h))
    have e0 := HE4.out.cell 0 _ rfl
    have e1 := HE4.out.cell 1 _ rfl
    have e2 := HE4.out.cell 2 _ rfl
    have e3 := HE4.out.cell 3 _ rfl
    clear hb5 hb5'
    go_wp2_with fail
    refine (spoil_any (w1.alloc (.cells #[.string a.e.key, .slice V1 a.e.val.length vc1, .int .u64 a.e.dl, .int .u64 a.e.birth] 31)).heap.size _ _ r.e.val _ _ _ HO4.out HRl.out).mono ?_
    rintro e w6 ⟨⟨u6, rfl⟩, ho6⟩
    have hX : ∀ k, (Value.slice X2 r.e.val.length xc2).ownBlock = some k → w1.heap.size + 1 ≤ k ∧ k < w2.heap.size := fun k hk => by have := HX2.out.lt k hk; simp at this; omega
    have HL3 := Lib.hid (HL2.out.below HB3.out)
    have HVF : Hid (∀ p ∈ ps.set a.slot (zent, .slice none 0 0), 0 < p.1.val.length → ∀ k, p.2.ownBlock = some k → (Value.slice X2 r.e.val.length xc2).ownBlock ≠ some k) := Lib.hid (fun p hp h0 k hk e => by
      rcases List.mem_or_eq_of_mem_set hp with hp | hp
      · have h1 := HL.out.val_lt hp h0 hk
        have h2 := (hX k e).1
        omega
      · subst hp
        exact absurd h0 (by decide))
    have HRF : Hid (∀ q ∈ rs1.set a.slot (⟨r.e, v3, true⟩ : RE), ∀ k, q.v.ownBlock = some k → (Value.slice X2 r.e.val.length xc2).ownBlock ≠ some k) := Lib.hid (fun q hq k hk e => by
      have h1 := ((HR3.out.vals q hq).1.lt k hk).1
      have h2 := (hX k e).2
      simp at h1
      omega)
    have HAp3 : Hid (∀ k, (Value.slice L3 rs1.length lc3).ownBlock = some k → lv.ownBlock ≠ some k) := Lib.hid (fun k hk e => by
      have h1 := (row_block HR3.out.row hk).1
      have := hfp.out k (.inr e)
      simp at h1
      omega)
    have HR3 := Lib.hid (HR3.out.base (show B ≤ _ by simp; omega))
    have HSy := Lib.hid ((HS.out.alike HAl.out).remove a.slot r.e (.slice none 0 0) v3)
    have HBe : Hid (Below B W w3) := Lib.hid ((((HBW.out.mono (by omega)).trans (HBa.out.mono (by omega))).trans (HO2'.out.below (fun i hi _ e => by have := (HL.out.fp_lt e).1; omega) (by simp; omega))).trans (HB3.out.mono (by omega)))
    have HKe : Hid (KeepT B W w3) := Lib.hid ((((KeepT.of_below HBW.out).trans (KeepT.of_below HBa.out)).trans (HLa.out.keepT HO2'.out)).trans (KeepT.of_below HB3.out))
    have hln : (rs1.set a.slot (⟨r.e, v3, true⟩ : RE)).length ≤ rs.length + 1 := by
      have := congrArg List.length HAl.out
      simp at this ⊢
      omega
    have HLn := Lib.hid hln
    have hsw : W.heap.size + 3 ≤ (w1.alloc (.cells #[.string a.e.key, .slice V1 a.e.val.length vc1, .int .u64 a.e.dl, .int .u64 a.e.birth] 31)).heap.size := by simp; omega
    clear hln hX
    have hofX : ¬ (Value.slice X2 r.e.val.length xc2).ownBlock = some w3.heap.size := fun e => by
      obtain ⟨_, cur, h2⟩ := row_block HO4.out e
      exact (HX4.out.ne_ h2 (by decide)) rfl
    have HX5 := Lib.hid (HX4.out.only ho6 hofX)
    have HD5 := Lib.hid (HD4.out.only ho6 (fun k hk hk3 e => by have := (row_block HO4.out e).1; omega))
    have HL5 := Lib.hid ((HL3.out.below HB4.out).spoilt HO4.out ho6 HVF.out)
    have HR5 := Lib.hid ((HR3.out.below HB4.out).spoilt HO4.out ho6 HRF.out)
    have HBe5 : Hid (Below B W w6) := Lib.hid ((HBe.out.trans (HB4.out.mono (by have := HBe.out.size; omega))).trans (ho6.below (fun i hi _ e => by have := (row_block HO4.out e).1; omega) (by have := HB4.out.size; have := HBe.out.size; omega)))
    have HKe5 : Hid (KeepT B W w6) := Lib.hid ((HKe.out.trans (KeepT.of_below HB4.out)).after ho6 (fun k hk e => by have := (row_block HO4.out e).1; omega))
    have x0 : w6.cell? ⟨w3.heap.size, 0, none⟩ = some (.slice L3 rs1.length lc3) := HX5.out.cell 0 _ rfl
    have x1 : w6.cell? ⟨w3.heap.size, 1, none⟩ = some (.slice G3 rs1.length gc3) := HX5.out.cell 1 _ rfl
    have r0 := HD5.out.b3.cell 0 _ rfl
    have r1 := HD5.out.b3.cell 1 _ rfl
    have r4 := HD5.out.b3.frozen
    have hz5 := HX5.out.lt
    have hz6 := HD5.out.b3.lt
    have hs35 : W.heap.size + 3 ≤ w3.heap.size := HD3.out.size
    clear ho6 hofX e0 e1 e2 e3
    go_upto_region 26 with fail
    go_region_held_law (fun w' => w'.cell? ⟨w3.heap.size, 0, none⟩ = some (.slice L3 rs1.length lc3) ∧ w'.cell? ⟨w3.heap.size, 1, none⟩ = some (.slice G3 rs1.length gc3)) (first | with_reducible exact ⟨cell_drew x0, cell_drew x1⟩ | with_reducible exact ⟨x0, x1⟩ | with_reducible exact ⟨cell_drew (cells_far2 (b := W.heap.size + 1 + 1) x0 (by dsimp only; omega)), cell_drew (cells_far2 (b := W.heap.size + 1 + 1) x1 (by dsimp only; omega))⟩ | with_reducible exact ⟨cells_far2 (b := W.heap.size + 1 + 1) x0 (by dsimp only; omega), cells_far2 (b := W.heap.size + 1 + 1) x1 (by dsimp only; omega)⟩ | go_keep) (fail)
    all_goals
      go_wp2_with fail
      generalize hw6 : World.setCell _ _ _ = w6
      have g2 : Blk (World.setCell _ ⟨W.heap.size + 2, 0, none⟩ (.slice L3 rs1.length lc3)) (W.heap.size + 2) 49 #[.slice L3 rs1.length lc3, .slice none 0 0] := HD5.out.b3.set_ 0 _
      have g3 : Blk w6 (W.heap.size + 2) 49 #[.slice L3 rs1.length lc3, .slice G3 rs1.length gc3] := by rw [← hw6]; exact g2.set_ 1 _
      have hL6 : LogRep w6 B b (lv) (ps.set a.slot (zent, .slice none 0 0)) := by rw [← hw6]; exact (HL5.out.farset HD5.out.b3 (by omega)).farset g2 (by omega)
      have hR6 : RRep w6 B (.slice L3 rs1.length lc3) (.slice G3 rs1.length gc3) (rs1.set a.slot ⟨r.e, v3, true⟩) := by rw [← hw6]; exact (HR5.out.farset HD5.out.b3).farset g2
      have hB6 : Below B W w6 := by rw [← hw6]; exact (HBe5.out.setCell (p := ⟨W.heap.size + 1 + 1, 0, none⟩) (by dsimp only; omega) _).setCell (p := ⟨W.heap.size + 1 + 1, 1, none⟩) (by dsimp only; omega) _
      have hK6 : KeepT B W w6 := by rw [← hw6]; exact HKe5.out.after (S := fun k => k = W.heap.size + 2) (Only.setCell (S := fun k => k = W.heap.size + 2) (Only.setCell (S := fun k => k = W.heap.size + 2) (Only.refl _ _) (p := ⟨W.heap.size + 1 + 1, 0, none⟩) (.inl rfl) _) (p := ⟨W.heap.size + 1 + 1, 1, none⟩) (.inl rfl) _) (fun k hk e => by omega)
      have q0 := g3.cell 0 _ rfl
      have q1 := g3.cell 1 _ rfl
      clear hw6 r0 r1 x0 x1
      first
        | exact bodyPost_ret (v := .tuple #[.pointer (some ⟨b, 0, none⟩), .agg #[.slice L3 rs1.length lc3, .slice G3 rs1.length gc3], .bool true]) (by simp [results, Try.results18, go_sem, q0, q1]) rfl ⟨b, lv, .slice L3 rs1.length lc3, .slice G3 rs1.length gc3, ps.set a.slot (zent, .slice none 0 0), rs1.set a.slot ⟨r.e, v3, true⟩, rfl, hL6, hR6, HSy.out, HAp3.out, hB6, hK6, HLn.out⟩
        | exact bodyPost_ret (v := .tuple #[.pointer (some ⟨b, 0, none⟩), .agg #[.slice L3 rs1.length lc3, .slice G3 rs1.length gc3], .bool true]) (by simp [results, Try.results18, go_sem, q0, q1]) rfl ⟨b, lv, .slice L3 rs1.length lc3, .slice G3 rs1.length gc3, ps.set a.slot (zent, .slice none 0 0), rs1.set a.slot ⟨r.e, v3, true⟩, rfl, hL6.below (Below.refl _ _).drew, hR6.drew, HSy.out, HAp3.out, hB6.drew, hK6, HLn.out⟩
  | false =>
    have HNo := Lib.hid (HS.out.hasnt hh)
    have HHh := Lib.hid hh
    clear hh
    go_wp2_with fail
    refine (logRemove_none B b lv ps a.slot _ HLa.out HNo.out hsl).mono ?_
    rintro e w2 ⟨rfl, hb2⟩
    have hb2' : Below w1.heap.size w1 w2 := HBa.out.trans (hb2.mono HBa.out.size)
    have HB2 := Lib.hid hb2'
    have HL2 := Lib.hid (HL1.out.below hb2')
    have HR2 := Lib.hid (HR1.out.below hb2')
    have HD2 := Lib.hid (HD1.out.below hb2')
    have l0 := HD2.out.b1.cell 0 _ rfl
    have l1 := HD2.out.b1.cell 1 _ rfl
    have d1 := HD2.out.b2.cell 1 _ rfl
    have hs2 := hb2'.size
    have hp4 : W.heap.size < w2.heap.size := by omega
    have hp5 : W.heap.size + 1 < w2.heap.size := by omega
    clear hb2 hb2' c0 c1 c2 c3 c4 c5
    unfold noEnt
    go_wp2_with fail
    have hbx := (Below.refl w2.heap.size w2).alloc (Nat.le_refl _) (.cells #[.string ⟨#[]⟩, .slice none 0 0, .int .u64 0, .int .u64 0] 31)
    refine (rlogRemove_none B _ _ rs a.slot _ (HR2.out.below hbx) hsl HHh.out).mono ?_
    rintro e w3 ⟨rfl, hb3⟩
    have HB3 : Hid (Below w2.heap.size w2 w3) := Lib.hid (hbx.trans (hb3.mono hbx.size))
    have HO3 : Hid (w3.ownsRow (W.heap.size + 3) 5 1 (.slice none 0 0) 0 []) := Lib.hid (World.ownsRow_nil _ _ _ _)
    have HR3 := Lib.hid (HR2.out.below HB3.out)
    have HL3 := Lib.hid (HL2.out.below HB3.out)
    clear hbx
    have HD3 := Lib.hid (HD2.out.below HB3.out)
    have HX3 := Lib.hid ((Blk.new w2 31 #[.string ⟨#[]⟩, .slice none 0 0, .int .u64 0, .int .u64 0]).below hb3)
    have e0 := HX3.out.cell 0 _ rfl
    have e1 := HX3.out.cell 1 _ rfl
    have e2 := HX3.out.cell 2 _ rfl
    have e3 := HX3.out.cell 3 _ rfl
    have hs23 := hb3.size
    simp at hs23
    have hp3 : w2.heap.size < w3.heap.size := by omega
    clear hb3 l0 l1 d1
    go_wp2_with fail
    refine (refEqual_any B B zent zent _ _ _ (Bts.nil _ _ _) (Bts.nil _ _ _)).mono ?_
    rw [eqE_self]
    rintro e w5 ⟨rfl, hb5⟩
    have hb5' : Below w3.heap.size w3 w5 := (((Below.refl _ _).alloc (Nat.le_refl _) _).alloc (by simp) _).trans (hb5.mono (by simp; omega))
    have HB4 := Lib.hid hb5'
    have HX4 : Hid (Blk w5 w3.heap.size 49 #[.slice LA rs.length lc, .slice GA rs.length gc]) := Lib.hid (((Blk.new _ _ _).alloc _).below hb5)
    have HE4 := Lib.hid (HX3.out.below hb5')
    have HD4 := Lib.hid (HD3.out.below hb5')
    have HO4 := Lib.hid (ownsRow_only HO3.out (S := fun _ => False) (Only.of_below hb5') (fun _ _ h => h))
    have e0 := HE4.out.cell 0 _ rfl
    have e1 := HE4.out.cell 1 _ rfl
    have e2 := HE4.out.cell 2 _ rfl
    have e3 := HE4.out.cell 3 _ rfl
    clear hb5 hb5'
    go_wp2_with fail
    refine (spoil_any (W.heap.size + 3) _ _ [] _ _ _ HO4.out (by simp)).mono ?_
    rintro e w6 ⟨⟨u6, rfl⟩, ho6⟩
    have HVF : Hid (∀ p ∈ ps, 0 < p.1.val.length → ∀ k, p.2.ownBlock = some k → (Value.slice none 0 0).ownBlock ≠ some k) := Lib.hid (fun p hp h0 k hk e => by cases e)
    have HRF : Hid (∀ r ∈ rs, ∀ k, r.v.ownBlock = some k → (Value.slice none 0 0).ownBlock ≠ some k) := Lib.hid (fun r hr k hk e => by cases e)
    have HAp3 := HAp
    have HSy := HS
    have HBe : Hid (Below B W w3) := Lib.hid (((HBW.out.mono (by omega)).trans (HB2.out.mono (by omega))).trans (HB3.out.mono (by omega)))
    have HKe : Hid (KeepT B W w3) := Lib.hid (((KeepT.of_below HBW.out).trans (KeepT.of_below HB2.out)).trans (KeepT.of_below HB3.out))
    have HLn : Hid (rs.length ≤ rs.length + 1) := Lib.hid (by omega)
    have hofX : ¬ (Value.slice none 0 0).ownBlock = some w3.heap.size := fun e => by
      obtain ⟨_, cur, h2⟩ := row_block HO4.out e
      exact (HX4.out.ne_ h2 (by decide)) rfl
    have HX5 := Lib.hid (HX4.out.only ho6 hofX)
    have HD5 := Lib.hid (HD4.out.only ho6 (fun k hk hk3 e => by have := (row_block HO4.out e).1; omega))
    have HL5 := Lib.hid ((HL3.out.below HB4.out).spoilt HO4.out ho6 HVF.out)
    have HR5 := Lib.hid ((HR3.out.below HB4.out).spoilt HO4.out ho6 HRF.out)
    have HBe5 : Hid (Below B W w6) := Lib.hid ((HBe.out.trans (HB4.out.mono (by have := HBe.out.size; omega))).trans (ho6.below (fun i hi _ e => by have := (row_block HO4.out e).1; omega) (by have := HB4.out.size; have := HBe.out.size; omega)))
    have HKe5 : Hid (KeepT B W w6) := Lib.hid ((HKe.out.trans (KeepT.of_below HB4.out)).after ho6 (fun k hk e => by have := (row_block HO4.out e).1; omega))
    have x0 : w6.cell? ⟨w3.heap.size, 0, none⟩ = some (.slice LA rs.length lc) := HX5.out.cell 0 _ rfl
    have x1 : w6.cell? ⟨w3.heap.size, 1, none⟩ = some (.slice GA rs.length gc) := HX5.out.cell 1 _ rfl
    have r0 := HD5.out.b3.cell 0 _ rfl
    have r1 := HD5.out.b3.cell 1 _ rfl
    have r4 := HD5.out.b3.frozen
    have hz5 := HX5.out.lt
    have hz6 := HD5.out.b3.lt
    have hs35 : W.heap.size + 3 ≤ w3.heap.size := HD3.out.size
    clear ho6 hofX e0 e1 e2 e3
    go_upto_region 26 with fail
    go_region_held_law (fun w' => w'.cell? ⟨w3.heap.size, 0, none⟩ = some (.slice LA rs.length lc) ∧ w'.cell? ⟨w3.heap.size, 1, none⟩ = some (.slice GA rs.length gc)) (first | with_reducible exact ⟨cell_drew x0, cell_drew x1⟩ | with_reducible exact ⟨x0, x1⟩ | with_reducible exact ⟨cell_drew (cells_far2 (b := W.heap.size + 1 + 1) x0 (by dsimp only; omega)), cell_drew (cells_far2 (b := W.heap.size + 1 + 1) x1 (by dsimp only; omega))⟩ | with_reducible exact ⟨cells_far2 (b := W.heap.size + 1 + 1) x0 (by dsimp only; omega), cells_far2 (b := W.heap.size + 1 + 1) x1 (by dsimp only; omega)⟩ | go_keep) (fail)
    all_goals
      go_wp2_with fail
      generalize hw6 : World.setCell _ _ _ = w6
      have g2 : Blk (World.setCell _ ⟨W.heap.size + 2, 0, none⟩ (.slice LA rs.length lc)) (W.heap.size + 2) 49 #[.slice LA rs.length lc, .slice none 0 0] := HD5.out.b3.set_ 0 _
      have g3 : Blk w6 (W.heap.size + 2) 49 #[.slice LA rs.length lc, .slice GA rs.length gc] := by rw [← hw6]; exact g2.set_ 1 _
      have hL6 : LogRep w6 B b (lv) (ps) := by rw [← hw6]; exact (HL5.out.farset HD5.out.b3 (by omega)).farset g2 (by omega)
      have hR6 : RRep w6 B (.slice LA rs.length lc) (.slice GA rs.length gc) (rs) := by rw [← hw6]; exact (HR5.out.farset HD5.out.b3).farset g2
      have hB6 : Below B W w6 := by rw [← hw6]; exact (HBe5.out.setCell (p := ⟨W.heap.size + 1 + 1, 0, none⟩) (by dsimp only; omega) _).setCell (p := ⟨W.heap.size + 1 + 1, 1, none⟩) (by dsimp only; omega) _
      have hK6 : KeepT B W w6 := by rw [← hw6]; exact HKe5.out.after (S := fun k => k = W.heap.size + 2) (Only.setCell (S := fun k => k = W.heap.size + 2) (Only.setCell (S := fun k => k = W.heap.size + 2) (Only.refl _ _) (p := ⟨W.heap.size + 1 + 1, 0, none⟩) (.inl rfl) _) (p := ⟨W.heap.size + 1 + 1, 1, none⟩) (.inl rfl) _) (fun k hk e => by omega)
      have q0 := g3.cell 0 _ rfl
      have q1 := g3.cell 1 _ rfl
      clear hw6 r0 r1 x0 x1
      first
        | exact bodyPost_ret (v := .tuple #[.pointer (some ⟨b, 0, none⟩), .agg #[.slice LA rs.length lc, .slice GA rs.length gc], .bool true]) (by simp [results, Try.results18, go_sem, q0, q1]) rfl ⟨b, lv, .slice LA rs.length lc, .slice GA rs.length gc, ps, rs, rfl, hL6, hR6, HSy.out, HAp3.out, hB6, hK6, HLn.out⟩
        | exact bodyPost_ret (v := .tuple #[.pointer (some ⟨b, 0, none⟩), .agg #[.slice LA rs.length lc, .slice GA rs.length gc], .bool true]) (by simp [results, Try.results18, go_sem, q0, q1]) rfl ⟨b, lv, .slice LA rs.length lc, .slice GA rs.length gc, ps, rs, rfl, hL6.below (Below.refl _ _).drew, hR6.drew, HSy.out, HAp3.out, hB6.drew, hK6, HLn.out⟩

end Go.Proofs.Ytjjhndhigkhkpaa
