/- The walk of do (layer 9): Get, Next. -/
import Derived.Test.YtjjhndhigkhkpaaDoA
namespace Go.Proofs.Ytjjhndhigkhkpaa
open Go Go.RowKit
attribute [local go_sem ↓] Go.wp_at_zero Go.wp_at_succ



set_option maxRecDepth 100000 in
set_option maxHeartbeats 2000000 in
theorem do_get (B b : Nat) (lv lw gw : Value) (ps : List (Ent × Value)) (rs : List RE) (a : ActV) (W : World) (hl : LogRep W B b lv ps) (hr : RRep W B lw gw rs) (hs : Sync ps rs) (hap : ∀ k, lw.ownBlock = some k → lv.ownBlock ≠ some k) (ha : a.Ok W B) (hw : a.what = 1) (hz : a.e.key.size ≤ 300 ∧ a.e.val.length ≤ 300) (hn : rs.length ≤ 1000) :
    Calls Try.prog 18 #[.pointer (some ⟨b, 0, none⟩), .agg #[lw, gw], .agg #[.int .i64 a.what, .int .u32 a.slot, .string a.e.key, a.v, .int .u64 a.e.dl, .int .u64 a.e.birth]] W (DoPost B W rs.length) := by
  have hB := hl.base
  have hblt := hl.blk.lt
  have hfp := Lib.hid (fun k hk => (hl.fp_lt (k := k) hk).2)
  obtain ⟨VA, vc, hve⟩ := ha.val.form
  have HV : Hid (Bts W B 5 (.slice VA a.e.val.length vc) a.e.val) := Lib.hid (hve ▸ ha.val)
  rw [hve]
  try rw [hw]
  obtain ⟨LA, lc, rfl, _, _⟩ := own_form hr.row
  obtain ⟨GA, gc, rfl, _, _⟩ := own_form hr.gone
  have HL := Lib.hid hl
  have HR := Lib.hid hr
  have HS := Lib.hid hs
  have HAp := Lib.hid hap
  have HA := Lib.hid ha
  have hvl : a.e.val.length ≤ 1000000000 := by omega
  have HZ := Lib.hid hz
  have HN := Lib.hid hn
  have HVL := Lib.hid hvl
  clear hl hr hs hap ha hve hz hn hvl
  go_enter Try.func18, Try.ntmps18
  go_wp2_with fail
  refine (refCopy_any B _ _ a.e.val _ _ _ (((HV.out.alloc _).alloc _).alloc _) HVL.out).mono ?_
  rintro e w1 ⟨v1, rfl, hown, hb1⟩
  obtain ⟨V1, vc1, rfl, _, _⟩ := own_form hown
  have HO1 := Lib.hid (ownsRow_base hown (show W.heap.size + 3 ≤ _ by simp))
  have HD1 := Lib.hid ((DoBox.new W _ _ _).below hb1)
  have hb1' : Below W.heap.size W w1 := ((((Below.refl _ W).alloc (Nat.le_refl _) _).alloc (by simp) _).alloc (by simp; omega) _).trans (hb1.mono (by simp; omega))
  have HL1 := Lib.hid (HL.out.below hb1')
  have HR1 := Lib.hid (HR.out.below hb1')
  have HV1 := Lib.hid (HV.out.below hb1')
  have HBW := Lib.hid hb1'
  have c0 := HD1.out.b2.cell 0 _ rfl
  have c1 := HD1.out.b2.cell 1 _ rfl
  have c2 := HD1.out.b2.cell 2 _ rfl
  have c3 := HD1.out.b2.cell 3 _ rfl
  have c4 := HD1.out.b2.cell 4 _ rfl
  have c5 := HD1.out.b2.cell 5 _ rfl
  have hsz1 := HD1.out.size
  have hp0 : W.heap.size < w1.heap.size := by omega
  have hp1 : W.heap.size + 1 < w1.heap.size := by omega
  have hp2 : W.heap.size + 1 + 1 < w1.heap.size := by omega
  clear hown hb1 hb1'
  have hsl := HA.out.slot
  have hba := (Below.refl w1.heap.size w1).alloc (Nat.le_refl _) (.cells #[.string a.e.key, .slice V1 a.e.val.length vc1, .int .u64 a.e.dl, .int .u64 a.e.birth] 31)
  have HLa := Lib.hid (HL1.out.below hba)
  have HRa := Lib.hid (HR1.out.below hba)
  have HDa := Lib.hid (HD1.out.below hba)
  have HBa := Lib.hid hba
  clear hba
  cases hh : hasR rs a.slot with
  | true =>
    obtain ⟨r, u, hq, hg, hp⟩ := HS.out.has hh
    have hrl := (HR.out.vals r (List.mem_of_getElem? hq)).2
    obtain ⟨R2, rc2, hve, _, _⟩ := own_form (HR.out.vals r (List.mem_of_getElem? hq)).1
    have HVE := Lib.hid hve
    have HRl : Hid (r.e.val.length ≤ 1000000000) := Lib.hid (by omega)
    have HQ := Lib.hid hq
    have HG := Lib.hid hg
    have HP := Lib.hid hp
    clear hq hg hp hrl hve
    go_wp2_with fail
    refine (logGet_some B b lv ps a.slot _ r.e u HLa.out HP.out HRl.out).mono ?_
    rintro e w2 ⟨x2, rfl, hx2, hb2⟩
    obtain ⟨X2, xc2, rfl, _, _⟩ := own_form hx2
    have hb2' : Below w1.heap.size w1 w2 := HBa.out.trans (hb2.mono HBa.out.size)
    have HX2 := Lib.hid (ownsRow_base hx2 (show w1.heap.size ≤ _ by simp))
    have HB2 := Lib.hid hb2'
    have HL2 := Lib.hid (HL1.out.below hb2')
    have HR2 := Lib.hid (HR1.out.below hb2')
    have HD2 := Lib.hid (HD1.out.below hb2')
    have l0 := HD2.out.b1.cell 0 _ rfl
    have l1 := HD2.out.b1.cell 1 _ rfl
    have d1 := HD2.out.b2.cell 1 _ rfl
    have hs2 := hb2'.size
    have hp4 : W.heap.size < w2.heap.size := by omega
    have hp5 : W.heap.size + 1 < w2.heap.size := by omega
    clear hx2 hb2 hb2' c0 c1 c2 c3 c4 c5
    go_wp2_with fail
    have hbx := (Below.refl w2.heap.size w2).alloc (Nat.le_refl _) (.cells #[.string r.e.key, .slice X2 r.e.val.length xc2, .int .u64 r.e.dl, .int .u64 r.e.birth] 31)
    refine (refGet_some B _ _ rs a.slot r _ (HR2.out.below hbx) hsl HQ.out HG.out).mono ?_
    rw [HVE.out]
    rintro e w3 ⟨rfl, hb3⟩
    have hb3' : Below w2.heap.size w2 w3 := hbx.trans (hb3.mono hbx.size)
    have HX3 := Lib.hid ((Blk.new w2 31 #[.string r.e.key, .slice X2 r.e.val.length xc2, .int .u64 r.e.dl, .int .u64 r.e.birth]).below hb3)
    have HO3 := Lib.hid (ownsRow_only HX2.out (S := fun _ => False) (Only.of_below hb3') (fun _ _ h => h))
    have HR3 := Lib.hid (HR2.out.below hb3')
    have HL3 := Lib.hid (HL2.out.below hb3')
    have HD3 := Lib.hid (HD2.out.below hb3')
    have HB3 := Lib.hid hb3'
    have d1 := HD3.out.b2.cell 1 _ rfl
    have e0 := HX3.out.cell 0 _ rfl
    have e1 := HX3.out.cell 1 _ rfl
    have e2 := HX3.out.cell 2 _ rfl
    have e3 := HX3.out.cell 3 _ rfl
    have hs3 := hb3'.size
    have hp6 : w2.heap.size < w3.heap.size := HX3.out.lt
    have hp7 : W.heap.size + 1 < w3.heap.size := by omega
    clear hbx hb3 hb3' l0 l1
    go_wp2_with fail
    have hby := (Below.refl w3.heap.size w3).alloc (Nat.le_refl _) (.cells #[.string r.e.key, .slice R2 r.e.val.length rc2, .int .u64 r.e.dl, .int .u64 r.e.birth] 31)
    have HBy := Lib.hid hby
    refine (logKey_some B b lv ps a.slot _ r.e u (HL3.out.below hby) HP.out).mono ?_
    clear hby
    rintro e w4 ⟨rfl, rfl⟩
    go_wp2_with fail
    refine (refEqual_any B B r.e r.e _ _ _ (Bts.of_own (HO3.out.alloc _) B) ((HVE.out ▸ HR3.out.bts (List.mem_of_getElem? HQ.out) B : Bts w3 B 5 (.slice R2 r.e.val.length rc2) r.e.val).alloc _)).mono ?_
    rw [eqE_self]
    rintro e w5 ⟨rfl, hb5⟩
    have hb5' : Below w3.heap.size w3 w5 := HBy.out.trans (hb5.mono HBy.out.size)
    have HX5 := Lib.hid (HX3.out.below hb5')
    have HY5 := Lib.hid ((Blk.new w3 31 #[.string r.e.key, .slice R2 r.e.val.length rc2, .int .u64 r.e.dl, .int .u64 r.e.birth]).below hb5)
    have HO5 := Lib.hid (ownsRow_only HO3.out (S := fun _ => False) (Only.of_below hb5') (fun _ _ h => h))
    have e0 := HX5.out.cell 0 _ rfl
    have e1 := HX5.out.cell 1 _ rfl
    have e2 := HX5.out.cell 2 _ rfl
    have e3 := HX5.out.cell 3 _ rfl
    have y0 := HY5.out.cell 0 _ rfl
    have HB5 := Lib.hid hb5'
    clear hb5 hb5' d1
    go_wp2_with fail
    refine (spoil_any w1.heap.size _ _ r.e.val _ _ _ HO5.out HRl.out).mono ?_
    rintro e w6 ⟨⟨u6, rfl⟩, ho6⟩
    have hball : Below w1.heap.size w1 w6 := (((HB2.out.trans (HB3.out.mono HB2.out.size)).trans (HB5.out.mono (by have := HB2.out.size; have := HB3.out.size; omega)))).trans (ho6.below (fun i hi _ e => by have := (row_block HO5.out e).1; omega) (by have := HB2.out.size; have := HB3.out.size; have := HB5.out.size; omega))
    clear ho6 e0 e1 e2 e3 y0
    have HB6 : Hid (Below w1.heap.size w1 w6) := Lib.hid hball
    have HD5 := Lib.hid (HD1.out.below hball)
    have HL5 := Lib.hid (HL1.out.below hball)
    have HR5 := Lib.hid (HR1.out.below hball)
    have HBe5 : Hid (Below B W w6) := Lib.hid ((HBW.out.mono (by omega)).trans (hball.mono (by omega)))
    have HKe5 : Hid (KeepT B W w6) := Lib.hid ((KeepT.of_below HBW.out).trans (KeepT.of_below hball))
    have HSy := HS
    have HAp3 := HAp
    have HLn : Hid (rs.length ≤ rs.length + 1) := Lib.hid (by omega)
    have x0 : w6.cell? ⟨W.heap.size, 0, none⟩ = some (.slice LA rs.length lc) := HD5.out.b1.cell 0 _ rfl
    have x1 : w6.cell? ⟨W.heap.size, 1, none⟩ = some (.slice GA rs.length gc) := HD5.out.b1.cell 1 _ rfl
    have r0 := HD5.out.b3.cell 0 _ rfl
    have r1 := HD5.out.b3.cell 1 _ rfl
    have r4 := HD5.out.b3.frozen
    have hz6 := HD5.out.b3.lt
    clear hball
    go_upto_region 15 with fail
    go_region_held_law (fun w' => w'.cell? ⟨W.heap.size, 0, none⟩ = some (.slice LA rs.length lc) ∧ w'.cell? ⟨W.heap.size, 1, none⟩ = some (.slice GA rs.length gc)) (first | with_reducible exact ⟨cell_drew x0, cell_drew x1⟩ | with_reducible exact ⟨x0, x1⟩ | with_reducible exact ⟨cell_drew (cells_far2 (b := W.heap.size + 1 + 1) x0 (by dsimp only; omega)), cell_drew (cells_far2 (b := W.heap.size + 1 + 1) x1 (by dsimp only; omega))⟩ | with_reducible exact ⟨cells_far2 (b := W.heap.size + 1 + 1) x0 (by dsimp only; omega), cells_far2 (b := W.heap.size + 1 + 1) x1 (by dsimp only; omega)⟩ | go_keep) (fail)
    all_goals
      go_wp2_with fail
      generalize hw6 : World.setCell _ _ _ = w6
      have g2 : Blk (World.setCell _ ⟨W.heap.size + 2, 0, none⟩ (.slice LA rs.length lc)) (W.heap.size + 2) 49 #[.slice LA rs.length lc, .slice none 0 0] := HD5.out.b3.set_ 0 _
      have g3 : Blk w6 (W.heap.size + 2) 49 #[.slice LA rs.length lc, .slice GA rs.length gc] := by rw [← hw6]; exact g2.set_ 1 _
      have hL6 : LogRep w6 B b (lv) (ps) := by rw [← hw6]; exact (HL5.out.farset HD5.out.b3 (by omega)).farset g2 (by omega)
      have hR6 : RRep w6 B (.slice LA rs.length lc) (.slice GA rs.length gc) (rs) := by rw [← hw6]; exact (HR5.out.farset HD5.out.b3).farset g2
      have hB6 : Below B W w6 := by rw [← hw6]; exact (HBe5.out.setCell (p := ⟨W.heap.size + 1 + 1, 0, none⟩) (by dsimp only; omega) _).setCell (p := ⟨W.heap.size + 1 + 1, 1, none⟩) (by dsimp only; omega) _
      have hK6 : KeepT B W w6 := by rw [← hw6]; exact HKe5.out.after (S := fun k => k = W.heap.size + 2) (Only.setCell (S := fun k => k = W.heap.size + 2) (Only.setCell (S := fun k => k = W.heap.size + 2) (Only.refl _ _) (p := ⟨W.heap.size + 1 + 1, 0, none⟩) (.inl rfl) _) (p := ⟨W.heap.size + 1 + 1, 1, none⟩) (.inl rfl) _) (fun k hk e => by omega)
      have q0 := g3.cell 0 _ rfl
      have q1 := g3.cell 1 _ rfl
      clear hw6 r0 r1 x0 x1
      first
        | exact bodyPost_ret (v := .tuple #[.pointer (some ⟨b, 0, none⟩), .agg #[.slice LA rs.length lc, .slice GA rs.length gc], .bool true]) (by simp [results, Try.results18, go_sem, q0, q1]) rfl ⟨b, lv, .slice LA rs.length lc, .slice GA rs.length gc, ps, rs, rfl, hL6, hR6, HSy.out, HAp3.out, hB6, hK6, HLn.out⟩
        | exact bodyPost_ret (v := .tuple #[.pointer (some ⟨b, 0, none⟩), .agg #[.slice LA rs.length lc, .slice GA rs.length gc], .bool true]) (by simp [results, Try.results18, go_sem, q0, q1]) rfl ⟨b, lv, .slice LA rs.length lc, .slice GA rs.length gc, ps, rs, rfl, hL6.below (Below.refl _ _).drew, hR6.drew, HSy.out, HAp3.out, hB6.drew, hK6, HLn.out⟩
  | false =>
    have HNo := Lib.hid (HS.out.hasnt hh)
    have HHh := Lib.hid hh
    clear hh
    go_wp2_with fail
    refine (logGet_none B b lv ps a.slot _ HLa.out HNo.out hsl).mono ?_
    rintro e w2 ⟨rfl, hb2⟩
    have hb2' : Below w1.heap.size w1 w2 := HBa.out.trans (hb2.mono HBa.out.size)
    have HB2 := Lib.hid hb2'
    have HL2 := Lib.hid (HL1.out.below hb2')
    have HR2 := Lib.hid (HR1.out.below hb2')
    have HD2 := Lib.hid (HD1.out.below hb2')
    have l0 := HD2.out.b1.cell 0 _ rfl
    have l1 := HD2.out.b1.cell 1 _ rfl
    have d1 := HD2.out.b2.cell 1 _ rfl
    have hs2 := hb2'.size
    have hp4 : W.heap.size < w2.heap.size := by omega
    have hp5 : W.heap.size + 1 < w2.heap.size := by omega
    clear hb2 hb2' c0 c1 c2 c3 c4 c5
    unfold noEnt
    go_wp2_with fail
    have hbx := (Below.refl w2.heap.size w2).alloc (Nat.le_refl _) (.cells #[.string ⟨#[]⟩, .slice none 0 0, .int .u64 0, .int .u64 0] 31)
    refine (refGet_none B _ _ rs a.slot _ (HR2.out.below hbx) hsl HHh.out).mono ?_
    rintro e w3 ⟨rfl, hb3⟩
    have hb3' : Below w2.heap.size w2 w3 := hbx.trans (hb3.mono hbx.size)
    have HX3 := Lib.hid ((Blk.new w2 31 #[.string ⟨#[]⟩, .slice none 0 0, .int .u64 0, .int .u64 0]).below hb3)
    have HL3 := Lib.hid (HL2.out.below hb3')
    have HD3 := Lib.hid (HD2.out.below hb3')
    have HB3 := Lib.hid hb3'
    have d1 := HD3.out.b2.cell 1 _ rfl
    have e0 := HX3.out.cell 0 _ rfl
    have e1 := HX3.out.cell 1 _ rfl
    have e2 := HX3.out.cell 2 _ rfl
    have e3 := HX3.out.cell 3 _ rfl
    have hs3 := hb3'.size
    have hp6 : w2.heap.size < w3.heap.size := HX3.out.lt
    have hp7 : W.heap.size + 1 < w3.heap.size := by omega
    clear hbx hb3 hb3' l0 l1
    unfold noEnt
    go_wp2_with fail
    have hby := (Below.refl w3.heap.size w3).alloc (Nat.le_refl _) (.cells #[.string ⟨#[]⟩, .slice none 0 0, .int .u64 0, .int .u64 0] 31)
    have HBy := Lib.hid hby
    refine (logKey_none B b lv ps a.slot _ (HL3.out.below hby) HNo.out hsl).mono ?_
    clear hby
    rintro e w4 ⟨rfl, rfl⟩
    go_wp2_with fail
    refine (refEqual_any B B zent zent _ _ _ (Bts.nil _ _ _) (Bts.nil _ _ _)).mono ?_
    rw [eqE_self]
    rintro e w5 ⟨rfl, hb5⟩
    have hb5' : Below w3.heap.size w3 w5 := HBy.out.trans (hb5.mono HBy.out.size)
    have HX5 := Lib.hid (HX3.out.below hb5')
    have HY5 := Lib.hid ((Blk.new w3 31 #[.string ⟨#[]⟩, .slice none 0 0, .int .u64 0, .int .u64 0]).below hb5)
    have e0 := HX5.out.cell 0 _ rfl
    have e1 := HX5.out.cell 1 _ rfl
    have e2 := HX5.out.cell 2 _ rfl
    have e3 := HX5.out.cell 3 _ rfl
    have y0 := HY5.out.cell 0 _ rfl
    have HB5 := Lib.hid hb5'
    clear hb5 hb5' d1
    go_wp2_with fail
    refine (spoil_any w1.heap.size _ _ [] _ _ _ (World.ownsRow_nil _ _ _ _) (by simp)).mono ?_
    rintro e w6 ⟨⟨u6, rfl⟩, ho6⟩
    have hball : Below w1.heap.size w1 w6 := (((HB2.out.trans (HB3.out.mono HB2.out.size)).trans (HB5.out.mono (by have := HB2.out.size; have := HB3.out.size; omega)))).trans (ho6.below (fun i hi _ e => by cases e) (by have := HB2.out.size; have := HB3.out.size; have := HB5.out.size; omega))
    clear ho6 e0 e1 e2 e3 y0
    have HB6 : Hid (Below w1.heap.size w1 w6) := Lib.hid hball
    have HD5 := Lib.hid (HD1.out.below hball)
    have HL5 := Lib.hid (HL1.out.below hball)
    have HR5 := Lib.hid (HR1.out.below hball)
    have HBe5 : Hid (Below B W w6) := Lib.hid ((HBW.out.mono (by omega)).trans (hball.mono (by omega)))
    have HKe5 : Hid (KeepT B W w6) := Lib.hid ((KeepT.of_below HBW.out).trans (KeepT.of_below hball))
    have HSy := HS
    have HAp3 := HAp
    have HLn : Hid (rs.length ≤ rs.length + 1) := Lib.hid (by omega)
    have x0 : w6.cell? ⟨W.heap.size, 0, none⟩ = some (.slice LA rs.length lc) := HD5.out.b1.cell 0 _ rfl
    have x1 : w6.cell? ⟨W.heap.size, 1, none⟩ = some (.slice GA rs.length gc) := HD5.out.b1.cell 1 _ rfl
    have r0 := HD5.out.b3.cell 0 _ rfl
    have r1 := HD5.out.b3.cell 1 _ rfl
    have r4 := HD5.out.b3.frozen
    have hz6 := HD5.out.b3.lt
    clear hball
    go_upto_region 15 with fail
    go_region_held_law (fun w' => w'.cell? ⟨W.heap.size, 0, none⟩ = some (.slice LA rs.length lc) ∧ w'.cell? ⟨W.heap.size, 1, none⟩ = some (.slice GA rs.length gc)) (first | with_reducible exact ⟨cell_drew x0, cell_drew x1⟩ | with_reducible exact ⟨x0, x1⟩ | with_reducible exact ⟨cell_drew (cells_far2 (b := W.heap.size + 1 + 1) x0 (by dsimp only; omega)), cell_drew (cells_far2 (b := W.heap.size + 1 + 1) x1 (by dsimp only; omega))⟩ | with_reducible exact ⟨cells_far2 (b := W.heap.size + 1 + 1) x0 (by dsimp only; omega), cells_far2 (b := W.heap.size + 1 + 1) x1 (by dsimp only; omega)⟩ | go_keep) (fail)
    all_goals
      go_wp2_with fail
      generalize hw6 : World.setCell _ _ _ = w6
      have g2 : Blk (World.setCell _ ⟨W.heap.size + 2, 0, none⟩ (.slice LA rs.length lc)) (W.heap.size + 2) 49 #[.slice LA rs.length lc, .slice none 0 0] := HD5.out.b3.set_ 0 _
      have g3 : Blk w6 (W.heap.size + 2) 49 #[.slice LA rs.length lc, .slice GA rs.length gc] := by rw [← hw6]; exact g2.set_ 1 _
      have hL6 : LogRep w6 B b (lv) (ps) := by rw [← hw6]; exact (HL5.out.farset HD5.out.b3 (by omega)).farset g2 (by omega)
      have hR6 : RRep w6 B (.slice LA rs.length lc) (.slice GA rs.length gc) (rs) := by rw [← hw6]; exact (HR5.out.farset HD5.out.b3).farset g2
      have hB6 : Below B W w6 := by rw [← hw6]; exact (HBe5.out.setCell (p := ⟨W.heap.size + 1 + 1, 0, none⟩) (by dsimp only; omega) _).setCell (p := ⟨W.heap.size + 1 + 1, 1, none⟩) (by dsimp only; omega) _
      have hK6 : KeepT B W w6 := by rw [← hw6]; exact HKe5.out.after (S := fun k => k = W.heap.size + 2) (Only.setCell (S := fun k => k = W.heap.size + 2) (Only.setCell (S := fun k => k = W.heap.size + 2) (Only.refl _ _) (p := ⟨W.heap.size + 1 + 1, 0, none⟩) (.inl rfl) _) (p := ⟨W.heap.size + 1 + 1, 1, none⟩) (.inl rfl) _) (fun k hk e => by omega)
      have q0 := g3.cell 0 _ rfl
      have q1 := g3.cell 1 _ rfl
      clear hw6 r0 r1 x0 x1
      first
        | exact bodyPost_ret (v := .tuple #[.pointer (some ⟨b, 0, none⟩), .agg #[.slice LA rs.length lc, .slice GA rs.length gc], .bool true]) (by simp [results, Try.results18, go_sem, q0, q1]) rfl ⟨b, lv, .slice LA rs.length lc, .slice GA rs.length gc, ps, rs, rfl, hL6, hR6, HSy.out, HAp3.out, hB6, hK6, HLn.out⟩
        | exact bodyPost_ret (v := .tuple #[.pointer (some ⟨b, 0, none⟩), .agg #[.slice LA rs.length lc, .slice GA rs.length gc], .bool true]) (by simp [results, Try.results18, go_sem, q0, q1]) rfl ⟨b, lv, .slice LA rs.length lc, .slice GA rs.length gc, ps, rs, rfl, hL6.below (Below.refl _ _).drew, hR6.drew, HSy.out, HAp3.out, hB6.drew, hK6, HLn.out⟩

theorem least {p : Nat → Prop} : ∀ n, p n → ∃ j, p j ∧ ∀ k, k < j → ¬ p k := fun n => by
  induction n using Nat.strongRecOn with
  | _ n ih =>
    intro h
    by_cases hx : ∃ k, k < n ∧ p k
    · obtain ⟨k, hk, hpk⟩ := hx
      exact ih k hk hpk
    · exact ⟨n, h, fun k hk hpk => hx ⟨k, hk, hpk⟩⟩


set_option maxRecDepth 100000 in
set_option maxHeartbeats 2000000 in
theorem do_next (B b : Nat) (lv lw gw : Value) (ps : List (Ent × Value)) (rs : List RE) (a : ActV) (W : World) (hl : LogRep W B b lv ps) (hr : RRep W B lw gw rs) (hs : Sync ps rs) (hap : ∀ k, lw.ownBlock = some k → lv.ownBlock ≠ some k) (ha : a.Ok W B) (hw : a.what = 4) (hz : a.e.key.size ≤ 300 ∧ a.e.val.length ≤ 300) (hn : rs.length ≤ 1000) :
    Calls Try.prog 18 #[.pointer (some ⟨b, 0, none⟩), .agg #[lw, gw], .agg #[.int .i64 a.what, .int .u32 a.slot, .string a.e.key, a.v, .int .u64 a.e.dl, .int .u64 a.e.birth]] W (DoPost B W rs.length) := by
  have hB := hl.base
  have hblt := hl.blk.lt
  have hfp := Lib.hid (fun k hk => (hl.fp_lt (k := k) hk).2)
  obtain ⟨VA, vc, hve⟩ := ha.val.form
  have HV : Hid (Bts W B 5 (.slice VA a.e.val.length vc) a.e.val) := Lib.hid (hve ▸ ha.val)
  rw [hve]
  try rw [hw]
  obtain ⟨LA, lc, rfl, _, _⟩ := own_form hr.row
  obtain ⟨GA, gc, rfl, _, _⟩ := own_form hr.gone
  have HL := Lib.hid hl
  have HR := Lib.hid hr
  have HS := Lib.hid hs
  have HAp := Lib.hid hap
  have HA := Lib.hid ha
  have hvl : a.e.val.length ≤ 1000000000 := by omega
  have HZ := Lib.hid hz
  have HN := Lib.hid hn
  have HVL := Lib.hid hvl
  clear hl hr hs hap ha hve hz hn hvl
  go_enter Try.func18, Try.ntmps18
  go_wp2_with fail
  refine (refCopy_any B _ _ a.e.val _ _ _ (((HV.out.alloc _).alloc _).alloc _) HVL.out).mono ?_
  rintro e w1 ⟨v1, rfl, hown, hb1⟩
  obtain ⟨V1, vc1, rfl, _, _⟩ := own_form hown
  have HO1 := Lib.hid (ownsRow_base hown (show W.heap.size + 3 ≤ _ by simp))
  have HD1 := Lib.hid ((DoBox.new W _ _ _).below hb1)
  have hb1' : Below W.heap.size W w1 := ((((Below.refl _ W).alloc (Nat.le_refl _) _).alloc (by simp) _).alloc (by simp; omega) _).trans (hb1.mono (by simp; omega))
  have HL1 := Lib.hid (HL.out.below hb1')
  have HR1 := Lib.hid (HR.out.below hb1')
  have HV1 := Lib.hid (HV.out.below hb1')
  have HBW := Lib.hid hb1'
  have c0 := HD1.out.b2.cell 0 _ rfl
  have c1 := HD1.out.b2.cell 1 _ rfl
  have c2 := HD1.out.b2.cell 2 _ rfl
  have c3 := HD1.out.b2.cell 3 _ rfl
  have c4 := HD1.out.b2.cell 4 _ rfl
  have c5 := HD1.out.b2.cell 5 _ rfl
  have hsz1 := HD1.out.size
  have hp0 : W.heap.size < w1.heap.size := by omega
  have hp1 : W.heap.size + 1 < w1.heap.size := by omega
  have hp2 : W.heap.size + 1 + 1 < w1.heap.size := by omega
  clear hown hb1 hb1'
  have hsl := HA.out.slot
  have hba := (Below.refl w1.heap.size w1).alloc (Nat.le_refl _) (.cells #[.string a.e.key, .slice V1 a.e.val.length vc1, .int .u64 a.e.dl, .int .u64 a.e.birth] 31)
  have HLa := Lib.hid (HL1.out.below hba)
  have HRa := Lib.hid (HR1.out.below hba)
  have HDa := Lib.hid (HD1.out.below hba)
  have HBa := Lib.hid hba
  clear hba
  have l0 := HD1.out.b1.cell 0 _ rfl
  have l1 := HD1.out.b1.cell 1 _ rfl
  by_cases hex : ∃ j, a.slot ≤ j ∧ hasR rs j = true
  · obtain ⟨j0, hj0⟩ := hex
    obtain ⟨j, ⟨hij, hj⟩, hmin⟩ := least (p := fun j => a.slot ≤ j ∧ hasR rs j = true) j0 hj0
    have hno : ∀ k, a.slot ≤ k → k < j → hasR rs k = false := fun k h1 h2 => by
      cases hk : hasR rs k with
      | false => rfl
      | true => exact absurd ⟨h1, hk⟩ (hmin k h2)
    obtain ⟨r, u, _, _, hp⟩ := HS.out.has hj
    have HNx := Lib.hid (fun w' (h : LogRep w' B b lv ps) => next_some B b lv ps a.slot j w' h hij ⟨_, _, hp⟩ (fun k h1 h2 => HS.out.hasnt (hno k h1 h2)))
    have HJ := Lib.hid hj
    have HNo := Lib.hid hno
    clear hj0 hmin hp hj hno
    go_wp2_with fail
    refine (refNext_some B _ _ rs a.slot j _ HRa.out hsl hij HJ.out HNo.out).mono ?_
    rintro e w6 ⟨rfl, hb6⟩
    have hball : Below w1.heap.size w1 w6 := HBa.out.trans (hb6.mono HBa.out.size)
    clear hb6 l0 l1
    have HD5 := Lib.hid (HD1.out.below hball)
    have HL5 := Lib.hid (HL1.out.below hball)
    have HR5 := Lib.hid (HR1.out.below hball)
    have HBe5 : Hid (Below B W w6) := Lib.hid ((HBW.out.mono (by omega)).trans (hball.mono (by omega)))
    have HKe5 : Hid (KeepT B W w6) := Lib.hid ((KeepT.of_below HBW.out).trans (KeepT.of_below hball))
    have HSy := HS
    have HAp3 := HAp
    have HLn : Hid (rs.length ≤ rs.length + 1) := Lib.hid (by omega)
    have x0 : w6.cell? ⟨W.heap.size, 0, none⟩ = some (.slice LA rs.length lc) := HD5.out.b1.cell 0 _ rfl
    have x1 : w6.cell? ⟨W.heap.size, 1, none⟩ = some (.slice GA rs.length gc) := HD5.out.b1.cell 1 _ rfl
    have x2 : w6.cell? ⟨W.heap.size + 1, 1, none⟩ = some (.int .u32 a.slot) := HD5.out.b2.cell 1 _ rfl
    have r0 := HD5.out.b3.cell 0 _ rfl
    have r1 := HD5.out.b3.cell 1 _ rfl
    have r4 := HD5.out.b3.frozen
    have hz6 := HD5.out.b3.lt
    clear hball c0 c1 c2 c3 c4 c5
    go_upto_region 29 with fail
    go_region_held_law (fun w' => w'.cell? ⟨W.heap.size, 0, none⟩ = some (.slice LA rs.length lc) ∧ w'.cell? ⟨W.heap.size, 1, none⟩ = some (.slice GA rs.length gc) ∧ w'.cell? ⟨W.heap.size + 1, 1, none⟩ = some (.int .u32 a.slot)) (first | with_reducible exact ⟨cell_drew x0, cell_drew x1, cell_drew x2⟩ | with_reducible exact ⟨x0, x1, x2⟩ | with_reducible exact ⟨cell_drew (cells_far2 (b := W.heap.size + 1 + 1) x0 (by dsimp only; omega)), cell_drew (cells_far2 (b := W.heap.size + 1 + 1) x1 (by dsimp only; omega)), cell_drew (cells_far2 (b := W.heap.size + 1 + 1) x2 (by dsimp only; omega))⟩ | with_reducible exact ⟨cells_far2 (b := W.heap.size + 1 + 1) x0 (by dsimp only; omega), cells_far2 (b := W.heap.size + 1 + 1) x1 (by dsimp only; omega), cells_far2 (b := W.heap.size + 1 + 1) x2 (by dsimp only; omega)⟩ | go_keep)
      (first
        | (go_at_call 25
           refine (HNx.out _ HL5.out.drew).mono ?_
           rintro e w' ⟨rfl, rfl⟩))
    all_goals
      go_wp2_with fail
      generalize hw6 : World.setCell _ _ _ = w6
      have g2 : Blk (World.setCell _ ⟨W.heap.size + 2, 0, none⟩ (.slice LA rs.length lc)) (W.heap.size + 2) 49 #[.slice LA rs.length lc, .slice none 0 0] := HD5.out.b3.set_ 0 _
      have g3 : Blk w6 (W.heap.size + 2) 49 #[.slice LA rs.length lc, .slice GA rs.length gc] := by rw [← hw6]; exact g2.set_ 1 _
      have hL6 : LogRep w6 B b (lv) (ps) := by rw [← hw6]; exact (HL5.out.farset HD5.out.b3 (by omega)).farset g2 (by omega)
      have hR6 : RRep w6 B (.slice LA rs.length lc) (.slice GA rs.length gc) (rs) := by rw [← hw6]; exact (HR5.out.farset HD5.out.b3).farset g2
      have hB6 : Below B W w6 := by rw [← hw6]; exact (HBe5.out.setCell (p := ⟨W.heap.size + 1 + 1, 0, none⟩) (by dsimp only; omega) _).setCell (p := ⟨W.heap.size + 1 + 1, 1, none⟩) (by dsimp only; omega) _
      have hK6 : KeepT B W w6 := by rw [← hw6]; exact HKe5.out.after (S := fun k => k = W.heap.size + 2) (Only.setCell (S := fun k => k = W.heap.size + 2) (Only.setCell (S := fun k => k = W.heap.size + 2) (Only.refl _ _) (p := ⟨W.heap.size + 1 + 1, 0, none⟩) (.inl rfl) _) (p := ⟨W.heap.size + 1 + 1, 1, none⟩) (.inl rfl) _) (fun k hk e => by omega)
      have q0 := g3.cell 0 _ rfl
      have q1 := g3.cell 1 _ rfl
      clear hw6 r0 r1 x0 x1
      first
        | exact bodyPost_ret (v := .tuple #[.pointer (some ⟨b, 0, none⟩), .agg #[.slice LA rs.length lc, .slice GA rs.length gc], .bool true]) (by simp [results, Try.results18, go_sem, q0, q1]) rfl ⟨b, lv, .slice LA rs.length lc, .slice GA rs.length gc, ps, rs, rfl, hL6, hR6, HSy.out, HAp3.out, hB6, hK6, HLn.out⟩
        | exact bodyPost_ret (v := .tuple #[.pointer (some ⟨b, 0, none⟩), .agg #[.slice LA rs.length lc, .slice GA rs.length gc], .bool true]) (by simp [results, Try.results18, go_sem, q0, q1]) rfl ⟨b, lv, .slice LA rs.length lc, .slice GA rs.length gc, ps, rs, rfl, hL6.below (Below.refl _ _).drew, hR6.drew, HSy.out, HAp3.out, hB6.drew, hK6, HLn.out⟩
  · have hno : ∀ k, a.slot ≤ k → hasR rs k = false := fun k h1 => by
      cases hk : hasR rs k with
      | false => rfl
      | true => exact absurd ⟨k, h1, hk⟩ hex
    have HNx := Lib.hid (fun w' (h : LogRep w' B b lv ps) => next_none B b lv ps a.slot w' h hsl (fun k h1 => HS.out.hasnt (hno k h1)))
    have HNo := Lib.hid hno
    clear hno hex
    go_wp2_with fail
    refine (refNext_none B _ _ rs a.slot _ HRa.out hsl HNo.out).mono ?_
    rintro e w6 ⟨rfl, hb6⟩
    have hball : Below w1.heap.size w1 w6 := HBa.out.trans (hb6.mono HBa.out.size)
    clear hb6 l0 l1
    have HD5 := Lib.hid (HD1.out.below hball)
    have HL5 := Lib.hid (HL1.out.below hball)
    have HR5 := Lib.hid (HR1.out.below hball)
    have HBe5 : Hid (Below B W w6) := Lib.hid ((HBW.out.mono (by omega)).trans (hball.mono (by omega)))
    have HKe5 : Hid (KeepT B W w6) := Lib.hid ((KeepT.of_below HBW.out).trans (KeepT.of_below hball))
    have HSy := HS
    have HAp3 := HAp
    have HLn : Hid (rs.length ≤ rs.length + 1) := Lib.hid (by omega)
    have x0 : w6.cell? ⟨W.heap.size, 0, none⟩ = some (.slice LA rs.length lc) := HD5.out.b1.cell 0 _ rfl
    have x1 : w6.cell? ⟨W.heap.size, 1, none⟩ = some (.slice GA rs.length gc) := HD5.out.b1.cell 1 _ rfl
    have x2 : w6.cell? ⟨W.heap.size + 1, 1, none⟩ = some (.int .u32 a.slot) := HD5.out.b2.cell 1 _ rfl
    have r0 := HD5.out.b3.cell 0 _ rfl
    have r1 := HD5.out.b3.cell 1 _ rfl
    have r4 := HD5.out.b3.frozen
    have hz6 := HD5.out.b3.lt
    clear hball c0 c1 c2 c3 c4 c5
    go_upto_region 29 with fail
    go_region_held_law (fun w' => w'.cell? ⟨W.heap.size, 0, none⟩ = some (.slice LA rs.length lc) ∧ w'.cell? ⟨W.heap.size, 1, none⟩ = some (.slice GA rs.length gc) ∧ w'.cell? ⟨W.heap.size + 1, 1, none⟩ = some (.int .u32 a.slot)) (first | with_reducible exact ⟨cell_drew x0, cell_drew x1, cell_drew x2⟩ | with_reducible exact ⟨x0, x1, x2⟩ | with_reducible exact ⟨cell_drew (cells_far2 (b := W.heap.size + 1 + 1) x0 (by dsimp only; omega)), cell_drew (cells_far2 (b := W.heap.size + 1 + 1) x1 (by dsimp only; omega)), cell_drew (cells_far2 (b := W.heap.size + 1 + 1) x2 (by dsimp only; omega))⟩ | with_reducible exact ⟨cells_far2 (b := W.heap.size + 1 + 1) x0 (by dsimp only; omega), cells_far2 (b := W.heap.size + 1 + 1) x1 (by dsimp only; omega), cells_far2 (b := W.heap.size + 1 + 1) x2 (by dsimp only; omega)⟩ | go_keep)
      (first
        | (go_at_call 25
           refine (HNx.out _ HL5.out.drew).mono ?_
           rintro e w' ⟨rfl, rfl⟩))
    all_goals
      go_wp2_with fail
      generalize hw6 : World.setCell _ _ _ = w6
      have g2 : Blk (World.setCell _ ⟨W.heap.size + 2, 0, none⟩ (.slice LA rs.length lc)) (W.heap.size + 2) 49 #[.slice LA rs.length lc, .slice none 0 0] := HD5.out.b3.set_ 0 _
      have g3 : Blk w6 (W.heap.size + 2) 49 #[.slice LA rs.length lc, .slice GA rs.length gc] := by rw [← hw6]; exact g2.set_ 1 _
      have hL6 : LogRep w6 B b (lv) (ps) := by rw [← hw6]; exact (HL5.out.farset HD5.out.b3 (by omega)).farset g2 (by omega)
      have hR6 : RRep w6 B (.slice LA rs.length lc) (.slice GA rs.length gc) (rs) := by rw [← hw6]; exact (HR5.out.farset HD5.out.b3).farset g2
      have hB6 : Below B W w6 := by rw [← hw6]; exact (HBe5.out.setCell (p := ⟨W.heap.size + 1 + 1, 0, none⟩) (by dsimp only; omega) _).setCell (p := ⟨W.heap.size + 1 + 1, 1, none⟩) (by dsimp only; omega) _
      have hK6 : KeepT B W w6 := by rw [← hw6]; exact HKe5.out.after (S := fun k => k = W.heap.size + 2) (Only.setCell (S := fun k => k = W.heap.size + 2) (Only.setCell (S := fun k => k = W.heap.size + 2) (Only.refl _ _) (p := ⟨W.heap.size + 1 + 1, 0, none⟩) (.inl rfl) _) (p := ⟨W.heap.size + 1 + 1, 1, none⟩) (.inl rfl) _) (fun k hk e => by omega)
      have q0 := g3.cell 0 _ rfl
      have q1 := g3.cell 1 _ rfl
      clear hw6 r0 r1 x0 x1
      first
        | exact bodyPost_ret (v := .tuple #[.pointer (some ⟨b, 0, none⟩), .agg #[.slice LA rs.length lc, .slice GA rs.length gc], .bool true]) (by simp [results, Try.results18, go_sem, q0, q1]) rfl ⟨b, lv, .slice LA rs.length lc, .slice GA rs.length gc, ps, rs, rfl, hL6, hR6, HSy.out, HAp3.out, hB6, hK6, HLn.out⟩
        | exact bodyPost_ret (v := .tuple #[.pointer (some ⟨b, 0, none⟩), .agg #[.slice LA rs.length lc, .slice GA rs.length gc], .bool true]) (by simp [results, Try.results18, go_sem, q0, q1]) rfl ⟨b, lv, .slice LA rs.length lc, .slice GA rs.length gc, ps, rs, rfl, hL6.below (Below.refl _ _).drew, hR6.drew, HSy.out, HAp3.out, hB6.drew, hK6, HLn.out⟩

end Go.Proofs.Ytjjhndhigkhkpaa
