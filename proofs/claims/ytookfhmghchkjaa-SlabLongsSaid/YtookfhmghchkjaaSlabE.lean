/- The walks of layer 13's functions: Get, Free. -/
import Derived.Test.YtookfhmghchkjaaSlabD
import Derived.Test.YtookfhmghchkjaaClone
namespace Go.Proofs.Ytookfhmghchkjaa
open Go Go.RowKit
attribute [local go_sem ↓] Go.wp_at_zero Go.wp_at_succ

theorem int_info : (Try.prog.info? 3).map (fun i => (i.zero, i.size, i.bytes)) = some (some (.int .i64 0), 1, 8) := by kernel_rfl
theorem cell_info : (Try.prog.info? 78).map (fun i => (i.zero, i.size, i.bytes)) = some (some (.agg #[.slice none 0 0, .bool false]), 2, 32) := by kernel_rfl


set_option maxRecDepth 100000 in
set_option maxHeartbeats 1000000 in
theorem slabGet_none (B b : Nat) (most : Int) (sh : Nat → ShV) (K N : Int) (w : World) (h : SRep w B b most sh) (hn : hasC sh K N = none) :
    Calls Try.prog 34 #[.pointer (some ⟨b, 0, none⟩), .agg #[.int .i64 K, .int .i64 N]] w fun e w' => e = .returned (.tuple #[.slice none 0 0, .int .i64 9]) ∧ Below w.heap.size w w' := by
  have HR := Lib.hid h
  have HN := Lib.hid hn
  clear h hn
  obtain ⟨wa, hwa⟩ : ∃ wa, w.alloc (.cells #[.int .i64 K, .int .i64 N] 38) = wa := ⟨_, rfl⟩
  have hba : Below w.heap.size w wa := hwa ▸ (Below.refl _ _).alloc (Nat.le_refl _) _
  have hbx : Blk wa w.heap.size 38 #[.int .i64 K, .int .i64 N] := hwa ▸ Blk.new _ _ _
  have HRa := Lib.hid (HR.out.below hba)
  have y0 : wa.cell? ⟨w.heap.size, 0, none⟩ = some (.int .i64 K) := hbx.cell 0 _ rfl
  have y1 : wa.cell? ⟨w.heap.size, 1, none⟩ = some (.int .i64 N) := hbx.cell 1 _ rfl
  have HBa := Lib.hid hba
  have HBx := Lib.hid hbx
  clear hba hbx
  go_enter Try.func34, Try.ntmps34
  go_upto_region 1 with fail
  try rw [hwa]
  clear hwa
  go_wp2_with fail
  refine (slabat_none B b most sh K N _ HRa.out HN.out).mono ?_
  rintro e w1 ⟨rfl, hb1⟩
  have HB1 := Lib.hid (HBa.out.trans (hb1.mono HBa.out.size))
  clear hb1
  go_wp2_with fail
  go_ret2
  exact ⟨rfl, HB1.out⟩

set_option maxRecDepth 100000 in
set_option maxHeartbeats 1000000 in
theorem slabGet_ok (B b : Nat) (most : Int) (sh : Nat → ShV) (k n : Nat) (c : CelV) (w : World) (h : SRep w B b most sh) (hk : k < 13) (hc : (sh k).cs[n]? = some c) (hu : c.used = true) (hl : c.bs.length ≤ 65536) :
    Calls Try.prog 34 #[.pointer (some ⟨b, 0, none⟩), .agg #[.int .i64 k, .int .i64 n]] w fun e w' => ∃ v, e = .returned (.tuple #[v, .int .i64 0]) ∧ w'.ownsRow w.heap.size 5 1 v c.bs.length (bcells c.bs) ∧ Below w.heap.size w w' := by
  have HR := Lib.hid h
  have HC := Lib.hid hc
  have HU := Lib.hid hu
  have HL := Lib.hid hl
  clear h hc hu hl
  obtain ⟨wa, hwa⟩ : ∃ wa, w.alloc (.cells #[.int .i64 k, .int .i64 n] 38) = wa := ⟨_, rfl⟩
  have hba : Below w.heap.size w wa := hwa ▸ (Below.refl _ _).alloc (Nat.le_refl _) _
  have hbx : Blk wa w.heap.size 38 #[.int .i64 k, .int .i64 n] := hwa ▸ Blk.new _ _ _
  have HRa := Lib.hid (HR.out.below hba)
  have y0 : wa.cell? ⟨w.heap.size, 0, none⟩ = some (.int .i64 k) := hbx.cell 0 _ rfl
  have y1 : wa.cell? ⟨w.heap.size, 1, none⟩ = some (.int .i64 n) := hbx.cell 1 _ rfl
  have HBa := Lib.hid hba
  have HBx := Lib.hid hbx
  clear hba hbx
  go_enter Try.func34, Try.ntmps34
  go_upto_region 1 with fail
  try rw [hwa]
  clear hwa
  go_wp2_with fail
  obtain ⟨g, cap, hcv, _⟩ := HRa.out.at_ hk HC.out
  refine (slabat_ok B b most sh k n c _ HRa.out hk HC.out HU.out g cap hcv).mono ?_
  rintro e w1 ⟨rfl, hb1⟩
  have HR1 := Lib.hid (HRa.out.below hb1)
  have HB1 := Lib.hid (HBa.out.trans (hb1.mono HBa.out.size))
  obtain ⟨g', cap', e, hg, _, c0, c1, _⟩ := HR1.out.at_ hk HC.out
  rw [hcv] at e
  injection e with e1 _ e3
  injection e1 with e1
  injection e1 with e1
  subst e1 e3
  obtain ⟨VA, vc, hv⟩ := (HR1.out.vals k hk c (List.mem_of_getElem? HC.out)).form
  rw [hv] at c0
  have HV := Lib.hid (hv ▸ HR1.out.vals k hk c (List.mem_of_getElem? HC.out) : Bts w1 B 5 (.slice VA c.bs.length vc) c.bs)
  clear hb1 hcv hv
  go_wp2_with fail
  refine (bytesClone_any B _ c.bs _ HV.out (by have := HL.out; omega)).mono ?_
  rintro e w2 ⟨v, rfl, hown, hb2⟩
  have HO := Lib.hid (ownsRow_base hown HB1.out.size)
  have HB2 := Lib.hid (HB1.out.trans (hb2.mono HB1.out.size))
  clear hown hb2
  go_wp2_with fail
  go_ret2
  exact ⟨_, rfl, HO.out, HB2.out⟩

set_option maxRecDepth 100000 in
set_option maxHeartbeats 1000000 in
theorem slabFree_none (B b : Nat) (most : Int) (sh : Nat → ShV) (K N : Int) (w : World) (h : SRep w B b most sh) (hn : hasC sh K N = none) :
    Calls Try.prog 16 #[.pointer (some ⟨b, 0, none⟩), .agg #[.int .i64 K, .int .i64 N]] w fun e w' => e = .returned (.int .i64 9) ∧ Below w.heap.size w w' := by
  have HR := Lib.hid h
  have HN := Lib.hid hn
  clear h hn
  obtain ⟨wa, hwa⟩ : ∃ wa, w.alloc (.cells #[.int .i64 K, .int .i64 N] 38) = wa := ⟨_, rfl⟩
  have hba : Below w.heap.size w wa := hwa ▸ (Below.refl _ _).alloc (Nat.le_refl _) _
  have hbx : Blk wa w.heap.size 38 #[.int .i64 K, .int .i64 N] := hwa ▸ Blk.new _ _ _
  have HRa := Lib.hid (HR.out.below hba)
  have y0 : wa.cell? ⟨w.heap.size, 0, none⟩ = some (.int .i64 K) := hbx.cell 0 _ rfl
  have y1 : wa.cell? ⟨w.heap.size, 1, none⟩ = some (.int .i64 N) := hbx.cell 1 _ rfl
  have HBa := Lib.hid hba
  have HBx := Lib.hid hbx
  clear hba hbx
  go_enter Try.func16, Try.ntmps16
  go_upto_region 1 with fail
  try rw [hwa]
  clear hwa
  go_wp2_with fail
  refine (slabat_none B b most sh K N _ HRa.out HN.out).mono ?_
  rintro e w1 ⟨rfl, hb1⟩
  have HB1 := Lib.hid (HBa.out.trans (hb1.mono HBa.out.size))
  clear hb1
  go_wp2_with fail
  go_ret
  exact ⟨rfl, HB1.out⟩

/-- A freed cell. -/
def cel0 : CelV := ⟨[], .slice none 0 0, false⟩

set_option maxRecDepth 100000 in
set_option maxHeartbeats 2000000 in
theorem slabFree_ok (B b : Nat) (most : Int) (sh : Nat → ShV) (k n : Nat) (c : CelV) (w : World) (h : SRep w B b most sh) (hk : k < 13) (hc : (sh k).cs[n]? = some c) (hu : c.used = true) (hl : (sh k).fr.length ≤ 1000) :
    Calls Try.prog 16 #[.pointer (some ⟨b, 0, none⟩), .agg #[.int .i64 k, .int .i64 n]] w fun e w' => e = .returned (.int .i64 0) ∧
      ∃ fv', SRep w' B b most (upd sh k ⟨(sh k).cv, fv', (sh k).cs.set n cel0, (sh k).fr ++ [n]⟩) ∧ Only (slabFp b sh) w w' ∧ (∀ g, fv'.ownBlock = some g → (sh k).fv.ownBlock = some g ∨ w.heap.size ≤ g) := by
  have HR := Lib.hid h
  have HC := Lib.hid hc
  have HU := Lib.hid hu
  have HL := Lib.hid hl
  obtain ⟨hnl, _⟩ := List.getElem?_eq_some_iff.1 hc
  clear h hc hu hl
  obtain ⟨wa, hwa⟩ : ∃ wa, w.alloc (.cells #[.int .i64 k, .int .i64 n] 38) = wa := ⟨_, rfl⟩
  have hba : Below w.heap.size w wa := hwa ▸ (Below.refl _ _).alloc (Nat.le_refl _) _
  have hbx : Blk wa w.heap.size 38 #[.int .i64 k, .int .i64 n] := hwa ▸ Blk.new _ _ _
  have HRa := Lib.hid (HR.out.below hba)
  have y0 : wa.cell? ⟨w.heap.size, 0, none⟩ = some (.int .i64 k) := hbx.cell 0 _ rfl
  have y1 : wa.cell? ⟨w.heap.size, 1, none⟩ = some (.int .i64 n) := hbx.cell 1 _ rfl
  have HBa := Lib.hid hba
  have HBx := Lib.hid hbx
  clear hba hbx
  go_enter Try.func16, Try.ntmps16
  go_upto_region 1 with fail
  try rw [hwa]
  clear hwa
  go_wp2_with fail
  obtain ⟨g, cap, hcv, _⟩ := HRa.out.at_ hk HC.out
  refine (slabat_ok B b most sh k n c _ HRa.out hk HC.out HU.out g cap hcv).mono ?_
  rintro e w1 ⟨rfl, hb1⟩
  have HR1 := Lib.hid (HRa.out.below hb1)
  have HB1 := Lib.hid (HBa.out.trans (hb1.mono HBa.out.size))
  have HBx1 := Lib.hid (HBx.out.below hb1)
  obtain ⟨g', cap', e, hg, _, c0, c1, _⟩ := HR1.out.at_ hk HC.out
  rw [hcv] at e
  injection e with e1 _ e3
  injection e1 with e1
  injection e1 with e1
  subst e1 e3
  obtain ⟨VA, vc, hv⟩ := (HR1.out.vals k hk c (List.mem_of_getElem? HC.out)).form
  rw [hv] at c0
  have hset := HR1.out.cellset hk hcv hnl cel0 (Bts.nil _ _ _)
  have HR2 : Hid (SRep ((w1.setCell ⟨g, n * 2, none⟩ (.slice none 0 0)).setCell ⟨g, n * 2 + 1, none⟩ (.bool false)) B b most (upd sh k ⟨(sh k).cv, (sh k).fv, (sh k).cs.set n cel0, (sh k).fr⟩)) := Lib.hid hset.1
  have HO2 : Hid (Only (fun j => j = g) w1 ((w1.setCell ⟨g, n * 2, none⟩ (.slice none 0 0)).setCell ⟨g, n * 2 + 1, none⟩ (.bool false))) := Lib.hid hset.2
  have hf0 : ∀ j, w1.frozen? ⟨g, j, none⟩ = false := fun j => by
    have h3 := HR1.out.cells k hk
    rw [hcv] at h3
    exact h3.frozenAt j
  have hgx : g ≠ w.heap.size := fun e => by
    obtain ⟨_, cur, h2⟩ := row_blockS (HR1.out.cells k hk) (k := g) (by rw [hcv]; rfl)
    exact (HBx1.out.ne_ h2 (by decide)) e.symm
  have HGX := Lib.hid hgx
  have HCV := Lib.hid hcv
  have hkI : (k : Int) < 13 := by omega
  have hk0 : (0 : Int) ≤ (k : Int) := Int.natCast_nonneg _
  clear hb1 hcv hv hset y0 y1 hgx
  go_upto_region 5 with fail
  generalize (w1.setCell ⟨g, n * 2, none⟩ (Value.slice none 0 0)).setCell ⟨g, n * 2 + 1, none⟩ (Value.bool false) = w2 at HR2 HO2 ⊢
  have hbx2 := HBx1.out.only HO2.out (fun e => HGX.out e.symm)
  have y0 : w2.cell? ⟨w.heap.size, 0, none⟩ = some (.int .i64 k) := hbx2.cell 0 _ rfl
  have y1 : w2.cell? ⟨w.heap.size, 1, none⟩ = some (.int .i64 n) := hbx2.cell 1 _ rfl
  have HBx2 := Lib.hid hbx2
  clear hbx2 c0 c1 hf0
  go_quiet (fail)
  have hR3 := HR2.out.below (⟨rfl, rfl, rfl, Nat.le_refl _, fun _ _ => rfl⟩ : Below w2.heap.size w2 (w2.drewN nq))
  have hO3 : Only (fun j => j = g) w1 (w2.drewN nq) := HO2.out.trans (T := fun _ => False) (Only.of_below (⟨rfl, rfl, rfl, Nat.le_refl _, fun _ _ => rfl⟩ : Below w2.heap.size w2 (w2.drewN nq))) (fun _ _ h => h.elim)
  have y1 : (w2.drewN nq).cell? ⟨w.heap.size, 1, none⟩ = some (.int .i64 n) := y1
  have HR3 := Lib.hid hR3
  have HO3 := Lib.hid hO3
  clear hR3 hO3 y0 HR2 HO2 HBx2
  generalize w2.drewN nq = w3 at HR3 HO3 y1 ⊢
  go_upto_region 6 with fail
  obtain ⟨FA, fc, hfv, hf1, _⟩ := own_form (HR3.out.free k hk)
  rw [upd_same] at hfv hf1
  dsimp only at hfv hf1
  have z1 := HR3.out.fv hk
  rw [upd_same] at z1
  dsimp only at z1
  rw [hfv] at z1
  have HRow := HR3.out.free k hk
  rw [upd_same] at HRow
  dsimp only at HRow
  rw [hfv] at HRow
  have HRow := Lib.hid HRow
  have HFv := Lib.hid hfv
  have hzb := HR3.out.blk.lt
  have hzx := block_lt_of_cell y1
  dsimp only at hzx
  obtain ⟨i0, hi0, hi1, hi2, hi3⟩ := info_parts int_info
  have HI := Lib.hid hi0
  have HZ0 := Lib.hid hi1
  have HZ1 := Lib.hid hi2
  have HZ2 := Lib.hid hi3
  clear hi0 hi1 hi2 hi3 hfv hf1
  have hnb : (Value.slice FA (sh k).fr.length fc).ownBlock ≠ some b := by
    have := HR3.out.notF hk
    rw [upd_same] at this
    dsimp only at this
    rw [HFv.out] at this
    exact this
  have HNb := Lib.hid hnb
  clear hnb
  have HSrc : Hid (Src (w3.drew.alloc (.cells #[.int .i64 n] 3)) 1 (some ⟨w3.heap.size, 0, none⟩) 1 [.int .i64 n]) := Lib.hid (src_blockS (heap_alloc_new w3.drew (.cells #[.int .i64 n] 3)) rfl)
  go_region_law
    ((refine step_append_src _ (by rfl) _ _ _ (by rfl) B 3 i0 _ 1 8 Try.underlying60 HI.out HZ0.out HZ1.out HZ2.out rfl (by decide) _ (sh k).fr.length (ics (sh k).fr) (by rfl) (HRow.out.drew.alloc (.cells #[.int .i64 n] 3)) (some ⟨w3.heap.size, 0, none⟩) 1 1 [.int .i64 n] (by rfl) HSrc.out (fun u hu => by simp at hu; subst hu; rfl) (by have := HL.out; unfold maxLen; omega) (by have := HL.out; omega) (by have := HR3.out.base; simp; omega) ?_; intro v4 w4 hown4 hg4 hat4; have bb := ((HR3.out.blk.drew).alloc (.cells #[.int .i64 n] 3)).grown hg4 (fun e => HNb.out e.symm); obtain ⟨A4, c4, rfl, hx1, hx2⟩ := own_form hown4; clear hx1 hx2; have q6 := bb.frozen; have q5 := bb.cell _ _ (acells_f most _ hk); have q7 := bb.lt; have HOwn4 := Lib.hid hown4; have HGr4 := Lib.hid hg4; have HAt4 := Lib.hid hat4; clear bb hown4 hg4 hat4))
  all_goals
    go_wp2
    go_ret
    have hon : Only (fun j => (Value.slice FA (sh k).fr.length fc).ownBlock = some j) w3 w4 := ((Only.refl _ w3).drew.alloc _).trans (Only.of_grown HGr4.out) (fun _ _ h => h)
    have h4 := HR3.out.freed hk (W3 := w4) (.slice A4 ((sh k).fr.length + 1) c4) ((sh k).fr ++ [n]) (by rw [List.length_append, ics_append]; exact HOwn4.out) (by rw [upd_same]; dsimp only; rw [HFv.out]; exact hon) (fun g' e => by
      rw [upd_same]
      dsimp only
      rw [HFv.out]
      rcases HAt4.out with e2 | e2
      · left; rw [← e2]; exact e
      · right
        rw [e2] at e
        injection e with e
        simp at e
        omega)
    rw [upd_same, upd_upd] at h4
    dsimp only at h4
    refine ⟨rfl, _, h4.1, ?_, fun g' e => ?_⟩
    · have h5 : Only (fun j => j = g) w w3 := (Only.of_below (S := fun j => j = g) HB1.out).trans HO3.out (fun _ _ h => h)
      refine h5.mono (T := slabFp b sh) (fun i _ e => by rw [e]; exact fp_c hk (by rw [HCV.out]; rfl)) |>.trans h4.2 (fun i _ e => ?_)
      rcases e with e | e
      · exact .inl e
      · exact fp_f hk e
    · rw [HFv.out]
      rcases HAt4.out with e2 | e2
      · left; rw [← e2]; exact e
      · right
        rw [e2] at e
        injection e with e
        have h1 := HB1.out.size
        have h2 := HO3.out.size
        simp at e
        omega

end Go.Proofs.Ytookfhmghchkjaa
