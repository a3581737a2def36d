/- The walk of layer 13's Put: a new cell, a free cell. -/
import Derived.Test.YtookfhmghchkjaaSlabF
import Derived.Deep.RegionWith
namespace Go.Proofs.Ytookfhmghchkjaa
open Go Go.RowKit
attribute [local go_sem ↓] Go.wp_at_zero Go.wp_at_succ


set_option maxRecDepth 100000 in
set_option maxHeartbeats 2000000 in
theorem slabPut_new (B b : Nat) (most : Int) (sh : Nat → ShV) (v : Value) (bs : List UInt8) (w : World) (h : SRep w B b most sh) (hs : SSmall sh) (hv : Bts w B 5 v bs) (hl : bs.length ≤ 65536) (k : Nat) (hck : classN bs.length = k) (hfr : (sh k).fr = []) (hroom : (allN sh 13 : Int) + (csize k : Int) ≤ most) :
    Calls Try.prog 15 #[.pointer (some ⟨b, 0, none⟩), v] w fun e w' => e = .returned (.tuple #[.agg #[.int .i64 k, .int .i64 (sh k).cs.length], .int .i64 0]) ∧
      ∃ cv' v', SRep w' B b most (upd sh k ⟨cv', (sh k).fv, (sh k).cs ++ [⟨bs, v', true⟩], (sh k).fr⟩) ∧ Only (slabFp b sh) w w' ∧ (∀ g, cv'.ownBlock = some g → (sh k).cv.ownBlock = some g ∨ w.heap.size ≤ g) ∧ (∀ g, v'.ownBlock = some g → w.heap.size ≤ g) := by
  obtain ⟨A, cap, rfl⟩ := hv.form
  have hk : k < 13 := by have := classN_le hl; omega
  have hkI : (k : Int) < 13 := by omega
  have hk0 : ¬ (k : Int) < 0 := by omega
  have HR := Lib.hid h
  have HV := Lib.hid hv
  have HSm := Lib.hid hs
  have HFr := Lib.hid hfr
  clear h hv hs
  obtain ⟨wa, hwa⟩ : ∃ wa, w.alloc (.cells #[.int .i64 0, .int .i64 0] 38) = wa := ⟨_, rfl⟩
  have hba : Below w.heap.size w wa := hwa ▸ (Below.refl _ _).alloc (Nat.le_refl _) _
  have hbx : Blk wa w.heap.size 38 #[.int .i64 0, .int .i64 0] := hwa ▸ Blk.new _ _ _
  have HRa := Lib.hid (HR.out.below hba)
  have HVa := Lib.hid (HV.out.below hba)
  have HBa := Lib.hid hba
  have HBx := Lib.hid hbx
  have y0 : wa.cell? ⟨w.heap.size, 0, none⟩ = some (.int .i64 0) := hbx.cell 0 _ rfl
  have y1 : wa.cell? ⟨w.heap.size, 1, none⟩ = some (.int .i64 0) := hbx.cell 1 _ rfl
  have yf := hbx.frozen
  have yl := hbx.lt
  clear hba hbx
  go_enter Try.func15, Try.ntmps15
  go_upto_region 1 with fail
  try rw [hwa]
  clear hwa
  go_wp2_with fail
  refine HRa.out.zero.mono ?_
  rintro e w' ⟨rfl, hw⟩
  subst hw
  go_wp2_with fail
  refine (slabClass_ok bs.length hl _).mono ?_
  rw [hck]
  rintro e w' ⟨rfl, hw⟩
  subst hw
  have x0 := HRa.out.cv hk
  have x1 := HRa.out.fv hk
  obtain ⟨CA, cc, hcv, hc1, _⟩ := own_form (HRa.out.cells k hk)
  obtain ⟨FA, fc, hfv, hf1, _⟩ := own_form (HRa.out.free k hk)
  rw [hcv] at x0
  rw [hfv, hfr] at x1
  have HCv := Lib.hid hcv
  have hle := HSm.out.cs k hk
  clear hcv hfv hc1 hf1 hfr
  go_wp2_with fail
  refine (slabUsed_any B b most sh _ HRa.out HSm.out).mono ?_
  rintro e w2 ⟨rfl, hb2⟩
  have HR2 := Lib.hid (HRa.out.below hb2)
  have HB2 := Lib.hid (HBa.out.trans (hb2.mono HBa.out.size))
  have HV2 := Lib.hid (HVa.out.below hb2)
  have hbx2 := HBx.out.below hb2
  have x2 : w2.cell? ⟨b, 1, none⟩ = some (.int .i64 most) := HR2.out.blk.cell 1 _ rfl
  have hal := allN_bound HSm.out (m := 13) (by omega)
  have hcs := csize_le hk
  have HBx2 := Lib.hid hbx2
  clear hb2 hbx2 x0 x1 y0 y1 yf yl
  go_wp2_with fail
  go_quiet ((go_at_call 28; refine Calls.quiet_of_same (slabsize_any k hk _)))
  have hbq : Below w2.heap.size w2 (w2.drewN nq) := ⟨rfl, rfl, rfl, Nat.le_refl _, fun _ _ => rfl⟩
  have HBx3 := Lib.hid (HBx2.out.below hbq)
  have HB3 := Lib.hid (HB2.out.trans (hbq.mono HB2.out.size))
  have HR3 := Lib.hid (HR2.out.below hbq)
  have HV3 := Lib.hid (HV2.out.below hbq)
  clear x2 hbq
  generalize w2.drewN nq = w3 at HBx3 HB3 HR3 HV3 ⊢
  have x0 := HR3.out.cv hk
  rw [HCv.out] at x0
  have hzb := HR3.out.blk.lt
  have hRow := HR3.out.cells k hk
  rw [HCv.out] at hRow
  have HRow := Lib.hid hRow
  have hnb : (Value.slice CA (sh k).cs.length cc).ownBlock ≠ some b := by
    have := HR3.out.notC hk
    rw [HCv.out] at this
    exact this
  have HNb := Lib.hid hnb
  obtain ⟨i0, hi0, hi1, hi2, hi3⟩ := info_parts cell_info
  have HSrc : Hid (Src (w3.alloc (.cells #[.slice none 0 0, .bool false] 78)) 2 (some ⟨w3.heap.size, 0, none⟩) 1 [.slice none 0 0, .bool false]) := Lib.hid (src_blockS (heap_alloc_new w3 (.cells #[.slice none 0 0, .bool false] 78)) rfl)
  clear hRow hnb
  go_wp2_with (at_builtin; refine wpList_append_src _ rfl _ _ _ rfl B 78 i0 _ 2 32 Try.underlying59 hi0 hi1 hi2 hi3 rfl (by decide) (.slice CA (sh k).cs.length cc) (sh k).cs.length (ccs (sh k).cs) rfl (HRow.out.alloc (.cells #[.slice none 0 0, .bool false] 78)) (some ⟨w3.heap.size, 0, none⟩) 1 1 [.slice none 0 0, .bool false] rfl HSrc.out (fun u hu => by simp at hu; rcases hu with rfl | rfl <;> rfl) (by unfold maxLen; omega) (by omega) (by have := HR3.out.base; simp; omega) ?_; intro v4 w4 hown4 hg4 hat4; have bb := (HR3.out.blk.alloc (.cells #[.slice none 0 0, .bool false] 78)).grown hg4 (fun e => HNb.out e.symm); obtain ⟨A4, c4, rfl, hx1, hx2⟩ := own_form hown4; clear hx1 hx2; have q6 := bb.frozen; have q5 := bb.cell _ _ (acells_c most sh hk); have q7 := bb.lt; have HOwn4 := Lib.hid hown4; have HGr4 := Lib.hid hg4; have HAt4 := Lib.hid hat4; clear bb hown4 hg4 hat4)
  have hon : Only (fun j => (sh k).cv.ownBlock = some j) w3 w4 := by
    rw [HCv.out]
    exact ((Only.refl _ w3).alloc _).trans (Only.of_grown HGr4.out) (fun _ _ h => h)
  have hfp : ∀ j, slabFp b sh j → j < w.heap.size := fun j hj => (HR.out.fp_lt hj).2
  have HFp := Lib.hid hfp
  have hkb := HR3.out.keepB (hon.mono (fun i _ e => fp_c hk e))
  have hat : ∀ g, (Value.slice A4 ((sh k).cs.length + 1) c4).ownBlock = some g → (sh k).cv.ownBlock = some g ∨ w3.heap.size ≤ g := fun g e => by
    rw [HCv.out]
    rcases HAt4.out with e2 | e2
    · left; rw [← e2]; exact e
    · right
      rw [e2] at e
      injection e with e
      simp at e
      omega
  have h5 := HR3.out.celled hk (W3 := w4) (.slice A4 ((sh k).cs.length + 1) c4) ((sh k).cs ++ [cel0]) (by rw [List.length_append, ccs_append]; exact HOwn4.out) hon hat (fun c hc => by
    rcases List.mem_append.1 hc with hc | hc
    · exact (HR3.out.vals k hk c hc).keep hkb
    · simp at hc; subst hc; exact Bts.nil _ _ _)
  have HR5 := Lib.hid h5.1
  have HO5 : Hid (Only (slabFp b sh) w (w4.setCell ⟨b, 2 + k * 2, none⟩ (.slice A4 ((sh k).cs.length + 1) c4))) := Lib.hid ((Only.of_below HB3.out).trans (h5.2.mono (T := slabFp b sh) (fun i _ e => Or.elim e (fun e => .inl e) (fun e => fp_c hk e))) (fun _ _ h => h))
  have HV5 := Lib.hid (HV3.out.keep (HR3.out.keepB (h5.2.mono (T := slabFp b sh) (fun i _ e => Or.elim e (fun e => .inl e) (fun e => fp_c hk e)))))
  have HBx5 := Lib.hid (HBx3.out.only h5.2 (fun e => by
    rcases e with e | e
    · have := hfp b (.inl rfl); omega
    · have := hfp _ (fp_c hk e); omega))
  have HAt5 := Lib.hid (fun g e => (hat g e).imp (fun h => h) (fun h => Nat.le_trans HB3.out.size h))
  obtain ⟨g4, c5, e4, _, _⟩ := HOwn4.out.form (by omega)
  injection e4 with e4 el e5
  subst e4 e5
  clear el
  clear hon hfp hkb hat h5 q5 q6 q7 HOwn4 HGr4 HAt4 x0 HSrc
  generalize w4.setCell ⟨b, 2 + k * 2, none⟩ (Value.slice (some ⟨g4, 0, none⟩) ((sh k).cs.length + 1) c4) = w5 at HR5 HO5 HV5 HBx5 ⊢
  have HSh : Hid (upd sh k ⟨.slice (some ⟨g4, 0, none⟩) ((sh k).cs.length + 1) c4, (sh k).fv, (sh k).cs ++ [cel0], (sh k).fr⟩ k = ⟨.slice (some ⟨g4, 0, none⟩) ((sh k).cs.length + 1) c4, (sh k).fv, (sh k).cs ++ [cel0], (sh k).fr⟩) := Lib.hid (upd_same _ _ _)
  have x0 := HR5.out.cv hk
  rw [HSh.out] at x0
  dsimp only at x0
  have hn5 : ((sh k).cs ++ [cel0])[(sh k).cs.length]? = some cel0 := by simp
  have HN5 := Lib.hid hn5
  have hL5 : ((sh k).cs ++ [cel0]).length = (sh k).cs.length + 1 := by simp
  have HL5 := Lib.hid hL5
  have hnI : ((sh k).cs.length : Int) < ((sh k).cs.length : Int) + 1 := by omega
  clear hn5 hL5
  go_region_with
    ((go_at_call 32
      go_loud
      (refine (bytesClone_any B _ bs _ HV5.out.drew (by omega)).mono ?_
       rintro e w6 ⟨v6, rfl, hown6, hb6⟩
       obtain ⟨A6, c6, rfl, hx1, hx2⟩ := own_form hown6
       have hb6' : Below w5.heap.size w5 w6 := below_drew hb6
       have HR6 := Lib.hid (HR5.out.below hb6')
       have HBx6 := Lib.hid (HBx5.out.below hb6')
       have HO6 := Lib.hid (HO5.out.trans (T := fun _ => False) (Only.of_below hb6') (fun _ _ h => h.elim))
       have HW6 : Hid (w6.ownsRow w5.heap.size 5 1 (.slice A6 bs.length c6) bs.length (bcells bs)) := Lib.hid hown6
       have x0 : w6.cell? ⟨b, 2 + k * 2, none⟩ = some (.slice (some ⟨g4, 0, none⟩) ((sh k).cs.length + 1) c4) := by
         have h1 := HR6.out.cv hk
         rw [HSh.out] at h1
         exact h1
       have hd6 := HR6.out.at_ hk (by rw [HSh.out]; exact HN5.out)
       rw [HSh.out] at hd6
       dsimp only at hd6
       obtain ⟨g6, cap6, e6, hg6, hle6, d0, d1, _⟩ := hd6
       injection e6 with e6 el e7
       injection e6 with e6
       injection e6 with e6
       subst e6 e7
       clear el
       have hf6 : ∀ j, w6.frozen? ⟨g4, j, none⟩ = false := fun j => by
         have h3 := HR6.out.cells k hk
         rw [HSh.out] at h3; dsimp only at h3; rw [HL5.out] at h3
         exact h3.frozenAt j
       have hcI : (((sh k).cs.length : Nat) : Int) + 1 ≤ (c4 : Int) := by rw [HL5.out] at hle6; omega
       clear hx1 hx2 hb6 hb6' hown6)))
  all_goals
    have hset := HR6.out.cellset hk (g := g4) (cap := c4) (n := (sh k).cs.length) (by rw [HSh.out]; dsimp only; rw [HL5.out]) (by rw [HSh.out]; dsimp only; rw [HL5.out]; omega) ⟨bs, .slice A6 bs.length c6, true⟩ (Bts.of_own HW6.out B)
    rw [HSh.out, upd_upd] at hset
    dsimp only at hset
    have hlast : ((sh k).cs ++ [cel0]).set (sh k).cs.length ⟨bs, .slice A6 bs.length c6, true⟩ = (sh k).cs ++ [⟨bs, .slice A6 bs.length c6, true⟩] := by
      rw [List.set_append_right _ _ (Nat.le_refl _)]; simp
    rw [hlast] at hset
    have hne : w.heap.size ≠ g4 := by
      obtain ⟨_, cur, h2⟩ := row_blockS (HR6.out.cells k hk) (k := g4) (by rw [HSh.out]; rfl)
      exact HBx6.out.ne_ h2 (by decide)
    have HO7 := Lib.hid (HO6.out.trans hset.2 (fun i hi e => by
      rcases HAt5.out g4 rfl with h | h
      · rw [e]; exact fp_c hk h
      · omega))
    have HR7 := Lib.hid hset.1
    have HBx7 := Lib.hid (HBx6.out.only hset.2 hne)
    have HWf := Lib.hid (fun g (hg : (Value.slice A6 bs.length c6).ownBlock = some g) => Nat.le_trans (Nat.le_trans HO5.out.size (row_blockS HW6.out hg).1) (Nat.le_refl _))
    clear hset hlast hne d0 d1 hf6 x0
    generalize (w6.setCell ⟨g4, (sh k).cs.length * 2, none⟩ (Value.slice A6 bs.length c6)).setCell ⟨g4, (sh k).cs.length * 2 + 1, none⟩ (Value.bool true) = w7 at HO7 HR7 HBx7 ⊢
    have yf := HBx7.out.frozen
    have yl := HBx7.out.lt
    have y0 : w7.cell? ⟨w.heap.size, 0, none⟩ = some (.int .i64 0) := HBx7.out.cell 0 _ rfl
    have y1 : w7.cell? ⟨w.heap.size, 1, none⟩ = some (.int .i64 0) := HBx7.out.cell 1 _ rfl
    go_wp2_with fail
    have g2 := HBx7.out.set_ 0 (.int .i64 k)
    have g3 := g2.set_ 1 (.int .i64 (sh k).cs.length)
    have q0 := g3.cell 0 _ rfl
    have q1 := g3.cell 1 _ rfl
    have hBw : B ≤ w.heap.size := Nat.le_trans HR.out.base (Nat.le_of_lt HR.out.blk.lt)
    exact bodyPost_ret (v := .tuple #[.agg #[.int .i64 k, .int .i64 (sh k).cs.length], .int .i64 0]) (by simp [results, Try.results15, go_sem, q0, q1]) rfl
      ⟨rfl, _, _, (HR7.out.farset hBw HBx7.out).farset hBw g2, (HO7.out.setCell (p := ⟨w.heap.size, 0, none⟩) (.inr (Nat.le_refl _)) _).setCell (p := ⟨w.heap.size, 1, none⟩) (.inr (Nat.le_refl _)) _, HAt5.out, HWf.out⟩

end Go.Proofs.Ytookfhmghchkjaa
