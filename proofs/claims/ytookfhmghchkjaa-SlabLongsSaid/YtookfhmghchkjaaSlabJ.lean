/- The walks of layer 13's Swap into another cell, and of Frees. -/
import Derived.Test.YtookfhmghchkjaaSlabI
import Derived.Test.YtookfhmghchkjaaInts
namespace Go.Proofs.Ytookfhmghchkjaa
open Go Go.RowKit
attribute [local go_sem ↓] Go.wp_at_zero Go.wp_at_succ

theorem fp_upd {b m : Nat} {sh : Nat → ShV} {k : Nat} {s : ShV} (hk : k < 13) (hc : ∀ g, s.cv.ownBlock = some g → (sh k).cv.ownBlock = some g ∨ m ≤ g) (hf : ∀ g, s.fv.ownBlock = some g → (sh k).fv.ownBlock = some g ∨ m ≤ g) {j : Nat} (h : slabFp b (upd sh k s) j) : slabFp b sh j ∨ m ≤ j := by
  rcases h with rfl | ⟨i, hi, h⟩
  · exact .inl (.inl rfl)
  · by_cases e : i = k
    · subst e
      rw [upd_same] at h
      rcases h with h | h
      · rcases hc j h with h | h
        · exact .inl (fp_c hi h)
        · exact .inr h
      · rcases hf j h with h | h
        · exact .inl (fp_f hi h)
        · exact .inr h
    · rw [upd_other sh s e] at h
      exact .inl (.inr ⟨i, hi, h⟩)

set_option maxRecDepth 100000 in
set_option maxHeartbeats 2000000 in
theorem slabSwap_out (B b : Nat) (most : Int) (sh : Nat → ShV) (k n : Nat) (c : CelV) (v : Value) (bs : List UInt8) (w : World) (h : SRep w B b most sh) (hs : SSmall sh) (hk : k < 13) (hc : (sh k).cs[n]? = some c) (hu : c.used = true) (hv : Bts w B 5 v bs) (hl : bs.length ≤ 65536) (k2 : Nat) (hck : classN bs.length = k2) (hne : k2 ≠ k) (hok : PutOk most sh k2) :
    Calls Try.prog 17 #[.pointer (some ⟨b, 0, none⟩), .agg #[.int .i64 k, .int .i64 n], v] w fun e w' => ∃ (n2 : Nat) (s2 : ShV) (fv' : Value), e = .returned (.tuple #[.agg #[.int .i64 k2, .int .i64 n2], .int .i64 0]) ∧
      SRep w' B b most (upd (upd sh k2 s2) k ⟨(sh k).cv, fv', (sh k).cs.set n cel0, (sh k).fr ++ [n]⟩) ∧ PutS w (sh k2) bs n2 s2 ∧ Only (slabFp b sh) w w' ∧
      (∀ g, s2.cv.ownBlock = some g → (sh k2).cv.ownBlock = some g ∨ w.heap.size ≤ g) ∧ (∀ g, s2.fv.ownBlock = some g → (sh k2).fv.ownBlock = some g) ∧ (∀ g, fv'.ownBlock = some g → (sh k).fv.ownBlock = some g ∨ w.heap.size ≤ g) := by
  obtain ⟨A, cap, rfl⟩ := hv.form
  have hk2 : k2 < 13 := by have := classN_le hl; omega
  have hneI : ¬ ((k2 : Nat) : Int) = (k : Int) := by omega
  have hPut := fun w' (h' : SRep w' B b most sh) (hv' : Bts w' B 5 (.slice A bs.length cap) bs) => slabPut_ok B b most sh (.slice A bs.length cap) bs w' h' hs hv' hl k2 hck hok
  have hfl : (sh k).fr.length ≤ 1000 := by have := hs.fr k hk; have := hs.cs k hk; omega
  have HR := Lib.hid h
  have HV := Lib.hid hv
  have HC := Lib.hid hc
  have HU := Lib.hid hu
  have HPut := Lib.hid hPut
  clear h hv hc hu hPut hs hok
  obtain ⟨wa, hwa⟩ : ∃ wa, (w.alloc (.cells #[.int .i64 k, .int .i64 n] 38)).alloc (.cells #[.int .i64 0, .int .i64 0] 38) = wa := ⟨_, rfl⟩
  have hba : Below w.heap.size w wa := hwa ▸ ((Below.refl _ _).alloc (Nat.le_refl _) _).alloc (by simp) _
  have hbc : Blk wa w.heap.size 38 #[.int .i64 k, .int .i64 n] := hwa ▸ (Blk.new _ _ _).alloc _
  have hbr : Blk wa (w.heap.size + 1) 38 #[.int .i64 0, .int .i64 0] := hwa ▸ Blk.new2 _ _ _ _
  have HRa := Lib.hid (HR.out.below hba)
  have HVa := Lib.hid (HV.out.below hba)
  have HBa := Lib.hid hba
  have HBc := Lib.hid hbc
  have HBr := Lib.hid hbr
  have y0 : wa.cell? ⟨w.heap.size, 0, none⟩ = some (.int .i64 k) := hbc.cell 0 _ rfl
  have y1 : wa.cell? ⟨w.heap.size, 1, none⟩ = some (.int .i64 n) := hbc.cell 1 _ rfl
  clear hba hbc hbr
  go_enter Try.func17, Try.ntmps17
  go_upto_region 1 with fail
  try rw [hwa]
  clear hwa
  go_wp2_with fail
  obtain ⟨g, cap', hcv, _⟩ := HRa.out.at_ hk HC.out
  refine (slabat_ok B b most sh k n c _ HRa.out hk HC.out HU.out g cap' hcv).mono ?_
  rintro e w1 ⟨rfl, hb1⟩
  have HR1 := Lib.hid (HRa.out.below hb1)
  have HV1 := Lib.hid (HVa.out.below hb1)
  have HB1 := Lib.hid (HBa.out.trans (hb1.mono HBa.out.size))
  have HBr1 := Lib.hid (HBr.out.below hb1)
  have HBc1 := Lib.hid (HBc.out.below hb1)
  clear hb1 y0 y1 hcv
  have y0 : w1.cell? ⟨w.heap.size, 0, none⟩ = some (.int .i64 k) := HBc1.out.cell 0 _ rfl
  go_wp2_with fail
  refine (slabClass_ok bs.length hl _).mono ?_
  rw [hck]
  rintro e w' ⟨rfl, hw⟩
  subst hw
  go_wp2_with fail
  refine (HPut.out _ HR1.out HV1.out).mono ?_
  rintro e w2 ⟨n2, s2, rfl, hr2, hp2, ho2, hcn2, hfn2⟩
  have hfp : ∀ j, slabFp b sh j → j < w.heap.size := fun j hj => (HR.out.fp_lt hj).2
  have hba := (Below.refl w2.heap.size w2).alloc (Nat.le_refl _) (.cells #[.int .i64 k2, .int .i64 n2] 38)
  have HR2 := Lib.hid (hr2.below hba)
  have HP2 := Lib.hid (show PutS w (sh k2) bs n2 s2 by
    obtain ⟨v', h1, h2⟩ := hp2
    exact ⟨v', fun g e => Nat.le_trans HB1.out.size (h1 g e), h2⟩)
  have HBr2 := Lib.hid ((HBr1.out.only ho2 (fun e => by have := hfp _ e; omega)).below hba)
  have HBc2 := Lib.hid ((HBc1.out.only ho2 (fun e => by have := hfp _ e; omega)).below hba)
  have HBo2 : Hid (Blk (w2.alloc (.cells #[.int .i64 k2, .int .i64 n2] 38)) w2.heap.size 38 #[.int .i64 k2, .int .i64 n2]) := Lib.hid (Blk.new _ _ _)
  have HO2 := Lib.hid (((Only.of_below (S := slabFp b sh) HB1.out).trans ho2 (fun _ _ h => h)).trans (T := fun _ => False) (Only.of_below hba) (fun _ _ h => h.elim))
  have HCn := Lib.hid (fun g e => (hcn2 g e).imp (fun h => h) (fun h => Nat.le_trans HB1.out.size h))
  have HFn := Lib.hid hfn2
  have HFp := Lib.hid hfp
  have hz2 : w.heap.size + 1 < w2.heap.size := by have := HBr1.out.lt; have := ho2.size; omega
  clear hr2 hp2 ho2 hcn2 hfn2 hba hfp y0
  go_upto_region 11 with fail
  generalize w2.alloc (.cells #[.int .i64 k2, .int .i64 n2] 38) = w3 at HR2 HBr2 HBc2 HBo2 HO2 ⊢
  have o0 : w3.cell? ⟨w2.heap.size, 0, none⟩ = some (.int .i64 k2) := HBo2.out.cell 0 _ rfl
  have o1 : w3.cell? ⟨w2.heap.size, 1, none⟩ = some (.int .i64 n2) := HBo2.out.cell 1 _ rfl
  have y0 : w3.cell? ⟨w.heap.size, 0, none⟩ = some (.int .i64 k) := HBc2.out.cell 0 _ rfl
  have y1 : w3.cell? ⟨w.heap.size, 1, none⟩ = some (.int .i64 n) := HBc2.out.cell 1 _ rfl
  have HK2 : Hid (upd sh k2 s2 k = sh k) := Lib.hid (upd_other sh s2 (fun e => hne e.symm))
  have HN : Hid (∀ j, slabFp b (upd sh k2 s2) j → slabFp b sh j ∨ w.heap.size ≤ j) := Lib.hid (fun j hj => fp_upd hk2 HCn.out (fun g e => .inl (HFn.out g e)) hj)
  go_region_with
    ((go_at_call 16
      (refine (slabFree_ok B b most _ k n c _ HR2.out.drew hk (by rw [HK2.out]; exact HC.out) HU.out (by rw [HK2.out]; exact hfl)).mono ?_
       rintro e w4 ⟨rfl, fv', hr4, ho4, hfn4⟩
       have HR4 := Lib.hid hr4
       have HO4 := Lib.hid ho4
       have HF4 := Lib.hid hfn4
       have HNr : ∀ j, w.heap.size ≤ j → j ≤ w.heap.size + 1 → ¬ slabFp b (upd sh k2 s2) j := fun j h1 h2 e => by
         have h3 := (HR2.out.fp_lt e).2
         rcases e with e | ⟨i, hi, e⟩
         · have := HFp.out j (.inl e); omega
         · rcases HN.out j (.inr ⟨i, hi, e⟩) with h4 | h4
           · have := HFp.out j h4; omega
           · rcases e with e | e
             · obtain ⟨_, cur, h5⟩ := row_blockS (HR2.out.cells i hi) e
               rcases Nat.lt_or_ge w.heap.size j with h6 | h6
               · obtain rfl : j = w.heap.size + 1 := by omega
                 exact (HBr2.out.ne_ h5 (by decide)) rfl
               · obtain rfl : j = w.heap.size := by omega
                 exact (HBc2.out.ne_ h5 (by decide)) rfl
             · obtain ⟨_, cur, h5⟩ := row_blockS (HR2.out.free i hi) e
               rcases Nat.lt_or_ge w.heap.size j with h6 | h6
               · obtain rfl : j = w.heap.size + 1 := by omega
                 exact (HBr2.out.ne_ h5 (by decide)) rfl
               · obtain rfl : j = w.heap.size := by omega
                 exact (HBc2.out.ne_ h5 (by decide)) rfl
       have HBr4 := Lib.hid (HBr2.out.drew.only ho4 (HNr _ (by omega) (by omega)))
       have HBo4 := Lib.hid (HBo2.out.drew.only ho4 (fun e => by
         obtain ⟨cur, t, h5, ht⟩ := HR2.out.fp_type e
         have h6 := HBo2.out
         unfold Blk at h6
         rw [h6] at h5
         injection h5 with h5
         injection h5 with _ h5
         subst h5
         rcases ht with ht | ht | ht <;> exact absurd ht (by decide)))
       have o0 : w4.cell? ⟨w2.heap.size, 0, none⟩ = some (.int .i64 k2) := HBo4.out.cell 0 _ rfl
       have o1 : w4.cell? ⟨w2.heap.size, 1, none⟩ = some (.int .i64 n2) := HBo4.out.cell 1 _ rfl
       have rf := HBr4.out.frozen
       have rl := HBr4.out.lt
       have r0 := HBr4.out.cell 0 _ rfl
       have r1 := HBr4.out.cell 1 _ rfl
       clear hr4 ho4 hfn4 HNr)))
  all_goals
    have hr4 := HR4.out
    rw [HK2.out] at hr4
    have HR5 := Lib.hid hr4
    have HF5 := Lib.hid (fun g e => (HF4.out g e).imp (fun h => by rw [HK2.out] at h; exact h) (fun h => Nat.le_trans HO2.out.size h))
    have HO5 := Lib.hid (HO2.out.drew.trans (T := slabFp b (upd sh k2 s2)) (HO4.out) (fun i hi e => (HN.out i e).elim (fun h => h) (fun h => by omega)))
    clear hr4 y0 y1
    go_wp2_with fail
    have g2 := HBr4.out.set_ 0 (.int .i64 k2)
    have g3 := g2.set_ 1 (.int .i64 n2)
    have q0 := g3.cell 0 _ rfl
    have q1 := g3.cell 1 _ rfl
    have hBw : B ≤ w.heap.size + 1 := Nat.le_trans HR.out.base (Nat.le_of_lt (Nat.lt_succ_of_lt HR.out.blk.lt))
    exact bodyPost_ret (v := .tuple #[.agg #[.int .i64 k2, .int .i64 n2], .int .i64 0]) (by simp [results, Try.results17, go_sem, q0, q1]) rfl
      ⟨n2, s2, fv', rfl, (HR5.out.farset hBw HBr4.out).farset hBw g2, HP2.out, (HO5.out.setCell (p := ⟨w.heap.size + 1, 0, none⟩) (.inr (by simp)) _).setCell (p := ⟨w.heap.size + 1, 1, none⟩) (.inr (by simp)) _, HCn.out, HFn.out, HF5.out⟩

set_option maxRecDepth 100000 in
set_option maxHeartbeats 1000000 in
theorem slabFrees_ok (B b : Nat) (most : Int) (sh : Nat → ShV) (k : Nat) (w : World) (h : SRep w B b most sh) (hs : SSmall sh) (hk : k < 13) :
    Calls Try.prog 22 #[.pointer (some ⟨b, 0, none⟩), .int .i64 k] w fun e w' => ∃ v, e = .returned (.tuple #[v, .int .i64 0]) ∧ w'.ownsRow w.heap.size 3 1 v (sh k).fr.length (ics (sh k).fr.reverse) ∧ Below w.heap.size w w' := by
  have HR := Lib.hid h
  have HS := Lib.hid hs
  clear h hs
  have x1 := HR.out.fv hk
  obtain ⟨FA, fc, hfv, hf1, _⟩ := own_form (HR.out.free k hk)
  rw [hfv] at x1
  have hkI : (k : Int) < 13 := by omega
  go_enter Try.func22, Try.ntmps22
  go_wp2_with fail
  refine HR.out.zero.mono ?_
  rintro e w' ⟨rfl, hw⟩
  subst hw
  go_wp2_with fail
  refine (slabSize_ok k hk _).mono ?_
  rintro e w' ⟨rfl, hw⟩
  subst hw
  have hfl : (sh k).fr.length ≤ 100000 := by have := HS.out.fr k hk; have := HS.out.cs k hk; omega
  have HRow := Lib.hid (hfv ▸ HR.out.free k hk : World.ownsRow _ B 3 1 (.slice FA (sh k).fr.length fc) (sh k).fr.length (ics (sh k).fr))
  clear hfv
  go_wp2_with fail
  refine (intsClone_any B _ (sh k).fr _ HRow.out hfl).mono ?_
  rintro e w1 ⟨v1, rfl, hown1, hb1⟩
  obtain ⟨A1, c1, rfl, hx1, hx2⟩ := own_form hown1
  have HO1 := Lib.hid hown1
  have HB1 := Lib.hid hb1
  clear hown1 hb1 hx1 hx2 x1
  go_wp2_with fail
  refine (intsReverse_any _ _ (sh k).fr _ HO1.out hfl).mono ?_
  rintro e w2 ⟨rfl, hown2, hb2⟩
  have HO2 := Lib.hid hown2
  have HB2 := Lib.hid (HB1.out.trans hb2)
  clear hown2 hb2
  go_wp2_with fail
  go_ret2
  exact ⟨_, rfl, HO2.out, HB2.out⟩

theorem slabFrees_bad (B b : Nat) (most : Int) (sh : Nat → ShV) (k : Int) (w : World) (h : SRep w B b most sh) (hk : k < 0 ∨ 12 < k) :
    Calls Try.prog 22 #[.pointer (some ⟨b, 0, none⟩), .int .i64 k] w fun e w' => e = .returned (.tuple #[.slice none 0 0, .int .i64 3]) ∧ w' = w := by
  have HR := Lib.hid h
  clear h
  go_enter Try.func22, Try.ntmps22
  go_wp2_with fail
  refine HR.out.zero.mono ?_
  rintro e w' ⟨rfl, hw⟩
  subst hw
  go_wp2_with fail
  refine (slabSize_bad k hk _).mono ?_
  rintro e w' ⟨rfl, hw⟩
  subst hw
  go_wp2_with fail
  go_ret2
  exact ⟨rfl, rfl⟩

end Go.Proofs.Ytookfhmghchkjaa
