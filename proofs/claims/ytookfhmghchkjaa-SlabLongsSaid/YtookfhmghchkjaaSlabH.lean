/- The walk of layer 13's Put: a free cell is taken. -/
import Derived.Test.YtookfhmghchkjaaSlabG
namespace Go.Proofs.Ytookfhmghchkjaa
open Go Go.RowKit
attribute [local go_sem ↓] Go.wp_at_zero Go.wp_at_succ

theorem ownsRow_pop {w : World} {base : Nat} {e : TypeId} {A : Option Addr} {n cap : Nat} {xs : List Value} {x : Value} (h : w.ownsRow base e 1 (.slice A (n + 1) cap) (n + 1) (xs ++ [x])) : w.ownsRow base e 1 (.slice A n cap) n xs := by
  have hl : xs.length = n := by have := h.1; simp at this; omega
  refine ⟨by omega, ?_⟩
  rcases h.2 with ⟨_, h2⟩ | ⟨g, c, cur, hv, hg, hh, hle, hcm, hcs, ht⟩
  · omega
  · injection hv with hv _ hv3
    subst hv hv3
    refine .inr ⟨g, cap, cur, rfl, hg, hh, by omega, hcm, hcs, ?_⟩
    have h3 := congrArg (List.take n) ht
    rw [List.take_take, List.take_append_of_le_length (by omega), List.take_of_length_le (Nat.le_of_eq hl), Nat.mul_one, Nat.min_eq_left (by omega)] at h3
    rw [Nat.mul_one]
    exact h3

set_option maxRecDepth 100000 in
set_option maxHeartbeats 2000000 in
theorem slabPut_old (B b : Nat) (most : Int) (sh : Nat → ShV) (v : Value) (bs : List UInt8) (w : World) (h : SRep w B b most sh) (hs : SSmall sh) (hv : Bts w B 5 v bs) (hl : bs.length ≤ 65536) (k : Nat) (hck : classN bs.length = k) (fr : List Nat) (n : Nat) (c : CelV) (hfr : (sh k).fr = fr ++ [n]) (hc : (sh k).cs[n]? = some c) :
    Calls Try.prog 15 #[.pointer (some ⟨b, 0, none⟩), v] w fun e w' => e = .returned (.tuple #[.agg #[.int .i64 k, .int .i64 n], .int .i64 0]) ∧
      ∃ fv' v', SRep w' B b most (upd sh k ⟨(sh k).cv, fv', (sh k).cs.set n ⟨bs, v', true⟩, fr⟩) ∧ Only (slabFp b sh) w w' ∧ (∀ g, fv'.ownBlock = some g → (sh k).fv.ownBlock = some g) ∧ (∀ g, v'.ownBlock = some g → w.heap.size ≤ g) := by
  obtain ⟨A, cap, rfl⟩ := hv.form
  have hk : k < 13 := by have := classN_le hl; omega
  have hkI : (k : Int) < 13 := by omega
  have hk0 : ¬ (k : Int) < 0 := by omega
  have HR := Lib.hid h
  have HV := Lib.hid hv
  have HC := Lib.hid hc
  obtain ⟨hnl, _⟩ := List.getElem?_eq_some_iff.1 hc
  have hle := hs.cs k hk
  have hfl := hs.fr k hk
  rw [hfr, List.length_append, List.length_cons, List.length_nil] at hfl
  have HFr := Lib.hid hfr
  clear h hv hs hc
  obtain ⟨wa, hwa⟩ : ∃ wa, w.alloc (.cells #[.int .i64 0, .int .i64 0] 38) = wa := ⟨_, rfl⟩
  have hba : Below w.heap.size w wa := hwa ▸ (Below.refl _ _).alloc (Nat.le_refl _) _
  have hbx : Blk wa w.heap.size 38 #[.int .i64 0, .int .i64 0] := hwa ▸ Blk.new _ _ _
  have HRa := Lib.hid (HR.out.below hba)
  have HVa := Lib.hid (HV.out.below hba)
  have HBa := Lib.hid hba
  have HBx := Lib.hid hbx
  have y0 : wa.cell? ⟨w.heap.size, 0, none⟩ = some (.int .i64 0) := hbx.cell 0 _ rfl
  have y1 : wa.cell? ⟨w.heap.size, 1, none⟩ = some (.int .i64 0) := hbx.cell 1 _ rfl
  have yf := hbx.frozen
  have yl := hbx.lt
  clear hba hbx
  go_enter Try.func15, Try.ntmps15
  go_upto_region 1 with fail
  try rw [hwa]
  clear hwa
  go_wp2_with fail
  refine HRa.out.zero.mono ?_
  rintro e w' ⟨rfl, hw⟩
  subst hw
  go_wp2_with fail
  refine (slabClass_ok bs.length hl _).mono ?_
  rw [hck]
  rintro e w' ⟨rfl, hw⟩
  subst hw
  have x0 := HRa.out.cv hk
  have x1 := HRa.out.fv hk
  obtain ⟨g4, c4, hcv, hg4, hc4, _⟩ := HRa.out.at_ hk HC.out
  obtain ⟨gf, fc, hfv, hgf, hfc, z0⟩ := HRa.out.free_at hk (j := fr.length) (n := n) (by rw [hfr]; simp)
  rw [hcv] at x0
  rw [hfr, List.length_append, List.length_cons, List.length_nil, Nat.zero_add] at hfv
  rw [hfv] at x1
  have HCv := Lib.hid hcv
  have HFv := Lib.hid hfv
  have hfcI : (fr.length : Int) + 1 ≤ (fc : Int) := by rw [hfr] at hfc; simp at hfc; omega
  have hfr0 : (0 : Int) ≤ (fr.length : Int) := Int.natCast_nonneg _
  have hfr9 : (fr.length : Int) ≤ 1000 := by omega
  have hfb := HRa.out.blk.frozen
  have hbl := HRa.out.blk.lt
  have hgb : gf ≠ b := fun e => HRa.out.notF hk (by rw [hfv, e]; rfl)
  clear hcv hfv hfr hfc
  go_wp2_with fail
  go_region
  have hrow := HRa.out.free k hk
  rw [HFv.out, HFr.out, List.length_append, List.length_cons, List.length_nil, Nat.zero_add, ics_append] at hrow
  have h5 := HRa.out.freed hk (W3 := w') (.slice (some ⟨gf, 0, none⟩) fr.length fc) fr (ownsRow_pop hrow) (Only.refl _ _) (fun g e => .inl (by rw [HFv.out]; exact e))
  have hbq : Below (w'.setCell ⟨b, 2 + k * 2 + 1, none⟩ (.slice (some ⟨gf, 0, none⟩) fr.length fc)).heap.size (w'.setCell ⟨b, 2 + k * 2 + 1, none⟩ (.slice (some ⟨gf, 0, none⟩) fr.length fc)) (w'.setCell ⟨b, 2 + k * 2 + 1, none⟩ (.slice (some ⟨gf, 0, none⟩) fr.length fc)).drew := (Below.refl _ _).drew
  have hfp : ∀ j, slabFp b sh j → j < w.heap.size := fun j hj => (HR.out.fp_lt hj).2
  have ho5 : Only (slabFp b sh) w' (w'.setCell ⟨b, 2 + k * 2 + 1, none⟩ (.slice (some ⟨gf, 0, none⟩) fr.length fc)) := h5.2.mono (T := slabFp b sh) (fun i _ e => Or.elim e (fun e => .inl e) (fun e => fp_f hk e))
  have HR5 := Lib.hid (h5.1.below hbq)
  have HO5 := Lib.hid (((Only.of_below (S := slabFp b sh) HBa.out).trans ho5 (fun _ _ h => h)).trans (T := fun _ => False) (Only.of_below hbq) (fun _ _ h => h.elim))
  have HV5 := Lib.hid ((HVa.out.keep (HRa.out.keepB ho5)).below hbq)
  have HBx5 := Lib.hid ((HBx.out.only ho5 (fun e => by have := hfp _ e; omega)).below hbq)
  clear hrow h5 hbq hfp ho5 x0 x1 z0 y0 y1 yf yl hfb
  generalize (w'.setCell ⟨b, 2 + k * 2 + 1, none⟩ (Value.slice (some ⟨gf, 0, none⟩) fr.length fc)).drew = w5 at HR5 HO5 HV5 HBx5 ⊢
  have HSh : Hid (upd sh k ⟨(sh k).cv, .slice (some ⟨gf, 0, none⟩) fr.length fc, (sh k).cs, fr⟩ k = ⟨(sh k).cv, .slice (some ⟨gf, 0, none⟩) fr.length fc, (sh k).cs, fr⟩) := Lib.hid (upd_same _ _ _)
  have x0 := HR5.out.cv hk
  rw [HSh.out] at x0
  dsimp only at x0
  rw [HCv.out] at x0
  have hnI : (n : Int) < ((sh k).cs.length : Int) := by omega
  have hn0 : (0 : Int) ≤ (n : Int) := Int.natCast_nonneg _
  have hcI : ((sh k).cs.length : Int) ≤ (c4 : Int) := by omega
  go_wp2_with fail
  go_region_with
    ((go_at_call 32
      refine (bytesClone_any B _ bs _ HV5.out.drew (by omega)).mono ?_
      rintro e w6 ⟨v6, rfl, hown6, hb6⟩
      obtain ⟨A6, c6, rfl, hx1, hx2⟩ := own_form hown6
      have hb6' : Below w5.heap.size w5 w6 := below_drew hb6
      have HR6 := Lib.hid (HR5.out.below hb6')
      have HBx6 := Lib.hid (HBx5.out.below hb6')
      have HO6 := Lib.hid (HO5.out.trans (T := fun _ => False) (Only.of_below hb6') (fun _ _ h => h.elim))
      have HW6 : Hid (w6.ownsRow w5.heap.size 5 1 (.slice A6 bs.length c6) bs.length (bcells bs)) := Lib.hid hown6
      have x0 : w6.cell? ⟨b, 2 + k * 2, none⟩ = some (.slice (some ⟨g4, 0, none⟩) (sh k).cs.length c4) := by
        have h1 := HR6.out.cv hk
        rw [HSh.out] at h1
        dsimp only at h1
        rw [HCv.out] at h1
        exact h1
      have hd6 := HR6.out.at_ hk (by rw [HSh.out]; exact HC.out)
      rw [HSh.out] at hd6
      dsimp only at hd6
      obtain ⟨g6, cap6, e6, hg6, hle6, d0, d1, _⟩ := hd6
      rw [HCv.out] at e6
      injection e6 with e6 el e7
      injection e6 with e6
      injection e6 with e6
      subst e6 e7
      clear el
      have hf6 : ∀ j, w6.frozen? ⟨g4, j, none⟩ = false := fun j => by
        have h3 := HR6.out.cells k hk
        rw [HSh.out] at h3; dsimp only at h3; rw [HCv.out] at h3
        exact h3.frozenAt j
      clear hx1 hx2 hb6 hb6' hown6))
  all_goals
    have hset := HR6.out.cellset hk (g := g4) (cap := c4) (n := n) (by rw [HSh.out]; exact HCv.out) (by rw [HSh.out]; exact hnl) ⟨bs, .slice A6 bs.length c6, true⟩ (Bts.of_own HW6.out B)
    rw [HSh.out, upd_upd] at hset
    dsimp only at hset
    have hne : w.heap.size ≠ g4 := by
      obtain ⟨_, cur, h2⟩ := row_blockS (HR6.out.cells k hk) (k := g4) (by rw [HSh.out]; dsimp only; rw [HCv.out]; rfl)
      exact HBx6.out.ne_ h2 (by decide)
    have HO7 := Lib.hid (HO6.out.trans hset.2 (fun i hi e => by rw [e]; exact fp_c hk (by rw [HCv.out]; rfl)))
    have HR7 := Lib.hid hset.1
    have HBx7 := Lib.hid (HBx6.out.only hset.2 hne)
    have HWf := Lib.hid (fun g (hg : (Value.slice A6 bs.length c6).ownBlock = some g) => Nat.le_trans HO5.out.size (row_blockS HW6.out hg).1)
    clear hset hne d0 d1 hf6 x0
    generalize (w6.setCell ⟨g4, n * 2, none⟩ (Value.slice A6 bs.length c6)).setCell ⟨g4, n * 2 + 1, none⟩ (Value.bool true) = w7 at HO7 HR7 HBx7 ⊢
    have yf := HBx7.out.frozen
    have yl := HBx7.out.lt
    have y0 : w7.cell? ⟨w.heap.size, 0, none⟩ = some (.int .i64 0) := HBx7.out.cell 0 _ rfl
    have y1 : w7.cell? ⟨w.heap.size, 1, none⟩ = some (.int .i64 0) := HBx7.out.cell 1 _ rfl
    go_wp2_with fail
    have g2 := HBx7.out.set_ 0 (.int .i64 k)
    have g3 := g2.set_ 1 (.int .i64 n)
    have q0 := g3.cell 0 _ rfl
    have q1 := g3.cell 1 _ rfl
    have hBw : B ≤ w.heap.size := Nat.le_trans HR.out.base (Nat.le_of_lt HR.out.blk.lt)
    exact bodyPost_ret (v := .tuple #[.agg #[.int .i64 k, .int .i64 n], .int .i64 0]) (by simp [results, Try.results15, go_sem, q0, q1]) rfl
      ⟨rfl, _, _, (HR7.out.farset hBw HBx7.out).farset hBw g2, (HO7.out.setCell (p := ⟨w.heap.size, 0, none⟩) (.inr (Nat.le_refl _)) _).setCell (p := ⟨w.heap.size, 1, none⟩) (.inr (Nat.le_refl _)) _, fun g e => by rw [HFv.out]; exact e, HWf.out⟩

end Go.Proofs.Ytookfhmghchkjaa
