/- The walk of layer 13's Swap. -/
import Derived.Test.YtookfhmghchkjaaSlabH
namespace Go.Proofs.Ytookfhmghchkjaa
open Go Go.RowKit
attribute [local go_sem ↓] Go.wp_at_zero Go.wp_at_succ

theorem ccs_setv : ∀ (cs : List CelV) (n : Nat) (c : CelV) (bs : List UInt8) (v : Value), cs[n]? = some c → (ccs cs).set (n * 2) v = ccs (cs.set n ⟨bs, v, c.used⟩)
  | [], n, c, bs, v, h => by simp at h
  | d :: cs, 0, c, bs, v, h => by simp at h; subst h; simp [ccs, CelV.cells]
  | d :: cs, n + 1, c, bs, v, h => by
    have e : ∀ x, (ccs (x :: cs)) = [x.v, .bool x.used] ++ ccs cs := fun _ => rfl
    have e2 : ccs ((d :: cs).set (n + 1) ⟨bs, v, c.used⟩) = [d.v, .bool d.used] ++ ccs (cs.set n ⟨bs, v, c.used⟩) := rfl
    rw [e, e2, ← ccs_setv cs n c bs v (by simpa using h), show (n + 1) * 2 = n * 2 + 1 + 1 from by omega]
    simp

/-- A cell's bytes are others. -/
theorem SRep.cellval {w : World} {B b : Nat} {most : Int} {sh : Nat → ShV} (h : SRep w B b most sh) {k n g cap : Nat} (hk : k < 13) (hcv : (sh k).cv = .slice (some ⟨g, 0, none⟩) (sh k).cs.length cap) (c : CelV) (hcn : (sh k).cs[n]? = some c) (bs : List UInt8) (v : Value) (hc : Bts w B 5 v bs) :
    SRep (w.setCell ⟨g, n * 2, none⟩ v) B b most (upd sh k ⟨(sh k).cv, (sh k).fv, (sh k).cs.set n ⟨bs, v, c.used⟩, (sh k).fr⟩) ∧ Only (fun j => j = g) w (w.setCell ⟨g, n * 2, none⟩ v) := by
  have ho : Only (fun j => j = g) w (w.setCell ⟨g, n * 2, none⟩ v) := Only.setCell (S := fun j => j = g) (Only.refl _ _) (p := ⟨g, n * 2, none⟩) (.inl rfl) _
  have hown : (sh k).cv.ownBlock = some g := by rw [hcv]; rfl
  have hgb : g ≠ b := fun e => h.notC hk (by rw [hown, e])
  have hrow := h.cells k hk
  rw [hcv] at hrow
  have h2 := (hrow.stored (n * 2) v).1
  rw [ccs_setv _ _ c bs v hcn] at h2
  have hkb := h.keepB (ho.mono (fun i _ e => by rw [e]; exact fp_c hk hown))
  refine ⟨h.turned hk (ho.mono fun i _ e => .inr (.inl (by rw [e]; exact hown))) ?_ ?_ ?_ ?_ (fun g' e => .inl e) (fun g' e => .inl e), ho⟩
  · rw [acells_lists]
    exact h.blk.only ho (fun e => hgb e.symm)
  · show World.ownsRow _ B _ 2 (sh k).cv ((sh k).cs.set n ⟨bs, v, c.used⟩).length _
    rw [hcv, List.length_set]
    exact h2
  · exact ownsRow_only (h.free k hk) ho (fun j hj e => by
      subst e
      exact rows_offS (h.free k hk) (h.cells k hk) (by decide) j hj hown)
  · intro d hd
    rcases List.mem_or_eq_of_mem_set hd with hd | rfl
    · exact (h.vals k hk d hd).keep hkb
    · exact hc.keep hkb

/-- What a Put that is done makes of a shelf. -/
def PutS (w : World) (s : ShV) (bs : List UInt8) (n : Nat) (s' : ShV) : Prop :=
  ∃ v', (∀ g, v'.ownBlock = some g → w.heap.size ≤ g) ∧ ((s.fr = [] ∧ n = s.cs.length ∧ s'.cs = s.cs ++ [⟨bs, v', true⟩] ∧ s'.fr = []) ∨ (s.fr = s'.fr ++ [n] ∧ n < s.cs.length ∧ s'.cs = s.cs.set n ⟨bs, v', true⟩))

/-- There is room for some bytes. -/
def PutOk (most : Int) (sh : Nat → ShV) (k : Nat) : Prop := ((sh k).fr = [] ∧ (allN sh 13 : Int) + (csize k : Int) ≤ most) ∨ ∃ fr n, (sh k).fr = fr ++ [n] ∧ n < (sh k).cs.length

theorem slabPut_ok (B b : Nat) (most : Int) (sh : Nat → ShV) (v : Value) (bs : List UInt8) (w : World) (h : SRep w B b most sh) (hs : SSmall sh) (hv : Bts w B 5 v bs) (hl : bs.length ≤ 65536) (k : Nat) (hck : classN bs.length = k) (hok : PutOk most sh k) :
    Calls Try.prog 15 #[.pointer (some ⟨b, 0, none⟩), v] w fun e w' => ∃ (n : Nat) (s' : ShV), e = .returned (.tuple #[.agg #[.int .i64 k, .int .i64 n], .int .i64 0]) ∧
      SRep w' B b most (upd sh k s') ∧ PutS w (sh k) bs n s' ∧ Only (slabFp b sh) w w' ∧ (∀ g, s'.cv.ownBlock = some g → (sh k).cv.ownBlock = some g ∨ w.heap.size ≤ g) ∧ (∀ g, s'.fv.ownBlock = some g → (sh k).fv.ownBlock = some g) := by
  rcases hok with ⟨hf, hr⟩ | ⟨fr, n, hf, hn⟩
  · refine (slabPut_new B b most sh v bs w h hs hv hl k hck hf hr).mono ?_
    rintro e w' ⟨rfl, cv', v', h1, h2, h3, h4⟩
    exact ⟨_, _, rfl, h1, ⟨v', h4, .inl ⟨hf, rfl, rfl, hf⟩⟩, h2, h3, fun g e => e⟩
  · refine (slabPut_old B b most sh v bs w h hs hv hl k hck fr n _ hf (List.getElem?_eq_getElem hn)).mono ?_
    rintro e w' ⟨rfl, fv', v', h1, h2, h3, h4⟩
    exact ⟨_, _, rfl, h1, ⟨v', h4, .inr ⟨hf, hn, rfl⟩⟩, h2, fun g e => .inl e, h3⟩




set_option maxRecDepth 100000 in
set_option maxHeartbeats 1000000 in
theorem slabSwap_none (B b : Nat) (most : Int) (sh : Nat → ShV) (K N : Int) (v : Value) (bs : List UInt8) (w : World) (h : SRep w B b most sh) (hv : Bts w B 5 v bs) (hn : hasC sh K N = none) :
    Calls Try.prog 17 #[.pointer (some ⟨b, 0, none⟩), .agg #[.int .i64 K, .int .i64 N], v] w fun e w' => e = .returned (.tuple #[.agg #[.int .i64 0, .int .i64 0], .int .i64 9]) ∧ Below w.heap.size w w' := by
  obtain ⟨A, cap, rfl⟩ := hv.form
  have HR := Lib.hid h
  have HV := Lib.hid hv
  have HN := Lib.hid hn
  clear h hv hn
  obtain ⟨wa, hwa⟩ : ∃ wa, (w.alloc (.cells #[.int .i64 K, .int .i64 N] 38)).alloc (.cells #[.int .i64 0, .int .i64 0] 38) = wa := ⟨_, rfl⟩
  have hba : Below w.heap.size w wa := hwa ▸ ((Below.refl _ _).alloc (Nat.le_refl _) _).alloc (by simp) _
  have hbc : Blk wa w.heap.size 38 #[.int .i64 K, .int .i64 N] := hwa ▸ (Blk.new _ _ _).alloc _
  have hbr : Blk wa (w.heap.size + 1) 38 #[.int .i64 0, .int .i64 0] := hwa ▸ Blk.new2 _ _ _ _
  have HRa := Lib.hid (HR.out.below hba)
  have HVa := Lib.hid (HV.out.below hba)
  have HBa := Lib.hid hba
  have HBc := Lib.hid hbc
  have HBr := Lib.hid hbr
  have y0 : wa.cell? ⟨w.heap.size, 0, none⟩ = some (.int .i64 K) := hbc.cell 0 _ rfl
  have y1 : wa.cell? ⟨w.heap.size, 1, none⟩ = some (.int .i64 N) := hbc.cell 1 _ rfl
  clear hba hbc hbr
  go_enter Try.func17, Try.ntmps17
  go_upto_region 1 with fail
  try rw [hwa]
  clear hwa
  go_wp2_with fail
  refine (slabat_none B b most sh K N _ HRa.out HN.out).mono ?_
  rintro e w1 ⟨rfl, hb1⟩
  have HB1 := Lib.hid (HBa.out.trans (hb1.mono HBa.out.size))
  have HBr1 := Lib.hid (HBr.out.below hb1)
  clear hb1 y0 y1
  have rf := (HBr1.out).frozen
  have rl := (HBr1.out).lt
  have r0 := (HBr1.out).cell 0 _ rfl
  have r1 := (HBr1.out).cell 1 _ rfl
  go_wp2_with fail
  have g2 := (HBr1.out).set_ 0 (.int .i64 0)
  have g3 := g2.set_ 1 (.int .i64 0)
  have q0 := g3.cell 0 _ rfl
  have q1 := g3.cell 1 _ rfl
  exact bodyPost_ret (v := .tuple #[.agg #[.int .i64 0, .int .i64 0], .int .i64 9]) (by simp [results, Try.results17, go_sem, q0, q1]) rfl ⟨rfl, (HB1.out.setCell (p := ⟨w.heap.size + 1, 0, none⟩) (by simp) _).setCell (p := ⟨w.heap.size + 1, 1, none⟩) (by simp) _⟩

set_option maxRecDepth 100000 in
set_option maxHeartbeats 2000000 in
theorem slabSwap_in (B b : Nat) (most : Int) (sh : Nat → ShV) (k n : Nat) (c : CelV) (v : Value) (bs : List UInt8) (w : World) (h : SRep w B b most sh) (hk : k < 13) (hc : (sh k).cs[n]? = some c) (hu : c.used = true) (hv : Bts w B 5 v bs) (hl : bs.length ≤ 65536) (hck : classN bs.length = k) :
    Calls Try.prog 17 #[.pointer (some ⟨b, 0, none⟩), .agg #[.int .i64 k, .int .i64 n], v] w fun e w' => e = .returned (.tuple #[.agg #[.int .i64 k, .int .i64 n], .int .i64 0]) ∧
      ∃ v', SRep w' B b most (upd sh k ⟨(sh k).cv, (sh k).fv, (sh k).cs.set n ⟨bs, v', true⟩, (sh k).fr⟩) ∧ Only (slabFp b sh) w w' ∧ (∀ g, v'.ownBlock = some g → w.heap.size ≤ g) := by
  obtain ⟨A, cap, rfl⟩ := hv.form
  obtain ⟨hnl, _⟩ := List.getElem?_eq_some_iff.1 hc
  have HR := Lib.hid h
  have HV := Lib.hid hv
  have HC := Lib.hid hc
  have HU := Lib.hid hu
  clear h hv hc hu
  obtain ⟨wa, hwa⟩ : ∃ wa, (w.alloc (.cells #[.int .i64 k, .int .i64 n] 38)).alloc (.cells #[.int .i64 0, .int .i64 0] 38) = wa := ⟨_, rfl⟩
  have hba : Below w.heap.size w wa := hwa ▸ ((Below.refl _ _).alloc (Nat.le_refl _) _).alloc (by simp) _
  have hbc : Blk wa w.heap.size 38 #[.int .i64 k, .int .i64 n] := hwa ▸ (Blk.new _ _ _).alloc _
  have hbr : Blk wa (w.heap.size + 1) 38 #[.int .i64 0, .int .i64 0] := hwa ▸ Blk.new2 _ _ _ _
  have HRa := Lib.hid (HR.out.below hba)
  have HVa := Lib.hid (HV.out.below hba)
  have HBa := Lib.hid hba
  have HBc := Lib.hid hbc
  have HBr := Lib.hid hbr
  have y0 : wa.cell? ⟨w.heap.size, 0, none⟩ = some (.int .i64 k) := hbc.cell 0 _ rfl
  have y1 : wa.cell? ⟨w.heap.size, 1, none⟩ = some (.int .i64 n) := hbc.cell 1 _ rfl
  clear hba hbc hbr
  go_enter Try.func17, Try.ntmps17
  go_upto_region 1 with fail
  try rw [hwa]
  clear hwa
  go_wp2_with fail
  obtain ⟨g, cap', hcv, _⟩ := HRa.out.at_ hk HC.out
  have HCv := Lib.hid hcv
  refine (slabat_ok B b most sh k n c _ HRa.out hk HC.out HU.out g cap' hcv).mono ?_
  rintro e w1 ⟨rfl, hb1⟩
  have HR1 := Lib.hid (HRa.out.below hb1)
  have HV1 := Lib.hid (HVa.out.below hb1)
  have HB1 := Lib.hid (HBa.out.trans (hb1.mono HBa.out.size))
  have HBr1 := Lib.hid (HBr.out.below hb1)
  have HBc1 := Lib.hid (HBc.out.below hb1)
  clear hb1 y0 y1 hcv
  have y0 : w1.cell? ⟨w.heap.size, 0, none⟩ = some (.int .i64 k) := HBc1.out.cell 0 _ rfl
  go_wp2_with fail
  refine (slabClass_ok bs.length hl _).mono ?_
  rw [hck]
  rintro e w' ⟨rfl, hw⟩
  subst hw
  go_wp2_with fail
  refine (bytesClone_any B _ bs _ HV1.out (by omega)).mono ?_
  rintro e w6 ⟨v6, rfl, hown6, hb6⟩
  obtain ⟨A6, c6, rfl, hx1, hx2⟩ := own_form hown6
  have HR6 := Lib.hid (HR1.out.below hb6)
  have HBr6 := Lib.hid (HBr1.out.below hb6)
  have HBc6 := Lib.hid (HBc1.out.below hb6)
  have HO6 := Lib.hid ((Only.of_below (S := slabFp b sh) HB1.out).trans (T := fun _ => False) (Only.of_below hb6) (fun _ _ h => h.elim))
  have HW6 := Lib.hid hown6
  have hB6 := HB1.out.size
  obtain ⟨g6, cap6, e6, hg6, hle6, d0, d1, _⟩ := HR6.out.at_ hk HC.out
  rw [HCv.out] at e6
  injection e6 with e6 el e7
  injection e6 with e6
  injection e6 with e6
  subst e6 e7
  clear el
  have hf6 : ∀ j, w6.frozen? ⟨g, j, none⟩ = false := fun j => by
    have h3 := HR6.out.cells k hk
    rw [HCv.out] at h3
    exact h3.frozenAt j
  have hset := HR6.out.cellval hk HCv.out c HC.out bs (.slice A6 bs.length c6) (Bts.of_own hown6 B)
  rw [HU.out] at hset
  have hne : w.heap.size ≠ g := by
    obtain ⟨_, cur, h2⟩ := row_blockS (HR6.out.cells k hk) (k := g) (by rw [HCv.out]; rfl)
    exact HBc6.out.ne_ h2 (by decide)
  have hne2 : w.heap.size + 1 ≠ g := by
    obtain ⟨_, cur, h2⟩ := row_blockS (HR6.out.cells k hk) (k := g) (by rw [HCv.out]; rfl)
    exact HBr6.out.ne_ h2 (by decide)
  have HO7 := Lib.hid (HO6.out.trans hset.2 (fun i hi e => by rw [e]; exact fp_c hk (by rw [HCv.out]; rfl)))
  have HR7 := Lib.hid hset.1
  have HBc7 := Lib.hid (HBc6.out.only hset.2 hne)
  have HBr7 := Lib.hid (HBr6.out.only hset.2 hne2)
  have HWf := Lib.hid (fun g (hg : (Value.slice A6 bs.length c6).ownBlock = some g) => Nat.le_trans hB6 (row_blockS HW6.out hg).1)
  clear hx1 hx2 hb6 hown6 y0 hset hne hne2
  go_upto_region 7 with fail
  generalize w6.setCell ⟨g, n * 2, none⟩ (Value.slice A6 bs.length c6) = w7 at HO7 HR7 HBc7 HBr7 ⊢
  clear d0 d1 hf6
  have y0 : w7.cell? ⟨w.heap.size, 0, none⟩ = some (.int .i64 k) := HBc7.out.cell 0 _ rfl
  have y1 : w7.cell? ⟨w.heap.size, 1, none⟩ = some (.int .i64 n) := HBc7.out.cell 1 _ rfl
  have rf := (HBr7.out).frozen
  have rl := (HBr7.out).lt
  have r0 := (HBr7.out).cell 0 _ rfl
  have r1 := (HBr7.out).cell 1 _ rfl
  go_wp2_with fail
  have g2 := (HBr7.out).set_ 0 (.int .i64 k)
  have g3 := g2.set_ 1 (.int .i64 n)
  have q0 := g3.cell 0 _ rfl
  have q1 := g3.cell 1 _ rfl
  have hBw : B ≤ w.heap.size + 1 := Nat.le_trans HR.out.base (Nat.le_of_lt (Nat.lt_succ_of_lt HR.out.blk.lt))
  exact bodyPost_ret (v := .tuple #[.agg #[.int .i64 k, .int .i64 n], .int .i64 0]) (by simp [results, Try.results17, go_sem, q0, q1]) rfl
    ⟨rfl, _, (HR7.out.farset hBw HBr7.out).farset hBw g2, (HO7.out.setCell (p := ⟨w.heap.size + 1, 0, none⟩) (.inr (by simp)) _).setCell (p := ⟨w.heap.size + 1, 1, none⟩) (.inr (by simp)) _, HWf.out⟩

/-- Put says no. -/
def PutNo (most : Int) (sh : Nat → ShV) (bs : List UInt8) : Option Int := if 65536 < bs.length then some 5 else if (sh (classN bs.length)).fr = [] ∧ most < (allN sh 13 : Int) + (csize (classN bs.length) : Int) then some 7 else none

theorem slabPut_no (B b : Nat) (most : Int) (sh : Nat → ShV) (v : Value) (bs : List UInt8) (w : World) (h : SRep w B b most sh) (hs : SSmall sh) (hv : Bts w B 5 v bs) (er : Int) (hno : PutNo most sh bs = some er) :
    Calls Try.prog 15 #[.pointer (some ⟨b, 0, none⟩), v] w fun e w' => e = .returned (.tuple #[.agg #[.int .i64 0, .int .i64 0], .int .i64 er]) ∧ Below w.heap.size w w' := by
  unfold PutNo at hno
  split at hno
  · injection hno with hno
    subst hno
    exact slabPut_long B b most sh v bs w h hv (by assumption)
  · split at hno
    · rename_i hl hf
      injection hno with hno
      subst hno
      exact slabPut_full B b most sh v bs w h hs hv (by omega) _ rfl hf.1 hf.2
    · cases hno

theorem PutNo_er {most : Int} {sh : Nat → ShV} {bs : List UInt8} {er : Int} (h : PutNo most sh bs = some er) : er = 5 ∨ er = 7 := by
  unfold PutNo at h
  split at h
  · injection h with h; exact .inl h.symm
  · split at h
    · injection h with h; exact .inr h.symm
    · cases h


set_option maxRecDepth 100000 in
set_option maxHeartbeats 2000000 in
theorem slabSwap_no (B b : Nat) (most : Int) (sh : Nat → ShV) (k n : Nat) (c : CelV) (v : Value) (bs : List UInt8) (w : World) (h : SRep w B b most sh) (hs : SSmall sh) (hk : k < 13) (hc : (sh k).cs[n]? = some c) (hu : c.used = true) (hv : Bts w B 5 v bs) (hck : bs.length ≤ 65536 → classN bs.length ≠ k) (er : Int) (hno : PutNo most sh bs = some er) :
    Calls Try.prog 17 #[.pointer (some ⟨b, 0, none⟩), .agg #[.int .i64 k, .int .i64 n], v] w fun e w' => e = .returned (.tuple #[.agg #[.int .i64 0, .int .i64 0], .int .i64 er]) ∧ Below w.heap.size w w' := by
  obtain ⟨A, cap, rfl⟩ := hv.form
  have hPut := slabPut_no B b most sh (.slice A bs.length cap) bs (hs := hs) (er := er) (hno := hno)
  have her := PutNo_er hno
  have HR := Lib.hid h
  have HV := Lib.hid hv
  have HC := Lib.hid hc
  have HU := Lib.hid hu
  have HPut := Lib.hid hPut
  clear h hv hc hu hPut hno
  obtain ⟨wa, hwa⟩ : ∃ wa, (w.alloc (.cells #[.int .i64 k, .int .i64 n] 38)).alloc (.cells #[.int .i64 0, .int .i64 0] 38) = wa := ⟨_, rfl⟩
  have hba : Below w.heap.size w wa := hwa ▸ ((Below.refl _ _).alloc (Nat.le_refl _) _).alloc (by simp) _
  have hbc : Blk wa w.heap.size 38 #[.int .i64 k, .int .i64 n] := hwa ▸ (Blk.new _ _ _).alloc _
  have hbr : Blk wa (w.heap.size + 1) 38 #[.int .i64 0, .int .i64 0] := hwa ▸ Blk.new2 _ _ _ _
  have HRa := Lib.hid (HR.out.below hba)
  have HVa := Lib.hid (HV.out.below hba)
  have HBa := Lib.hid hba
  have HBc := Lib.hid hbc
  have HBr := Lib.hid hbr
  have y0 : wa.cell? ⟨w.heap.size, 0, none⟩ = some (.int .i64 k) := hbc.cell 0 _ rfl
  have y1 : wa.cell? ⟨w.heap.size, 1, none⟩ = some (.int .i64 n) := hbc.cell 1 _ rfl
  clear hba hbc hbr
  go_enter Try.func17, Try.ntmps17
  go_upto_region 1 with fail
  try rw [hwa]
  clear hwa
  go_wp2_with fail
  obtain ⟨g, cap', hcv, _⟩ := HRa.out.at_ hk HC.out
  refine (slabat_ok B b most sh k n c _ HRa.out hk HC.out HU.out g cap' hcv).mono ?_
  rintro e w1 ⟨rfl, hb1⟩
  have HR1 := Lib.hid (HRa.out.below hb1)
  have HV1 := Lib.hid (HVa.out.below hb1)
  have HB1 := Lib.hid (HBa.out.trans (hb1.mono HBa.out.size))
  have HBr1 := Lib.hid (HBr.out.below hb1)
  have HBc1 := Lib.hid (HBc.out.below hb1)
  clear hb1 y0 y1 hcv
  have y0 : w1.cell? ⟨w.heap.size, 0, none⟩ = some (.int .i64 k) := HBc1.out.cell 0 _ rfl
  by_cases hl : 65536 < bs.length
  · go_wp2_with fail
    refine (slabClass_bad bs.length (by omega) _).mono ?_
    rintro e w' ⟨rfl, hw⟩
    subst hw
    go_wp2_with fail
    refine (HPut.out _ HR1.out HV1.out).mono ?_
    rintro e w2 ⟨rfl, hb2⟩
    have HB2 := Lib.hid (HB1.out.trans (hb2.mono HB1.out.size))
    have HBr2 := Lib.hid (HBr1.out.below hb2)
    clear hb2 y0
    have rf := (HBr2.out).frozen
    have rl := (HBr2.out).lt
    have r0 := (HBr2.out).cell 0 _ rfl
    have r1 := (HBr2.out).cell 1 _ rfl
    rcases her with rfl | rfl
    all_goals
      go_wp2_with fail
      have g4 := ((HBr2.out.set_ 0 (.int .i64 0)).set_ 1 (.int .i64 0)).alloc (.cells #[.int .i64 0, .int .i64 0] 38)
      have q0 := g4.cell 0 _ rfl
      have q1 := g4.cell 1 _ rfl
      have hbf : Below w.heap.size w (((w2.setCell ⟨w.heap.size + 1, 0, none⟩ (.int .i64 0)).setCell ⟨w.heap.size + 1, 1, none⟩ (.int .i64 0)).alloc (.cells #[.int .i64 0, .int .i64 0] 38)) :=
        ((HB2.out.setCell (p := ⟨w.heap.size + 1, 0, none⟩) (by simp) _).setCell (p := ⟨w.heap.size + 1, 1, none⟩) (by simp) _).alloc (by have := HB2.out.size; simp; omega) _
      first
        | exact bodyPost_ret (v := .tuple #[.agg #[.int .i64 0, .int .i64 0], .int .i64 5]) (by simp [results, Try.results17, go_sem, q0, q1]) rfl ⟨rfl, hbf⟩
        | exact bodyPost_ret (v := .tuple #[.agg #[.int .i64 0, .int .i64 0], .int .i64 7]) (by simp [results, Try.results17, go_sem, q0, q1]) rfl ⟨rfl, hbf⟩
  · have hne : classN bs.length ≠ k := hck (by omega)
    have hneI : ¬ ((classN bs.length : Nat) : Int) = (k : Int) := by omega
    go_wp2_with fail
    refine (slabClass_ok bs.length (by omega) _).mono ?_
    rintro e w' ⟨rfl, hw⟩
    subst hw
    go_wp2_with fail
    refine (HPut.out _ HR1.out HV1.out).mono ?_
    rintro e w2 ⟨rfl, hb2⟩
    have HB2 := Lib.hid (HB1.out.trans (hb2.mono HB1.out.size))
    have HBr2 := Lib.hid (HBr1.out.below hb2)
    clear hb2 y0
    have rf := (HBr2.out).frozen
    have rl := (HBr2.out).lt
    have r0 := (HBr2.out).cell 0 _ rfl
    have r1 := (HBr2.out).cell 1 _ rfl
    rcases her with rfl | rfl
    all_goals
      go_wp2_with fail
      have g4 := ((HBr2.out.set_ 0 (.int .i64 0)).set_ 1 (.int .i64 0)).alloc (.cells #[.int .i64 0, .int .i64 0] 38)
      have q0 := g4.cell 0 _ rfl
      have q1 := g4.cell 1 _ rfl
      have hbf : Below w.heap.size w (((w2.setCell ⟨w.heap.size + 1, 0, none⟩ (.int .i64 0)).setCell ⟨w.heap.size + 1, 1, none⟩ (.int .i64 0)).alloc (.cells #[.int .i64 0, .int .i64 0] 38)) :=
        ((HB2.out.setCell (p := ⟨w.heap.size + 1, 0, none⟩) (by simp) _).setCell (p := ⟨w.heap.size + 1, 1, none⟩) (by simp) _).alloc (by have := HB2.out.size; simp; omega) _
      first
        | exact bodyPost_ret (v := .tuple #[.agg #[.int .i64 0, .int .i64 0], .int .i64 5]) (by simp [results, Try.results17, go_sem, q0, q1]) rfl ⟨rfl, hbf⟩
        | exact bodyPost_ret (v := .tuple #[.agg #[.int .i64 0, .int .i64 0], .int .i64 7]) (by simp [results, Try.results17, go_sem, q0, q1]) rfl ⟨rfl, hbf⟩

end Go.Proofs.Ytookfhmghchkjaa
