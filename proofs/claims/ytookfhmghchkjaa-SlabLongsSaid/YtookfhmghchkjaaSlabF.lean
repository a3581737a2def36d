/- The walk of layer 13's Put. -/
import Derived.Test.YtookfhmghchkjaaSlabE
import Derived.Deep.RegionHeldLaw
import Derived.Deep.RegionHeld3
namespace Go.Proofs.Ytookfhmghchkjaa
open Go Go.RowKit
attribute [local go_sem ↓] Go.wp_at_zero Go.wp_at_succ

theorem cell_drewS {W : World} {a : Addr} {v : Value} (h : W.cell? a = some v) : W.drew.cell? a = some v := h


theorem SRep.farset {w : World} {B b g i : Nat} {most : Int} {sh : Nat → ShV} {u : Value} {cs : Array Value} (h : SRep w B b most sh) (hB : B ≤ g) (hx : Blk w g 38 cs) : SRep (w.setCell ⟨g, i, none⟩ u) B b most sh := by
  have ho : Only (fun k => k = g) w (w.setCell ⟨g, i, none⟩ u) := Only.setCell (S := fun k => k = g) (Only.refl _ _) (p := ⟨g, i, none⟩) (.inl rfl) _
  refine h.only ho (fun k hk e => ?_) (KeepB.of_only ho fun k _ hk => ⟨by omega, fun c fr e => ?_⟩)
  · obtain ⟨cur, t, h2, ht⟩ := h.fp_type hk
    subst e
    unfold Blk at hx
    rw [hx] at h2
    injection h2 with h2
    injection h2 with _ h2
    subst h2
    rcases ht with ht | ht | ht <;> exact absurd ht (by decide)
  · subst hk
    unfold Blk at hx
    rw [hx] at e
    injection e with e
    injection e with _ e
    exact absurd e (by decide)

set_option maxRecDepth 100000 in
set_option maxHeartbeats 1000000 in
theorem slabPut_long (B b : Nat) (most : Int) (sh : Nat → ShV) (v : Value) (bs : List UInt8) (w : World) (h : SRep w B b most sh) (hv : Bts w B 5 v bs) (hl : 65536 < bs.length) :
    Calls Try.prog 15 #[.pointer (some ⟨b, 0, none⟩), v] w fun e w' => e = .returned (.tuple #[.agg #[.int .i64 0, .int .i64 0], .int .i64 5]) ∧ Below w.heap.size w w' := by
  obtain ⟨A, cap, rfl⟩ := hv.form
  have HR := Lib.hid h
  have HV := Lib.hid hv
  clear h hv
  obtain ⟨wa, hwa⟩ : ∃ wa, w.alloc (.cells #[.int .i64 0, .int .i64 0] 38) = wa := ⟨_, rfl⟩
  have hba : Below w.heap.size w wa := hwa ▸ (Below.refl _ _).alloc (Nat.le_refl _) _
  have hbx : Blk wa w.heap.size 38 #[.int .i64 0, .int .i64 0] := hwa ▸ Blk.new _ _ _
  have HRa := Lib.hid (HR.out.below hba)
  have HVa := Lib.hid (HV.out.below hba)
  have HBa := Lib.hid hba
  have HBx := Lib.hid hbx
  have y0 : wa.cell? ⟨w.heap.size, 0, none⟩ = some (.int .i64 0) := hbx.cell 0 _ rfl
  have y1 : wa.cell? ⟨w.heap.size, 1, none⟩ = some (.int .i64 0) := hbx.cell 1 _ rfl
  have yf := hbx.frozen
  have yl := hbx.lt
  clear hba hbx
  go_enter Try.func15, Try.ntmps15
  go_upto_region 1 with fail
  try rw [hwa]
  clear hwa
  go_wp2_with fail
  refine HRa.out.zero.mono ?_
  rintro e w' ⟨rfl, hw⟩
  subst hw
  go_wp2_with fail
  refine (slabClass_bad bs.length (by omega) _).mono ?_
  rintro e w' ⟨rfl, hw⟩
  subst hw
  go_wp2_with fail
  have g3 := (HBx.out.set_ 0 (.int .i64 0)).set_ 1 (.int .i64 0)
  have q0 := g3.cell 0 _ rfl
  have q1 := g3.cell 1 _ rfl
  exact bodyPost_ret (v := .tuple #[.agg #[.int .i64 0, .int .i64 0], .int .i64 5]) (by simp [results, Try.results15, go_sem, q0, q1]) rfl ⟨rfl, HBa.out.setCell (p := ⟨w.heap.size, 0, none⟩) (Nat.le_refl _) _ |>.setCell (p := ⟨w.heap.size, 1, none⟩) (Nat.le_refl _) _⟩

set_option maxRecDepth 100000 in
set_option maxHeartbeats 1000000 in
theorem slabPut_full (B b : Nat) (most : Int) (sh : Nat → ShV) (v : Value) (bs : List UInt8) (w : World) (h : SRep w B b most sh) (hs : SSmall sh) (hv : Bts w B 5 v bs) (hl : bs.length ≤ 65536) (k : Nat) (hck : classN bs.length = k) (hfr : (sh k).fr = []) (hfull : most < (allN sh 13 : Int) + (csize k : Int)) :
    Calls Try.prog 15 #[.pointer (some ⟨b, 0, none⟩), v] w fun e w' => e = .returned (.tuple #[.agg #[.int .i64 0, .int .i64 0], .int .i64 7]) ∧ Below w.heap.size w w' := by
  obtain ⟨A, cap, rfl⟩ := hv.form
  have hk : k < 13 := by have := classN_le hl; omega
  have hkI : (k : Int) < 13 := by omega
  have hk0 : ¬ (k : Int) < 0 := by omega
  have HR := Lib.hid h
  have HV := Lib.hid hv
  have HSm := Lib.hid hs
  clear h hv hs
  obtain ⟨wa, hwa⟩ : ∃ wa, w.alloc (.cells #[.int .i64 0, .int .i64 0] 38) = wa := ⟨_, rfl⟩
  have hba : Below w.heap.size w wa := hwa ▸ (Below.refl _ _).alloc (Nat.le_refl _) _
  have hbx : Blk wa w.heap.size 38 #[.int .i64 0, .int .i64 0] := hwa ▸ Blk.new _ _ _
  have HRa := Lib.hid (HR.out.below hba)
  have HVa := Lib.hid (HV.out.below hba)
  have HBa := Lib.hid hba
  have HBx := Lib.hid hbx
  have y0 : wa.cell? ⟨w.heap.size, 0, none⟩ = some (.int .i64 0) := hbx.cell 0 _ rfl
  have y1 : wa.cell? ⟨w.heap.size, 1, none⟩ = some (.int .i64 0) := hbx.cell 1 _ rfl
  have yf := hbx.frozen
  have yl := hbx.lt
  clear hba hbx
  go_enter Try.func15, Try.ntmps15
  go_upto_region 1 with fail
  try rw [hwa]
  clear hwa
  go_wp2_with fail
  refine HRa.out.zero.mono ?_
  rintro e w' ⟨rfl, hw⟩
  subst hw
  go_wp2_with fail
  refine (slabClass_ok bs.length hl _).mono ?_
  rw [hck]
  rintro e w' ⟨rfl, hw⟩
  subst hw
  have x0 := HRa.out.cv hk
  have x1 := HRa.out.fv hk
  obtain ⟨CA, cc, hcv, hc1, _⟩ := own_form (HRa.out.cells k hk)
  obtain ⟨FA, fc, hfv, hf1, _⟩ := own_form (HRa.out.free k hk)
  rw [hcv] at x0
  rw [hfv, hfr] at x1
  clear hcv hfv hc1 hf1
  go_wp2_with fail
  refine (slabUsed_any B b most sh _ HRa.out HSm.out).mono ?_
  rintro e w2 ⟨rfl, hb2⟩
  have HR2 := Lib.hid (HRa.out.below hb2)
  have HB2 := Lib.hid (HBa.out.trans (hb2.mono HBa.out.size))
  have hbx2 := HBx.out.below hb2
  have x2 : w2.cell? ⟨b, 1, none⟩ = some (.int .i64 most) := HR2.out.blk.cell 1 _ rfl
  have hal := allN_bound HSm.out (m := 13) (by omega)
  have hcs := csize_le hk
  have y0 : w2.cell? ⟨w.heap.size, 0, none⟩ = some (.int .i64 0) := hbx2.cell 0 _ rfl
  have y1 : w2.cell? ⟨w.heap.size, 1, none⟩ = some (.int .i64 0) := hbx2.cell 1 _ rfl
  have yf := hbx2.frozen
  have yl := hbx2.lt
  have HBx2 := Lib.hid hbx2
  clear hb2 hbx2 x0 x1
  go_wp2_with fail
  go_quiet ((go_at_call 28; refine Calls.quiet_of_same (slabsize_any k hk _)))
  have HBx3 : Hid (Blk (w2.drewN nq) w.heap.size 38 #[.int .i64 0, .int .i64 0]) := Lib.hid HBx2.out
  have HB3 : Hid (Below w.heap.size w (w2.drewN nq)) := Lib.hid ⟨HB2.out.os, HB2.out.tape, HB2.out.output, HB2.out.size, HB2.out.block⟩
  clear y0 y1 yf yl x2
  generalize w2.drewN nq = w3 at HBx3 HB3 ⊢
  have yf := HBx3.out.frozen
  have yl := HBx3.out.lt
  have y0 : w3.cell? ⟨w.heap.size, 0, none⟩ = some (.int .i64 0) := HBx3.out.cell 0 _ rfl
  have y1 : w3.cell? ⟨w.heap.size, 1, none⟩ = some (.int .i64 0) := HBx3.out.cell 1 _ rfl
  go_wp2_with fail
  have g3 := (HBx3.out.set_ 0 (.int .i64 0)).set_ 1 (.int .i64 0)
  have q0 := g3.cell 0 _ rfl
  have q1 := g3.cell 1 _ rfl
  exact bodyPost_ret (v := .tuple #[.agg #[.int .i64 0, .int .i64 0], .int .i64 7]) (by simp [results, Try.results15, go_sem, q0, q1]) rfl ⟨rfl, HB3.out.setCell (p := ⟨w.heap.size, 0, none⟩) (Nat.le_refl _) _ |>.setCell (p := ⟨w.heap.size, 1, none⟩) (Nat.le_refl _) _⟩

end Go.Proofs.Ytookfhmghchkjaa
