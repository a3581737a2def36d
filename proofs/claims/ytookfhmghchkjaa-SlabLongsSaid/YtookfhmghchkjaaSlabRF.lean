/- puts and swaps, with the blocks that they may have written. -/
import Derived.Test.YtookfhmghchkjaaSlabR
namespace Go.Proofs.Ytookfhmghchkjaa
open Go Go.RowKit
attribute [local go_sem ↓] Go.wp_at_zero Go.wp_at_succ

set_option maxRecDepth 100000 in
set_option maxHeartbeats 1000000 in
theorem puts_f (m B b : Nat) (most : Int) (sh : Nat → ShV) (st : PSt) (v : Value) (bs : List UInt8) (w : World) (hr : SRep w B b most sh) (hi : SIs sh st) (hw : PWf m st) (hm : m ≤ 1000) (hv : Bts w B 5 v bs) (K N er : Int) (st' : PSt) (hp : pput most st bs = (K, N, er, st')) :
    Calls Try.prog 23 #[.pointer (some ⟨b, 0, none⟩), v, .agg #[.int .i64 K, .int .i64 N], .int .i64 er] w (FPost B b most sh (.bool true) st' w) := by
  obtain ⟨A, cap, rfl⟩ := hv.form
  obtain ⟨wa, hwa⟩ : ∃ wa, w.alloc (.cells #[.int .i64 K, .int .i64 N] 38) = wa := ⟨_, rfl⟩
  have hba : Below w.heap.size w wa := hwa ▸ (Below.refl _ _).alloc (Nat.le_refl _) _
  have hbx : Blk wa w.heap.size 38 #[.int .i64 K, .int .i64 N] := hwa ▸ Blk.new _ _ _
  have HP := fPut m B b most sh st (.slice A bs.length cap) bs wa (hr.below hba) hi hw hm (hv.below hba)
  rw [hp] at HP
  dsimp only at HP
  have HP := Lib.hid HP
  have HR := Lib.hid (hr.below hba)
  have HBx := Lib.hid hbx
  have HBa := Lib.hid hba
  clear hr hi hw hv hba hbx hp
  go_enter Try.func23, Try.ntmps23
  go_upto_region 1 with fail
  try rw [hwa]
  clear hwa
  go_wp2_with fail
  refine HP.out.mono ?_
  rintro e w1 ⟨rfl, sh1, hf⟩
  have hk1 := HR.out.keepS hf.only
  have hbx1 := hk1.blk HBx.out (by decide) (by decide) (by decide)
  have y0 : w1.cell? ⟨w.heap.size, 0, none⟩ = some (.int .i64 K) := hbx1.cell 0 _ rfl
  have y1 : w1.cell? ⟨w.heap.size, 1, none⟩ = some (.int .i64 N) := hbx1.cell 1 _ rfl
  have hz := hbx1.lt
  have HF := Lib.hid (FP.after HBa.out hf)
  clear hf hk1 hbx1
  go_wp2_with fail
  go_ret
  exact ⟨by simp, sh1, HF.out.below ((Below.refl _ _).alloc (Nat.le_refl _) _)⟩

set_option maxRecDepth 100000 in
set_option maxHeartbeats 1000000 in
theorem swaps_f (m B b : Nat) (most : Int) (sh : Nat → ShV) (st : PSt) (K0 N0 : Int) (v : Value) (bs : List UInt8) (w : World) (hr : SRep w B b most sh) (hi : SIs sh st) (hw : PWf m st) (hm : m ≤ 1000) (hv : Bts w B 5 v bs) (K N er : Int) (st' : PSt) (hp : pswap most st K0 N0 bs = (K, N, er, st')) :
    Calls Try.prog 24 #[.pointer (some ⟨b, 0, none⟩), .agg #[.int .i64 K0, .int .i64 N0], v, .agg #[.int .i64 K, .int .i64 N], .int .i64 er] w (FPost B b most sh (.bool true) st' w) := by
  obtain ⟨A, cap, rfl⟩ := hv.form
  obtain ⟨wa, hwa⟩ : ∃ wa, (w.alloc (.cells #[.int .i64 K0, .int .i64 N0] 38)).alloc (.cells #[.int .i64 K, .int .i64 N] 38) = wa := ⟨_, rfl⟩
  have hba : Below w.heap.size w wa := hwa ▸ ((Below.refl _ _).alloc (Nat.le_refl _) _).alloc (by simp) _
  have hbc : Blk wa w.heap.size 38 #[.int .i64 K0, .int .i64 N0] := hwa ▸ (Blk.new _ _ _).alloc _
  have hbx : Blk wa (w.heap.size + 1) 38 #[.int .i64 K, .int .i64 N] := hwa ▸ Blk.new2 _ _ _ _
  have HP := fSwap m B b most sh st K0 N0 (.slice A bs.length cap) bs wa (hr.below hba) hi hw hm (hv.below hba)
  rw [hp] at HP
  dsimp only at HP
  have HP := Lib.hid HP
  have HR := Lib.hid (hr.below hba)
  have HBx := Lib.hid hbx
  have HBa := Lib.hid hba
  have x0 : wa.cell? ⟨w.heap.size, 0, none⟩ = some (.int .i64 K0) := hbc.cell 0 _ rfl
  have x1 : wa.cell? ⟨w.heap.size, 1, none⟩ = some (.int .i64 N0) := hbc.cell 1 _ rfl
  clear hr hi hw hv hba hbx hbc hp
  go_enter Try.func24, Try.ntmps24
  go_upto_region 1 with fail
  try rw [hwa]
  clear hwa
  go_wp2_with fail
  refine HP.out.mono ?_
  rintro e w1 ⟨rfl, sh1, hf⟩
  have hk1 := HR.out.keepS hf.only
  have hbx1 := hk1.blk HBx.out (by decide) (by decide) (by decide)
  have y0 : w1.cell? ⟨w.heap.size + 1, 0, none⟩ = some (.int .i64 K) := hbx1.cell 0 _ rfl
  have y1 : w1.cell? ⟨w.heap.size + 1, 1, none⟩ = some (.int .i64 N) := hbx1.cell 1 _ rfl
  have hz := hbx1.lt
  have HF := Lib.hid (FP.after HBa.out hf)
  clear hf hk1 hbx1 x0 x1
  go_wp2_with fail
  go_ret
  exact ⟨by simp, sh1, HF.out.below ((Below.refl _ _).alloc (Nat.le_refl _) _)⟩


end Go.Proofs.Ytookfhmghchkjaa
