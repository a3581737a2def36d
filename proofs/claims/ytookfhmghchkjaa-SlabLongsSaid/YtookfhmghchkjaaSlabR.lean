/- The law's helpers of layer 13: puts, swaps, gets, uses, frees, class. -/
import Derived.Test.YtookfhmghchkjaaSlabQ
import Derived.Lib.SlBytesConst
namespace Go.Proofs.Ytookfhmghchkjaa
open Go Go.RowKit
attribute [local go_sem ↓] Go.wp_at_zero Go.wp_at_succ

set_option maxRecDepth 100000 in
set_option maxHeartbeats 1000000 in
theorem puts_true (m B b : Nat) (most : Int) (st : PSt) (v : Value) (bs : List UInt8) (w : World) (h : ARep w B b most st) (hw : PWf m st) (hm : m ≤ 1000) (hv : Bts w B 5 v bs) (K N er : Int) (st' : PSt) (hp : pput most st bs = (K, N, er, st')) :
    Calls Try.prog 23 #[.pointer (some ⟨b, 0, none⟩), v, .agg #[.int .i64 K, .int .i64 N], .int .i64 er] w (APost B b most (.bool true) st' w) := by
  obtain ⟨A, cap, rfl⟩ := hv.form
  obtain ⟨wa, hwa⟩ : ∃ wa, w.alloc (.cells #[.int .i64 K, .int .i64 N] 38) = wa := ⟨_, rfl⟩
  have hba : Below w.heap.size w wa := hwa ▸ (Below.refl _ _).alloc (Nat.le_refl _) _
  have hbx : Blk wa w.heap.size 38 #[.int .i64 K, .int .i64 N] := hwa ▸ Blk.new _ _ _
  have hB : B ≤ w.heap.size := by obtain ⟨sh, hr, _⟩ := h; exact Nat.le_trans hr.base (Nat.le_of_lt hr.blk.lt)
  have HP := aPut m B b most st (.slice A bs.length cap) bs wa (h.below hba) hw hm (hv.below hba)
  rw [hp] at HP
  dsimp only at HP
  have HP := Lib.hid HP
  have HBx := Lib.hid hbx
  have HBa := Lib.hid hba
  clear h hw hv hba hbx hp
  go_enter Try.func23, Try.ntmps23
  go_upto_region 1 with fail
  try rw [hwa]
  clear hwa
  go_wp2_with fail
  refine HP.out.mono ?_
  rintro e w1 ⟨rfl, ha1, hk1, hb1⟩
  have hbx1 := hk1.blk HBx.out (by decide) (by decide) (by decide)
  have y0 : w1.cell? ⟨w.heap.size, 0, none⟩ = some (.int .i64 K) := hbx1.cell 0 _ rfl
  have y1 : w1.cell? ⟨w.heap.size, 1, none⟩ = some (.int .i64 N) := hbx1.cell 1 _ rfl
  have hz := hbx1.lt
  have HA1 := Lib.hid ha1
  have HK1 := Lib.hid ((KeepS.of_below HBa.out).trans hk1)
  have HB1 := Lib.hid ((HBa.out.mono hB).trans hb1)
  clear ha1 hk1 hb1 hbx1
  go_wp2_with fail
  go_ret
  exact ⟨by simp, HA1.out.alloc _, HK1.out.trans (KeepS.of_below ((Below.refl _ _).alloc (Nat.le_refl _) _)), HB1.out.alloc (Nat.le_trans hB HB1.out.size) _⟩

set_option maxRecDepth 100000 in
set_option maxHeartbeats 1000000 in
theorem swaps_true (m B b : Nat) (most : Int) (st : PSt) (K0 N0 : Int) (v : Value) (bs : List UInt8) (w : World) (h : ARep w B b most st) (hw : PWf m st) (hm : m ≤ 1000) (hv : Bts w B 5 v bs) (K N er : Int) (st' : PSt) (hp : pswap most st K0 N0 bs = (K, N, er, st')) :
    Calls Try.prog 24 #[.pointer (some ⟨b, 0, none⟩), .agg #[.int .i64 K0, .int .i64 N0], v, .agg #[.int .i64 K, .int .i64 N], .int .i64 er] w (APost B b most (.bool true) st' w) := by
  obtain ⟨A, cap, rfl⟩ := hv.form
  obtain ⟨wa, hwa⟩ : ∃ wa, (w.alloc (.cells #[.int .i64 K0, .int .i64 N0] 38)).alloc (.cells #[.int .i64 K, .int .i64 N] 38) = wa := ⟨_, rfl⟩
  have hba : Below w.heap.size w wa := hwa ▸ ((Below.refl _ _).alloc (Nat.le_refl _) _).alloc (by simp) _
  have hbc : Blk wa w.heap.size 38 #[.int .i64 K0, .int .i64 N0] := hwa ▸ (Blk.new _ _ _).alloc _
  have hbx : Blk wa (w.heap.size + 1) 38 #[.int .i64 K, .int .i64 N] := hwa ▸ Blk.new2 _ _ _ _
  have hB : B ≤ w.heap.size := by obtain ⟨sh, hr, _⟩ := h; exact Nat.le_trans hr.base (Nat.le_of_lt hr.blk.lt)
  have HP := aSwap m B b most st K0 N0 (.slice A bs.length cap) bs wa (h.below hba) hw hm (hv.below hba)
  rw [hp] at HP
  dsimp only at HP
  have HP := Lib.hid HP
  have HBx := Lib.hid hbx
  have HBa := Lib.hid hba
  have x0 : wa.cell? ⟨w.heap.size, 0, none⟩ = some (.int .i64 K0) := hbc.cell 0 _ rfl
  have x1 : wa.cell? ⟨w.heap.size, 1, none⟩ = some (.int .i64 N0) := hbc.cell 1 _ rfl
  clear h hw hv hba hbx hbc hp
  go_enter Try.func24, Try.ntmps24
  go_upto_region 1 with fail
  try rw [hwa]
  clear hwa
  go_wp2_with fail
  refine HP.out.mono ?_
  rintro e w1 ⟨rfl, ha1, hk1, hb1⟩
  have hbx1 := hk1.blk HBx.out (by decide) (by decide) (by decide)
  have y0 : w1.cell? ⟨w.heap.size + 1, 0, none⟩ = some (.int .i64 K) := hbx1.cell 0 _ rfl
  have y1 : w1.cell? ⟨w.heap.size + 1, 1, none⟩ = some (.int .i64 N) := hbx1.cell 1 _ rfl
  have hz := hbx1.lt
  have HA1 := Lib.hid ha1
  have HK1 := Lib.hid ((KeepS.of_below HBa.out).trans hk1)
  have HB1 := Lib.hid ((HBa.out.mono hB).trans hb1)
  clear ha1 hk1 hb1 hbx1 x0 x1
  go_wp2_with fail
  go_ret
  exact ⟨by simp, HA1.out.alloc _, HK1.out.trans (KeepS.of_below ((Below.refl _ _).alloc (Nat.le_refl _) _)), HB1.out.alloc (Nat.le_trans hB HB1.out.size) _⟩

set_option maxRecDepth 100000 in
set_option maxHeartbeats 1000000 in
theorem gets_none (B b : Nat) (most : Int) (st : PSt) (K N : Int) (w : World) (h : ARep w B b most st) (hn : phas st K N = none) :
    Calls Try.prog 18 #[.pointer (some ⟨b, 0, none⟩), .agg #[.int .i64 K, .int .i64 N], .string ⟨#[]⟩, .int .i64 9] w fun e w' => e = .returned (.bool true) ∧ Below w.heap.size w w' := by
  obtain ⟨wa, hwa⟩ : ∃ wa, w.alloc (.cells #[.int .i64 K, .int .i64 N] 38) = wa := ⟨_, rfl⟩
  have hba : Below w.heap.size w wa := hwa ▸ (Below.refl _ _).alloc (Nat.le_refl _) _
  have hbx : Blk wa w.heap.size 38 #[.int .i64 K, .int .i64 N] := hwa ▸ Blk.new _ _ _
  have HP := Lib.hid (aGet_none B b most st K N wa (h.below hba) hn)
  have HBa := Lib.hid hba
  have x0 : wa.cell? ⟨w.heap.size, 0, none⟩ = some (.int .i64 K) := hbx.cell 0 _ rfl
  have x1 : wa.cell? ⟨w.heap.size, 1, none⟩ = some (.int .i64 N) := hbx.cell 1 _ rfl
  clear h hn hba hbx
  go_enter Try.func18, Try.ntmps18
  go_upto_region 1 with fail
  try rw [hwa]
  clear hwa
  go_wp2_with fail
  refine HP.out.mono ?_
  rintro e w1 ⟨rfl, hb1⟩
  have HB1 := Lib.hid (HBa.out.trans (hb1.mono HBa.out.size))
  have cv := (Bts.nil w1 0 5).string (P := Try.prog) 39 9 Try.underlying39 Try.underlying5 Try.underlying9
  clear hb1 x0 x1
  go_wp2_with fail
  go_ret
  exact ⟨rfl, HB1.out⟩

set_option maxRecDepth 100000 in
set_option maxHeartbeats 1000000 in
theorem gets_some (m B b : Nat) (most : Int) (st : PSt) (K N : Int) (bs : List UInt8) (w : World) (h : ARep w B b most st) (hw : PWf m st) (hn : phas st K N = some bs) :
    Calls Try.prog 18 #[.pointer (some ⟨b, 0, none⟩), .agg #[.int .i64 K, .int .i64 N], .string ⟨bs.toArray⟩, .int .i64 0] w fun e w' => e = .returned (.bool true) ∧ Below w.heap.size w w' := by
  obtain ⟨wa, hwa⟩ : ∃ wa, w.alloc (.cells #[.int .i64 K, .int .i64 N] 38) = wa := ⟨_, rfl⟩
  have hba : Below w.heap.size w wa := hwa ▸ (Below.refl _ _).alloc (Nat.le_refl _) _
  have hbx : Blk wa w.heap.size 38 #[.int .i64 K, .int .i64 N] := hwa ▸ Blk.new _ _ _
  have HP := Lib.hid (aGet_some m B b most st K N bs wa (h.below hba) hw hn)
  have HBa := Lib.hid hba
  have x0 : wa.cell? ⟨w.heap.size, 0, none⟩ = some (.int .i64 K) := hbx.cell 0 _ rfl
  have x1 : wa.cell? ⟨w.heap.size, 1, none⟩ = some (.int .i64 N) := hbx.cell 1 _ rfl
  clear h hn hba hbx hw
  go_enter Try.func18, Try.ntmps18
  go_upto_region 1 with fail
  try rw [hwa]
  clear hwa
  go_wp2_with fail
  refine HP.out.mono ?_
  rintro e w1 ⟨v1, rfl, hown, hb1⟩
  have HB1 := Lib.hid (HBa.out.trans (hb1.mono HBa.out.size))
  have cv := (Bts.of_own hown 0).string (P := Try.prog) 39 9 Try.underlying39 Try.underlying5 Try.underlying9
  obtain ⟨A1, c1, rfl, _, _⟩ := own_form hown
  clear hb1 x0 x1 hown
  go_wp2_with fail
  go_ret
  exact ⟨by simp, HB1.out⟩

set_option maxRecDepth 100000 in
set_option maxHeartbeats 1000000 in
theorem uses_true (m B b : Nat) (most : Int) (st : PSt) (w : World) (h : ARep w B b most st) (hw : PWf m st) (hm : m ≤ 1000) (x y z : Int) (hx : (pused st 13 : Int) = x) (hy : (pall st 13 : Int) = y) (hz : (pheld st 13 : Int) = z) :
    Calls Try.prog 25 #[.pointer (some ⟨b, 0, none⟩), .int .i64 x, .int .i64 y, .int .i64 z] w fun e w' => e = .returned (.bool true) ∧ Below w.heap.size w w' := by
  have HP := aUsed m B b most st w h hw hm
  rw [hx, hy, hz] at HP
  have HP := Lib.hid HP
  clear h hw hx hy hz
  go_enter Try.func25, Try.ntmps25
  go_wp2_with fail
  refine HP.out.mono ?_
  rintro e w1 ⟨rfl, hb1⟩
  have HB1 := Lib.hid hb1
  clear hb1
  go_wp2_with fail
  go_ret
  exact ⟨by simp, HB1.out⟩

set_option maxRecDepth 100000 in
set_option maxHeartbeats 1000000 in
theorem frees_true (m B B2 b : Nat) (most : Int) (st : PSt) (k : Nat) (v : Value) (ns : List Nat) (w : World) (h : ARep w B b most st) (hw : PWf m st) (hm : m ≤ 1000) (hk : k < 13) (hv : w.ownsRow B2 3 1 v ns.length (ics ns)) (hn : (st k).fr.reverse = ns) :
    Calls Try.prog 29 #[.pointer (some ⟨b, 0, none⟩), .int .i64 k, v] w fun e w' => e = .returned (.bool true) ∧ Below w.heap.size w w' := by
  have HP := aFrees m B b most st k w h hw hm hk
  have hl := hw.frlen hk
  have hl2 := hw.len k hk
  have hln : (st k).fr.length = ns.length := by rw [← hn, List.length_reverse]
  rw [hn, hln] at HP
  have HP := Lib.hid HP
  obtain ⟨VA, vc, rfl, hvc, _⟩ := own_form hv
  have HV := Lib.hid hv
  have hn1 : (ns.length : Int) ≤ 1000 := by omega
  clear h hw hn hv hl hl2 hln
  go_enter Try.func29, Try.ntmps29
  go_wp2_with fail
  refine HP.out.mono ?_
  rintro e w1 ⟨v1, rfl, hown, hb1⟩
  obtain ⟨A1, c1, rfl, hc1, _⟩ := own_form hown
  have HO := Lib.hid hown
  have HB1 := Lib.hid hb1
  have HV1 := Lib.hid (ownsRow_only (S := fun _ => False) HV.out (Only.of_below hb1) (fun _ _ h => h))
  clear hb1 hown
  go_wp2_with fail
  go_loopw [27] (fun i wr => ∃ j : Nat, j ≤ ns.length ∧ i = .int .i64 j ∧ Below w1.heap.size w1 wr) (fun i _ => ns.length - (intOf i).toNat)
  case atStart => exact ⟨0, by omega, rfl, Below.refl _ _⟩
  case round =>
    obtain ⟨j, hj, rfl, hbl⟩ := hrel
    have HBl := Lib.hid hbl
    by_cases hjl : j < ns.length
    · have ho := ownsRow_only (S := fun _ => False) HO.out (Only.of_below hbl) (fun _ _ h => h)
      have hv := ownsRow_only (S := fun _ => False) HV1.out (Only.of_below hbl) (fun _ _ h => h)
      obtain ⟨g1, cp1, e1, _, _⟩ := ho.form (by omega)
      injection e1 with e1 el e2
      subst e1 e2
      clear el
      obtain ⟨g2, cp2, e1, _, _⟩ := hv.form (by omega)
      injection e1 with e1 el e2
      subst e1 e2
      clear el
      obtain ⟨n, hn⟩ : ∃ n, ns[j]? = some n := ⟨_, List.getElem?_eq_getElem hjl⟩
      have z1 : wr.cell? ⟨g1, j, none⟩ = some (.int .i64 n) := by
        rw [ho.cellAt j (by omega)]; simp [ics, hn]
      have z2 : wr.cell? ⟨g2, j, none⟩ = some (.int .i64 n) := by
        rw [hv.cellAt j (by omega)]; simp [ics, hn]
      have hjI : (j : Int) < (ns.length : Int) := by omega
      have h1I : (ns.length : Int) ≤ (c1 : Int) := by omega
      have h2I : (ns.length : Int) ≤ (vc : Int) := by omega
      clear ho hv hn hbl
      go_wp2_with fail
      go_quiet (fail)
      go_wp2_with fail
      go_roundw
      case rel => exact ⟨j + 1, by omega, by go_num, ⟨HBl.out.os, HBl.out.tape, HBl.out.output, HBl.out.size, HBl.out.block⟩⟩
      case measure => simp [intOf]; omega
    · obtain rfl : j = ns.length := by omega
      go_wp2_with fail
      go_ret
      exact ⟨rfl, HB1.out.trans (HBl.out.mono HB1.out.size)⟩

theorem class_ok (n k : Nat) (h : n ≤ 65536) (hk : classN n = k) (w : World) :
    Calls Try.prog 9 #[.int .i64 n, .int .i64 k, .int .i64 0] w fun e w' => e = .returned (.bool true) ∧ w' = w := by
  go_enter Try.func9, Try.ntmps9
  go_wp2_with fail
  refine (slabClass_ok n h _).mono ?_
  rw [hk]
  rintro e w' ⟨rfl, hw⟩
  subst hw
  go_wp2_with fail
  go_ret
  exact ⟨by simp, rfl⟩
theorem class_bad (n : Int) (h : n < 0 ∨ 65536 < n) (w : World) :
    Calls Try.prog 9 #[.int .i64 n, .int .i64 0, .int .i64 3] w fun e w' => e = .returned (.bool true) ∧ w' = w := by
  go_enter Try.func9, Try.ntmps9
  go_wp2_with fail
  refine (slabClass_bad n h _).mono ?_
  rintro e w' ⟨rfl, hw⟩
  subst hw
  go_wp2_with fail
  go_ret
  exact ⟨by simp, rfl⟩

end Go.Proofs.Ytookfhmghchkjaa
