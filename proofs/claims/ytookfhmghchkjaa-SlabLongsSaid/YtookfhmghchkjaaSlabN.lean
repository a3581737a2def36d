/- Layer 13's functions at nil and zero arenas; the walk of SlabNil. -/
import Derived.Test.YtookfhmghchkjaaSlabT
import Derived.Test.YtookfhmghchkjaaArgsB
namespace Go.Proofs.Ytookfhmghchkjaa
open Go Go.RowKit
attribute [local go_sem ↓] Go.wp_at_zero Go.wp_at_succ

/-- A nil arena, or a zero one. -/
def ZA (w : World) (p : Value) : Prop := p = .pointer none ∨ ∃ b v, p = .pointer (some ⟨b, 0, none⟩) ∧ Blk w b 65 v ∧ v[0]? = some (.bool false)
theorem ZA.below {w w' : World} {p : Value} (h : ZA w p) (hb : Below w.heap.size w w') : ZA w' p := by
  rcases h with h | ⟨b, v, h1, h2, h3⟩
  · exact .inl h
  · exact .inr ⟨b, v, h1, h2.below hb, h3⟩
theorem ZA.zero {w : World} {p : Value} (h : ZA w p) : Calls Try.prog 31 #[p] w fun e w' => e = .returned (.bool true) ∧ w' = w := by
  rcases h with rfl | ⟨b, v, rfl, h2, h3⟩
  · exact slabzero_nil w
  · exact slabzero_blank b v w h2 h3

theorem za_at (p : Value) (K N : Int) (w : World) (h : ZA w p) : Calls Try.prog 33 #[p, .agg #[.int .i64 K, .int .i64 N]] w fun e w' => e = .returned (.tuple #[.pointer none, .int .i64 1]) ∧ Below w.heap.size w w' := by
  have hb := (Below.refl w.heap.size w).alloc (Nat.le_refl _) (.cells #[.int .i64 K, .int .i64 N] 38)
  have HZ := Lib.hid (h.below hb)
  have HB := Lib.hid hb
  clear h hb
  go_enter Try.func33, Try.ntmps33
  go_wp2_with fail
  refine HZ.out.zero.mono ?_
  rintro e w' ⟨rfl, rfl⟩
  go_wp2_with fail
  go_ret2
  exact ⟨rfl, HB.out⟩

theorem za_get (p : Value) (K N : Int) (w : World) (h : ZA w p) : Calls Try.prog 34 #[p, .agg #[.int .i64 K, .int .i64 N]] w fun e w' => e = .returned (.tuple #[.slice none 0 0, .int .i64 1]) ∧ Below w.heap.size w w' := by
  have hb := (Below.refl w.heap.size w).alloc (Nat.le_refl _) (.cells #[.int .i64 K, .int .i64 N] 38)
  have HP := Lib.hid (za_at p K N _ (h.below hb))
  have HB := Lib.hid hb
  clear h hb
  go_enter Try.func34, Try.ntmps34
  go_wp2_with fail
  refine HP.out.mono ?_
  rintro e w1 ⟨rfl, hb1⟩
  have HB1 := Lib.hid (HB.out.trans (hb1.mono HB.out.size))
  clear hb1
  go_wp2_with fail
  go_ret2
  exact ⟨rfl, HB1.out⟩

theorem za_free (p : Value) (K N : Int) (w : World) (h : ZA w p) : Calls Try.prog 16 #[p, .agg #[.int .i64 K, .int .i64 N]] w fun e w' => e = .returned (.int .i64 1) ∧ Below w.heap.size w w' := by
  have hb := (Below.refl w.heap.size w).alloc (Nat.le_refl _) (.cells #[.int .i64 K, .int .i64 N] 38)
  have HP := Lib.hid (za_at p K N _ (h.below hb))
  have HB := Lib.hid hb
  clear h hb
  go_enter Try.func16, Try.ntmps16
  go_wp2_with fail
  refine HP.out.mono ?_
  rintro e w1 ⟨rfl, hb1⟩
  have HB1 := Lib.hid (HB.out.trans (hb1.mono HB.out.size))
  clear hb1
  go_wp2_with fail
  go_ret
  exact ⟨rfl, HB1.out⟩

theorem za_put (p v : Value) (w : World) (h : ZA w p) : Calls Try.prog 15 #[p, v] w fun e w' => e = .returned (.tuple #[.agg #[.int .i64 0, .int .i64 0], .int .i64 1]) ∧ Below w.heap.size w w' := by
  obtain ⟨wa, hwa⟩ : ∃ wa, w.alloc (.cells #[.int .i64 0, .int .i64 0] 38) = wa := ⟨_, rfl⟩
  have hba : Below w.heap.size w wa := hwa ▸ (Below.refl _ _).alloc (Nat.le_refl _) _
  have hbx : Blk wa w.heap.size 38 #[.int .i64 0, .int .i64 0] := hwa ▸ Blk.new _ _ _
  have HZ := Lib.hid (h.below hba)
  have HBa := Lib.hid hba
  have HBx := Lib.hid hbx
  have y0 : wa.cell? ⟨w.heap.size, 0, none⟩ = some (.int .i64 0) := hbx.cell 0 _ rfl
  have y1 : wa.cell? ⟨w.heap.size, 1, none⟩ = some (.int .i64 0) := hbx.cell 1 _ rfl
  have yf := hbx.frozen
  have yl := hbx.lt
  clear hba hbx h
  go_enter Try.func15, Try.ntmps15
  go_upto_region 1 with fail
  try rw [hwa]
  clear hwa
  go_wp2_with fail
  refine HZ.out.zero.mono ?_
  rintro e w' ⟨rfl, hw⟩
  subst hw
  go_wp2_with fail
  have g3 := (HBx.out.set_ 0 (.int .i64 0)).set_ 1 (.int .i64 0)
  have q0 := g3.cell 0 _ rfl
  have q1 := g3.cell 1 _ rfl
  exact bodyPost_ret (v := .tuple #[.agg #[.int .i64 0, .int .i64 0], .int .i64 1]) (by simp [results, Try.results15, go_sem, q0, q1]) rfl ⟨rfl, HBa.out.setCell (p := ⟨w.heap.size, 0, none⟩) (Nat.le_refl _) _ |>.setCell (p := ⟨w.heap.size, 1, none⟩) (Nat.le_refl _) _⟩

theorem za_swap (p : Value) (K N : Int) (v : Value) (w : World) (h : ZA w p) : Calls Try.prog 17 #[p, .agg #[.int .i64 K, .int .i64 N], v] w fun e w' => e = .returned (.tuple #[.agg #[.int .i64 0, .int .i64 0], .int .i64 1]) ∧ Below w.heap.size w w' := by
  obtain ⟨wa, hwa⟩ : ∃ wa, (w.alloc (.cells #[.int .i64 K, .int .i64 N] 38)).alloc (.cells #[.int .i64 0, .int .i64 0] 38) = wa := ⟨_, rfl⟩
  have hba : Below w.heap.size w wa := hwa ▸ ((Below.refl _ _).alloc (Nat.le_refl _) _).alloc (by simp) _
  have hbc : Blk wa w.heap.size 38 #[.int .i64 K, .int .i64 N] := hwa ▸ (Blk.new _ _ _).alloc _
  have hbr : Blk wa (w.heap.size + 1) 38 #[.int .i64 0, .int .i64 0] := hwa ▸ Blk.new2 _ _ _ _
  have HP := Lib.hid (za_at p K N _ (h.below hba))
  have HBa := Lib.hid hba
  have HBr := Lib.hid hbr
  have y0 : wa.cell? ⟨w.heap.size, 0, none⟩ = some (.int .i64 K) := hbc.cell 0 _ rfl
  have y1 : wa.cell? ⟨w.heap.size, 1, none⟩ = some (.int .i64 N) := hbc.cell 1 _ rfl
  clear hba hbc hbr h
  go_enter Try.func17, Try.ntmps17
  go_upto_region 1 with fail
  try rw [hwa]
  clear hwa
  go_wp2_with fail
  refine HP.out.mono ?_
  rintro e w1 ⟨rfl, hb1⟩
  have HB1 := Lib.hid (HBa.out.trans (hb1.mono HBa.out.size))
  have HBr1 := Lib.hid (HBr.out.below hb1)
  clear hb1 y0 y1
  have rf := (HBr1.out).frozen
  have rl := (HBr1.out).lt
  have r0 := (HBr1.out).cell 0 _ rfl
  have r1 := (HBr1.out).cell 1 _ rfl
  go_wp2_with fail
  have g2 := (HBr1.out).set_ 0 (.int .i64 0)
  have g3 := g2.set_ 1 (.int .i64 0)
  have q0 := g3.cell 0 _ rfl
  have q1 := g3.cell 1 _ rfl
  exact bodyPost_ret (v := .tuple #[.agg #[.int .i64 0, .int .i64 0], .int .i64 1]) (by simp [results, Try.results17, go_sem, q0, q1]) rfl ⟨rfl, (HB1.out.setCell (p := ⟨w.heap.size + 1, 0, none⟩) (by simp) _).setCell (p := ⟨w.heap.size + 1, 1, none⟩) (by simp) _⟩

theorem za_used (p : Value) (w : World) (h : ZA w p) : Calls Try.prog 19 #[p] w fun e w' => e = .returned (.tuple #[.int .i64 0, .int .i64 0, .int .i64 0]) ∧ w' = w := by
  have HZ := Lib.hid h
  clear h
  go_enter Try.func19, Try.ntmps19
  go_wp2_with fail
  refine HZ.out.zero.mono ?_
  rintro e w' ⟨rfl, hw⟩
  subst hw
  go_wp2_with fail
  go_ret3
  exact ⟨rfl, rfl⟩
theorem za_frees (p : Value) (k : Int) (w : World) (h : ZA w p) : Calls Try.prog 22 #[p, .int .i64 k] w fun e w' => e = .returned (.tuple #[.slice none 0 0, .int .i64 1]) ∧ w' = w := by
  have HZ := Lib.hid h
  clear h
  go_enter Try.func22, Try.ntmps22
  go_wp2_with fail
  refine HZ.out.zero.mono ?_
  rintro e w' ⟨rfl, hw⟩
  subst hw
  go_wp2_with fail
  go_ret2
  exact ⟨rfl, rfl⟩
theorem za_copy (p : Value) (w : World) (h : ZA w p) : Calls Try.prog 26 #[p] w fun e w' => e = .returned (.pointer none) ∧ w' = w := by
  have HZ := Lib.hid h
  clear h
  go_enter Try.func26, Try.ntmps26
  go_wp2_with fail
  refine HZ.out.zero.mono ?_
  rintro e w' ⟨rfl, hw⟩
  subst hw
  go_wp2_with fail
  go_ret
  exact ⟨rfl, rfl⟩

theorem puts_zero (p v : Value) (w : World) (h : ZA w p) : Calls Try.prog 23 #[p, v, .agg #[.int .i64 0, .int .i64 0], .int .i64 1] w fun e w' => e = .returned (.bool true) ∧ Below w.heap.size w w' := by
  have hb := (Below.refl w.heap.size w).alloc (Nat.le_refl _) (.cells #[.int .i64 0, .int .i64 0] 38)
  have HP := Lib.hid (za_put p v _ (h.below hb))
  have HBx : Hid (Blk (w.alloc (.cells #[.int .i64 0, .int .i64 0] 38)) w.heap.size 38 #[.int .i64 0, .int .i64 0]) := Lib.hid (Blk.new _ _ _)
  have HB := Lib.hid hb
  clear h hb
  go_enter Try.func23, Try.ntmps23
  go_wp2_with fail
  refine HP.out.mono ?_
  rintro e w1 ⟨rfl, hb1⟩
  have HB1 := Lib.hid (HB.out.trans (hb1.mono HB.out.size))
  have hbx := HBx.out.below hb1
  have y0 : w1.cell? ⟨w.heap.size, 0, none⟩ = some (.int .i64 0) := hbx.cell 0 _ rfl
  have y1 : w1.cell? ⟨w.heap.size, 1, none⟩ = some (.int .i64 0) := hbx.cell 1 _ rfl
  have hz := hbx.lt
  clear hb1 hbx
  go_wp2_with fail
  go_ret
  exact ⟨by simp, HB1.out.alloc HB1.out.size _⟩

theorem swaps_zero (p : Value) (K N : Int) (v : Value) (w : World) (h : ZA w p) : Calls Try.prog 24 #[p, .agg #[.int .i64 K, .int .i64 N], v, .agg #[.int .i64 0, .int .i64 0], .int .i64 1] w fun e w' => e = .returned (.bool true) ∧ Below w.heap.size w w' := by
  obtain ⟨wa, hwa⟩ : ∃ wa, (w.alloc (.cells #[.int .i64 K, .int .i64 N] 38)).alloc (.cells #[.int .i64 0, .int .i64 0] 38) = wa := ⟨_, rfl⟩
  have hba : Below w.heap.size w wa := hwa ▸ ((Below.refl _ _).alloc (Nat.le_refl _) _).alloc (by simp) _
  have hbc : Blk wa w.heap.size 38 #[.int .i64 K, .int .i64 N] := hwa ▸ (Blk.new _ _ _).alloc _
  have hbx : Blk wa (w.heap.size + 1) 38 #[.int .i64 0, .int .i64 0] := hwa ▸ Blk.new2 _ _ _ _
  have HP := Lib.hid (za_swap p K N v _ (h.below hba))
  have HBx := Lib.hid hbx
  have HBa := Lib.hid hba
  have x0 : wa.cell? ⟨w.heap.size, 0, none⟩ = some (.int .i64 K) := hbc.cell 0 _ rfl
  have x1 : wa.cell? ⟨w.heap.size, 1, none⟩ = some (.int .i64 N) := hbc.cell 1 _ rfl
  clear h hba hbx hbc
  go_enter Try.func24, Try.ntmps24
  go_upto_region 1 with fail
  try rw [hwa]
  clear hwa
  go_wp2_with fail
  refine HP.out.mono ?_
  rintro e w1 ⟨rfl, hb1⟩
  have hbx1 := HBx.out.below hb1
  have y0 : w1.cell? ⟨w.heap.size + 1, 0, none⟩ = some (.int .i64 0) := hbx1.cell 0 _ rfl
  have y1 : w1.cell? ⟨w.heap.size + 1, 1, none⟩ = some (.int .i64 0) := hbx1.cell 1 _ rfl
  have hz := hbx1.lt
  have HB1 := Lib.hid (HBa.out.trans (hb1.mono HBa.out.size))
  clear hb1 hbx1 x0 x1
  go_wp2_with fail
  go_ret
  exact ⟨by simp, HB1.out.alloc HB1.out.size _⟩

theorem gets_zero (p : Value) (K N : Int) (w : World) (h : ZA w p) : Calls Try.prog 18 #[p, .agg #[.int .i64 K, .int .i64 N], .string ⟨#[]⟩, .int .i64 1] w fun e w' => e = .returned (.bool true) ∧ Below w.heap.size w w' := by
  have hb := (Below.refl w.heap.size w).alloc (Nat.le_refl _) (.cells #[.int .i64 K, .int .i64 N] 38)
  have HP := Lib.hid (za_get p K N _ (h.below hb))
  have HB := Lib.hid hb
  clear h hb
  go_enter Try.func18, Try.ntmps18
  go_wp2_with fail
  refine HP.out.mono ?_
  rintro e w1 ⟨rfl, hb1⟩
  have HB1 := Lib.hid (HB.out.trans (hb1.mono HB.out.size))
  have cv := (Bts.nil w1 0 5).string (P := Try.prog) 39 9 Try.underlying39 Try.underlying5 Try.underlying9
  clear hb1
  go_wp2_with fail
  go_ret
  exact ⟨rfl, HB1.out⟩

theorem uses_zero (p : Value) (w : World) (h : ZA w p) : Calls Try.prog 25 #[p, .int .i64 0, .int .i64 0, .int .i64 0] w fun e w' => e = .returned (.bool true) ∧ w' = w := by
  have HP := Lib.hid (za_used p w h)
  clear h
  go_enter Try.func25, Try.ntmps25
  go_wp2_with fail
  refine HP.out.mono ?_
  rintro e w' ⟨rfl, hw⟩
  subst hw
  go_wp2_with fail
  go_ret
  exact ⟨rfl, rfl⟩

end Go.Proofs.Ytookfhmghchkjaa
