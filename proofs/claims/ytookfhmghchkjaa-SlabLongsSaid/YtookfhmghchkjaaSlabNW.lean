/- The walk of SlabNil. -/
import Derived.Test.YtookfhmghchkjaaSlabN
namespace Go.Proofs.Ytookfhmghchkjaa
open Go Go.RowKit
attribute [local go_sem ↓] Go.wp_at_zero Go.wp_at_succ

theorem Bts.up {w : World} {B B' U : Nat} {v : Value} {bs : List UInt8} (h : Bts w B U v bs) (hB : B ≤ B') : Bts w B' U v bs := by
  obtain ⟨A, cap, h1, h2, h3, h4, h5⟩ := h
  refine ⟨A, cap, h1, h2, h3, h4, fun h0 => ?_⟩
  obtain ⟨b, off, g1, g2, g3, g4⟩ := h5 h0
  exact ⟨b, off, g1, g2, g3.imp (fun g => Nat.lt_of_lt_of_le g hB) (fun g => g), g4⟩

/-- The cells of a zero arena. -/
def zcells : Array Value := (.bool false :: .int .i64 0 :: (List.range 13).flatMap fun _ => [.slice none 0 0, .slice none 0 0]).toArray

theorem pput_small (bs : List UInt8) (hl : bs.length ≤ 600) : pput 0 p0 bs = (0, 0, 7, p0) := by
  have h1 : (p0 (classN bs.length)).fr.getLast? = none := rfl
  have hk : classN bs.length < 13 := by have := classN_le (n := bs.length) (by omega); omega
  have h2 := (csize_le hk).1
  unfold pput
  rw [if_neg (by omega), h1]
  dsimp only
  rw [if_pos (by omega)]



set_option maxRecDepth 100000 in
set_option maxHeartbeats 4000000 in
theorem nil_walk (x y : Int) (v : Value) (bs : List UInt8) (k : Int) (w : World) (hv : Bts w w.heap.size 5 v bs) :
    Calls Try.prog 7 #[.agg #[.int .i64 x, .int .i64 y], v, .int .i64 k] w fun e w' => e = .returned (.bool true) ∧ Below w.heap.size w w' := by
  obtain ⟨A, cap, rfl⟩ := hv.form
  obtain ⟨wa, hwa⟩ : ∃ wa, w.alloc (.cells #[.int .i64 x, .int .i64 y] 38) = wa := ⟨_, rfl⟩
  have hba : Below w.heap.size w wa := hwa ▸ (Below.refl _ _).alloc (Nat.le_refl _) _
  have hbx : Blk wa w.heap.size 38 #[.int .i64 x, .int .i64 y] := hwa ▸ Blk.new _ _ _
  have HBa := Lib.hid hba
  have HBx := Lib.hid hbx
  have HV := Lib.hid (hv.below hba)
  clear hv hba hbx
  go_enter Try.func7, Try.ntmps7
  go_upto_region 1 with fail
  try rw [hwa]
  clear hwa
  by_cases hl : 600 < bs.length
  · have hlI : 600 < (bs.length : Int) := by omega
    go_wp2_with fail
    refine (known_true _).mono ?_
    rintro e w9 ⟨rfl, hb9⟩
    have HG := Lib.hid (HBa.out.trans (hb9.mono HBa.out.size))
    clear hb9
    go_wp2_with fail
    go_ret
    exact ⟨rfl, HG.out⟩
  · have hlI : ¬ 600 < (bs.length : Int) := by omega
    have hl6 : bs.length ≤ 600 := by omega
    go_wp2_with fail
    obtain ⟨wb, hwb⟩ : ∃ wb, (wa.alloc (.cells zcells 65)).alloc (.cells #[.pointer none, .pointer (some ⟨wa.heap.size, 0, none⟩)] 33) = wb := ⟨_, rfl⟩
    have hbb : Below wa.heap.size wa wb := hwb ▸ ((Below.refl _ _).alloc (Nat.le_refl _) _).alloc (by simp) _
    have hza : Blk wb wa.heap.size 65 zcells := hwb ▸ (Blk.new _ _ _).alloc _
    have hro : Blk wb (wa.heap.size + 1) 33 #[.pointer none, .pointer (some ⟨wa.heap.size, 0, none⟩)] := hwb ▸ Blk.new2 _ _ _ _
    have HBx := Lib.hid (HBx.out.below hbb)
    have HZa := Lib.hid hza
    have HRo := Lib.hid hro
    have HB := Lib.hid (HBa.out.trans (hbb.mono HBa.out.size))
    have HVb := Lib.hid (HV.out.below hbb)
    change Code.wp _ _ _ _ ((wa.alloc (.cells zcells 65)).alloc (.cells #[.pointer none, .pointer (some ⟨wa.heap.size, 0, none⟩)] 33))
    rw [hwb]
    clear hwb hbb hza hro HBa
    go_loopw [25] (fun i wr => ∃ j : Nat, j ≤ 2 ∧ i = .int .i64 j ∧ Below wb.heap.size wb wr) (fun i _ => 2 - (intOf i).toNat)
    case atStart => exact ⟨0, by omega, rfl, Below.refl _ _⟩
    case round =>
      obtain ⟨j, hj, rfl, hbl⟩ := hrel
      by_cases hj2 : j < 2
      · have hjI : (j : Int) < 2 := by omega
        have hj0 : (0 : Int) ≤ (j : Int) := Int.natCast_nonneg _
        obtain ⟨q, hq, hz⟩ : ∃ q : Option Addr, wr.cell? ⟨wa.heap.size + 1, j, none⟩ = some (.pointer q) ∧ ZA wr (.pointer q) := by
          have hro := HRo.out.below hbl
          rcases (by omega : j = 0 ∨ j = 1) with rfl | rfl
          · exact ⟨none, hro.cell 0 _ rfl, .inl rfl⟩
          · exact ⟨_, hro.cell 1 _ rfl, .inr ⟨_, _, rfl, HZa.out.below hbl, rfl⟩⟩
        have HL := Lib.hid hbl
        have HB := Lib.hid (HB.out.trans (hbl.mono HB.out.size))
        have hbx := HBx.out.below hbl
        have HBx := Lib.hid hbx
        have HZ := Lib.hid hz
        clear hbl hbx hz
        go_wp2_with fail
        refine (za_frees _ k _ HZ.out).mono ?_
        rintro e w' ⟨rfl, hw⟩
        subst hw
        go_wp2_with fail
        refine (puts_zero _ _ _ HZ.out).mono ?_
        rintro e V1 ⟨rfl, hb⟩
        have HL := Lib.hid (HL.out.trans (hb.mono HL.out.size))
        have HB := Lib.hid (HB.out.trans (hb.mono HB.out.size))
        have HZ := Lib.hid (HZ.out.below hb)
        have hbx := HBx.out.below hb
        have y0 : V1.cell? ⟨w.heap.size, 0, none⟩ = some (.int .i64 x) := hbx.cell 0 _ rfl
        have y1 : V1.cell? ⟨w.heap.size, 1, none⟩ = some (.int .i64 y) := hbx.cell 1 _ rfl
        have HBx := Lib.hid hbx
        clear hb hbx
        go_wp2_with fail
        refine (gets_zero _ x y _ HZ.out).mono ?_
        rintro e V2 ⟨rfl, hb⟩
        have HL := Lib.hid (HL.out.trans (hb.mono HL.out.size))
        clear y0 y1
        have HB := Lib.hid (HB.out.trans (hb.mono HB.out.size))
        have HZ := Lib.hid (HZ.out.below hb)
        have hbx := HBx.out.below hb
        have y0 : V2.cell? ⟨w.heap.size, 0, none⟩ = some (.int .i64 x) := hbx.cell 0 _ rfl
        have y1 : V2.cell? ⟨w.heap.size, 1, none⟩ = some (.int .i64 y) := hbx.cell 1 _ rfl
        have HBx := Lib.hid hbx
        clear hb hbx
        go_wp2_with fail
        refine (za_free _ x y _ HZ.out).mono ?_
        rintro e V3 ⟨rfl, hb⟩
        have HL := Lib.hid (HL.out.trans (hb.mono HL.out.size))
        clear y0 y1
        have HB := Lib.hid (HB.out.trans (hb.mono HB.out.size))
        have HZ := Lib.hid (HZ.out.below hb)
        have hbx := HBx.out.below hb
        have y0 : V3.cell? ⟨w.heap.size, 0, none⟩ = some (.int .i64 x) := hbx.cell 0 _ rfl
        have y1 : V3.cell? ⟨w.heap.size, 1, none⟩ = some (.int .i64 y) := hbx.cell 1 _ rfl
        have HBx := Lib.hid hbx
        clear hb hbx
        go_wp2_with fail
        refine (swaps_zero _ x y _ _ HZ.out).mono ?_
        rintro e V4 ⟨rfl, hb⟩
        have HL := Lib.hid (HL.out.trans (hb.mono HL.out.size))
        clear y0 y1
        have HB := Lib.hid (HB.out.trans (hb.mono HB.out.size))
        have HZ := Lib.hid (HZ.out.below hb)
        have hbx := HBx.out.below hb
        have y0 : V4.cell? ⟨w.heap.size, 0, none⟩ = some (.int .i64 x) := hbx.cell 0 _ rfl
        have y1 : V4.cell? ⟨w.heap.size, 1, none⟩ = some (.int .i64 y) := hbx.cell 1 _ rfl
        have HBx := Lib.hid hbx
        clear hb hbx
        go_wp2_with fail
        refine (uses_zero _ _ HZ.out).mono ?_
        rintro e w' ⟨rfl, hw⟩
        subst hw
        go_wp2_with fail
        refine (za_copy _ _ HZ.out).mono ?_
        rintro e w' ⟨rfl, hw⟩
        subst hw
        go_wp2_with fail
        go_roundw
        case rel => exact ⟨j + 1, by omega, by go_num, HL.out⟩
        case measure => simp [intOf]; omega
      · obtain rfl : j = 2 := by omega
        have HB := Lib.hid (HB.out.trans (hbl.mono HB.out.size))
        have HVr := Lib.hid (HVb.out.below hbl)
        clear hbl
        go_wp2_with fail
        refine (slabNew_ok 0 (by decide) (by decide) _).mono ?_
        rintro e wn ⟨rfl, hwn⟩
        have hbn : Below wr.heap.size wr wn := hwn ▸ (Below.refl _ _).alloc (Nat.le_refl _) _
        have HA : Hid (ARep wn wr.heap.size wr.heap.size 0 p0) := Lib.hid ⟨sh0, hwn ▸ slabNew_rep wr wr.heap.size (Nat.le_refl _) 0, sh0_is⟩
        have HVn := Lib.hid (HVr.out.below hbn)
        have HBn := Lib.hid (HB.out.trans (hbn.mono HB.out.size))
        clear hwn hbn
        by_cases hk : k < 0 ∨ 12 < k
        · obtain ⟨sh, hsr, _⟩ := HA.out
          have HF := Lib.hid (slabFrees_bad _ _ 0 sh k _ hsr hk)
          clear hsr
          by_cases hk0 : k < 0
          · clear hk
            go_wp2_with fail
            refine HF.out.mono ?_
            rintro e w' ⟨rfl, hw⟩
            subst hw
            go_wp2_with fail
            refine (puts_true 0 _ _ 0 p0 _ bs _ HA.out p0_wf (by decide) (HVn.out.up HB.out.size) 0 0 7 p0 (pput_small bs hl6)).mono ?_
            rintro e w5 ⟨rfl, _, _, hb5⟩
            have HB5 := Lib.hid (HBn.out.trans (hb5.mono HB.out.size))
            clear hb5
            go_wp2_with fail
            refine (known_true _).mono ?_
            rintro e w9 ⟨rfl, hb9⟩
            have HG := Lib.hid (HB5.out.trans (hb9.mono HB5.out.size))
            clear hb9
            go_wp2_with fail
            go_ret
            exact ⟨rfl, HG.out⟩
          · have hk1 : 12 < k := by omega
            clear hk
            go_wp2_with fail
            refine HF.out.mono ?_
            rintro e w' ⟨rfl, hw⟩
            subst hw
            go_wp2_with fail
            refine (puts_true 0 _ _ 0 p0 _ bs _ HA.out p0_wf (by decide) (HVn.out.up HB.out.size) 0 0 7 p0 (pput_small bs hl6)).mono ?_
            rintro e w5 ⟨rfl, _, _, hb5⟩
            have HB5 := Lib.hid (HBn.out.trans (hb5.mono HB.out.size))
            clear hb5
            go_wp2_with fail
            refine (known_true _).mono ?_
            rintro e w9 ⟨rfl, hb9⟩
            have HG := Lib.hid (HB5.out.trans (hb9.mono HB5.out.size))
            clear hb9
            go_wp2_with fail
            go_ret
            exact ⟨rfl, HG.out⟩
        · obtain ⟨m, rfl⟩ : ∃ m : Nat, k = m := ⟨k.toNat, by omega⟩
          have hm : m < 13 := by omega
          have hm0 : ¬ (m : Int) < 0 := by omega
          have hm1 : ¬ 12 < (m : Int) := by omega
          clear hk
          go_wp2_with fail
          refine (aFrees 0 _ _ 0 p0 m _ HA.out p0_wf (by decide) hm).mono ?_
          rintro e w3 ⟨v3, rfl, hown, hb3⟩
          obtain ⟨A3, c3, rfl, _, _⟩ := own_form hown
          have hl0 : (p0 m).fr.length = 0 := rfl
          rw [hl0]
          have HA := Lib.hid (HA.out.below hb3)
          have HVn := Lib.hid (HVn.out.below hb3)
          have HBn := Lib.hid (HBn.out.trans (hb3.mono HBn.out.size))
          clear hb3 hown
          go_wp2_with fail
          refine (puts_true 0 _ _ 0 p0 _ bs _ HA.out p0_wf (by decide) (HVn.out.up HB.out.size) 0 0 7 p0 (pput_small bs hl6)).mono ?_
          rintro e w5 ⟨rfl, _, _, hb5⟩
          have HB5 := Lib.hid (HBn.out.trans (hb5.mono HB.out.size))
          clear hb5
          go_wp2_with fail
          refine (known_true _).mono ?_
          rintro e w9 ⟨rfl, hb9⟩
          have HG := Lib.hid (HB5.out.trans (hb9.mono HB5.out.size))
          clear hb9
          go_wp2_with fail
          go_ret
          exact ⟨rfl, HG.out⟩

end Go.Proofs.Ytookfhmghchkjaa
