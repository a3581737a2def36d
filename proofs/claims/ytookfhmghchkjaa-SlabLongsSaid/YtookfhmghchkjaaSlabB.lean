/- The walks of layer 13's functions: Used, at. -/
import Derived.Test.YtookfhmghchkjaaSlabA
namespace Go.Proofs.Ytookfhmghchkjaa
open Go Go.RowKit
attribute [local go_sem ↓] Go.wp_at_zero Go.wp_at_succ

theorem heldL_take {cs : List CelV} {j : Nat} {c : CelV} (h : cs[j]? = some c) : heldL (cs.take (j + 1)) = heldL (cs.take j) + c.bs.length := by
  rw [List.take_add_one, h]
  exact heldL_snoc _ _

theorem heldL_take_le {cs : List CelV} (hb : ∀ c ∈ cs, c.bs.length ≤ 65536) (j : Nat) : heldL (cs.take j) ≤ heldL cs := by
  have h : heldL cs = heldL (cs.take j) + heldL (cs.drop j) := by
    unfold heldL
    rw [← List.sum_append, ← List.map_append, List.take_append_drop]
  omega


set_option maxRecDepth 100000 in
set_option maxHeartbeats 1000000 in
theorem slabUsed_any (B b : Nat) (most : Int) (sh : Nat → ShV) (w : World) (h : SRep w B b most sh) (hs : SSmall sh) :
    Calls Try.prog 19 #[.pointer (some ⟨b, 0, none⟩)] w fun e w' => e = .returned (.tuple #[.int .i64 (usedI sh 13), .int .i64 (allN sh 13), .int .i64 (heldN sh 13)]) ∧ Below w.heap.size w w' := by
  have HR := Lib.hid h
  have HS := Lib.hid hs
  clear h hs
  go_enter Try.func19, Try.ntmps19
  go_wp2_with fail
  refine HR.out.zero.mono ?_
  rintro e w' ⟨rfl, hw⟩
  subst hw
  go_wp2_with fail
  go_loopw [2, 3, 4, 11] (fun u al hd i wr => ∃ m : Nat, m ≤ 13 ∧ i = .int .i64 m ∧ u = .int .i64 (usedI sh m) ∧ al = .int .i64 (allN sh m) ∧ hd = .int .i64 (heldN sh m) ∧ Below w'.heap.size w' wr) (fun _ _ _ i _ => 13 - (intOf i).toNat)
  case atStart => exact ⟨0, by omega, rfl, rfl, rfl, rfl, Below.refl _ _⟩
  case round =>
    obtain ⟨m, hm, rfl, rfl, rfl, rfl, hbl⟩ := hrel
    have HBl := Lib.hid hbl
    have HRw := Lib.hid (HR.out.below hbl)
    clear hbl
    by_cases hm13 : m < 13
    · have hmI : (m : Int) < 13 := by omega
      obtain ⟨CA, cc, hcv, hc1, _⟩ := own_form (HRw.out.cells m hm13)
      obtain ⟨FA, fc, hfv, hf1, _⟩ := own_form (HRw.out.free m hm13)
      have x0 := HRw.out.cv hm13
      have x1 := HRw.out.fv hm13
      rw [hcv] at x0
      rw [hfv] at x1
      have HCv := Lib.hid hcv
      have ha := allN_bound HS.out (m := m + 1) (by omega)
      have hu := usedI_bound HS.out (m := m + 1) (by omega)
      have hh := heldN_bound HS.out (m := m + 1) (by omega)
      have hl := HS.out.cs m hm13
      have hfr := HS.out.fr m hm13
      have ea : ((allN sh (m + 1) : Nat) : Int) = (allN sh m : Int) + (csize m : Int) * ((sh m).cs.length : Int) := by
        rw [show allN sh (m + 1) = allN sh m + csize m * (sh m).cs.length from rfl]; push_cast; rfl
      have eu : ((usedI sh (m + 1) : Nat) : Int) = (usedI sh m : Int) + (csize m : Int) * (((sh m).cs.length : Int) - ((sh m).fr.length : Int)) := by
        rw [show usedI sh (m + 1) = usedI sh m + csize m * ((sh m).cs.length - (sh m).fr.length) from rfl]
        rw [← Int.natCast_sub hfr]; push_cast; rfl
      have eh : heldN sh (m + 1) = heldN sh m + heldL (sh m).cs := rfl
      have pa : 0 ≤ (csize m : Int) * ((sh m).cs.length : Int) := Int.mul_nonneg (Int.natCast_nonneg _) (Int.natCast_nonneg _)
      have pu : 0 ≤ (csize m : Int) * (((sh m).cs.length : Int) - ((sh m).fr.length : Int)) := Int.mul_nonneg (Int.natCast_nonneg _) (by omega)
      have HEa := Lib.hid ea
      have HEu := Lib.hid eu
      have HEh := Lib.hid eh
      have na : (allN sh m : Int) + (csize m : Int) * ((sh m).cs.length : Int) ≤ 851968000 := by rw [← ea]; omega
      have nu : (usedI sh m : Int) + (csize m : Int) * (((sh m).cs.length : Int) - ((sh m).fr.length : Int)) ≤ 851968000 := by rw [← eu]; omega
      have nh : (heldN sh m : Int) + (heldL (sh m).cs : Int) ≤ 851968000 := by omega
      have na0 := Int.natCast_nonneg (allN sh m)
      have nu0 := Int.natCast_nonneg (usedI sh m)
      have nh0 := Int.natCast_nonneg (heldN sh m)
      have nhl := Int.natCast_nonneg (heldL (sh m).cs)
      clear hcv hfv ea eu eh ha hu hh
      go_wp2_with fail
      go_quiet ((go_at_call 28; refine Calls.quiet_of_same (slabsize_any m hm13 _)))
      have hbq : Below (wr).heap.size wr ((wr).drewN nq) := ⟨rfl, rfl, rfl, Nat.le_refl _, fun _ _ => rfl⟩
      have HBl := Lib.hid (HBl.out.trans (hbq.mono HBl.out.size))
      have HRw := Lib.hid (HRw.out.below hbq)
      have x0 : ((wr).drewN nq).cell? ⟨b, 2 + m * 2, none⟩ = some (Value.slice CA (sh m).cs.length cc) := x0
      have x1 : ((wr).drewN nq).cell? ⟨b, 2 + m * 2 + 1, none⟩ = some (Value.slice FA (sh m).fr.length fc) := x1
      clear hbq
      generalize (wr).drewN nq = wq at HBl HRw x0 x1 ⊢
      go_wp2_with fail
      go_quiet ((go_at_call 28; refine Calls.quiet_of_same (slabsize_any m hm13 _)))
      have hbq : Below (wq).heap.size wq ((wq).drewN nq) := ⟨rfl, rfl, rfl, Nat.le_refl _, fun _ _ => rfl⟩
      have HBl := Lib.hid (HBl.out.trans (hbq.mono HBl.out.size))
      have HRw := Lib.hid (HRw.out.below hbq)
      have x0 : ((wq).drewN nq).cell? ⟨b, 2 + m * 2, none⟩ = some (Value.slice CA (sh m).cs.length cc) := x0
      have x1 : ((wq).drewN nq).cell? ⟨b, 2 + m * 2 + 1, none⟩ = some (Value.slice FA (sh m).fr.length fc) := x1
      clear hbq
      generalize (wq).drewN nq = wz at HBl HRw x0 x1 ⊢
      go_wp2_with fail
      go_loopw [4, 50] (fun hd i wy => ∃ j : Nat, j ≤ (sh m).cs.length ∧ i = .int .i64 j ∧ hd = .int .i64 ((heldN sh m + heldL ((sh m).cs.take j) : Nat) : Int) ∧ Below w'.heap.size w' wy) (fun _ i _ => (sh m).cs.length - (intOf i).toNat)
      case atStart => exact ⟨0, by omega, rfl, by simp [heldL], HBl.out⟩
      case round =>
        obtain ⟨j, hj, rfl, rfl, hb2⟩ := hrel
        have HB2 := Lib.hid hb2
        have HR2 := Lib.hid (HR.out.below hb2)
        clear hb2 x0 x1
        have hle := heldL_take_le (HS.out.bs m hm13) j
        by_cases hjl : j < (sh m).cs.length
        · obtain ⟨c, hc⟩ : ∃ c, (sh m).cs[j]? = some c := ⟨_, List.getElem?_eq_getElem hjl⟩
          obtain ⟨g, cap, e, hg, hcap, c0, c1, _⟩ := HR2.out.at_ hm13 hc
          rw [HCv.out] at e
          injection e with e1 _ e3
          subst e1 e3
          obtain ⟨VA, vc, hv⟩ := (HR2.out.vals m hm13 c (List.mem_of_getElem? hc)).form
          rw [hv] at c0
          have ht := heldL_take hc
          have hle2 := heldL_take_le (HS.out.bs m hm13) (j + 1)
          have hjI : (j : Int) < ((sh m).cs.length : Int) := by omega
          have hcI : ((sh m).cs.length : Int) ≤ (cc : Int) := by omega
          have hsum : (heldN sh m : Int) + (heldL (List.take j (sh m).cs) : Int) + (c.bs.length : Int) ≤ 851968000 := by omega
          have h00 := Int.natCast_nonneg (heldL (List.take j (sh m).cs))
          have HT := Lib.hid ht
          have HBx := Lib.hid (HB2.out.alloc HB2.out.size (.cells #[.slice VA c.bs.length vc, .bool c.used] 78))
          clear hc hv ht hle hle2
          go_wp2_with fail
          go_roundw
          case rel => exact ⟨j + 1, by omega, by go_num, by rw [HT.out]; go_num, HBx.out⟩
          case measure => simp [intOf]; omega
        · obtain rfl : j = (sh m).cs.length := by omega
          rw [List.take_length] at hle ⊢
          go_wp2_with fail
          go_roundw
          case rel => exact ⟨m + 1, by omega, by go_num, by rw [HEu.out], by rw [HEa.out], by rw [HEh.out], HB2.out⟩
          case measure => simp [intOf]; omega
    · obtain rfl : m = 13 := by omega
      go_wp2_with fail
      go_ret3
      exact ⟨rfl, HBl.out⟩

end Go.Proofs.Ytookfhmghchkjaa
