/- The walks of the reference's log (layer 9): Has, Live, Get. -/
import Derived.Test.YtjjhndhigkhkpaaRefM
import Derived.BigQuiet
namespace Go.Proofs.Ytjjhndhigkhkpaa
open Go Go.RowKit
attribute [local go_sem ↓] Go.wp_at_zero Go.wp_at_succ

set_option maxHeartbeats 1000000 in
theorem refHas_any (B : Nat) (lv gv : Value) (rs : List RE) (i : Nat) (w : World) (h : RRep w B lv gv rs) (h32 : (i : Int) ≤ 4294967295) :
    Calls Try.prog 47 #[.agg #[lv, gv], .int .u32 i] w fun e w' => e = .returned (.bool (hasR rs i)) ∧ Below w.heap.size w w' := by
  have HL := Lib.hid h.len
  have hi0 : (0 : Int) ≤ (i : Int) := Int.natCast_nonneg _
  by_cases hi : i < rs.length
  · obtain ⟨r, hr⟩ : ∃ r, rs[i]? = some r := ⟨_, List.getElem?_eq_getElem hi⟩
    obtain ⟨g, cap, gg, gcap, rfl, rfl, hg, hgg, hc, hgc, _, _, _, _, hcell⟩ := h.at_ hr
    have HS : Hid (hasR rs i = !r.gone) := Lib.hid (by unfold hasR; rw [hr])
    have hiI : (i : Int) < (rs.length : Int) := by omega
    have hcI : (rs.length : Int) ≤ (gcap : Int) := by omega
    have hlI : (rs.length : Int) ≤ 1000000 := by have := HL.out; omega
    have hd : decide ((i : Int) < (rs.length : Int)) = true := decide_eq_true hiI
    clear h hr
    go_enter Try.func47, Try.ntmps47
    go_wp2_with fail
    go_ret
    exact ⟨by rw [HS.out]; rfl, (Below.refl _ _).alloc (Nat.le_refl _) _⟩
  · obtain ⟨LA, lc, rfl, _, _⟩ := own_form h.row
    obtain ⟨GA, gc, rfl, _, _⟩ := own_form h.gone
    have HS : Hid (hasR rs i = false) := Lib.hid (by unfold hasR; rw [List.getElem?_eq_none (by omega)])
    have hiI : (rs.length : Int) ≤ (i : Int) := by omega
    have hlI : (rs.length : Int) ≤ 1000000 := by have := HL.out; omega
    have hd : decide ((i : Int) < (rs.length : Int)) = false := decide_eq_false (by omega)
    clear h
    go_enter Try.func47, Try.ntmps47
    go_wp2_with fail
    go_ret
    exact ⟨by rw [HS.out]; rfl, (Below.refl _ _).alloc (Nat.le_refl _) _⟩

set_option maxHeartbeats 1000000 in
theorem refLive_any (B : Nat) (lv gv : Value) (rs : List RE) (w : World) (h : RRep w B lv gv rs) :
    Calls Try.prog 40 #[.agg #[lv, gv]] w fun e w' => e = .returned (.int .i64 (liveR rs)) ∧ Below w.heap.size w w' := by
  have HR := Lib.hid h
  have hlI : (rs.length : Int) ≤ 1000000 := by have := h.len; omega
  obtain ⟨LA, lc, rfl, hx1, _⟩ := own_form h.row
  obtain ⟨GA, gc, rfl, hx2, _⟩ := own_form h.gone
  clear h
  go_enter Try.func40, Try.ntmps40
  go_wp2_with fail
  go_loop [3, 4] (fun n i => ∃ k : Nat, k ≤ rs.length ∧ n = .int .i64 (liveR (rs.take k)) ∧ i = .int .i64 k) (fun _ i => rs.length - (intOf i).toNat)
  case atStart => exact ⟨0, by omega, by simp [liveR], rfl⟩
  case round =>
    obtain ⟨k, hk, rfl, rfl⟩ := hrel
    by_cases hkl : k < rs.length
    · obtain ⟨r, hr⟩ : ∃ r, rs[k]? = some r := ⟨_, List.getElem?_eq_getElem hkl⟩
      obtain ⟨g, cap, gg, gcap, e1, e2, hg, hgg, hc, hgc, _, _, _, _, hcell⟩ := HR.out.at_ hr
      injection e1 with e1 _ e3
      injection e2 with e2 _ e4
      subst e1 e2 e3 e4
      have HT := Lib.hid (liveR_take hr)
      have hiI : (k : Int) < (rs.length : Int) := by omega
      have hcI : (rs.length : Int) ≤ (gc : Int) := by omega
      have hL0 : ((liveR (rs.take k) : Nat) : Int) ≤ 1000000 := by
        have h1 := liveR_le (rs.take k)
        rw [List.length_take] at h1
        omega
      clear hr
      cases hgn : r.gone with
      | true =>
        rw [hgn] at hcell
        go_wp2_with fail
        go_round
        case rel => exact ⟨k + 1, by omega, by rw [HT.out, hgn]; simp, by go_num⟩
        case measure => simp [intOf]; omega
      | false =>
        rw [hgn] at hcell
        go_wp2_with fail
        go_round
        case rel => exact ⟨k + 1, by omega, by rw [HT.out, hgn]; go_num, by go_num⟩
        case measure => simp [intOf]; omega
    · obtain rfl : k = rs.length := by omega
      rw [List.take_length]
      go_wp2_with fail
      go_ret
      exact ⟨rfl, (Below.refl _ _).alloc (Nat.le_refl _) _⟩

theorem u32_info : (Try.prog.info? 22).map (fun i => (i.zero, i.size, i.bytes)) = some (some (.int .u32 0), 1, 4) := by kernel_rfl

set_option maxHeartbeats 1000000 in
theorem refSlots_any (B : Nat) (lv gv : Value) (rs : List RE) (w : World) (h : RRep w B lv gv rs) :
    Calls Try.prog 20 #[.agg #[lv, gv]] w fun e w' => ∃ v, e = .returned v ∧ w'.ownsRow w.heap.size 22 1 v (slotsR rs rs.length).length (u32cells (slotsR rs rs.length)) ∧ Below w.heap.size w w' := by
  have HR := Lib.hid h
  have hlI : (rs.length : Int) ≤ 1000000 := by have := h.len; omega
  obtain ⟨LA, lc, rfl, hx1, _⟩ := own_form h.row
  obtain ⟨GA, gc, rfl, hx2, _⟩ := own_form h.gone
  obtain ⟨i0, hi0, hz0, hz1, hz2⟩ := info_parts u32_info
  have HI := Lib.hid hi0
  have HZ0 := Lib.hid hz0
  have HZ1 := Lib.hid hz1
  have HZ2 := Lib.hid hz2
  clear h hi0 hz0 hz1 hz2
  go_enter Try.func20, Try.ntmps20
  go_wp2_with fail
  obtain ⟨w1, hw1⟩ : ∃ w1, w.alloc (.cells #[.slice LA rs.length lc, .slice GA rs.length gc] 49) = w1 := ⟨_, rfl⟩
  have hb1 : Blk w1 w.heap.size 49 #[.slice LA rs.length lc, .slice GA rs.length gc] := hw1 ▸ Blk.new w _ _
  have hB1 : Below w.heap.size w w1 := hw1 ▸ (Below.refl _ _).alloc (Nat.le_refl _) _
  have HS1 := Lib.hid (show w.heap.size + 1 ≤ w1.heap.size by rw [← hw1]; simp)
  rw [hw1]
  clear hw1
  go_loopw [3, 4] (fun o i wr => ∃ k : Nat, k ≤ rs.length ∧ i = .int .i64 k ∧ wr.ownsRow (w.heap.size + 1) 22 1 o (slotsR rs k).length (u32cells (slotsR rs k)) ∧ Blk wr w.heap.size 49 #[.slice LA rs.length lc, .slice GA rs.length gc] ∧ Below w.heap.size w wr ∧ w.heap.size + 1 ≤ wr.heap.size) (fun _ i _ => rs.length - (intOf i).toNat)
  case atStart => exact ⟨0, by omega, rfl, World.ownsRow_nil _ _ _ _, hb1, hB1, HS1.out⟩
  case round =>
    obtain ⟨k, hk, rfl, hown, hbx, hbl, hsz⟩ := hrel
    have HBX := Lib.hid hbx
    have HBL := Lib.hid hbl
    have HOW := Lib.hid hown
    have q0 := hbx.cell 0 _ rfl
    have q1 := hbx.cell 1 _ rfl
    obtain ⟨OA, oc, rfl, _, _⟩ := own_form hown
    clear hbx hbl hown hb1 hB1
    by_cases hkl : k < rs.length
    · obtain ⟨r, hr⟩ : ∃ r, rs[k]? = some r := ⟨_, List.getElem?_eq_getElem hkl⟩
      obtain ⟨g, cap, gg, gcap, e1, e2, hg, hgg, hc, hgc, _, _, _, _, hcell⟩ := HR.out.at_ hr
      injection e1 with e1 _ e3
      injection e2 with e2 _ e4
      subst e1 e2 e3 e4
      have hcell2 : wr.cell? ⟨gg, k, none⟩ = some (.bool r.gone) := by rw [HBL.out.cell (p := ⟨gg, k, none⟩) hgg]; exact hcell
      have hiI : (k : Int) < (rs.length : Int) := by omega
      have hcI : (rs.length : Int) ≤ (gc : Int) := by omega
      have hSl : (slotsR rs k).length ≤ k := slotsR_le rs k
      have HSl := Lib.hid hSl
      clear hcell hSl
      cases hgn : r.gone with
      | true =>
        have HT : Hid (slotsR rs (k + 1) = slotsR rs k) := Lib.hid (by rw [slotsR_succ]; simp [hasR, hr, hgn])
        rw [hgn] at hcell2
        clear hr
        go_wp2_with fail
        go_roundw
        case rel => exact ⟨k + 1, by omega, by go_num, by rw [HT.out]; exact HOW.out, HBX.out, HBL.out, hsz⟩
        case measure => simp [intOf]; omega
      | false =>
        have HT : Hid (slotsR rs (k + 1) = slotsR rs k ++ [k]) := Lib.hid (by rw [slotsR_succ]; simp [hasR, hr, hgn])
        rw [hgn] at hcell2
        clear hr
        go_wp2_with (at_builtin; refine wpList_append_src _ rfl _ _ _ rfl (w.heap.size + 1) 22 i0 _ 1 4 Try.underlying53 HI.out HZ0.out HZ1.out HZ2.out rfl (by decide) _ (slotsR rs k).length (u32cells (slotsR rs k)) rfl (HOW.out.alloc _) (some ⟨wr.heap.size, 0, none⟩) 1 1 [.int .u32 k] rfl (src_block (Blk.new _ _ _) rfl) (by simp [Value.oneCell']) (by have := HSl.out; unfold maxLen; omega) (by have := HSl.out; omega) (by simp; omega) ?_; intro v1 w1 hown hg hat)
        have hz : w.heap.size ≠ wr.heap.size := by omega
        have hbx := (HBX.out.alloc (.cells #[.int .u32 k] 22)).grown hg (fun e => by have := (row_block HOW.out e.symm).1; omega)
        have hbl := (HBL.out.alloc (by omega) (.cells #[.int .u32 k] 22)).grown hg (by simp; omega) (fun j hj => by have := (row_block HOW.out hj).1; omega)
        have hsz1 := hg.size
        simp at hsz1
        have HBX := Lib.hid hbx
        have HBL := Lib.hid hbl
        have HOW := Lib.hid hown
        clear hbx hbl hown hg hat
        go_wp2_with fail
        go_roundw
        case rel => exact ⟨k + 1, by omega, by go_num, by rw [HT.out, List.length_append]; simpa [u32cells] using HOW.out, HBX.out, HBL.out, by omega⟩
        case measure => simp [intOf]; omega
    · obtain rfl : k = rs.length := by omega
      go_wp2_with fail
      go_ret
      exact ⟨_, rfl, ownsRow_base HOW.out (by omega), HBL.out⟩

end Go.Proofs.Ytjjhndhigkhkpaa
