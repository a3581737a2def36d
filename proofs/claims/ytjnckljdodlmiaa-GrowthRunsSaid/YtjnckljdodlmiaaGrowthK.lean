/- The walks of layer 8: Remove, the references' Insert and Remove, and the law's helpers. -/
import Derived.Test.YtjnckljdodlmiaaGrowthZ
namespace Go.Proofs.Ytjnckljdodlmiaa
open Go.RowKit

set_option maxHeartbeats 400000 in
theorem is_same (a b : Int) (w : World) :
    Calls Try.prog 10 #[.int .i64 a, .int .i64 b, .int .i64 a, .int .i64 b] w fun e w' => e = .returned (.bool true) ∧ w = w' := by
  go_enter Try.func10, Try.ntmps10
  go_wp2
  go_ret
  exact ⟨rfl, rfl⟩

set_option maxHeartbeats 400000 in
theorem plan_same (g c : Int) (r : Bool) (w : World) :
    Calls Try.prog 26 #[.agg #[.int .i64 g, .bool r], .int .i64 c, .int .i64 g, .bool r, .int .i64 c] w fun e w' => e = .returned (.bool true) ∧ Below w.heap.size w w' := by
  go_enter Try.func26, Try.ntmps26
  go_wp2
  go_ret
  exact ⟨rfl, (Below.refl _ _).alloc (Nat.le_refl _) _⟩



theorem validB_twice {g : Int} (h : validB g = true) : validB (2 * g) = decide (g < 1048576) := by
  have hr := validB_range h
  by_cases h1 : g < 1048576
  · obtain ⟨k, hk, rfl⟩ := (validB_iff g).1 h
    have : k < 20 := by
      rcases Nat.lt_or_ge k 20 with h2 | h2
      · exact h2
      · have : 2 ^ 20 ≤ 2 ^ k := Nat.pow_le_pow_right (by decide) h2
        omega
    rw [(validB_iff _).2 ⟨k + 1, by omega, pow_succ_cast k⟩]
    exact (decide_eq_true h1).symm
  · rw [validB_high (by omega)]
    simp [h1]

set_option maxHeartbeats 800000 in
theorem refInsert_any (g l t : Int) (w : World) (hl : -9223372036854775808 ≤ l ∧ l ≤ 9223372036854775807) (ht : -9223372036854775808 ≤ t ∧ t ≤ 9223372036854775807) :
    Calls Try.prog 17 #[.int .i64 g, .int .i64 l, .int .i64 t] w (PlanRet (insS g l t) w) := by
  by_cases hc : chkS g l t = 0
  · obtain ⟨hv, hg1, hg2, hl0, ht0, hlt⟩ := chkS_ok hc
    have hv2 := validB_twice hv
    clear hv
    by_cases h1 : l + t < 7 * g
    · clear hv2
      have hs : insS g l t = (g, false, 0) := by unfold insS; rw [if_neg (by simp [hc]), if_pos h1]
      have HS := Lib.hid hs
      have HC := Lib.hid hc
      clear hs hc
      go_enter Try.func17, Try.ntmps17
      go_wp2_with fail
      refine (refCheck_any _ _ _ _ hl ht).mono ?_
      rw [HC.out]
      rintro e w' ⟨rfl, rfl⟩
      go_wp2_with fail
      skip
      exact bodyPost_ret (v := .tuple #[.agg #[.int .i64 g, .bool false], .int .i64 0]) (by simp [results, Try.results17, go_sem]) rfl (planRet _ _ _ HS.out ((Below.refl _ _).alloc (Nat.le_refl _) _))
    · by_cases h2 : 2 * l ≤ 7 * g
      · clear hv2
        have hs : insS g l t = (g, true, 0) := by unfold insS; rw [if_neg (by simp [hc]), if_neg h1, if_pos h2]
        have HS := Lib.hid hs
        have HC := Lib.hid hc
        clear hs hc
        go_enter Try.func17, Try.ntmps17
        go_wp2_with fail
        refine (refCheck_any _ _ _ _ hl ht).mono ?_
        rw [HC.out]
        rintro e w' ⟨rfl, rfl⟩
        go_wp2_with fail
        skip
        exact bodyPost_ret (v := .tuple #[.agg #[.int .i64 g, .bool true], .int .i64 0]) (by simp [results, Try.results17, go_sem]) rfl (planRet _ _ _ HS.out ((Below.refl _ _).alloc (Nat.le_refl _) _))
      · by_cases h3 : g < 1048576
        · have hv3 : validB (2 * g) = true := by rw [hv2]; simp [h3]
          have HV := Lib.hid hv3
          clear hv2 hv3
          have hs : insS g l t = (2 * g, true, 0) := by unfold insS; rw [if_neg (by simp [hc]), if_neg h1, if_neg h2, if_pos h3]
          have HS := Lib.hid hs
          have HC := Lib.hid hc
          clear hs hc
          go_enter Try.func17, Try.ntmps17
          go_wp2_with fail
          refine (refCheck_any _ _ _ _ hl ht).mono ?_
          rw [HC.out]
          rintro e w' ⟨rfl, rfl⟩
          go_wp2_with fail
          (refine (refValid_any _ _).mono ?_; rw [HV.out]; rintro e w' ⟨rfl, rfl⟩; go_wp2_with fail)
          exact bodyPost_ret (v := .tuple #[.agg #[.int .i64 (2 * g), .bool true], .int .i64 0]) (by simp [results, Try.results17, go_sem]) rfl (planRet _ _ _ HS.out ((Below.refl _ _).alloc (Nat.le_refl _) _))
        · have hv3 : validB (2 * g) = false := by rw [hv2]; simp [h3]
          have HV := Lib.hid hv3
          clear hv2 hv3
          by_cases h4 : l < 7 * g
          · have hs : insS g l t = (g, true, 0) := by unfold insS; rw [if_neg (by simp [hc]), if_neg h1, if_neg h2, if_neg h3, if_pos h4]
            have HS := Lib.hid hs
            have HC := Lib.hid hc
            clear hs hc
            go_enter Try.func17, Try.ntmps17
            go_wp2_with fail
            refine (refCheck_any _ _ _ _ hl ht).mono ?_
            rw [HC.out]
            rintro e w' ⟨rfl, rfl⟩
            go_wp2_with fail
            (refine (refValid_any _ _).mono ?_; rw [HV.out]; rintro e w' ⟨rfl, rfl⟩; go_wp2_with fail)
            exact bodyPost_ret (v := .tuple #[.agg #[.int .i64 g, .bool true], .int .i64 0]) (by simp [results, Try.results17, go_sem]) rfl (planRet _ _ _ HS.out ((Below.refl _ _).alloc (Nat.le_refl _) _))
          · have hs : insS g l t = (0, false, 7) := by unfold insS; rw [if_neg (by simp [hc]), if_neg h1, if_neg h2, if_neg h3, if_neg h4]
            have HS := Lib.hid hs
            have HC := Lib.hid hc
            clear hs hc
            go_enter Try.func17, Try.ntmps17
            go_wp2_with fail
            refine (refCheck_any _ _ _ _ hl ht).mono ?_
            rw [HC.out]
            rintro e w' ⟨rfl, rfl⟩
            go_wp2_with fail
            (refine (refValid_any _ _).mono ?_; rw [HV.out]; rintro e w' ⟨rfl, rfl⟩; go_wp2_with fail)
            exact bodyPost_ret (v := .tuple #[.agg #[.int .i64 0, .bool false], .int .i64 7]) (by simp [results, Try.results17, go_sem]) rfl (planRet _ _ _ HS.out ((Below.refl _ _).alloc (Nat.le_refl _) _))
  · have hs : insS g l t = (0, false, chkS g l t) := by unfold insS; rw [if_pos hc]
    have hcv : (chkS g l t == 0) = false := by simpa using hc
    have HS := Lib.hid hs
    clear hs hc
    go_enter Try.func17, Try.ntmps17
    go_wp2_with fail
    refine (refCheck_any _ _ _ _ hl ht).mono ?_
    rintro e w' ⟨rfl, rfl⟩
    go_wp2_with fail
    exact bodyPost_ret (v := .tuple #[.agg #[.int .i64 0, .bool false], .int .i64 (chkS g l t)]) (by simp [results, Try.results17, go_sem]) rfl (planRet _ _ _ HS.out ((Below.refl _ _).alloc (Nat.le_refl _) _))

def remS (g l t : Int) : Int × Bool × Int :=
  if chkS g l t ≠ 0 then (0, false, chkS g l t)
  else if l ≤ 7340032 ∧ lpowI (4 * l + 16) < 8 * g then (lpowI (4 * l + 16) / 8, true, 0)
  else (g, false, 0)

set_option maxHeartbeats 800000 in
theorem refRemove_any (g l t : Int) (w : World) (hl : -9223372036854775808 ≤ l ∧ l ≤ 9223372036854775807) (ht : -9223372036854775808 ≤ t ∧ t ≤ 9223372036854775807) :
    Calls Try.prog 19 #[.int .i64 g, .int .i64 l, .int .i64 t] w (PlanRet (remS g l t) w) := by
  by_cases hc : chkS g l t = 0
  · obtain ⟨_, hg1, hg2, hl0, ht0, hlt⟩ := chkS_ok hc
    have HC := Lib.hid hc
    by_cases h1 : l ≤ 7340032
    · have hb : bndS l = (lpowI (4 * l + 16), 0) := by unfold bndS; rw [if_pos ⟨hl0, h1⟩]
      have hr := lpowI_range (4 * l + 16) (by omega) (by omega)
      obtain ⟨hr1, hr2⟩ := hr
      have HBd := Lib.hid hb
      by_cases h2 : lpowI (4 * l + 16) < 8 * g
      · have hs : remS g l t = (lpowI (4 * l + 16) / 8, true, 0) := by unfold remS; rw [if_neg (by simp [hc]), if_pos ⟨h1, h2⟩]
        have HS := Lib.hid hs
        clear hs hc hb
        go_enter Try.func19, Try.ntmps19
        go_wp2_with fail
        refine (refCheck_any _ _ _ _ hl ht).mono ?_
        rw [HC.out]
        rintro e w' ⟨rfl, rfl⟩
        go_wp2_with fail
        refine (refBound_any _ _).mono ?_
        rw [HBd.out]
        rintro e w' ⟨rfl, rfl⟩
        go_wp2_with fail
        exact bodyPost_ret (v := .tuple #[.agg #[.int .i64 (lpowI (4 * l + 16) / 8), .bool true], .int .i64 0]) (by simp [results, Try.results19, go_sem]) rfl (planRet _ _ _ HS.out ((Below.refl _ _).alloc (Nat.le_refl _) _))
      · have hs : remS g l t = (g, false, 0) := by unfold remS; rw [if_neg (by simp [hc]), if_neg (fun h => h2 h.2)]
        have HS := Lib.hid hs
        clear hs hc hb
        go_enter Try.func19, Try.ntmps19
        go_wp2_with fail
        refine (refCheck_any _ _ _ _ hl ht).mono ?_
        rw [HC.out]
        rintro e w' ⟨rfl, rfl⟩
        go_wp2_with fail
        refine (refBound_any _ _).mono ?_
        rw [HBd.out]
        rintro e w' ⟨rfl, rfl⟩
        go_wp2_with fail
        exact bodyPost_ret (v := .tuple #[.agg #[.int .i64 g, .bool false], .int .i64 0]) (by simp [results, Try.results19, go_sem]) rfl (planRet _ _ _ HS.out ((Below.refl _ _).alloc (Nat.le_refl _) _))
    · have hb : bndS l = (0, 3) := by unfold bndS; rw [if_neg (fun h => h1 h.2)]
      have HBd := Lib.hid hb
      have hs : remS g l t = (g, false, 0) := by unfold remS; rw [if_neg (by simp [hc]), if_neg (fun h => h1 h.1)]
      have HS := Lib.hid hs
      clear hs hc hb
      go_enter Try.func19, Try.ntmps19
      go_wp2_with fail
      refine (refCheck_any _ _ _ _ hl ht).mono ?_
      rw [HC.out]
      rintro e w' ⟨rfl, rfl⟩
      go_wp2_with fail
      refine (refBound_any _ _).mono ?_
      rw [HBd.out]
      rintro e w' ⟨rfl, rfl⟩
      go_wp2_with fail
      exact bodyPost_ret (v := .tuple #[.agg #[.int .i64 g, .bool false], .int .i64 0]) (by simp [results, Try.results19, go_sem]) rfl (planRet _ _ _ HS.out ((Below.refl _ _).alloc (Nat.le_refl _) _))
  · have hs : remS g l t = (0, false, chkS g l t) := by unfold remS; rw [if_pos hc]
    have hcv : (chkS g l t == 0) = false := by simpa using hc
    have HS := Lib.hid hs
    clear hs hc
    go_enter Try.func19, Try.ntmps19
    go_wp2_with fail
    refine (refCheck_any _ _ _ _ hl ht).mono ?_
    rintro e w' ⟨rfl, rfl⟩
    go_wp2_with fail
    exact bodyPost_ret (v := .tuple #[.agg #[.int .i64 0, .bool false], .int .i64 (chkS g l t)]) (by simp [results, Try.results19, go_sem]) rfl (planRet _ _ _ HS.out ((Below.refl _ _).alloc (Nat.le_refl _) _))


set_option maxHeartbeats 800000 in
theorem Remove_any (g l t : Int) (w : World) (hl : -9223372036854775808 ≤ l ∧ l ≤ 9223372036854775807) (ht : -9223372036854775808 ≤ t ∧ t ≤ 9223372036854775807) :
    Calls Try.prog 18 #[.int .i64 g, .int .i64 l, .int .i64 t] w (PlanRet (remS g l t) w) := by
  by_cases hc : chkS g l t = 0
  · obtain ⟨_, hg1, hg2, hl0, ht0, hlt⟩ := chkS_ok hc
    have HC := Lib.hid hc
    by_cases h1 : l ≤ 7340032
    · have hr := lpowI_range (4 * l + 16) (by omega) (by omega)
      obtain ⟨hr1, hr2⟩ := hr
      by_cases h2 : lpowI (4 * l + 16) < 8 * g
      · have hs : remS g l t = (lpowI (4 * l + 16) / 8, true, 0) := by unfold remS; rw [if_neg (by simp [hc]), if_pos ⟨h1, h2⟩]
        have HS := Lib.hid hs
        clear hs hc
        go_enter Try.func18, Try.ntmps18
        go_wp2_with fail
        refine (check_any _ _ _ _ hl ht).mono ?_
        rw [HC.out]
        rintro e w1 ⟨rfl, hb⟩
        obtain ⟨hblk, hz⟩ := own_block hb
        have hc0 := cell_of hblk 0 _ rfl
        have hc1 := cell_of hblk 1 _ rfl
        have hf := frozen_of hblk
        have HB := Lib.hid (below_own hb)
        clear hb hblk
        go_wp2_with fail
        refine (bound_any _ _ (by omega) (by omega)).mono ?_
        rintro e w' ⟨rfl, rfl⟩
        go_wp2_with fail
        refine (bound_any _ _ (by omega) (by omega)).mono ?_
        rintro e w' ⟨rfl, rfl⟩
        go_wp2_with fail
        exact bodyPost_ret (v := .tuple #[.agg #[.int .i64 (lpowI (4 * l + 16) / 8), .bool true], .int .i64 0]) (by simp [results, Try.results18, go_sem, hc0, hc1]) rfl (planRet _ _ _ HS.out (((HB.out).setCell (Nat.le_refl _) _).setCell (Nat.le_refl _) _))
      · have hs : remS g l t = (g, false, 0) := by unfold remS; rw [if_neg (by simp [hc]), if_neg (fun h => h2 h.2)]
        have HS := Lib.hid hs
        clear hs hc
        go_enter Try.func18, Try.ntmps18
        go_wp2_with fail
        refine (check_any _ _ _ _ hl ht).mono ?_
        rw [HC.out]
        rintro e w1 ⟨rfl, hb⟩
        obtain ⟨hblk, hz⟩ := own_block hb
        have hc0 := cell_of hblk 0 _ rfl
        have hc1 := cell_of hblk 1 _ rfl
        have hf := frozen_of hblk
        have HB := Lib.hid (below_own hb)
        clear hb hblk
        go_wp2_with fail
        refine (bound_any _ _ (by omega) (by omega)).mono ?_
        rintro e w' ⟨rfl, rfl⟩
        go_wp2_with fail
        exact bodyPost_ret (v := .tuple #[.agg #[.int .i64 g, .bool false], .int .i64 0]) (by simp [results, Try.results18, go_sem, hc0, hc1]) rfl (planRet _ _ _ HS.out (((HB.out).setCell (Nat.le_refl _) _).setCell (Nat.le_refl _) _))
    · have hs : remS g l t = (g, false, 0) := by unfold remS; rw [if_neg (by simp [hc]), if_neg (fun h => h1 h.1)]
      have HS := Lib.hid hs
      clear hs hc
      go_enter Try.func18, Try.ntmps18
      go_wp2_with fail
      refine (check_any _ _ _ _ hl ht).mono ?_
      rw [HC.out]
      rintro e w1 ⟨rfl, hb⟩
      obtain ⟨hblk, hz⟩ := own_block hb
      have hc0 := cell_of hblk 0 _ rfl
      have hc1 := cell_of hblk 1 _ rfl
      have hf := frozen_of hblk
      have HB := Lib.hid (below_own hb)
      clear hb hblk
      go_wp2_with fail
      exact bodyPost_ret (v := .tuple #[.agg #[.int .i64 g, .bool false], .int .i64 0]) (by simp [results, Try.results18, go_sem, hc0, hc1]) rfl (planRet _ _ _ HS.out (((HB.out).setCell (Nat.le_refl _) _).setCell (Nat.le_refl _) _))
  · have hs : remS g l t = (0, false, chkS g l t) := by unfold remS; rw [if_pos hc]
    have hcv : (chkS g l t == 0) = false := by simpa using hc
    have HS := Lib.hid hs
    clear hs hc
    go_enter Try.func18, Try.ntmps18
    go_wp2_with fail
    refine (check_any _ _ _ _ hl ht).mono ?_
    skip
    rintro e w1 ⟨rfl, hb⟩
    obtain ⟨hblk, hz⟩ := own_block hb
    have hc0 := cell_of hblk 0 _ rfl
    have hc1 := cell_of hblk 1 _ rfl
    have hf := frozen_of hblk
    have HB := Lib.hid (below_own hb)
    clear hb hblk
    go_wp2_with fail
    exact bodyPost_ret (v := .tuple #[.agg #[.int .i64 0, .bool false], .int .i64 (chkS g l t)]) (by simp [results, Try.results18, go_sem, hc0, hc1]) rfl (planRet _ _ _ HS.out (((HB.out).setCell (Nat.le_refl _) _).setCell (Nat.le_refl _) _))

end Go.Proofs.Ytjnckljdodlmiaa
