/- The reference's size classes of layer 13; the walk of SlabClasses. -/
import Derived.Test.YtookfhmghchkjaaSlabW
namespace Go.Proofs.Ytookfhmghchkjaa
open Go Go.RowKit

theorem csize_pow (k : Nat) (h : k ≤ 13) : csize k ≤ 131072 := by
  have h1 := csize_mono h
  have : csize 13 = 131072 := rfl
  omega

theorem refSize_any (k : Nat) (hk : k ≤ 13) (w : World) : Calls Try.prog 12 #[.int .i64 k] w fun e w' => e = .returned (.int .i64 (csize k)) ∧ w' = w := by
  go_enter Try.func12, Try.ntmps12
  go_wp2
  go_loop [3, 4] (fun n i => ∃ j : Nat, j ≤ k ∧ i = .int .i64 j ∧ n = .int .i64 (csize j)) (fun _ i => k - (intOf i).toNat)
  case atStart => exact ⟨0, Nat.zero_le _, rfl, rfl⟩
  case round =>
    obtain ⟨j, hj, rfl, rfl⟩ := hrel
    by_cases hjk : j < k
    · have h1 := csize_pow (j + 1) (by omega)
      have h2 := csize_succ j
      have hI : (j : Int) < (k : Int) := by omega
      have h3 : (csize j : Int) ≤ 65536 := by omega
      have h4 : (0 : Int) ≤ (csize j : Int) := Int.natCast_nonneg _
      have HS := Lib.hid h2
      clear h2 h1
      go_wp2
      go_round
      case rel => exact ⟨j + 1, by omega, by go_num, by rw [HS.out]; go_num⟩
      case measure => simp [intOf]; omega
    · obtain rfl : j = k := by omega
      go_wp2
      go_ret
      exact ⟨rfl, rfl⟩

theorem refClass_ok (n : Nat) (h : n ≤ 65536) (w : World) : Calls Try.prog 8 #[.int .i64 n] w fun e w' => e = .returned (.tuple #[.int .i64 (classN n), .int .i64 0]) ∧ w' = w := by
  have hnI : (n : Int) ≤ 65536 := by omega
  have hn0 : ¬ (n : Int) < 0 := by omega
  have hc := classN_le h
  go_enter Try.func8, Try.ntmps8
  go_wp2
  go_loop [4] (fun i => ∃ j : Nat, j ≤ classN n ∧ i = .int .i64 j) (fun i => classN n - (intOf i).toNat)
  case atStart => exact ⟨0, Nat.zero_le _, rfl⟩
  case round =>
    obtain ⟨j, hj, rfl⟩ := hrel
    go_wp2_with fail
    refine (refSize_any j (by omega) _).mono ?_
    rintro e w' ⟨rfl, hw⟩
    subst hw
    by_cases hjn : csize j < n
    · have hI : (csize j : Int) < (n : Int) := by omega
      have hlt : j < classN n := by
        rcases Nat.lt_or_ge j (classN n) with h3 | h3
        · exact h3
        · have h4 := classN_fit h
          have h5 := csize_mono h3
          omega
      go_wp2
      go_round
      case rel => exact ⟨j + 1, by omega, by go_num⟩
      case measure => simp [intOf]; omega
    · have hI : ¬ (csize j : Int) < (n : Int) := by omega
      have he : classN n = j := by have := classN_least h (j := j) (by omega); omega
      go_wp2
      go_ret2
      exact ⟨by rw [he]; rfl, rfl⟩

theorem refClass_bad (n : Int) (h : n < 0 ∨ 65536 < n) (w : World) : Calls Try.prog 8 #[.int .i64 n] w fun e w' => e = .returned (.tuple #[.int .i64 0, .int .i64 3]) ∧ w' = w := by
  go_enter Try.func8, Try.ntmps8
  by_cases h0 : n < 0
  · go_wp2
    go_ret2
    exact ⟨rfl, rfl⟩
  · have h1 : 65536 < n := by omega
    go_wp2
    go_ret2
    exact ⟨rfl, rfl⟩


set_option maxRecDepth 100000 in
set_option maxHeartbeats 2000000 in
theorem classes_walk (n k : Int) (w : World) : Calls Try.prog 3 #[.int .i64 n, .int .i64 k] w fun e w' => e = .returned (.bool true) ∧ Below w.heap.size w w' := by
  go_enter Try.func3, Try.ntmps3
  go_wp2_with fail
  by_cases hn : n < 0 ∨ 65536 < n
  · refine (refClass_bad n hn _).mono ?_
    rintro e w' ⟨rfl, hw⟩
    subst hw
    go_wp2_with fail
    refine (class_bad n hn _).mono ?_
    rintro e w1 ⟨rfl, hw⟩
    subst hw
    clear hn
    by_cases hk : k < 0 ∨ 12 < k
    · go_wp2_with fail
      refine (slabSize_bad k hk _).mono ?_
      rintro e w' ⟨rfl, hw⟩
      subst hw
      by_cases hk0 : k < 0
      · go_wp2_with fail
        refine (known_true _).mono ?_
        rintro e w2 ⟨rfl, hb⟩
        have HB := Lib.hid hb
        clear hb
        go_wp2_with fail
        go_ret
        exact ⟨rfl, HB.out⟩
      · have hk1 : 12 < k := by omega
        go_wp2_with fail
        refine (known_true _).mono ?_
        rintro e w2 ⟨rfl, hb⟩
        have HB := Lib.hid hb
        clear hb
        go_wp2_with fail
        go_ret
        exact ⟨rfl, HB.out⟩
    · obtain ⟨j, rfl⟩ : ∃ j : Nat, k = j := ⟨k.toNat, by omega⟩
      have hj : j < 13 := by omega
      have hj0 : ¬ (j : Int) < 0 := by omega
      have hj1 : ¬ 12 < (j : Int) := by omega
      go_wp2_with fail
      refine (slabSize_ok j hj _).mono ?_
      rintro e w' ⟨rfl, hw⟩
      subst hw
      clear hk
      go_wp2_with fail
      refine (refSize_any j (by omega) _).mono ?_
      rintro e w' ⟨rfl, hw⟩
      subst hw
      go_wp2_with fail
      refine (known_true _).mono ?_
      rintro e w2 ⟨rfl, hb⟩
      have HB := Lib.hid hb
      clear hb
      go_wp2_with fail
      go_ret
      exact ⟨rfl, HB.out⟩
  · obtain ⟨m, rfl⟩ : ∃ m : Nat, n = m := ⟨n.toNat, by omega⟩
    have hm : m ≤ 65536 := by omega
    refine (refClass_ok m hm _).mono ?_
    rintro e w' ⟨rfl, hw⟩
    subst hw
    go_wp2_with fail
    refine (class_ok m (classN m) hm rfl _).mono ?_
    rintro e w1 ⟨rfl, hw⟩
    subst hw
    clear hn hm
    by_cases hk : k < 0 ∨ 12 < k
    · go_wp2_with fail
      refine (slabSize_bad k hk _).mono ?_
      rintro e w' ⟨rfl, hw⟩
      subst hw
      by_cases hk0 : k < 0
      · go_wp2_with fail
        refine (known_true _).mono ?_
        rintro e w2 ⟨rfl, hb⟩
        have HB := Lib.hid hb
        clear hb
        go_wp2_with fail
        go_ret
        exact ⟨rfl, HB.out⟩
      · have hk1 : 12 < k := by omega
        go_wp2_with fail
        refine (known_true _).mono ?_
        rintro e w2 ⟨rfl, hb⟩
        have HB := Lib.hid hb
        clear hb
        go_wp2_with fail
        go_ret
        exact ⟨rfl, HB.out⟩
    · obtain ⟨j, rfl⟩ : ∃ j : Nat, k = j := ⟨k.toNat, by omega⟩
      have hj : j < 13 := by omega
      have hj0 : ¬ (j : Int) < 0 := by omega
      have hj1 : ¬ 12 < (j : Int) := by omega
      go_wp2_with fail
      refine (slabSize_ok j hj _).mono ?_
      rintro e w' ⟨rfl, hw⟩
      subst hw
      clear hk
      go_wp2_with fail
      refine (refSize_any j (by omega) _).mono ?_
      rintro e w' ⟨rfl, hw⟩
      subst hw
      go_wp2_with fail
      refine (known_true _).mono ?_
      rintro e w2 ⟨rfl, hb⟩
      have HB := Lib.hid hb
      clear hb
      go_wp2_with fail
      go_ret
      exact ⟨rfl, HB.out⟩

end Go.Proofs.Ytookfhmghchkjaa
