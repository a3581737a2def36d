/- The walks of layer 8's references and of Remove. -/
import Derived.Test.YtjnckljdodlmiaaGrowthY
namespace Go.Proofs.Ytjnckljdodlmiaa
open Go.RowKit

set_option maxHeartbeats 400000 in
theorem refCheck_any (g l t : Int) (w : World) (hl : -9223372036854775808 ≤ l ∧ l ≤ 9223372036854775807) (ht : -9223372036854775808 ≤ t ∧ t ≤ 9223372036854775807) :
    Calls Try.prog 27 #[.int .i64 g, .int .i64 l, .int .i64 t] w fun e w' => e = .returned (.int .i64 (chkS g l t)) ∧ w = w' := by
  cases hv : validB g with
  | false =>
    have hs : chkS g l t = 2 := by unfold chkS; rw [hv]; rfl
    have HS := Lib.hid hs
    have HV := Lib.hid hv
    clear hs hv
    go_enter Try.func27, Try.ntmps27
    go_wp2_with (go_at_call 22; refine (refValid_any _ _).mono ?_; rw [HV.out]; rintro e w' ⟨rfl, rfl⟩)
    go_ret
    exact ⟨by rw [HS.out]; rfl, rfl⟩
  | true =>
    have hr := validB_range hv
    obtain ⟨hr1, hr2⟩ := hr
    have HV := Lib.hid hv
    have hs : chkS g l t = if 0 ≤ l ∧ 0 ≤ t ∧ l + t ≤ g * 8 then 0 else 3 := by unfold chkS; rw [hv, if_pos rfl]
    have bad : ¬ (0 ≤ l ∧ 0 ≤ t ∧ l + t ≤ g * 8) → chkS g l t = 3 := fun h => by rw [hs, if_neg h]
    have good : (0 ≤ l ∧ 0 ≤ t ∧ l + t ≤ g * 8) → chkS g l t = 0 := fun h => by rw [hs, if_pos h]
    have HBad := Lib.hid bad
    have HGood := Lib.hid good
    clear hs hv bad good
    by_cases a1 : l < 0
    · go_enter Try.func27, Try.ntmps27
      go_wp2_with (go_at_call 22; refine (refValid_any _ _).mono ?_; rw [HV.out]; rintro e w' ⟨rfl, rfl⟩)
      go_ret
      exact ⟨by rw [HBad.out (by omega)]; rfl, rfl⟩
    · by_cases a2 : t < 0
      · go_enter Try.func27, Try.ntmps27
        go_wp2_with (go_at_call 22; refine (refValid_any _ _).mono ?_; rw [HV.out]; rintro e w' ⟨rfl, rfl⟩)
        go_ret
        exact ⟨by rw [HBad.out (by omega)]; rfl, rfl⟩
      · by_cases a3 : 8 * g < l
        · go_enter Try.func27, Try.ntmps27
          go_wp2_with (go_at_call 22; refine (refValid_any _ _).mono ?_; rw [HV.out]; rintro e w' ⟨rfl, rfl⟩)
          go_ret
          exact ⟨by rw [HBad.out (by omega)]; rfl, rfl⟩
        · by_cases a4 : 8 * g < t
          · go_enter Try.func27, Try.ntmps27
            go_wp2_with (go_at_call 22; refine (refValid_any _ _).mono ?_; rw [HV.out]; rintro e w' ⟨rfl, rfl⟩)
            go_ret
            exact ⟨by rw [HBad.out (by omega)]; rfl, rfl⟩
          · by_cases a5 : 8 * g < l + t
            · go_enter Try.func27, Try.ntmps27
              go_wp2_with (go_at_call 22; refine (refValid_any _ _).mono ?_; rw [HV.out]; rintro e w' ⟨rfl, rfl⟩)
              go_ret
              exact ⟨by rw [HBad.out (by omega)]; rfl, rfl⟩
            · go_enter Try.func27, Try.ntmps27
              go_wp2_with (go_at_call 22; refine (refValid_any _ _).mono ?_; rw [HV.out]; rintro e w' ⟨rfl, rfl⟩)
              go_ret
              exact ⟨by rw [HGood.out (by omega)]; rfl, rfl⟩

set_option maxHeartbeats 400000 in
theorem refLimit_any (g : Int) (w : World) :
    Calls Try.prog 9 #[.int .i64 g] w fun e w' => e = .returned (.tuple #[.int .i64 (limS g).1, .int .i64 (limS g).2]) ∧ w = w' := by
  cases hv : validB g with
  | false =>
    have hs : limS g = (0, 2) := by unfold limS; rw [hv]; rfl
    rw [hs]
    have HV := Lib.hid hv
    clear hs hv
    go_enter Try.func9, Try.ntmps9
    go_wp2_with (go_at_call 22; refine (refValid_any _ _).mono ?_; rw [HV.out]; rintro e w' ⟨rfl, rfl⟩)
    go_ret2
    exact ⟨rfl, rfl⟩
  | true =>
    have hs : limS g = (7 * g, 0) := by unfold limS; rw [hv]; rfl
    obtain ⟨hr1, hr2⟩ := validB_range hv
    rw [hs]
    have HV := Lib.hid hv
    clear hs hv
    go_enter Try.func9, Try.ntmps9
    go_wp2_with (go_at_call 22; refine (refValid_any _ _).mono ?_; rw [HV.out]; rintro e w' ⟨rfl, rfl⟩)
    go_ret2
    exact ⟨rfl, rfl⟩

theorem lpowI_found (a : Int) (j : Nat) (h0 : 1 ≤ a) (h1 : a ≤ 1099511627776) (h : a ≤ ((2 ^ j : Nat) : Int)) (hb : j = 0 ∨ ((2 ^ (j - 1) : Nat) : Int) < a) : ((2 ^ j : Nat) : Int) = lpowI a := by
  unfold lpowI
  rw [lpow_found (x := a.toNat) (j := j) (by omega) (by omega) (by omega) (by omega)]

set_option maxHeartbeats 400000 in
theorem refBound_any (l : Int) (w : World) :
    Calls Try.prog 12 #[.int .i64 l] w fun e w' => e = .returned (.tuple #[.int .i64 (bndS l).1, .int .i64 (bndS l).2]) ∧ w = w' := by
  by_cases a1 : l < 0
  · have hs : bndS l = (0, 3) := by unfold bndS; rw [if_neg (by omega)]
    rw [hs]
    clear hs
    go_enter Try.func12, Try.ntmps12
    go_wp2
    go_ret2
    exact ⟨rfl, rfl⟩
  · by_cases a2 : 7340032 < l
    · have hs : bndS l = (0, 3) := by unfold bndS; rw [if_neg (by omega)]
      rw [hs]
      clear hs
      go_enter Try.func12, Try.ntmps12
      go_wp2
      go_ret2
      exact ⟨rfl, rfl⟩
    · have hs : bndS l = (lpowI (4 * l + 16), 0) := by unfold bndS; rw [if_pos (by omega)]
      rw [hs]
      clear hs
      have h0 : 0 ≤ l := by omega
      have h1 : l ≤ 7340032 := by omega
      go_enter Try.func12, Try.ntmps12
      go_wp2
      go_loop [4] (fun n => ∃ k : Nat, n = .int .i64 ((2 ^ k : Nat) : Int) ∧ (k = 0 ∨ ((2 ^ (k - 1) : Nat) : Int) < 4 * l + 16)) (fun n => (4 * l + 16 - intOf n).toNat)
      case atStart => exact ⟨0, rfl, Or.inl rfl⟩
      case round =>
        obtain ⟨k, rfl, hn⟩ := hrel
        have HN := Lib.hid hn
        have HP := Lib.hid (pow_succ_cast k)
        have hpos : (1 : Int) ≤ ((2 ^ k : Nat) : Int) := by have := Nat.one_le_two_pow (n := k); omega
        have HF := Lib.hid (lpowI_found (4 * l + 16) k (by omega) (by omega))
        clear hn
        generalize hx : ((2 ^ k : Nat) : Int) = x at *
        have HX := Lib.hid hx
        clear hx
        by_cases hlt : x < 4 * l + 16
        · go_wp2
          go_round
          case rel => exact ⟨k + 1, by rw [HP.out], Or.inr (by simp only [Nat.add_sub_cancel]; rw [HX.out]; exact hlt)⟩
          case measure => simp [intOf]; omega
        · have hf : x = lpowI (4 * l + 16) := HF.out (by omega) HN.out
          have HFF := Lib.hid hf
          clear hf
          go_wp2
          go_ret2
          exact ⟨by rw [HFF.out]; rfl, rfl⟩

set_option maxHeartbeats 400000 in
theorem refGroups_any (l : Int) (w : World) :
    Calls Try.prog 14 #[.int .i64 l] w fun e w' => e = .returned (.tuple #[.int .i64 (grpS l).1, .int .i64 (grpS l).2]) ∧ w = w' := by
  by_cases a1 : l < 0
  · have hs : grpS l = (0, 3) := by unfold grpS; rw [if_neg (by omega)]
    rw [hs]
    clear hs
    go_enter Try.func14, Try.ntmps14
    go_wp2
    go_ret2
    exact ⟨rfl, rfl⟩
  · by_cases a2 : 7340032 < l
    · have hs : grpS l = (0, 3) := by unfold grpS; rw [if_neg (by omega)]
      rw [hs]
      clear hs
      go_enter Try.func14, Try.ntmps14
      go_wp2
      go_ret2
      exact ⟨rfl, rfl⟩
    · have hs : grpS l = (lpowI (max 1 ((l + 7 - 1) / 7)), 0) := by unfold grpS; rw [if_pos (by omega)]
      rw [hs]
      clear hs
      have h0 : 0 ≤ l := by omega
      have h1 : l ≤ 7340032 := by omega
      go_enter Try.func14, Try.ntmps14
      go_wp2
      go_loop [4] (fun n => ∃ k : Nat, n = .int .i64 ((2 ^ k : Nat) : Int) ∧ (k = 0 ∨ ((2 ^ (k - 1) : Nat) : Int) < max 1 ((l + 7 - 1) / 7))) (fun n => (l - intOf n).toNat)
      case atStart => exact ⟨0, rfl, Or.inl rfl⟩
      case round =>
        obtain ⟨k, rfl, hn⟩ := hrel
        have HN := Lib.hid hn
        have HP := Lib.hid (pow_succ_cast k)
        have hpos : (1 : Int) ≤ ((2 ^ k : Nat) : Int) := by have := Nat.one_le_two_pow (n := k); omega
        have HF := Lib.hid (lpowI_found (max 1 ((l + 7 - 1) / 7)) k (by omega) (by omega))
        have hub : ((2 ^ k : Nat) : Int) ≤ 100000000 := by
          rcases hn with h | h
          · subst h; decide
          · have h2 := pow_succ_cast (k - 1)
            by_cases hk : k = 0
            · subst hk; decide
            · rw [show k - 1 + 1 = k from by omega] at h2
              omega
        clear hn
        generalize hx : ((2 ^ k : Nat) : Int) = x at *
        have HX := Lib.hid hx
        clear hx
        by_cases hlt : 7 * x < l
        · go_wp2
          go_round
          case rel => exact ⟨k + 1, by rw [HP.out], Or.inr (by simp only [Nat.add_sub_cancel]; rw [HX.out]; omega)⟩
          case measure => simp [intOf]; omega
        · have hf : x = lpowI (max 1 ((l + 7 - 1) / 7)) := HF.out (by omega) HN.out
          have HFF := Lib.hid hf
          clear hf
          go_wp2
          go_ret2
          exact ⟨by rw [HFF.out]; rfl, rfl⟩

end Go.Proofs.Ytjnckljdodlmiaa
