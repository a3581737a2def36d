/- The walks of layer 8's functions and of its references: what each computes. -/
import Derived.Test.YtjnckljdodlmiaaGrowthM
import Derived.Test.YtjnckljdodlmiaaShelf
import Derived.Test.YtjnckljdodlmiaaRows
import Derived.WalkKit
import Derived.WalkSpells
import Derived.WalkLawsBesides
import Derived.BigQuiet
import Derived.Deep.QuietTactic
import Derived.Lib.Hide
namespace Go.Proofs.Ytjnckljdodlmiaa
open Go.RowKit

set_option maxHeartbeats 400000 in
theorem probeValid_any (g : Int) (w : World) :
    Calls Try.prog 28 #[.int .i64 g] w fun e w' => e = .returned (.bool (validB g)) ∧ w = w' := by
  by_cases h0 : 0 < g
  · by_cases h1 : g ≤ 1048576
    · have hv := validB_bits h0 h1
      by_cases hb : bits BinOp.and IntKind.i64 g (g - 1) = 0
      · rw [hb] at hv
        have hv' : validB g = true := by rw [← hv]; rfl
        rw [hv']
        clear hv hv'
        go_enter Try.func28, Try.ntmps28
        go_wp2
        go_ret
        exact ⟨rfl, rfl⟩
      · have hb' : (bits BinOp.and IntKind.i64 g (g - 1) == 0) = false := by simpa using hb
        rw [hb'] at hv
        rw [← hv]
        clear hv hb
        go_enter Try.func28, Try.ntmps28
        go_wp2
        go_ret
        exact ⟨rfl, rfl⟩
    · have hv := validB_high (g := g) (by omega)
      rw [hv]
      clear hv
      go_enter Try.func28, Try.ntmps28
      go_wp2
      go_ret
      exact ⟨rfl, rfl⟩
  · have hv := validB_low (g := g) (by omega)
    rw [hv]
    clear hv
    go_enter Try.func28, Try.ntmps28
    go_wp2
    go_ret
    exact ⟨rfl, rfl⟩

theorem pow_succ_cast (k : Nat) : 2 * ((2 ^ k : Nat) : Int) = ((2 ^ (k + 1) : Nat) : Int) := by rw [Nat.pow_succ]; omega

set_option maxHeartbeats 400000 in
theorem refValid_any (g : Int) (w : World) :
    Calls Try.prog 22 #[.int .i64 g] w fun e w' => e = .returned (.bool (validB g)) ∧ w = w' := by
  go_enter Try.func22, Try.ntmps22
  go_wp2
  go_loop [3] (fun n => ∃ k : Nat, k ≤ 21 ∧ n = .int .i64 ((2 ^ k : Nat) : Int) ∧ ∀ j, j < k → g ≠ ((2 ^ j : Nat) : Int)) (fun n => (2097152 - intOf n).toNat)
  case atStart => exact ⟨0, by omega, rfl, by omega⟩
  case round =>
    obtain ⟨k, hk, rfl, hn⟩ := hrel
    have HN := Lib.hid hn
    clear hn
    have hp := pow_succ_cast k
    have hpos : (1 : Int) ≤ ((2 ^ k : Nat) : Int) := by have := Nat.one_le_two_pow (n := k); omega
    have HP := Lib.hid hp
    clear hp
    rcases Nat.lt_or_ge k 21 with hlt | hge
    · have hle := pow_le_20 hlt
      generalize hx : ((2 ^ k : Nat) : Int) = x at *
      have hle' : x ≤ 1048576 := by omega
      have HX := Lib.hid hx
      clear hx hle
      by_cases he : x = g
      · have hv : validB g = true := (validB_iff g).2 ⟨k, hlt, by rw [← he]; exact HX.out.symm⟩
        have HV := Lib.hid hv
        clear hv
        subst he
        go_wp2
        go_ret
        exact ⟨by rw [HV.out]; rfl, rfl⟩
      · have he' : (x == g) = false := by simpa using he
        go_wp2
        go_round
        case rel =>
          refine ⟨k + 1, by omega, by rw [HP.out], ?_⟩
          intro j hj
          rcases Nat.lt_or_ge j k with h | h
          · exact HN.out j h
          · have : j = k := by omega
            subst this
            rw [HX.out]; exact fun h => he h.symm
        case measure => simp [intOf]; omega
    · have hk' : k = 21 := by omega
      subst hk'
      have hv : validB g = false := by
        cases e : validB g with
        | false => rfl
        | true =>
          obtain ⟨j, hj, hg⟩ := (validB_iff g).1 e
          exact absurd hg (HN.out j (by omega))
      have HV := Lib.hid hv
      clear hv
      go_wp2
      go_ret
      exact ⟨by rw [HV.out]; rfl, rfl⟩

set_option maxHeartbeats 400000 in
theorem limit_any (a : Int) (w : World) (h0 : 0 ≤ a) (h1 : a ≤ 2000000) :
    Calls Try.prog 21 #[.int .i64 a] w fun e w' => e = .returned (.int .i64 (7 * a)) ∧ w = w' := by
  go_enter Try.func21, Try.ntmps21
  go_wp2
  go_ret
  exact ⟨rfl, rfl⟩

def lpowI (a : Int) : Int := (lpow a.toNat : Nat)

theorem shl_one (x : Nat) (h : x ≤ 1099511627776) : wrap64 (2 ^ min (Lib.bitLen (x - 1)) 64) = (lpow x : Int) := by
  have hb : Lib.bitLen (x - 1) ≤ 40 := Lib.bitLen_le (x - 1) 40 (by omega) (by omega)
  rw [Nat.min_eq_left (by omega)]
  have h1 : lpow x ≤ 2 ^ 40 := Nat.pow_le_pow_right (by decide) hb
  have h3 : (2 : Int) ^ Lib.bitLen (x - 1) = (lpow x : Int) := by
    unfold lpow
    rw [Int.natCast_pow]; rfl
  rw [h3]
  exact IntWalk.wrap64_in (lpow x : Int) (by omega)

set_option maxHeartbeats 400000 in
theorem power_any (a : Int) (w : World) (h0 : 1 ≤ a) (h1 : a ≤ 1099511627776) :
    Calls Try.prog 25 #[.int .i64 a] w fun e w' => e = .returned (.int .i64 (lpowI a)) ∧ w = w' := by
  go_enter Try.func25, Try.ntmps25
  go_wp2_with (go_at_call 29; refine (Try.bits_Len _ _ (by omega) (by omega)).mono ?_; rintro e w' ⟨rfl, rfl⟩)
  go_ret
  exact ⟨congrArg (fun x => Ending.returned (.int .i64 x)) (shl_one a.toNat (by omega)), rfl⟩


theorem lpowI_range (a : Int) (h0 : 1 ≤ a) (h1 : a ≤ 1099511627776) : a ≤ lpowI a ∧ lpowI a < 2 * a := by
  have := lpow_ge (x := a.toNat) (by omega) (by omega)
  have := lpow_lt2 (x := a.toNat) (by omega) (by omega)
  unfold lpowI
  omega

set_option maxHeartbeats 400000 in
theorem bound_any (a : Int) (w : World) (h0 : 0 ≤ a) (h1 : a ≤ 7340032) :
    Calls Try.prog 24 #[.int .i64 a] w fun e w' => e = .returned (.int .i64 (lpowI (4 * a + 16))) ∧ w = w' := by
  go_enter Try.func24, Try.ntmps24
  go_wp2_with (go_at_call 25; refine (power_any _ _ (by omega) (by omega)).mono ?_; rintro e w' ⟨rfl, rfl⟩)
  go_ret
  exact ⟨rfl, rfl⟩

/-- The error of numbers that must be from 0 to a maximum, one by one. -/
def withinS (m : Int) (xs : List Int) : Int := if xs.all (fun x => decide (0 ≤ x ∧ x ≤ m)) then 0 else 3

set_option maxHeartbeats 400000 in
theorem within_any (m : Int) (xs : List Int) (b off cap : Nat) (w : World) (hl : xs.length ≤ 1000)
    (hc : ∀ i, i < xs.length → w.cell? ⟨b, off + i, none⟩ = some (.int .i64 (xs.getD i 0))) :
    Calls Try.prog 23 #[.int .i64 m, .slice (some ⟨b, off, none⟩) xs.length cap] w fun e w' => e = .returned (.int .i64 (withinS m xs)) ∧ w = w' := by
  go_enter Try.func23, Try.ntmps23
  go_wp2
  go_loop [9] (fun i => ∃ k : Nat, k ≤ xs.length ∧ i = .int .i64 k ∧ (xs.take k).all (fun x => decide (0 ≤ x ∧ x ≤ m)) = true) (fun i => xs.length - (intOf i).toNat)
  case atStart => exact ⟨0, by omega, rfl, rfl⟩
  case round =>
    obtain ⟨k, hk, rfl, hn⟩ := hrel
    have HN := Lib.hid hn
    clear hn
    by_cases hlt : k < xs.length
    · have hcell := hc k hlt
      have hg : xs.getD k 0 = xs[k] := by simp [hlt]
      rw [hg] at hcell
      have ht : xs.take (k + 1) = xs.take k ++ [xs[k]] := List.take_succ_eq_append_getElem hlt
      have HT := Lib.hid ht
      clear hg ht hc
      by_cases hin : 0 ≤ xs[k] ∧ xs[k] ≤ m
      · obtain ⟨hin1, hin2⟩ := hin
        go_wp2
        go_round
        case rel => exact ⟨k + 1, by omega, by go_num, by rw [HT.out, List.all_append, HN.out]; simp [hin1, hin2]⟩
        case measure => simp [intOf]; omega
      · have hs : withinS m xs = 3 := by
          unfold withinS
          rw [if_neg]
          rw [List.all_eq_true]
          intro h
          have := h xs[k] (List.getElem_mem hlt)
          exact hin (by simpa using this)
        have HS := Lib.hid hs
        clear hs
        by_cases hneg : xs[k] < 0
        · clear hin
          go_wp2
          go_ret
          exact ⟨by rw [HS.out]; rfl, rfl⟩
        · have hgt : m < xs[k] := by omega
          clear hin
          go_wp2
          go_ret
          exact ⟨by rw [HS.out]; rfl, rfl⟩
    · have hs : withinS m xs = 0 := by
        unfold withinS
        have := HN.out
        rw [List.take_of_length_le (by omega)] at this
        rw [if_pos this]
      have HS := Lib.hid hs
      clear hs hc
      go_wp2
      go_ret
      exact ⟨by rw [HS.out]; rfl, rfl⟩

end Go.Proofs.Ytjnckljdodlmiaa
