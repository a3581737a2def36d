/- The walks of layer 8's exported functions and of its references. -/
import Derived.Test.YtjnckljdodlmiaaGrowthW
namespace Go.Proofs.Ytjnckljdodlmiaa
open Go.RowKit

/-- The error of the numbers of an index. -/
def chkS (g l t : Int) : Int := if validB g then (if 0 ≤ l ∧ 0 ≤ t ∧ l + t ≤ g * 8 then 0 else 3) else 2

theorem within_one (m x : Int) (b off cap : Nat) (w : World) (hc : w.cell? ⟨b, off, none⟩ = some (.int .i64 x)) :
    Calls Try.prog 23 #[.int .i64 m, .slice (some ⟨b, off, none⟩) 1 cap] w fun e w' => e = .returned (.int .i64 (withinS m [x])) ∧ w = w' :=
  within_any m [x] b off cap w (by simp) (by
    intro i hi
    obtain rfl : i = 0 := by simp at hi; omega
    simpa using hc)

theorem within_two (m x y : Int) (b off cap : Nat) (w : World) (hc : w.cell? ⟨b, off, none⟩ = some (.int .i64 x)) (hd : w.cell? ⟨b, off + 1, none⟩ = some (.int .i64 y)) :
    Calls Try.prog 23 #[.int .i64 m, .slice (some ⟨b, off, none⟩) 2 cap] w fun e w' => e = .returned (.int .i64 (withinS m [x, y])) ∧ w = w' :=
  within_any m [x, y] b off cap w (by simp) (by
    intro i hi
    have : i = 0 ∨ i = 1 := by simp at hi; omega
    rcases this with rfl | rfl
    · simpa using hc
    · simpa using hd)

theorem cell_new (w : World) (c : Array Value) (T : TypeId) (m : Nat × Nat) (i : Nat) (v : Value) (n : Nat) (hn : n = w.heap.size) (h : c[i]? = some v) : (w.alloc (.cells c T m)).cell? ⟨n, i, none⟩ = some v := by
  subst hn
  show (match (w.heap.push (.cells c T m))[w.heap.size]? with | some (.cells c _ _) => if (none : Option Nat).isSome then none else c[i]? | _ => none) = some v
  simp [h]

set_option maxHeartbeats 400000 in
theorem check_any (g l t : Int) (w : World) (hl : -9223372036854775808 ≤ l ∧ l ≤ 9223372036854775807) (ht : -9223372036854775808 ≤ t ∧ t ≤ 9223372036854775807) :
    Calls Try.prog 20 #[.int .i64 g, .int .i64 l, .int .i64 t] w fun e w' => e = .returned (.int .i64 (chkS g l t)) ∧ Below w.heap.size w w' := by
  cases hv : validB g with
  | false =>
    have hs : chkS g l t = 2 := by unfold chkS; rw [hv]; rfl
    have HS := Lib.hid hs
    have HV := Lib.hid hv
    clear hs hv
    go_enter Try.func20, Try.ntmps20
    go_wp2_with (go_at_call 28; refine (probeValid_any _ _).mono ?_; rw [HV.out]; rintro e w' ⟨rfl, rfl⟩)
    go_ret
    exact ⟨by rw [HS.out]; rfl, Below.refl _ _⟩
  | true =>
    have hr := validB_range hv
    obtain ⟨hr1, hr2⟩ := hr
    by_cases h2 : 0 ≤ l ∧ l ≤ g * 8 ∧ 0 ≤ t ∧ t ≤ g * 8
    · have hw2 : withinS (g * 8) [l, t] = 0 := by unfold withinS; rw [if_pos]; simp; omega
      have hs : chkS g l t = withinS (g * 8) [l + t] := by
        unfold chkS withinS; rw [hv]
        by_cases h3 : l + t ≤ g * 8
        · rw [if_pos (by simp), if_pos (by omega), if_pos (by simp; omega)]
        · rw [if_pos (by simp), if_neg (by omega), if_neg (by simp; omega)]
      have HS := Lib.hid hs
      have HV := Lib.hid hv
      have HW := Lib.hid hw2
      obtain ⟨h2a, h2b, h2c, h2d⟩ := h2
      clear hs hv hw2
      rw [HS.out]
      go_enter Try.func20, Try.ntmps20
      go_wp2_with (go_at_call 28; refine (probeValid_any _ _).mono ?_; rw [HV.out]; rintro e w' ⟨rfl, rfl⟩)
      refine (within_two _ l t _ _ _ _ (cell_new _ _ _ _ _ _ _ (by simp) rfl) (cell_new _ _ _ _ _ _ _ (by simp) rfl)).mono ?_
      rw [HW.out]
      rintro e w' ⟨rfl, rfl⟩
      go_wp2_with fail
      refine (within_one _ (l + t) _ _ _ _ (cell_new _ _ _ _ _ _ _ (by simp) rfl)).mono ?_
      rintro e w' ⟨rfl, rfl⟩
      go_wp2_with fail
      go_ret
      exact ⟨rfl, ((Below.refl _ _).alloc (Nat.le_refl _) _).alloc (by simp) _⟩
    · have hw2 : withinS (g * 8) [l, t] = 3 := by unfold withinS; rw [if_neg]; simp; omega
      have hs : chkS g l t = 3 := by
        unfold chkS; rw [hv]
        rw [if_pos (by simp), if_neg (by omega)]
      have HS := Lib.hid hs
      have HV := Lib.hid hv
      have HW := Lib.hid hw2
      clear hs hv hw2 h2
      rw [HS.out]
      go_enter Try.func20, Try.ntmps20
      go_wp2_with (go_at_call 28; refine (probeValid_any _ _).mono ?_; rw [HV.out]; rintro e w' ⟨rfl, rfl⟩)
      refine (within_two _ l t _ _ _ _ (cell_new _ _ _ _ _ _ _ (by simp) rfl) (cell_new _ _ _ _ _ _ _ (by simp) rfl)).mono ?_
      rw [HW.out]
      rintro e w' ⟨rfl, rfl⟩
      go_wp2_with fail
      go_ret
      exact ⟨rfl, (Below.refl _ _).alloc (Nat.le_refl _) _⟩

def limS (g : Int) : Int × Int := if validB g then (7 * g, 0) else (0, 2)
def bndS (l : Int) : Int × Int := if 0 ≤ l ∧ l ≤ 7340032 then (lpowI (4 * l + 16), 0) else (0, 3)
def grpS (l : Int) : Int × Int := if 0 ≤ l ∧ l ≤ 7340032 then (lpowI (max 1 ((l + 7 - 1) / 7)), 0) else (0, 3)

theorem chkS_zero (g : Int) : chkS g 0 0 = if validB g then 0 else 2 := by
  unfold chkS
  cases hv : validB g with
  | false => rfl
  | true => have := validB_range hv; rw [if_pos rfl, if_pos rfl, if_pos (by omega)]

set_option maxHeartbeats 400000 in
theorem Limit_any (g : Int) (w : World) :
    Calls Try.prog 8 #[.int .i64 g] w fun e w' => e = .returned (.tuple #[.int .i64 (limS g).1, .int .i64 (limS g).2]) ∧ Below w.heap.size w w' := by
  have hc := chkS_zero g
  cases hv : validB g with
  | false =>
    have hs : limS g = (0, 2) := by unfold limS; rw [hv]; rfl
    rw [hv] at hc
    rw [hs]
    have HC := Lib.hid hc
    clear hs hc hv
    go_enter Try.func8, Try.ntmps8
    go_wp2_with fail
    refine (check_any _ _ _ _ (by omega) (by omega)).mono ?_
    rw [HC.out]
    rintro e w1 ⟨rfl, hb⟩
    go_wp2_with fail
    go_ret2
    exact ⟨rfl, hb⟩
  | true =>
    have hs : limS g = (7 * g, 0) := by unfold limS; rw [hv]; rfl
    obtain ⟨hr1, hr2⟩ := validB_range hv
    rw [hv] at hc
    rw [hs]
    have HC := Lib.hid hc
    clear hs hc hv
    go_enter Try.func8, Try.ntmps8
    go_wp2_with fail
    refine (check_any _ _ _ _ (by omega) (by omega)).mono ?_
    rw [HC.out]
    rintro e w1 ⟨rfl, hb⟩
    go_wp2_with fail
    refine (limit_any _ _ (by omega) (by omega)).mono ?_
    rintro e w' ⟨rfl, rfl⟩
    go_wp2_with fail
    go_ret2
    exact ⟨rfl, hb⟩

set_option maxHeartbeats 400000 in
theorem Bound_any (l : Int) (w : World) :
    Calls Try.prog 11 #[.int .i64 l] w fun e w' => e = .returned (.tuple #[.int .i64 (bndS l).1, .int .i64 (bndS l).2]) ∧ Below w.heap.size w w' := by
  by_cases h : 0 ≤ l ∧ l ≤ 7340032
  · have hs : bndS l = (lpowI (4 * l + 16), 0) := by unfold bndS; rw [if_pos h]
    have hw : withinS 7340032 [l] = 0 := by unfold withinS; rw [if_pos]; simp; omega
    rw [hs]
    have HW := Lib.hid hw
    clear hs hw
    obtain ⟨ha, hb⟩ := h
    go_enter Try.func11, Try.ntmps11
    go_wp2_with fail
    refine (within_one _ l _ _ _ _ (cell_new _ _ _ _ _ _ _ (by simp) rfl)).mono ?_
    rw [HW.out]
    rintro e w' ⟨rfl, rfl⟩
    go_wp2_with fail
    refine (bound_any _ _ (by omega) (by omega)).mono ?_
    rintro e w' ⟨rfl, rfl⟩
    go_wp2_with fail
    go_ret2
    exact ⟨rfl, (Below.refl _ _).alloc (Nat.le_refl _) _⟩
  · have hs : bndS l = (0, 3) := by unfold bndS; rw [if_neg h]
    have hw : withinS 7340032 [l] = 3 := by unfold withinS; rw [if_neg]; simp; omega
    rw [hs]
    have HW := Lib.hid hw
    clear hs hw h
    go_enter Try.func11, Try.ntmps11
    go_wp2_with fail
    refine (within_one _ l _ _ _ _ (cell_new _ _ _ _ _ _ _ (by simp) rfl)).mono ?_
    rw [HW.out]
    rintro e w' ⟨rfl, rfl⟩
    go_wp2_with fail
    go_ret2
    exact ⟨rfl, (Below.refl _ _).alloc (Nat.le_refl _) _⟩

set_option maxHeartbeats 400000 in
theorem Groups_any (l : Int) (w : World) :
    Calls Try.prog 13 #[.int .i64 l] w fun e w' => e = .returned (.tuple #[.int .i64 (grpS l).1, .int .i64 (grpS l).2]) ∧ Below w.heap.size w w' := by
  by_cases h : 0 ≤ l ∧ l ≤ 7340032
  · have hs : grpS l = (lpowI (max 1 ((l + 7 - 1) / 7)), 0) := by unfold grpS; rw [if_pos h]
    have hw : withinS 7340032 [l] = 0 := by unfold withinS; rw [if_pos]; simp; omega
    rw [hs]
    have HW := Lib.hid hw
    clear hs hw
    obtain ⟨ha, hb⟩ := h
    go_enter Try.func13, Try.ntmps13
    go_wp2_with fail
    refine (within_one _ l _ _ _ _ (cell_new _ _ _ _ _ _ _ (by simp) rfl)).mono ?_
    rw [HW.out]
    rintro e w' ⟨rfl, rfl⟩
    go_wp2_with fail
    refine (limit_any _ _ (by omega) (by omega)).mono ?_
    rintro e w' ⟨rfl, rfl⟩
    go_wp2_with fail
    refine (limit_any _ _ (by omega) (by omega)).mono ?_
    rintro e w' ⟨rfl, rfl⟩
    go_wp2_with fail
    refine (power_any _ _ (by omega) (by omega)).mono ?_
    rintro e w' ⟨rfl, rfl⟩
    go_wp2_with fail
    go_ret2
    exact ⟨rfl, (Below.refl _ _).alloc (Nat.le_refl _) _⟩
  · have hs : grpS l = (0, 3) := by unfold grpS; rw [if_neg h]
    have hw : withinS 7340032 [l] = 3 := by unfold withinS; rw [if_neg]; simp; omega
    rw [hs]
    have HW := Lib.hid hw
    clear hs hw h
    go_enter Try.func13, Try.ntmps13
    go_wp2_with fail
    refine (within_one _ l _ _ _ _ (cell_new _ _ _ _ _ _ _ (by simp) rfl)).mono ?_
    rw [HW.out]
    rintro e w' ⟨rfl, rfl⟩
    go_wp2_with fail
    go_ret2
    exact ⟨rfl, (Below.refl _ _).alloc (Nat.le_refl _) _⟩

end Go.Proofs.Ytjnckljdodlmiaa
