/- Plain facts for layer 8: powers of two, the specification of the growth functions. No program in sight. -/
import Derived.Shelf.Small.Bits
import Derived.Lib.ItoaNum
import Derived.WalkKit
namespace Go.Proofs.Ytjnckljdodlmiaa
open Go

/-- There can be so many groups. -/
def validB (g : Int) : Bool := decide (∃ k, k < 21 ∧ g = ((2 ^ k : Nat) : Int))

theorem validB_iff (g : Int) : validB g = true ↔ ∃ k, k < 21 ∧ g = ((2 ^ k : Nat) : Int) := by unfold validB; simp

theorem pow_le_20 {k : Nat} (h : k < 21) : 2 ^ k ≤ 1048576 := by
  have : 2 ^ k ≤ 2 ^ 20 := Nat.pow_le_pow_right (by decide) (by omega)
  simpa using this

theorem validB_range {g : Int} (h : validB g = true) : 1 ≤ g ∧ g ≤ 1048576 := by
  obtain ⟨k, hk, rfl⟩ := (validB_iff g).1 h
  have h1 := pow_le_20 hk
  have h2 : 1 ≤ 2 ^ k := Nat.one_le_two_pow
  omega

theorem validB_low {g : Int} (h : g ≤ 0) : validB g = false := by
  cases e : validB g with
  | false => rfl
  | true => have := validB_range e; omega

theorem validB_high {g : Int} (h : 1048576 < g) : validB g = false := by
  cases e : validB g with
  | false => rfl
  | true => have := validB_range e; omega

theorem bits_and (a b : Nat) (ha : a < 2 ^ 63) (hb : b < 2 ^ 63) : bits BinOp.and IntKind.i64 (a : Int) (b : Int) = ((a &&& b : Nat) : Int) := by
  have h1 : a &&& b < 2 ^ 63 := Nat.and_lt_two_pow a hb
  have ea : BitVec.ofInt 64 (a : Int) = BitVec.ofNat 64 a := by simp
  have eb : BitVec.ofInt 64 (b : Int) = BitVec.ofNat 64 b := by simp
  have e : (BitVec.ofNat 64 a &&& BitVec.ofNat 64 b).toNat = a &&& b := by
    rw [BitVec.toNat_and, BitVec.toNat_ofNat, BitVec.toNat_ofNat, Nat.mod_eq_of_lt (by omega), Nat.mod_eq_of_lt (by omega)]
  show IntKind.i64.wrap (((BitVec.ofInt 64 (a : Int) &&& BitVec.ofInt 64 (b : Int)).toNat : Nat) : Int) = _
  rw [ea, eb, e]
  exact IntWalk.i64_in _ (by omega)

theorem validB_bits {g : Int} (h0 : 0 < g) (h1 : g ≤ 1048576) : (bits BinOp.and IntKind.i64 g (g - 1) == 0) = validB g := by
  obtain ⟨n, rfl⟩ := Int.eq_ofNat_of_zero_le (Int.le_of_lt h0)
  have hn : 0 < n := by omega
  have e1 : ((n : Int) - 1) = ((n - 1 : Nat) : Int) := by omega
  rw [e1, bits_and n (n - 1) (by omega) (by omega)]
  rw [Bool.eq_iff_iff, validB_iff]
  have key := @Nat.and_sub_one_eq_zero_iff_isPowerOfTwo n (by omega)
  constructor
  · intro h
    have h' : n &&& (n - 1) = 0 := by
      have := eq_of_beq h
      omega
    obtain ⟨k, hk⟩ := key.1 h'
    refine ⟨k, ?_, by rw [hk]⟩
    rcases Nat.lt_or_ge k 21 with h2 | h2
    · exact h2
    · have : 2 ^ 21 ≤ 2 ^ k := Nat.pow_le_pow_right (by decide) h2
      omega
  · rintro ⟨k, hk, h⟩
    have h' : n &&& (n - 1) = 0 := key.2 ⟨k, by omega⟩
    rw [h']; rfl

/-- The lowest power of two that is not less than a number from 1 on. -/
def lpow (x : Nat) : Nat := 2 ^ Lib.bitLen (x - 1)

theorem lpow_ge {x : Nat} (h0 : 1 ≤ x) (h1 : x < 2 ^ 63) : x ≤ lpow x := by
  unfold lpow
  by_cases e : x - 1 = 0
  · have : x = 1 := by omega
    subst this
    exact Nat.one_le_two_pow
  · have := (Lib.bitLenAux_bounds 64 (x - 1) (by omega) e).2.2
    have h2 : Lib.bitLen (x - 1) = Lib.bitLenAux 64 (x - 1) := rfl
    rw [h2]; omega

theorem lpow_least {x j : Nat} (h0 : 1 ≤ x) (h1 : x < 2 ^ 63) (h : x ≤ 2 ^ j) : lpow x ≤ 2 ^ j := by
  unfold lpow
  by_cases e : x - 1 = 0
  · rw [e]
    exact Nat.one_le_two_pow
  · have hb := Lib.bitLenAux_bounds 64 (x - 1) (by omega) e
    have h2 : Lib.bitLen (x - 1) = Lib.bitLenAux 64 (x - 1) := rfl
    rw [h2]
    apply Nat.pow_le_pow_right (by decide)
    rcases Nat.lt_or_ge j (Lib.bitLenAux 64 (x - 1)) with h3 | h3
    · have : 2 ^ j ≤ 2 ^ (Lib.bitLenAux 64 (x - 1) - 1) := Nat.pow_le_pow_right (by decide) (by omega)
      omega
    · exact h3

theorem lpow_is (x : Nat) : ∃ j, lpow x = 2 ^ j := ⟨_, rfl⟩

/-- What the reference's loop ends at is the lowest power. -/
theorem lpow_found {x j : Nat} (h0 : 1 ≤ x) (h1 : x < 2 ^ 63) (h : x ≤ 2 ^ j) (hb : j = 0 ∨ 2 ^ (j - 1) < x) : 2 ^ j = lpow x := by
  apply Nat.le_antisymm _ (lpow_least h0 h1 h)
  rcases hb with rfl | hb
  · exact Nat.one_le_two_pow
  · have hg := lpow_ge h0 h1
    obtain ⟨i, hi⟩ := lpow_is x
    rw [hi] at hg ⊢
    apply Nat.pow_le_pow_right (by decide)
    rcases Nat.lt_or_ge i j with h3 | h3
    · have : 2 ^ i ≤ 2 ^ (j - 1) := Nat.pow_le_pow_right (by decide) (by omega)
      omega
    · exact h3

theorem lpow_lt2 {x : Nat} (h0 : 1 ≤ x) (h1 : x < 2 ^ 63) : lpow x < 2 * x := by
  rcases Nat.lt_or_ge x 2 with h | h
  · have : x = 1 := by omega
    subst this; decide
  · have hb := Lib.bitLenAux_bounds 64 (x - 1) (by omega) (by omega)
    have h2 : Lib.bitLen (x - 1) = Lib.bitLenAux 64 (x - 1) := rfl
    unfold lpow
    rw [h2]
    have : 2 ^ Lib.bitLenAux 64 (x - 1) = 2 * 2 ^ (Lib.bitLenAux 64 (x - 1) - 1) := by
      rw [← Nat.pow_succ']; congr 1; omega
    omega

theorem lpow_mono {x y : Nat} (h0 : 1 ≤ x) (h : x ≤ y) (h1 : y < 2 ^ 63) : lpow x ≤ lpow y := by
  obtain ⟨j, hj⟩ := lpow_is y
  have := lpow_ge (x := y) (by omega) h1
  rw [hj] at this ⊢
  exact lpow_least h0 (by omega) (by omega)

end Go.Proofs.Ytjnckljdodlmiaa
