/- Size classes, in plain numbers. No program in sight. -/
import Derived.Test.YtookfhmghchkjaaSlabM
import Derived.Shelf.Small.Bits
import Derived.Lib.ItoaNum
namespace Go.Proofs.Ytookfhmghchkjaa
open Go Go.RowKit

def classN (n : Nat) : Nat := Lib.bitLen ((n - 1) / 16)

theorem classN_le {n : Nat} (h : n ≤ 65536) : classN n ≤ 12 := Lib.bitLen_le ((n - 1) / 16) 12 (by omega) (by omega)

theorem classN_fit {n : Nat} (h : n ≤ 65536) : n ≤ csize (classN n) := by
  unfold csize classN
  by_cases e : (n - 1) / 16 = 0
  · rw [e]
    have : Lib.bitLen 0 = 0 := rfl
    rw [this]; omega
  · have hb := (Lib.bitLenAux_bounds 64 ((n - 1) / 16) (by omega) e).2.2
    have h2 : Lib.bitLen ((n - 1) / 16) = Lib.bitLenAux 64 ((n - 1) / 16) := rfl
    rw [h2]; omega

theorem classN_least {n j : Nat} (h : n ≤ 65536) (hj : n ≤ csize j) : classN n ≤ j := by
  unfold csize at hj
  unfold classN
  by_cases e : (n - 1) / 16 = 0
  · rw [e]
    have : Lib.bitLen 0 = 0 := rfl
    rw [this]; omega
  · have hb := (Lib.bitLenAux_bounds 64 ((n - 1) / 16) (by omega) e).2
    have h2 : Lib.bitLen ((n - 1) / 16) = Lib.bitLenAux 64 ((n - 1) / 16) := rfl
    rw [h2]
    rcases Nat.lt_or_ge j (Lib.bitLenAux 64 ((n - 1) / 16)) with h3 | h3
    · have : 2 ^ j ≤ 2 ^ (Lib.bitLenAux 64 ((n - 1) / 16) - 1) := Nat.pow_le_pow_right (by decide) (by omega)
      omega
    · exact h3

theorem csize_mono {i j : Nat} (h : i ≤ j) : csize i ≤ csize j := Nat.mul_le_mul_left _ (Nat.pow_le_pow_right (by decide) h)
theorem csize_succ (k : Nat) : csize (k + 1) = 2 * csize k := by unfold csize; rw [Nat.pow_succ]; omega

theorem classN_found {n j : Nat} (h : n ≤ 65536) (hj : n ≤ csize j) (hl : ∀ i, i < j → csize i < n) : classN n = j := by
  apply Nat.le_antisymm (classN_least h hj)
  rcases Nat.lt_or_ge (classN n) j with h3 | h3
  · have := hl _ h3
    have := classN_fit h
    omega
  · exact h3

end Go.Proofs.Ytookfhmghchkjaa
