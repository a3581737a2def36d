/- Layer 45: the sum behind the last record (plain). -/
import Derived.Test.YtffigmciclopdaaDoorJouU
namespace Go.Proofs.YtffigmciclopdaaDoor
open Go Go.RowKit

theorem numBE_sumB (s : Nat) (h : s < 4294967296) : numBE (sumB s) = s := by
  have hb : ∀ n : Nat, (byteI (n : Int)).toNat = n % 256 := fun n => by simp [byteI]; try omega
  have e1 : ((s : Int) / 16777216) = ((s / 16777216 : Nat) : Int) := by omega
  have e2 : ((s : Int) / 65536) = ((s / 65536 : Nat) : Int) := by omega
  have e3 : ((s : Int) / 256) = ((s / 256 : Nat) : Int) := by omega
  unfold sumB
  rw [e1, e2, e3]
  simp only [numBE, List.foldl_cons, List.foldl_nil, hb]
  omega

theorem sumL_rec (ds b : List UInt8) (s : Nat) (hs : s < 4294967296) : sumL (ds ++ recB s b) = sumAt s b := by
  have hl : (recB s b).length = b.length + 6 := recB_len s b
  have h4 : (sumB (sumAt s b)).length = 4 := rfl
  unfold sumL
  rw [if_neg (by rw [List.length_append, hl]; omega)]
  have : ds ++ recB s b = (ds ++ (headB b.length ++ b)) ++ sumB (sumAt s b) := by simp [recB]
  rw [this, List.length_append, h4, Nat.add_sub_cancel, List.drop_left]
  exact numBE_sumB _ (foldB_lt _ _ hs)

end Go.Proofs.YtffigmciclopdaaDoor
