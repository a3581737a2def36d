/- LabScriptsbCard -/
import Derived.Test.YtcpophfchchpkaaGreatDoorTie
import Derived.Test.YtcpophfchchpkaaGreatDoorCards
import Derived.SevenTiedAt
import Derived.ProofKit
import Derived.LaidMore
import Derived.OpenShut
import Derived.Stop.Joined
namespace Go.Proofs.YtcpophfchchpkaaGreatDoor.labScripts
open Go.ChangeShapes Go.WideShapes Go.ChangeAt Go.RowKit
set_option linter.unusedVariables false
theorem w1 : Rows.labScriptsRow.wfByText (OpenSpec.ofChange Rows.labScriptsSpec) = true := by kernel_rfl
theorem w2 : Tryz.pinned.checked.prog.mainIs = some (Rows.labScriptsCard.stood.harness.1, Rows.labScriptsCard.stood.harness.2.toList) := by kernel_rfl
theorem w3 : Tryz.prog.funcNamed "cubbyhole/cubbyholelaw51.LabScripts" = some 4 := by kernel_rfl
theorem w4 : true = Tryz.prog.looks [] := by kernel_rfl
theorem goes_none {P : Program} (h : (P.funcs.toList.all fun fn => !fn.goes) = true) (f : FuncId) : P.goes f = false := by
  have hm : ∀ fn ∈ P.funcs, fn.goes = false := fun fn hfn => by
    have := List.all_eq_true.1 h fn (Array.mem_toList_iff.2 hfn)
    simpa using this
  have ha : P.funcs.any Func.goes = false := by
    rw [Array.any_eq_false']
    exact fun fn hfn => by rw [hm fn hfn]; decide
  have hg : ∀ g : Nat, (P.funcs[g]?).any Func.goes = false := fun g => by
    cases hq : P.funcs[g]? with
    | none => rfl
    | some fn => exact hm fn (Array.mem_of_getElem? hq)
  unfold Program.goes
  simp [hg, ha]
theorem goes_by {P : Program} {c : OpenClaim} (h : (P.funcs.toList.all fun fn => !fn.goes) = true) : c.goesBy P = false := by
  have hn := goes_none h
  unfold OpenClaim.goesBy Program.goesAt Program.goesFrom
  have h1 : (P.funcNamed c.func).any P.goes = false := by
    cases P.funcNamed c.func with
    | none => rfl
    | some f => exact hn f
  rw [h1, Bool.false_or]
  split
  · rfl
  · rw [List.any_eq_false]
    exact fun f _ => by rw [hn f]; decide
theorem no_goes : (Tryz.prog.funcs.toList.all fun fn => !fn.goes) = true := by kernel_rfl
theorem w5 : false = Rows.labScriptsRow.goesBy Tryz.prog := (goes_by no_goes).symm
theorem w6 : ([33, 29].all fun u => !Tryz.prog.wantsStandIn u) = true := by kernel_rfl
end Go.Proofs.YtcpophfchchpkaaGreatDoor.labScripts
