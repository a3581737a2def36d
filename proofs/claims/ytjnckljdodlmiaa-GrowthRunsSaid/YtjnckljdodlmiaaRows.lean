/-
  No cell of these rows narrows 'for every input' (looked for: loops, veiled, ifaces, maps, wideKeys, modest, calm, conditions, laid).
  DERIVED. THE GIVEN ROWS OF THIS SEAT. 5 by the template 'for every input the law returns true; each argument reads behind the call as it read before'; 0 by the template 'total and deterministic' (their statements: YtjnckljdodlmiaaTotals.lean).
  GIVEN WITH THE SEED: the statements are not yours to turn. If you find one false, say at which input.
  Laid BY PROGRAM, IN A SANDBOX (cutbox-rows.mjs): the forced cells as the released guide's own fill.sh prints them over the translation 3b4d554e7c4e2715… (all of the seat's roots in one cut). By AI agents, Wed Nov 11 2026. No macro, syntax, notation, axiom, sorry.
-/
import Derived.Test.YtjnckljdodlmiaaChecked
import GoSem.Claim
import GoSem.ClaimJoined
import GoSem.ClaimMapViews
import Derived.JoinedTies
import Derived.KernelRfl
namespace Go.Proofs.Ytjnckljdodlmiaa
/- THE CELL 'sum', in the pinned program and in every row, IS THE sha256 OF THE DUMP (.gsa) THAT YtjnckljdodlmiaaProg.lean LOADS. Nothing in Lean hashes anything: it is a label: what it is worth is what the hold of that sum in a sandbox is worth. -/
noncomputable def Try.pinned : Pinned := { name := "ytjnckljdodlmiaa", sum := "3b4d554e7c4e2715f02b3f591f4525bac7cb49086f2341abc147de00b74cdc14", checked := Try.checked }
namespace Rows
def none {H : Type} : Left H := { results := [], args := [] }

/-- 'cubbyholelaw08.GrowthLimits': WHATEVER THE INPUT: true; the input reads as it did. -/
def growthLimitsSpec : ChangeSpec := { name := "growthLimits", fn := fun _ => fun
  | [d1, d2] => { results := [.lit (.bool true)], args := [d1, d2] }
  | _ => none }
def growthLimitsRow : OpenClaim := { program := "ytjnckljdodlmiaa", sum := "3b4d554e7c4e2715f02b3f591f4525bac7cb49086f2341abc147de00b74cdc14", func := "cubbyhole/cubbyholelaw08.GrowthLimits", spec := "growthLimits", apart := false }
def GrowthLimitsSaid : Prop := growthLimitsRow.holds Try.pinned (OpenSpec.ofChange growthLimitsSpec)

/-- ITS FALSE NEIGHBOUR: 'it returns false'. Refute it at one input. -/
def growthLimitsWrong : ChangeSpec := { name := "growthLimits", fn := fun _ => fun
  | [d1, d2] => { results := [.lit (.bool false)], args := [d1, d2] }
  | _ => none }
def GrowthLimitsWrongFalsely : Prop := growthLimitsRow.holds Try.pinned (OpenSpec.ofChange growthLimitsWrong)

/-- 'cubbyholelaw08.GrowthInserts': WHATEVER THE INPUT: true; the input reads as it did. -/
def growthInsertsSpec : ChangeSpec := { name := "growthInserts", fn := fun _ => fun
  | [d1, d2, d3] => { results := [.lit (.bool true)], args := [d1, d2, d3] }
  | _ => none }
def growthInsertsRow : OpenClaim := { program := "ytjnckljdodlmiaa", sum := "3b4d554e7c4e2715f02b3f591f4525bac7cb49086f2341abc147de00b74cdc14", func := "cubbyhole/cubbyholelaw08.GrowthInserts", spec := "growthInserts", apart := false }
def GrowthInsertsSaid : Prop := growthInsertsRow.holds Try.pinned (OpenSpec.ofChange growthInsertsSpec)

/-- ITS FALSE NEIGHBOUR: 'it returns false'. Refute it at one input. -/
def growthInsertsWrong : ChangeSpec := { name := "growthInserts", fn := fun _ => fun
  | [d1, d2, d3] => { results := [.lit (.bool false)], args := [d1, d2, d3] }
  | _ => none }
def GrowthInsertsWrongFalsely : Prop := growthInsertsRow.holds Try.pinned (OpenSpec.ofChange growthInsertsWrong)

/-- 'cubbyholelaw08.GrowthRemoves': WHATEVER THE INPUT: true; the input reads as it did. -/
def growthRemovesSpec : ChangeSpec := { name := "growthRemoves", fn := fun _ => fun
  | [d1, d2, d3] => { results := [.lit (.bool true)], args := [d1, d2, d3] }
  | _ => none }
def growthRemovesRow : OpenClaim := { program := "ytjnckljdodlmiaa", sum := "3b4d554e7c4e2715f02b3f591f4525bac7cb49086f2341abc147de00b74cdc14", func := "cubbyhole/cubbyholelaw08.GrowthRemoves", spec := "growthRemoves", apart := false }
def GrowthRemovesSaid : Prop := growthRemovesRow.holds Try.pinned (OpenSpec.ofChange growthRemovesSpec)

/-- ITS FALSE NEIGHBOUR: 'it returns false'. Refute it at one input. -/
def growthRemovesWrong : ChangeSpec := { name := "growthRemoves", fn := fun _ => fun
  | [d1, d2, d3] => { results := [.lit (.bool false)], args := [d1, d2, d3] }
  | _ => none }
def GrowthRemovesWrongFalsely : Prop := growthRemovesRow.holds Try.pinned (OpenSpec.ofChange growthRemovesWrong)

/-- 'cubbyholelaw08.GrowthRuns': WHATEVER THE INPUT: true; the input reads as it did. -/
def growthRunsSpec : ChangeSpec := { name := "growthRuns", fn := fun _ => fun
  | [d] => { results := [.lit (.bool true)], args := [d] }
  | _ => none }
def growthRunsRow : OpenClaim := { program := "ytjnckljdodlmiaa", sum := "3b4d554e7c4e2715f02b3f591f4525bac7cb49086f2341abc147de00b74cdc14", func := "cubbyhole/cubbyholelaw08.GrowthRuns", spec := "growthRuns", apart := false }
def GrowthRunsSaid : Prop := growthRunsRow.holds Try.pinned (OpenSpec.ofChange growthRunsSpec)

/-- ITS FALSE NEIGHBOUR: 'it returns false'. Refute it at one input. -/
def growthRunsWrong : ChangeSpec := { name := "growthRuns", fn := fun _ => fun
  | [d] => { results := [.lit (.bool false)], args := [d] }
  | _ => none }
def GrowthRunsWrongFalsely : Prop := growthRunsRow.holds Try.pinned (OpenSpec.ofChange growthRunsWrong)

/-- 'cubbyholelaw08.GrowthHolds': WHATEVER THE INPUT: true; the input reads as it did. -/
def growthHoldsSpec : ChangeSpec := { name := "growthHolds", fn := fun _ => fun
  | [d1, d2, d3] => { results := [.lit (.bool true)], args := [d1, d2, d3] }
  | _ => none }
def growthHoldsRow : OpenClaim := { program := "ytjnckljdodlmiaa", sum := "3b4d554e7c4e2715f02b3f591f4525bac7cb49086f2341abc147de00b74cdc14", func := "cubbyhole/cubbyholelaw08.GrowthHolds", spec := "growthHolds", apart := false }
def GrowthHoldsSaid : Prop := growthHoldsRow.holds Try.pinned (OpenSpec.ofChange growthHoldsSpec)

/-- ITS FALSE NEIGHBOUR: 'it returns false'. Refute it at one input. -/
def growthHoldsWrong : ChangeSpec := { name := "growthHolds", fn := fun _ => fun
  | [d1, d2, d3] => { results := [.lit (.bool false)], args := [d1, d2, d3] }
  | _ => none }
def GrowthHoldsWrongFalsely : Prop := growthHoldsRow.holds Try.pinned (OpenSpec.ofChange growthHoldsWrong)

/- THE SECOND FORM. 'bulk': how many values and letters a reading holds, each counted each time it is reached (what is shared counts as often as it is met; a slice's spare places count too). A statement '..UptoSaid' is the law's where the arguments, and the package variables that the reading takes, are together of bulk at most 1048576: NARROWER than '..Said'. Prove '..Said' where nothing that the law and all that it calls make is longer than what came in: it says more and counts as full. Else prove '..UptoSaid'. A law counts once. -/
mutual
def uptoBulk {H : Type} : DataW H → Nat
  | .lit (.string bytes) => bytes.length + 1
  | .lit _ => 1
  | .nil => 1
  | .ptr d => uptoBulk d + 1
  | .slice elems spare => uptoBulkAll elems + uptoBulkAll spare + 1
  | .agg parts => uptoBulkAll parts + 1
  | .iface _ d => uptoBulk d + 1
  | .map entries => uptoBulkEntries entries + 1
  | .held _ => 1
def uptoBulkAll {H : Type} : List (DataW H) → Nat
  | [] => 0
  | d :: r => uptoBulk d + uptoBulkAll r
def uptoBulkEntries {H : Type} : List (Lit × DataW H) → Nat
  | [] => 0
  | x :: r => uptoBulkEntry x + uptoBulkEntries r
def uptoBulkEntry {H : Type} : Lit × DataW H → Nat
  | (.string bytes, d) => bytes.length + uptoBulk d + 1
  | (_, d) => uptoBulk d + 1
 end
def uptoSmall : (H : Type) → List (DataW H) → Bool := fun _ ds => decide (uptoBulkAll ds ≤ 1048576)
def OpenSpec.upto (s : _root_.Go.ChangeSpec) : _root_.Go.OpenSpec := { _root_.Go.OpenSpec.ofChange s with cond := some uptoSmall }

/-- 'cubbyholelaw08.GrowthLimits', WHERE WHAT IT READS IS OF BULK AT MOST 1048576: true; the input reads as it did. -/
def growthLimitsUptoRow : OpenClaim := { program := "ytjnckljdodlmiaa", sum := "3b4d554e7c4e2715f02b3f591f4525bac7cb49086f2341abc147de00b74cdc14", func := "cubbyhole/cubbyholelaw08.GrowthLimits", spec := "growthLimits", apart := false, narrowed := true }
def GrowthLimitsUptoSaid : Prop := growthLimitsUptoRow.holds Try.pinned (OpenSpec.upto growthLimitsSpec)

/-- 'cubbyholelaw08.GrowthInserts', WHERE WHAT IT READS IS OF BULK AT MOST 1048576: true; the input reads as it did. -/
def growthInsertsUptoRow : OpenClaim := { program := "ytjnckljdodlmiaa", sum := "3b4d554e7c4e2715f02b3f591f4525bac7cb49086f2341abc147de00b74cdc14", func := "cubbyhole/cubbyholelaw08.GrowthInserts", spec := "growthInserts", apart := false, narrowed := true }
def GrowthInsertsUptoSaid : Prop := growthInsertsUptoRow.holds Try.pinned (OpenSpec.upto growthInsertsSpec)

/-- 'cubbyholelaw08.GrowthRemoves', WHERE WHAT IT READS IS OF BULK AT MOST 1048576: true; the input reads as it did. -/
def growthRemovesUptoRow : OpenClaim := { program := "ytjnckljdodlmiaa", sum := "3b4d554e7c4e2715f02b3f591f4525bac7cb49086f2341abc147de00b74cdc14", func := "cubbyhole/cubbyholelaw08.GrowthRemoves", spec := "growthRemoves", apart := false, narrowed := true }
def GrowthRemovesUptoSaid : Prop := growthRemovesUptoRow.holds Try.pinned (OpenSpec.upto growthRemovesSpec)

/-- 'cubbyholelaw08.GrowthRuns', WHERE WHAT IT READS IS OF BULK AT MOST 1048576: true; the input reads as it did. -/
def growthRunsUptoRow : OpenClaim := { program := "ytjnckljdodlmiaa", sum := "3b4d554e7c4e2715f02b3f591f4525bac7cb49086f2341abc147de00b74cdc14", func := "cubbyhole/cubbyholelaw08.GrowthRuns", spec := "growthRuns", apart := false, narrowed := true }
def GrowthRunsUptoSaid : Prop := growthRunsUptoRow.holds Try.pinned (OpenSpec.upto growthRunsSpec)

/-- 'cubbyholelaw08.GrowthHolds', WHERE WHAT IT READS IS OF BULK AT MOST 1048576: true; the input reads as it did. -/
def growthHoldsUptoRow : OpenClaim := { program := "ytjnckljdodlmiaa", sum := "3b4d554e7c4e2715f02b3f591f4525bac7cb49086f2341abc147de00b74cdc14", func := "cubbyhole/cubbyholelaw08.GrowthHolds", spec := "growthHolds", apart := false, narrowed := true }
def GrowthHoldsUptoSaid : Prop := growthHoldsUptoRow.holds Try.pinned (OpenSpec.upto growthHoldsSpec)

end Rows
end Go.Proofs.Ytjnckljdodlmiaa
