/-
  NARROWER THAN 'FOR EVERY INPUT', by the rows' own cells (each row's printed sentence says how): JournalReads: laid · JournalSpoilt: laid · JournalFulls: laid · JournalAppends: laid · JournalNone: laid.
  DERIVED. THE GIVEN ROWS OF THIS SEAT. 5 by the template 'for every input the law returns true; each argument reads behind the call as it read before'; 0 by the template 'total and deterministic' (their statements: YtffigmciclopdaaDoorTotals.lean).
  GIVEN WITH THE SEED: the statements are not yours to turn. If you find one false, say at which input.
  Laid BY PROGRAM, IN A SANDBOX (cutbox-rows.mjs): the forced cells as the released guide's own fill.sh prints them over the translation 089ae75891815fb4… (all of the seat's roots in one cut). By AI agents, Wed Nov 11 2026. No macro, syntax, notation, axiom, sorry.
-/
import Derived.Test.YtffigmciclopdaaDoorChecked
import GoSem.Claim
import GoSem.ClaimJoined
import GoSem.ClaimMapViews
import Derived.JoinedTies
import Derived.KernelRfl
namespace Go.Proofs.YtffigmciclopdaaDoor
/- THE CELL 'sum', in the pinned program and in every row, IS THE sha256 OF THE DUMP (.gsa) THAT YtffigmciclopdaaDoorProg.lean LOADS. Nothing in Lean hashes anything: it is a label: what it is worth is what the hold of that sum in a sandbox is worth. -/
noncomputable def Tryd.pinned : Pinned := { name := "ytffigmciclopdaadoor", sum := "089ae75891815fb4cc7da511c8016ca2850bda287a4a97cb3e1261281a96801d", checked := Tryd.checked }
namespace Rows
def none {H : Type} : Left H := { results := [], args := [] }

/- WHAT THE LISTED PACKAGE-LEVEL VARIABLES READ AS WHEN THE CALL BEGINS. Each datum BY PROGRAM (the guide's laid-datum.mjs) off the statement by which the dump's own 'gosem.cut.vars' lays the variable. In a bare row this is a premise. The card (YtffigmciclopdaaDoorCards.lean) ties it to the program's text. -/
def laid_cubbyhole_script_kinds {H : Type} : DataW H := .agg [.lit (.int .i64 3), .lit (.int .i64 1), .lit (.int .i64 2), .lit (.int .i64 4), .lit (.int .i64 5), .lit (.int .i64 6), .lit (.int .i64 7), .lit (.int .i64 8), .lit (.int .i64 9), .lit (.int .i64 10), .lit (.int .i64 11), .lit (.int .i64 12), .lit (.int .i64 13), .lit (.int .i64 14), .lit (.int .i64 3), .lit (.int .i64 1)]

/-- 'cubbyholelaw45.JournalReads': WHATEVER THE INPUT: true; the input reads as it did. -/
def journalReadsSpec : ChangeSpec := { name := "journalReads", fn := fun _ => fun
  | [d] => { results := [.lit (.bool true)], args := [d] }
  | _ => none }
def journalReadsRow : OpenClaim := { program := "ytffigmciclopdaadoor", sum := "089ae75891815fb4cc7da511c8016ca2850bda287a4a97cb3e1261281a96801d", func := "cubbyhole/cubbyholelaw45.JournalReads", spec := "journalReads", unfollowed := true, recurses := true, named := ["cubbyhole/script.kinds"], apart := false, laid := [("cubbyhole/script.kinds", laid_cubbyhole_script_kinds)] }
def JournalReadsSaid : Prop := journalReadsRow.holds Tryd.pinned (OpenSpec.ofChange journalReadsSpec)

/-- ITS FALSE NEIGHBOUR: 'it returns false'. Refute it at one input. -/
def journalReadsWrong : ChangeSpec := { name := "journalReads", fn := fun _ => fun
  | [d] => { results := [.lit (.bool false)], args := [d] }
  | _ => none }
def JournalReadsWrongFalsely : Prop := journalReadsRow.holds Tryd.pinned (OpenSpec.ofChange journalReadsWrong)

/-- 'cubbyholelaw45.JournalSpoilt': WHATEVER THE INPUT: true; the input reads as it did. -/
def journalSpoiltSpec : ChangeSpec := { name := "journalSpoilt", fn := fun _ => fun
  | [d1, d2, d3, d4] => { results := [.lit (.bool true)], args := [d1, d2, d3, d4] }
  | _ => none }
def journalSpoiltRow : OpenClaim := { program := "ytffigmciclopdaadoor", sum := "089ae75891815fb4cc7da511c8016ca2850bda287a4a97cb3e1261281a96801d", func := "cubbyhole/cubbyholelaw45.JournalSpoilt", spec := "journalSpoilt", unfollowed := true, recurses := true, named := ["cubbyhole/script.kinds"], apart := false, laid := [("cubbyhole/script.kinds", laid_cubbyhole_script_kinds)] }
def JournalSpoiltSaid : Prop := journalSpoiltRow.holds Tryd.pinned (OpenSpec.ofChange journalSpoiltSpec)

/-- ITS FALSE NEIGHBOUR: 'it returns false'. Refute it at one input. -/
def journalSpoiltWrong : ChangeSpec := { name := "journalSpoilt", fn := fun _ => fun
  | [d1, d2, d3, d4] => { results := [.lit (.bool false)], args := [d1, d2, d3, d4] }
  | _ => none }
def JournalSpoiltWrongFalsely : Prop := journalSpoiltRow.holds Tryd.pinned (OpenSpec.ofChange journalSpoiltWrong)

/-- 'cubbyholelaw45.JournalFulls': WHATEVER THE INPUT: true; the input reads as it did. -/
def journalFullsSpec : ChangeSpec := { name := "journalFulls", fn := fun _ => fun
  | [d] => { results := [.lit (.bool true)], args := [d] }
  | _ => none }
def journalFullsRow : OpenClaim := { program := "ytffigmciclopdaadoor", sum := "089ae75891815fb4cc7da511c8016ca2850bda287a4a97cb3e1261281a96801d", func := "cubbyhole/cubbyholelaw45.JournalFulls", spec := "journalFulls", unfollowed := true, recurses := true, named := ["cubbyhole/script.kinds"], apart := false, laid := [("cubbyhole/script.kinds", laid_cubbyhole_script_kinds)] }
def JournalFullsSaid : Prop := journalFullsRow.holds Tryd.pinned (OpenSpec.ofChange journalFullsSpec)

/-- ITS FALSE NEIGHBOUR: 'it returns false'. Refute it at one input. -/
def journalFullsWrong : ChangeSpec := { name := "journalFulls", fn := fun _ => fun
  | [d] => { results := [.lit (.bool false)], args := [d] }
  | _ => none }
def JournalFullsWrongFalsely : Prop := journalFullsRow.holds Tryd.pinned (OpenSpec.ofChange journalFullsWrong)

/-- 'cubbyholelaw45.JournalAppends': WHATEVER THE INPUT: true; the input reads as it did. -/
def journalAppendsSpec : ChangeSpec := { name := "journalAppends", fn := fun _ => fun
  | [d] => { results := [.lit (.bool true)], args := [d] }
  | _ => none }
def journalAppendsRow : OpenClaim := { program := "ytffigmciclopdaadoor", sum := "089ae75891815fb4cc7da511c8016ca2850bda287a4a97cb3e1261281a96801d", func := "cubbyhole/cubbyholelaw45.JournalAppends", spec := "journalAppends", unfollowed := true, recurses := true, named := ["cubbyhole/script.kinds"], apart := false, laid := [("cubbyhole/script.kinds", laid_cubbyhole_script_kinds)] }
def JournalAppendsSaid : Prop := journalAppendsRow.holds Tryd.pinned (OpenSpec.ofChange journalAppendsSpec)

/-- ITS FALSE NEIGHBOUR: 'it returns false'. Refute it at one input. -/
def journalAppendsWrong : ChangeSpec := { name := "journalAppends", fn := fun _ => fun
  | [d] => { results := [.lit (.bool false)], args := [d] }
  | _ => none }
def JournalAppendsWrongFalsely : Prop := journalAppendsRow.holds Tryd.pinned (OpenSpec.ofChange journalAppendsWrong)

/-- 'cubbyholelaw45.JournalNone': WHATEVER THE INPUT: true; the input reads as it did. -/
def journalNoneSpec : ChangeSpec := { name := "journalNone", fn := fun _ => fun
  | [d1, d2] => { results := [.lit (.bool true)], args := [d1, d2] }
  | _ => none }
def journalNoneRow : OpenClaim := { program := "ytffigmciclopdaadoor", sum := "089ae75891815fb4cc7da511c8016ca2850bda287a4a97cb3e1261281a96801d", func := "cubbyhole/cubbyholelaw45.JournalNone", spec := "journalNone", unfollowed := true, recurses := true, named := ["cubbyhole/script.kinds"], apart := false, laid := [("cubbyhole/script.kinds", laid_cubbyhole_script_kinds)] }
def JournalNoneSaid : Prop := journalNoneRow.holds Tryd.pinned (OpenSpec.ofChange journalNoneSpec)

/-- ITS FALSE NEIGHBOUR: 'it returns false'. Refute it at one input. -/
def journalNoneWrong : ChangeSpec := { name := "journalNone", fn := fun _ => fun
  | [d1, d2] => { results := [.lit (.bool false)], args := [d1, d2] }
  | _ => none }
def JournalNoneWrongFalsely : Prop := journalNoneRow.holds Tryd.pinned (OpenSpec.ofChange journalNoneWrong)

/- THE SECOND FORM. 'bulk': how many values and letters a reading holds, each counted each time it is reached (what is shared counts as often as it is met; a slice's spare places count too). A statement '..UptoSaid' is the law's where the arguments, and the package variables that the reading takes, are together of bulk at most 1048576: NARROWER than '..Said'. Prove '..Said' where nothing that the law and all that it calls make is longer than what came in: it says more and counts as full. Else prove '..UptoSaid'. A law counts once. -/
mutual
def uptoBulk {H : Type} : DataW H → Nat
  | .lit (.string bytes) => bytes.length + 1
  | .lit _ => 1
  | .nil => 1
  | .ptr d => uptoBulk d + 1
  | .slice elems spare => uptoBulkAll elems + uptoBulkAll spare + 1
  | .agg parts => uptoBulkAll parts + 1
  | .iface _ d => uptoBulk d + 1
  | .map entries => uptoBulkEntries entries + 1
  | .held _ => 1
def uptoBulkAll {H : Type} : List (DataW H) → Nat
  | [] => 0
  | d :: r => uptoBulk d + uptoBulkAll r
def uptoBulkEntries {H : Type} : List (Lit × DataW H) → Nat
  | [] => 0
  | x :: r => uptoBulkEntry x + uptoBulkEntries r
def uptoBulkEntry {H : Type} : Lit × DataW H → Nat
  | (.string bytes, d) => bytes.length + uptoBulk d + 1
  | (_, d) => uptoBulk d + 1
 end
def uptoSmall : (H : Type) → List (DataW H) → Bool := fun _ ds => decide (uptoBulkAll ds ≤ 1048576)
def OpenSpec.upto (s : _root_.Go.ChangeSpec) : _root_.Go.OpenSpec := { _root_.Go.OpenSpec.ofChange s with cond := some uptoSmall }

/-- 'cubbyholelaw45.JournalReads', WHERE WHAT IT READS IS OF BULK AT MOST 1048576: true; the input reads as it did. -/
def journalReadsUptoRow : OpenClaim := { program := "ytffigmciclopdaadoor", sum := "089ae75891815fb4cc7da511c8016ca2850bda287a4a97cb3e1261281a96801d", func := "cubbyhole/cubbyholelaw45.JournalReads", spec := "journalReads", unfollowed := true, recurses := true, named := ["cubbyhole/script.kinds"], apart := false, laid := [("cubbyhole/script.kinds", laid_cubbyhole_script_kinds)], narrowed := true }
def JournalReadsUptoSaid : Prop := journalReadsUptoRow.holds Tryd.pinned (OpenSpec.upto journalReadsSpec)

/-- 'cubbyholelaw45.JournalSpoilt', WHERE WHAT IT READS IS OF BULK AT MOST 1048576: true; the input reads as it did. -/
def journalSpoiltUptoRow : OpenClaim := { program := "ytffigmciclopdaadoor", sum := "089ae75891815fb4cc7da511c8016ca2850bda287a4a97cb3e1261281a96801d", func := "cubbyhole/cubbyholelaw45.JournalSpoilt", spec := "journalSpoilt", unfollowed := true, recurses := true, named := ["cubbyhole/script.kinds"], apart := false, laid := [("cubbyhole/script.kinds", laid_cubbyhole_script_kinds)], narrowed := true }
def JournalSpoiltUptoSaid : Prop := journalSpoiltUptoRow.holds Tryd.pinned (OpenSpec.upto journalSpoiltSpec)

/-- 'cubbyholelaw45.JournalFulls', WHERE WHAT IT READS IS OF BULK AT MOST 1048576: true; the input reads as it did. -/
def journalFullsUptoRow : OpenClaim := { program := "ytffigmciclopdaadoor", sum := "089ae75891815fb4cc7da511c8016ca2850bda287a4a97cb3e1261281a96801d", func := "cubbyhole/cubbyholelaw45.JournalFulls", spec := "journalFulls", unfollowed := true, recurses := true, named := ["cubbyhole/script.kinds"], apart := false, laid := [("cubbyhole/script.kinds", laid_cubbyhole_script_kinds)], narrowed := true }
def JournalFullsUptoSaid : Prop := journalFullsUptoRow.holds Tryd.pinned (OpenSpec.upto journalFullsSpec)

/-- 'cubbyholelaw45.JournalAppends', WHERE WHAT IT READS IS OF BULK AT MOST 1048576: true; the input reads as it did. -/
def journalAppendsUptoRow : OpenClaim := { program := "ytffigmciclopdaadoor", sum := "089ae75891815fb4cc7da511c8016ca2850bda287a4a97cb3e1261281a96801d", func := "cubbyhole/cubbyholelaw45.JournalAppends", spec := "journalAppends", unfollowed := true, recurses := true, named := ["cubbyhole/script.kinds"], apart := false, laid := [("cubbyhole/script.kinds", laid_cubbyhole_script_kinds)], narrowed := true }
def JournalAppendsUptoSaid : Prop := journalAppendsUptoRow.holds Tryd.pinned (OpenSpec.upto journalAppendsSpec)

/-- 'cubbyholelaw45.JournalNone', WHERE WHAT IT READS IS OF BULK AT MOST 1048576: true; the input reads as it did. -/
def journalNoneUptoRow : OpenClaim := { program := "ytffigmciclopdaadoor", sum := "089ae75891815fb4cc7da511c8016ca2850bda287a4a97cb3e1261281a96801d", func := "cubbyhole/cubbyholelaw45.JournalNone", spec := "journalNone", unfollowed := true, recurses := true, named := ["cubbyhole/script.kinds"], apart := false, laid := [("cubbyhole/script.kinds", laid_cubbyhole_script_kinds)], narrowed := true }
def JournalNoneUptoSaid : Prop := journalNoneUptoRow.holds Tryd.pinned (OpenSpec.upto journalNoneSpec)

end Rows
end Go.Proofs.YtffigmciclopdaaDoor
