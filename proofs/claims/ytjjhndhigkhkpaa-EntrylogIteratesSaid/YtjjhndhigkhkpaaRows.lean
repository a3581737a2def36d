/-
  No cell of these rows narrows 'for every input' (looked for: loops, veiled, ifaces, maps, wideKeys, modest, calm, conditions, laid).
  DERIVED. THE GIVEN ROWS OF THIS SEAT. 5 by the template 'for every input the law returns true; each argument reads behind the call as it read before'; 0 by the template 'total and deterministic' (their statements: YtjjhndhigkhkpaaTotals.lean).
  GIVEN WITH THE SEED: the statements are not yours to turn. If you find one false, say at which input.
  Laid BY PROGRAM, IN A SANDBOX (cutbox-rows.mjs): the forced cells as the released guide's own fill.sh prints them over the translation d516d32eabbb448a… (all of the seat's roots in one cut). By AI agents, Wed Nov 11 2026. No macro, syntax, notation, axiom, sorry.
-/
import Derived.Test.YtjjhndhigkhkpaaChecked
import GoSem.Claim
import GoSem.ClaimJoined
import GoSem.ClaimMapViews
import Derived.JoinedTies
import Derived.KernelRfl
namespace Go.Proofs.Ytjjhndhigkhkpaa
/- THE CELL 'sum', in the pinned program and in every row, IS THE sha256 OF THE DUMP (.gsa) THAT YtjjhndhigkhkpaaProg.lean LOADS. Nothing in Lean hashes anything: it is a label: what it is worth is what the hold of that sum in a sandbox is worth. -/
noncomputable def Try.pinned : Pinned := { name := "ytjjhndhigkhkpaa", sum := "d516d32eabbb448ada2ff84acc0b9b7213dc2c9421e5496c80f6be5e6e492c5f", checked := Try.checked }
namespace Rows
def none {H : Type} : Left H := { results := [], args := [] }

/-- 'cubbyholelaw09.EntrylogValues': WHATEVER THE INPUT: true; the input reads as it did. -/
def entrylogValuesSpec : ChangeSpec := { name := "entrylogValues", fn := fun _ => fun
  | [d1, d2] => { results := [.lit (.bool true)], args := [d1, d2] }
  | _ => none }
def entrylogValuesRow : OpenClaim := { program := "ytjjhndhigkhkpaa", sum := "d516d32eabbb448ada2ff84acc0b9b7213dc2c9421e5496c80f6be5e6e492c5f", func := "cubbyhole/cubbyholelaw09.EntrylogValues", spec := "entrylogValues", unfollowed := true, recurses := true, apart := false }
def EntrylogValuesSaid : Prop := entrylogValuesRow.holds Try.pinned (OpenSpec.ofChange entrylogValuesSpec)

/-- ITS FALSE NEIGHBOUR: 'it returns false'. Refute it at one input. -/
def entrylogValuesWrong : ChangeSpec := { name := "entrylogValues", fn := fun _ => fun
  | [d1, d2] => { results := [.lit (.bool false)], args := [d1, d2] }
  | _ => none }
def EntrylogValuesWrongFalsely : Prop := entrylogValuesRow.holds Try.pinned (OpenSpec.ofChange entrylogValuesWrong)

/-- 'cubbyholelaw09.EntrylogHolds': WHATEVER THE INPUT: true; the input reads as it did. -/
def entrylogHoldsSpec : ChangeSpec := { name := "entrylogHolds", fn := fun _ => fun
  | [d] => { results := [.lit (.bool true)], args := [d] }
  | _ => none }
def entrylogHoldsRow : OpenClaim := { program := "ytjjhndhigkhkpaa", sum := "d516d32eabbb448ada2ff84acc0b9b7213dc2c9421e5496c80f6be5e6e492c5f", func := "cubbyhole/cubbyholelaw09.EntrylogHolds", spec := "entrylogHolds", unfollowed := true, recurses := true, apart := false }
def EntrylogHoldsSaid : Prop := entrylogHoldsRow.holds Try.pinned (OpenSpec.ofChange entrylogHoldsSpec)

/-- ITS FALSE NEIGHBOUR: 'it returns false'. Refute it at one input. -/
def entrylogHoldsWrong : ChangeSpec := { name := "entrylogHolds", fn := fun _ => fun
  | [d] => { results := [.lit (.bool false)], args := [d] }
  | _ => none }
def EntrylogHoldsWrongFalsely : Prop := entrylogHoldsRow.holds Try.pinned (OpenSpec.ofChange entrylogHoldsWrong)

/-- 'cubbyholelaw09.EntrylogPlays': WHATEVER THE INPUT: true; the input reads as it did. -/
def entrylogPlaysSpec : ChangeSpec := { name := "entrylogPlays", fn := fun _ => fun
  | [d] => { results := [.lit (.bool true)], args := [d] }
  | _ => none }
def entrylogPlaysRow : OpenClaim := { program := "ytjjhndhigkhkpaa", sum := "d516d32eabbb448ada2ff84acc0b9b7213dc2c9421e5496c80f6be5e6e492c5f", func := "cubbyhole/cubbyholelaw09.EntrylogPlays", spec := "entrylogPlays", unfollowed := true, recurses := true, apart := false }
def EntrylogPlaysSaid : Prop := entrylogPlaysRow.holds Try.pinned (OpenSpec.ofChange entrylogPlaysSpec)

/-- ITS FALSE NEIGHBOUR: 'it returns false'. Refute it at one input. -/
def entrylogPlaysWrong : ChangeSpec := { name := "entrylogPlays", fn := fun _ => fun
  | [d] => { results := [.lit (.bool false)], args := [d] }
  | _ => none }
def EntrylogPlaysWrongFalsely : Prop := entrylogPlaysRow.holds Try.pinned (OpenSpec.ofChange entrylogPlaysWrong)

/-- 'cubbyholelaw09.EntrylogIterates': WHATEVER THE INPUT: true; the input reads as it did. -/
def entrylogIteratesSpec : ChangeSpec := { name := "entrylogIterates", fn := fun _ => fun
  | [d1, d2] => { results := [.lit (.bool true)], args := [d1, d2] }
  | _ => none }
def entrylogIteratesRow : OpenClaim := { program := "ytjjhndhigkhkpaa", sum := "d516d32eabbb448ada2ff84acc0b9b7213dc2c9421e5496c80f6be5e6e492c5f", func := "cubbyhole/cubbyholelaw09.EntrylogIterates", spec := "entrylogIterates", unfollowed := true, recurses := true, apart := false }
def EntrylogIteratesSaid : Prop := entrylogIteratesRow.holds Try.pinned (OpenSpec.ofChange entrylogIteratesSpec)

/-- ITS FALSE NEIGHBOUR: 'it returns false'. Refute it at one input. -/
def entrylogIteratesWrong : ChangeSpec := { name := "entrylogIterates", fn := fun _ => fun
  | [d1, d2] => { results := [.lit (.bool false)], args := [d1, d2] }
  | _ => none }
def EntrylogIteratesWrongFalsely : Prop := entrylogIteratesRow.holds Try.pinned (OpenSpec.ofChange entrylogIteratesWrong)

/-- 'cubbyholelaw09.EntrylogNil': WHATEVER THE INPUT: true; the input reads as it did. -/
def entrylogNilSpec : ChangeSpec := { name := "entrylogNil", fn := fun _ => fun
  | [d1, d2] => { results := [.lit (.bool true)], args := [d1, d2] }
  | _ => none }
def entrylogNilRow : OpenClaim := { program := "ytjjhndhigkhkpaa", sum := "d516d32eabbb448ada2ff84acc0b9b7213dc2c9421e5496c80f6be5e6e492c5f", func := "cubbyhole/cubbyholelaw09.EntrylogNil", spec := "entrylogNil", unfollowed := true, recurses := true, apart := false }
def EntrylogNilSaid : Prop := entrylogNilRow.holds Try.pinned (OpenSpec.ofChange entrylogNilSpec)

/-- ITS FALSE NEIGHBOUR: 'it returns false'. Refute it at one input. -/
def entrylogNilWrong : ChangeSpec := { name := "entrylogNil", fn := fun _ => fun
  | [d1, d2] => { results := [.lit (.bool false)], args := [d1, d2] }
  | _ => none }
def EntrylogNilWrongFalsely : Prop := entrylogNilRow.holds Try.pinned (OpenSpec.ofChange entrylogNilWrong)

/- THE SECOND FORM. 'bulk': how many values and letters a reading holds, each counted each time it is reached (what is shared counts as often as it is met; a slice's spare places count too). A statement '..UptoSaid' is the law's where the arguments, and the package variables that the reading takes, are together of bulk at most 1048576: NARROWER than '..Said'. Prove '..Said' where nothing that the law and all that it calls make is longer than what came in: it says more and counts as full. Else prove '..UptoSaid'. A law counts once. -/
mutual
def uptoBulk {H : Type} : DataW H → Nat
  | .lit (.string bytes) => bytes.length + 1
  | .lit _ => 1
  | .nil => 1
  | .ptr d => uptoBulk d + 1
  | .slice elems spare => uptoBulkAll elems + uptoBulkAll spare + 1
  | .agg parts => uptoBulkAll parts + 1
  | .iface _ d => uptoBulk d + 1
  | .map entries => uptoBulkEntries entries + 1
  | .held _ => 1
def uptoBulkAll {H : Type} : List (DataW H) → Nat
  | [] => 0
  | d :: r => uptoBulk d + uptoBulkAll r
def uptoBulkEntries {H : Type} : List (Lit × DataW H) → Nat
  | [] => 0
  | x :: r => uptoBulkEntry x + uptoBulkEntries r
def uptoBulkEntry {H : Type} : Lit × DataW H → Nat
  | (.string bytes, d) => bytes.length + uptoBulk d + 1
  | (_, d) => uptoBulk d + 1
 end
def uptoSmall : (H : Type) → List (DataW H) → Bool := fun _ ds => decide (uptoBulkAll ds ≤ 1048576)
def OpenSpec.upto (s : _root_.Go.ChangeSpec) : _root_.Go.OpenSpec := { _root_.Go.OpenSpec.ofChange s with cond := some uptoSmall }

/-- 'cubbyholelaw09.EntrylogValues', WHERE WHAT IT READS IS OF BULK AT MOST 1048576: true; the input reads as it did. -/
def entrylogValuesUptoRow : OpenClaim := { program := "ytjjhndhigkhkpaa", sum := "d516d32eabbb448ada2ff84acc0b9b7213dc2c9421e5496c80f6be5e6e492c5f", func := "cubbyhole/cubbyholelaw09.EntrylogValues", spec := "entrylogValues", unfollowed := true, recurses := true, apart := false, narrowed := true }
def EntrylogValuesUptoSaid : Prop := entrylogValuesUptoRow.holds Try.pinned (OpenSpec.upto entrylogValuesSpec)

/-- 'cubbyholelaw09.EntrylogHolds', WHERE WHAT IT READS IS OF BULK AT MOST 1048576: true; the input reads as it did. -/
def entrylogHoldsUptoRow : OpenClaim := { program := "ytjjhndhigkhkpaa", sum := "d516d32eabbb448ada2ff84acc0b9b7213dc2c9421e5496c80f6be5e6e492c5f", func := "cubbyhole/cubbyholelaw09.EntrylogHolds", spec := "entrylogHolds", unfollowed := true, recurses := true, apart := false, narrowed := true }
def EntrylogHoldsUptoSaid : Prop := entrylogHoldsUptoRow.holds Try.pinned (OpenSpec.upto entrylogHoldsSpec)

/-- 'cubbyholelaw09.EntrylogPlays', WHERE WHAT IT READS IS OF BULK AT MOST 1048576: true; the input reads as it did. -/
def entrylogPlaysUptoRow : OpenClaim := { program := "ytjjhndhigkhkpaa", sum := "d516d32eabbb448ada2ff84acc0b9b7213dc2c9421e5496c80f6be5e6e492c5f", func := "cubbyhole/cubbyholelaw09.EntrylogPlays", spec := "entrylogPlays", unfollowed := true, recurses := true, apart := false, narrowed := true }
def EntrylogPlaysUptoSaid : Prop := entrylogPlaysUptoRow.holds Try.pinned (OpenSpec.upto entrylogPlaysSpec)

/-- 'cubbyholelaw09.EntrylogIterates', WHERE WHAT IT READS IS OF BULK AT MOST 1048576: true; the input reads as it did. -/
def entrylogIteratesUptoRow : OpenClaim := { program := "ytjjhndhigkhkpaa", sum := "d516d32eabbb448ada2ff84acc0b9b7213dc2c9421e5496c80f6be5e6e492c5f", func := "cubbyhole/cubbyholelaw09.EntrylogIterates", spec := "entrylogIterates", unfollowed := true, recurses := true, apart := false, narrowed := true }
def EntrylogIteratesUptoSaid : Prop := entrylogIteratesUptoRow.holds Try.pinned (OpenSpec.upto entrylogIteratesSpec)

/-- 'cubbyholelaw09.EntrylogNil', WHERE WHAT IT READS IS OF BULK AT MOST 1048576: true; the input reads as it did. -/
def entrylogNilUptoRow : OpenClaim := { program := "ytjjhndhigkhkpaa", sum := "d516d32eabbb448ada2ff84acc0b9b7213dc2c9421e5496c80f6be5e6e492c5f", func := "cubbyhole/cubbyholelaw09.EntrylogNil", spec := "entrylogNil", unfollowed := true, recurses := true, apart := false, narrowed := true }
def EntrylogNilUptoSaid : Prop := entrylogNilUptoRow.holds Try.pinned (OpenSpec.upto entrylogNilSpec)

end Rows
end Go.Proofs.Ytjjhndhigkhkpaa
