/-
  DERIVED. GIVEN WITH THE SEED: THE CARDS: each row of YtloecagaldepfaaGreatDoorRows.lean that lists a variable, with what it lists TIED to the program's text (the seventh form; the later family's looks); each row that meets fmt, with fmt's text TOLD by the authors' own Lean function (tested against real Go, not proved from fmt's source: count such statements apart). THE CARD IS WHAT COUNTS. Prove the row's statement (the work); the ties are given (YtloecagaldepfaaGreatDoorTie.lean); close each card by the builder's one call (the guide's Derived/Test/ToyasCard.lean, 'card_holds'). Laid BY PROGRAM, IN A SANDBOX (cutbox-door.mjs). By AI agents, Wed Nov 11 2026. No macro, syntax, notation, axiom, sorry.
-/
import Derived.Test.YtloecagaldepfaaGreatDoorRows
import GoSem.ClaimSeven
namespace Go.Proofs.YtloecagaldepfaaGreatDoor
namespace Rows

/-- THE TIED CARD OF 'cubbyholelaw41.StaleNone'. -/
def staleNoneCard : Claim7 := { stood := { row := staleNoneRow, standIns := [], harness := (true, "d1e5df547e805be8ebf230c6f4f3ecf9dce23f60a27f14d25ff0af6e247c9484"), looks := true }, kinds := [], alts := [], laidByText := true, laidKinds := [.data], laidTests := true, laidLooks := .later }
def StaleNoneCardSaid : Prop := Claim7.holds Tryz.pinned (.plain (OpenSpec.ofChange staleNoneSpec)) staleNoneCard

/-- THE TIED CARD OF 'cubbyholelaw43.ShardOwners'. -/
def shardOwnersCard : Claim7 := { stood := { row := shardOwnersRow, standIns := [], harness := (true, "d1e5df547e805be8ebf230c6f4f3ecf9dce23f60a27f14d25ff0af6e247c9484"), looks := true }, kinds := [], alts := [], laidByText := true, laidKinds := [.data, .data, .data], laidTests := true, laidLooks := .later }
def ShardOwnersCardSaid : Prop := Claim7.holds Tryz.pinned (.plain (OpenSpec.ofChange shardOwnersSpec)) shardOwnersCard

/-- THE TIED CARD OF 'cubbyholelaw43.ShardNone'. -/
def shardNoneCard : Claim7 := { stood := { row := shardNoneRow, standIns := [], harness := (true, "d1e5df547e805be8ebf230c6f4f3ecf9dce23f60a27f14d25ff0af6e247c9484"), looks := true }, kinds := [], alts := [], laidByText := true, laidKinds := [.data, .data, .data], laidTests := true, laidLooks := .later }
def ShardNoneCardSaid : Prop := Claim7.holds Tryz.pinned (.plain (OpenSpec.ofChange shardNoneSpec)) shardNoneCard

/-- THE SECOND FORM's CARD OF 'cubbyholelaw41.StaleNone'. -/
def staleNoneUptoCard : Claim7 := { stood := { row := staleNoneUptoRow, standIns := [], harness := (true, "d1e5df547e805be8ebf230c6f4f3ecf9dce23f60a27f14d25ff0af6e247c9484"), looks := true }, kinds := [], alts := [], laidByText := true, laidKinds := [.data], laidTests := true, laidLooks := .later }
def StaleNoneUptoCardSaid : Prop := Claim7.holds Tryz.pinned (.plain (OpenSpec.upto staleNoneSpec)) staleNoneUptoCard

/-- THE SECOND FORM's CARD OF 'cubbyholelaw43.ShardOwners'. -/
def shardOwnersUptoCard : Claim7 := { stood := { row := shardOwnersUptoRow, standIns := [], harness := (true, "d1e5df547e805be8ebf230c6f4f3ecf9dce23f60a27f14d25ff0af6e247c9484"), looks := true }, kinds := [], alts := [], laidByText := true, laidKinds := [.data, .data, .data], laidTests := true, laidLooks := .later }
def ShardOwnersUptoCardSaid : Prop := Claim7.holds Tryz.pinned (.plain (OpenSpec.upto shardOwnersSpec)) shardOwnersUptoCard

/-- THE SECOND FORM's CARD OF 'cubbyholelaw43.ShardNone'. -/
def shardNoneUptoCard : Claim7 := { stood := { row := shardNoneUptoRow, standIns := [], harness := (true, "d1e5df547e805be8ebf230c6f4f3ecf9dce23f60a27f14d25ff0af6e247c9484"), looks := true }, kinds := [], alts := [], laidByText := true, laidKinds := [.data, .data, .data], laidTests := true, laidLooks := .later }
def ShardNoneUptoCardSaid : Prop := Claim7.holds Tryz.pinned (.plain (OpenSpec.upto shardNoneSpec)) shardNoneUptoCard
end Rows
end Go.Proofs.YtloecagaldepfaaGreatDoor
