/-
  DERIVED. GIVEN WITH THE SEED: THE CARDS: each row of YtffigmciclopdaaDoorRows.lean that lists a variable, with what it lists TIED to the program's text (the seventh form; the later family's looks); each row that meets fmt, with fmt's text TOLD by the authors' own Lean function (tested against real Go, not proved from fmt's source: count such statements apart). THE CARD IS WHAT COUNTS. Prove the row's statement (the work); the ties are given (YtffigmciclopdaaDoorTie.lean); close each card by the builder's one call (the guide's Derived/Test/ToyasCard.lean, 'card_holds'). Laid BY PROGRAM, IN A SANDBOX (cutbox-door.mjs). By AI agents, Wed Nov 11 2026. No macro, syntax, notation, axiom, sorry.
-/
import Derived.Test.YtffigmciclopdaaDoorRows
import GoSem.ClaimSeven
namespace Go.Proofs.YtffigmciclopdaaDoor
namespace Rows

/-- THE TIED CARD OF 'cubbyholelaw45.JournalReads'. -/
def journalReadsCard : Claim7 := { stood := { row := journalReadsRow, standIns := [], harness := (true, "e8c368617e65598e40579080fe192d4e29d6829f21f406353f7d97b0efbb4d46"), looks := false }, kinds := [], alts := [], laidByText := true, laidKinds := [.widerDeep], laidTests := true, laidLooks := .later }
def JournalReadsCardSaid : Prop := Claim7.holds Tryd.pinned (.plain (OpenSpec.ofChange journalReadsSpec)) journalReadsCard

/-- THE TIED CARD OF 'cubbyholelaw45.JournalSpoilt'. -/
def journalSpoiltCard : Claim7 := { stood := { row := journalSpoiltRow, standIns := [], harness := (true, "e8c368617e65598e40579080fe192d4e29d6829f21f406353f7d97b0efbb4d46"), looks := false }, kinds := [], alts := [], laidByText := true, laidKinds := [.widerDeep], laidTests := true, laidLooks := .later }
def JournalSpoiltCardSaid : Prop := Claim7.holds Tryd.pinned (.plain (OpenSpec.ofChange journalSpoiltSpec)) journalSpoiltCard

/-- THE TIED CARD OF 'cubbyholelaw45.JournalFulls'. -/
def journalFullsCard : Claim7 := { stood := { row := journalFullsRow, standIns := [], harness := (true, "e8c368617e65598e40579080fe192d4e29d6829f21f406353f7d97b0efbb4d46"), looks := false }, kinds := [], alts := [], laidByText := true, laidKinds := [.widerDeep], laidTests := true, laidLooks := .later }
def JournalFullsCardSaid : Prop := Claim7.holds Tryd.pinned (.plain (OpenSpec.ofChange journalFullsSpec)) journalFullsCard

/-- THE TIED CARD OF 'cubbyholelaw45.JournalAppends'. -/
def journalAppendsCard : Claim7 := { stood := { row := journalAppendsRow, standIns := [], harness := (true, "e8c368617e65598e40579080fe192d4e29d6829f21f406353f7d97b0efbb4d46"), looks := false }, kinds := [], alts := [], laidByText := true, laidKinds := [.widerDeep], laidTests := true, laidLooks := .later }
def JournalAppendsCardSaid : Prop := Claim7.holds Tryd.pinned (.plain (OpenSpec.ofChange journalAppendsSpec)) journalAppendsCard

/-- THE TIED CARD OF 'cubbyholelaw45.JournalNone'. -/
def journalNoneCard : Claim7 := { stood := { row := journalNoneRow, standIns := [], harness := (true, "e8c368617e65598e40579080fe192d4e29d6829f21f406353f7d97b0efbb4d46"), looks := false }, kinds := [], alts := [], laidByText := true, laidKinds := [.widerDeep], laidTests := true, laidLooks := .later }
def JournalNoneCardSaid : Prop := Claim7.holds Tryd.pinned (.plain (OpenSpec.ofChange journalNoneSpec)) journalNoneCard

/-- THE SECOND FORM's CARD OF 'cubbyholelaw45.JournalReads'. -/
def journalReadsUptoCard : Claim7 := { stood := { row := journalReadsUptoRow, standIns := [], harness := (true, "e8c368617e65598e40579080fe192d4e29d6829f21f406353f7d97b0efbb4d46"), looks := false }, kinds := [], alts := [], laidByText := true, laidKinds := [.widerDeep], laidTests := true, laidLooks := .later }
def JournalReadsUptoCardSaid : Prop := Claim7.holds Tryd.pinned (.plain (OpenSpec.upto journalReadsSpec)) journalReadsUptoCard

/-- THE SECOND FORM's CARD OF 'cubbyholelaw45.JournalSpoilt'. -/
def journalSpoiltUptoCard : Claim7 := { stood := { row := journalSpoiltUptoRow, standIns := [], harness := (true, "e8c368617e65598e40579080fe192d4e29d6829f21f406353f7d97b0efbb4d46"), looks := false }, kinds := [], alts := [], laidByText := true, laidKinds := [.widerDeep], laidTests := true, laidLooks := .later }
def JournalSpoiltUptoCardSaid : Prop := Claim7.holds Tryd.pinned (.plain (OpenSpec.upto journalSpoiltSpec)) journalSpoiltUptoCard

/-- THE SECOND FORM's CARD OF 'cubbyholelaw45.JournalFulls'. -/
def journalFullsUptoCard : Claim7 := { stood := { row := journalFullsUptoRow, standIns := [], harness := (true, "e8c368617e65598e40579080fe192d4e29d6829f21f406353f7d97b0efbb4d46"), looks := false }, kinds := [], alts := [], laidByText := true, laidKinds := [.widerDeep], laidTests := true, laidLooks := .later }
def JournalFullsUptoCardSaid : Prop := Claim7.holds Tryd.pinned (.plain (OpenSpec.upto journalFullsSpec)) journalFullsUptoCard

/-- THE SECOND FORM's CARD OF 'cubbyholelaw45.JournalAppends'. -/
def journalAppendsUptoCard : Claim7 := { stood := { row := journalAppendsUptoRow, standIns := [], harness := (true, "e8c368617e65598e40579080fe192d4e29d6829f21f406353f7d97b0efbb4d46"), looks := false }, kinds := [], alts := [], laidByText := true, laidKinds := [.widerDeep], laidTests := true, laidLooks := .later }
def JournalAppendsUptoCardSaid : Prop := Claim7.holds Tryd.pinned (.plain (OpenSpec.upto journalAppendsSpec)) journalAppendsUptoCard

/-- THE SECOND FORM's CARD OF 'cubbyholelaw45.JournalNone'. -/
def journalNoneUptoCard : Claim7 := { stood := { row := journalNoneUptoRow, standIns := [], harness := (true, "e8c368617e65598e40579080fe192d4e29d6829f21f406353f7d97b0efbb4d46"), looks := false }, kinds := [], alts := [], laidByText := true, laidKinds := [.widerDeep], laidTests := true, laidLooks := .later }
def JournalNoneUptoCardSaid : Prop := Claim7.holds Tryd.pinned (.plain (OpenSpec.upto journalNoneSpec)) journalNoneUptoCard
end Rows
end Go.Proofs.YtffigmciclopdaaDoor
