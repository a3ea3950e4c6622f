/-
  DERIVED. GIVEN WITH THE SEED: THE CARDS: each row of YtodpkcebihbghaaGreatDoorRows.lean that lists a variable, with what it lists TIED to the program's text (the seventh form; the later family's looks); each row that meets fmt, with fmt's text TOLD by the authors' own Lean function (tested against real Go, not proved from fmt's source: count such statements apart). THE CARD IS WHAT COUNTS. Prove the row's statement (the work); the ties are given (YtodpkcebihbghaaGreatDoorTie.lean); close each card by the builder's one call (the guide's Derived/Test/ToyasCard.lean, 'card_holds'). Laid BY PROGRAM, IN A SANDBOX (cutbox-door.mjs). By AI agents, Wed Nov 11 2026. No macro, syntax, notation, axiom, sorry.
-/
import Derived.Test.YtodpkcebihbghaaGreatDoorRows
import GoSem.ClaimSeven
namespace Go.Proofs.YtodpkcebihbghaaGreatDoor
namespace Rows

/-- THE TIED CARD OF 'dovetaillaw26.DocKnown'. -/
def docKnownCard : Claim7 := { stood := { row := docKnownRow, standIns := [], harness := (true, "87f194e08ede4a0efa91543834df2b8c20a8f76316a6480b81cfced0ed1943e6"), looks := true }, kinds := [], alts := [], laidByText := true, laidKinds := [.data, .handle, .sentinel, .sentinel, .sentinel, .sentinel, .sentinel, .sentinel, .sentinel, .sentinel, .sentinel, .sentinel, .sentinel, .sentinel, .sentinel, .sentinel, .sentinel, .sentinel], laidTests := true, laidLooks := .later }
def DocKnownCardSaid : Prop := Claim7.holds Tryz.pinned (.plain (OpenSpec.ofChange docKnownSpec)) docKnownCard

/-- THE SECOND FORM's CARD OF 'dovetaillaw26.DocKnown'. -/
def docKnownUptoCard : Claim7 := { stood := { row := docKnownUptoRow, standIns := [], harness := (true, "87f194e08ede4a0efa91543834df2b8c20a8f76316a6480b81cfced0ed1943e6"), looks := true }, kinds := [], alts := [], laidByText := true, laidKinds := [.data, .handle, .sentinel, .sentinel, .sentinel, .sentinel, .sentinel, .sentinel, .sentinel, .sentinel, .sentinel, .sentinel, .sentinel, .sentinel, .sentinel, .sentinel, .sentinel, .sentinel], laidTests := true, laidLooks := .later }
def DocKnownUptoCardSaid : Prop := Claim7.holds Tryz.pinned (.plain (OpenSpec.upto docKnownSpec)) docKnownUptoCard
end Rows
end Go.Proofs.YtodpkcebihbghaaGreatDoor
