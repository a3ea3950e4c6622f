/-
  DERIVED. GIVEN WITH THE SEED: THE CARDS: each row of YtmafhplaiagheacGreatDoorRows.lean that lists a variable, with what it lists TIED to the program's text (the seventh form; the later family's looks); each row that meets fmt, with fmt's text TOLD by the authors' own Lean function (tested against real Go, not proved from fmt's source: count such statements apart). THE CARD IS WHAT COUNTS. Prove the row's statement (the work); the ties are given (YtmafhplaiagheacGreatDoorTie.lean); close each card by the builder's one call (the guide's Derived/Test/ToyasCard.lean, 'card_holds'). Laid BY PROGRAM, IN A SANDBOX (cutbox-door.mjs). By AI agents, Wed Nov 11 2026. No macro, syntax, notation, axiom, sorry.
-/
import Derived.Test.YtmafhplaiagheacGreatDoorRows
import GoSem.ClaimSeven
namespace Go.Proofs.YtmafhplaiagheacGreatDoor
namespace Rows

/-- THE TIED CARD OF 'dovetaillaw23.PiecesKnown'. -/
def piecesKnownCard : Claim7 := { stood := { row := piecesKnownRow, standIns := [], harness := (true, "d5f30f6464d17223868e7eb893cc820096ce8bb768d1b2fc7923fede90cc85c0"), looks := true }, kinds := [], alts := [], laidByText := true, laidKinds := [.data, .data, .data, .handle, .sentinel, .sentinel, .sentinel, .sentinel, .sentinel, .sentinel, .sentinel, .sentinel, .sentinel, .sentinel, .sentinel, .sentinel, .sentinel, .sentinel, .sentinel, .sentinel], laidTests := true, laidLooks := .later }
def PiecesKnownCardSaid : Prop := Claim7.holds Tryz.pinned (.plain (OpenSpec.ofChange piecesKnownSpec)) piecesKnownCard

/-- THE SECOND FORM's CARD OF 'dovetaillaw23.PiecesKnown'. -/
def piecesKnownUptoCard : Claim7 := { stood := { row := piecesKnownUptoRow, standIns := [], harness := (true, "d5f30f6464d17223868e7eb893cc820096ce8bb768d1b2fc7923fede90cc85c0"), looks := true }, kinds := [], alts := [], laidByText := true, laidKinds := [.data, .data, .data, .handle, .sentinel, .sentinel, .sentinel, .sentinel, .sentinel, .sentinel, .sentinel, .sentinel, .sentinel, .sentinel, .sentinel, .sentinel, .sentinel, .sentinel, .sentinel, .sentinel], laidTests := true, laidLooks := .later }
def PiecesKnownUptoCardSaid : Prop := Claim7.holds Tryz.pinned (.plain (OpenSpec.upto piecesKnownSpec)) piecesKnownUptoCard
end Rows
end Go.Proofs.YtmafhplaiagheacGreatDoor
