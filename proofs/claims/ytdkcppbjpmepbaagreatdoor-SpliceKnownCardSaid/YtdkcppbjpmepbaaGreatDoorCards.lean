/-
  DERIVED. GIVEN WITH THE SEED: THE CARDS: each row of YtdkcppbjpmepbaaGreatDoorRows.lean that lists a variable, with what it lists TIED to the program's text (the seventh form; the later family's looks); each row that meets fmt, with fmt's text TOLD by the authors' own Lean function (tested against real Go, not proved from fmt's source: count such statements apart). THE CARD IS WHAT COUNTS. Prove the row's statement (the work); the ties are given (YtdkcppbjpmepbaaGreatDoorTie.lean); close each card by the builder's one call (the guide's Derived/Test/ToyasCard.lean, 'card_holds'). Laid BY PROGRAM, IN A SANDBOX (cutbox-door.mjs). By AI agents, Wed Nov 11 2026. No macro, syntax, notation, axiom, sorry.
-/
import Derived.Test.YtdkcppbjpmepbaaGreatDoorRows
import GoSem.ClaimSeven
namespace Go.Proofs.YtdkcppbjpmepbaaGreatDoor
namespace Rows

/-- THE TIED CARD OF 'dovetaillaw21.SpliceKnown'. -/
def spliceKnownCard : Claim7 := { stood := { row := spliceKnownRow, standIns := [], harness := (true, "2abe9140a0b7270b70677e7d069a572c0c159f9113a6d0e5ff6db7a266db8743"), looks := true }, kinds := [], alts := [], laidByText := true, laidKinds := [.data, .handle, .sentinel, .sentinel, .sentinel, .sentinel, .sentinel, .sentinel, .sentinel, .sentinel, .sentinel, .sentinel, .sentinel, .sentinel, .sentinel, .sentinel, .sentinel, .sentinel], laidTests := true, laidLooks := .later }
def SpliceKnownCardSaid : Prop := Claim7.holds Tryz.pinned (.plain (OpenSpec.ofChange spliceKnownSpec)) spliceKnownCard

/-- THE SECOND FORM's CARD OF 'dovetaillaw21.SpliceKnown'. -/
def spliceKnownUptoCard : Claim7 := { stood := { row := spliceKnownUptoRow, standIns := [], harness := (true, "2abe9140a0b7270b70677e7d069a572c0c159f9113a6d0e5ff6db7a266db8743"), looks := true }, kinds := [], alts := [], laidByText := true, laidKinds := [.data, .handle, .sentinel, .sentinel, .sentinel, .sentinel, .sentinel, .sentinel, .sentinel, .sentinel, .sentinel, .sentinel, .sentinel, .sentinel, .sentinel, .sentinel, .sentinel, .sentinel], laidTests := true, laidLooks := .later }
def SpliceKnownUptoCardSaid : Prop := Claim7.holds Tryz.pinned (.plain (OpenSpec.upto spliceKnownSpec)) spliceKnownUptoCard
end Rows
end Go.Proofs.YtdkcppbjpmepbaaGreatDoor
