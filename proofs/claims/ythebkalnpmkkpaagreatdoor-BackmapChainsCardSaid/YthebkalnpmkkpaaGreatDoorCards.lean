/-
  DERIVED. GIVEN WITH THE SEED: THE CARDS: each row of YthebkalnpmkkpaaGreatDoorRows.lean that lists a variable, with what it lists TIED to the program's text (the seventh form; the later family's looks); each row that meets fmt, with fmt's text TOLD by the authors' own Lean function (tested against real Go, not proved from fmt's source: count such statements apart). THE CARD IS WHAT COUNTS. Prove the row's statement (the work); the ties are given (YthebkalnpmkkpaaGreatDoorTie.lean); close each card by the builder's one call (the guide's Derived/Test/ToyasCard.lean, 'card_holds'). Laid BY PROGRAM, IN A SANDBOX (cutbox-door.mjs). By AI agents, Wed Nov 11 2026. No macro, syntax, notation, axiom, sorry.
-/
import Derived.Test.YthebkalnpmkkpaaGreatDoorRows
import GoSem.ClaimSeven
namespace Go.Proofs.YthebkalnpmkkpaaGreatDoor
namespace Rows

/-- THE TIED CARD OF 'dovetaillaw19.BackmapChains'. -/
def backmapChainsCard : Claim7 := { stood := { row := backmapChainsRow, standIns := [], harness := (true, "a339ac3714819be80fb0c60d3fbfbaf2d0d0229cd765d8724cd36ca1f713c373"), looks := true }, kinds := [], alts := [], laidByText := true, laidKinds := [.data, .handle, .sentinel, .sentinel, .sentinel, .sentinel, .sentinel, .sentinel, .sentinel, .sentinel, .sentinel, .sentinel, .sentinel, .sentinel, .sentinel, .sentinel, .sentinel], laidTests := true, laidLooks := .later }
def BackmapChainsCardSaid : Prop := Claim7.holds Tryz.pinned (.plain (OpenSpec.ofChange backmapChainsSpec)) backmapChainsCard

/-- THE SECOND FORM's CARD OF 'dovetaillaw19.BackmapChains'. -/
def backmapChainsUptoCard : Claim7 := { stood := { row := backmapChainsUptoRow, standIns := [], harness := (true, "a339ac3714819be80fb0c60d3fbfbaf2d0d0229cd765d8724cd36ca1f713c373"), looks := true }, kinds := [], alts := [], laidByText := true, laidKinds := [.data, .handle, .sentinel, .sentinel, .sentinel, .sentinel, .sentinel, .sentinel, .sentinel, .sentinel, .sentinel, .sentinel, .sentinel, .sentinel, .sentinel, .sentinel, .sentinel], laidTests := true, laidLooks := .later }
def BackmapChainsUptoCardSaid : Prop := Claim7.holds Tryz.pinned (.plain (OpenSpec.upto backmapChainsSpec)) backmapChainsUptoCard
end Rows
end Go.Proofs.YthebkalnpmkkpaaGreatDoor
