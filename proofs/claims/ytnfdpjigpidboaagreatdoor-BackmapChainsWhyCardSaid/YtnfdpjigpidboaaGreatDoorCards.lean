/-
  DERIVED. GIVEN WITH THE SEED: THE CARDS: each row of YtnfdpjigpidboaaGreatDoorRows.lean that lists a variable, with what it lists TIED to the program's text (the seventh form; the later family's looks); each row that meets fmt, with fmt's text TOLD by the authors' own Lean function (tested against real Go, not proved from fmt's source: count such statements apart). THE CARD IS WHAT COUNTS. Prove the row's statement (the work); the ties are given (YtnfdpjigpidboaaGreatDoorTie.lean); close each card by the builder's one call (the guide's Derived/Test/ToyasCard.lean, 'card_holds'). Laid BY PROGRAM, IN A SANDBOX (cutbox-door.mjs). By AI agents, Wed Nov 11 2026. No macro, syntax, notation, axiom, sorry.
-/
import Derived.Test.YtnfdpjigpidboaaGreatDoorRows
import GoSem.ClaimSeven
namespace Go.Proofs.YtnfdpjigpidboaaGreatDoor
namespace Rows

/-- THE TIED CARD OF 'dovetaillaw19.BackmapChainsWhy'. -/
def backmapChainsWhyCard : Claim7 := { stood := { row := backmapChainsWhyRow, standIns := [], harness := (true, "82065343c412f1e7f872ac40ee501bb8a9295e19db1bbe78957feb701c91819a"), looks := true }, kinds := [], alts := [], laidByText := true, laidKinds := [.data, .handle, .sentinel, .sentinel, .sentinel, .sentinel, .sentinel, .sentinel, .sentinel, .sentinel, .sentinel, .sentinel, .sentinel, .sentinel, .sentinel, .sentinel, .sentinel], laidTests := true, laidLooks := .later }
def BackmapChainsWhyCardSaid : Prop := Claim7.holds Tryz.pinned (.plain (OpenSpec.ofChange backmapChainsWhySpec)) backmapChainsWhyCard

/-- THE SECOND FORM's CARD OF 'dovetaillaw19.BackmapChainsWhy'. -/
def backmapChainsWhyUptoCard : Claim7 := { stood := { row := backmapChainsWhyUptoRow, standIns := [], harness := (true, "82065343c412f1e7f872ac40ee501bb8a9295e19db1bbe78957feb701c91819a"), looks := true }, kinds := [], alts := [], laidByText := true, laidKinds := [.data, .handle, .sentinel, .sentinel, .sentinel, .sentinel, .sentinel, .sentinel, .sentinel, .sentinel, .sentinel, .sentinel, .sentinel, .sentinel, .sentinel, .sentinel, .sentinel], laidTests := true, laidLooks := .later }
def BackmapChainsWhyUptoCardSaid : Prop := Claim7.holds Tryz.pinned (.plain (OpenSpec.upto backmapChainsWhySpec)) backmapChainsWhyUptoCard
end Rows
end Go.Proofs.YtnfdpjigpidboaaGreatDoor
