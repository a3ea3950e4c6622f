/-
  DERIVED. GIVEN WITH THE SEED: THE CARDS: each row of YtaccdnpmoghidaaGreatDoorRows.lean that lists a variable, with what it lists TIED to the program's text (the seventh form; the later family's looks); each row that meets fmt, with fmt's text TOLD by the authors' own Lean function (tested against real Go, not proved from fmt's source: count such statements apart). THE CARD IS WHAT COUNTS. Prove the row's statement (the work); the ties are given (YtaccdnpmoghidaaGreatDoorTie.lean); close each card by the builder's one call (the guide's Derived/Test/ToyasCard.lean, 'card_holds'). Laid BY PROGRAM, IN A SANDBOX (cutbox-door.mjs). By AI agents, Wed Nov 11 2026. No macro, syntax, notation, axiom, sorry.
-/
import Derived.Test.YtaccdnpmoghidaaGreatDoorRows
import GoSem.ClaimSeven
namespace Go.Proofs.YtaccdnpmoghidaaGreatDoor
namespace Rows

/-- THE TIED CARD OF 'dovetaillaw20.ChunkMoves'. -/
def chunkMovesCard : Claim7 := { stood := { row := chunkMovesRow, standIns := [], harness := (true, "7e691b434c299b5f1c5c6ef7f272dc3af7e2dd1d75cc685ecf048bf823e4615e"), looks := true }, kinds := [], alts := [], laidByText := true, laidKinds := [.data, .handle, .sentinel, .sentinel, .sentinel, .sentinel, .sentinel, .sentinel, .sentinel, .sentinel, .sentinel, .sentinel, .sentinel, .sentinel, .sentinel, .sentinel, .sentinel], laidTests := true, laidLooks := .later }
def ChunkMovesCardSaid : Prop := Claim7.holds Tryz.pinned (.plain (OpenSpec.ofChange chunkMovesSpec)) chunkMovesCard

/-- THE SECOND FORM's CARD OF 'dovetaillaw20.ChunkMoves'. -/
def chunkMovesUptoCard : Claim7 := { stood := { row := chunkMovesUptoRow, standIns := [], harness := (true, "7e691b434c299b5f1c5c6ef7f272dc3af7e2dd1d75cc685ecf048bf823e4615e"), looks := true }, kinds := [], alts := [], laidByText := true, laidKinds := [.data, .handle, .sentinel, .sentinel, .sentinel, .sentinel, .sentinel, .sentinel, .sentinel, .sentinel, .sentinel, .sentinel, .sentinel, .sentinel, .sentinel, .sentinel, .sentinel], laidTests := true, laidLooks := .later }
def ChunkMovesUptoCardSaid : Prop := Claim7.holds Tryz.pinned (.plain (OpenSpec.upto chunkMovesSpec)) chunkMovesUptoCard
end Rows
end Go.Proofs.YtaccdnpmoghidaaGreatDoor
