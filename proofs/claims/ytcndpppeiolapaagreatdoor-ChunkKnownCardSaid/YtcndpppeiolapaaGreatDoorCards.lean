/-
  DERIVED. GIVEN WITH THE SEED: THE CARDS: each row of YtcndpppeiolapaaGreatDoorRows.lean that lists a variable, with what it lists TIED to the program's text (the seventh form; the later family's looks); each row that meets fmt, with fmt's text TOLD by the authors' own Lean function (tested against real Go, not proved from fmt's source: count such statements apart). THE CARD IS WHAT COUNTS. Prove the row's statement (the work); the ties are given (YtcndpppeiolapaaGreatDoorTie.lean); close each card by the builder's one call (the guide's Derived/Test/ToyasCard.lean, 'card_holds'). Laid BY PROGRAM, IN A SANDBOX (cutbox-door.mjs). By AI agents, Wed Nov 11 2026. No macro, syntax, notation, axiom, sorry.
-/
import Derived.Test.YtcndpppeiolapaaGreatDoorRows
import GoSem.ClaimSeven
namespace Go.Proofs.YtcndpppeiolapaaGreatDoor
namespace Rows

/-- THE TIED CARD OF 'dovetaillaw20.ChunkKnown'. -/
def chunkKnownCard : Claim7 := { stood := { row := chunkKnownRow, standIns := [], harness := (true, "5ad782a5af03f0a2daad5dca5981748d2093ab375bc41c1b9a632c549216ff33"), looks := true }, kinds := [], alts := [], laidByText := true, laidKinds := [.data, .handle, .sentinel, .sentinel, .sentinel, .sentinel, .sentinel, .sentinel, .sentinel, .sentinel, .sentinel, .sentinel, .sentinel, .sentinel, .sentinel, .sentinel, .sentinel], laidTests := true, laidLooks := .later }
def ChunkKnownCardSaid : Prop := Claim7.holds Tryz.pinned (.plain (OpenSpec.ofChange chunkKnownSpec)) chunkKnownCard

/-- THE SECOND FORM's CARD OF 'dovetaillaw20.ChunkKnown'. -/
def chunkKnownUptoCard : Claim7 := { stood := { row := chunkKnownUptoRow, standIns := [], harness := (true, "5ad782a5af03f0a2daad5dca5981748d2093ab375bc41c1b9a632c549216ff33"), looks := true }, kinds := [], alts := [], laidByText := true, laidKinds := [.data, .handle, .sentinel, .sentinel, .sentinel, .sentinel, .sentinel, .sentinel, .sentinel, .sentinel, .sentinel, .sentinel, .sentinel, .sentinel, .sentinel, .sentinel, .sentinel], laidTests := true, laidLooks := .later }
def ChunkKnownUptoCardSaid : Prop := Claim7.holds Tryz.pinned (.plain (OpenSpec.upto chunkKnownSpec)) chunkKnownUptoCard
end Rows
end Go.Proofs.YtcndpppeiolapaaGreatDoor
