/-
  DERIVED. GIVEN WITH THE SEED: THE CARDS: each row of YtbckpoddpghdcaaGreatDoorRows.lean that lists a variable, with what it lists TIED to the program's text (the seventh form; the later family's looks); each row that meets fmt, with fmt's text TOLD by the authors' own Lean function (tested against real Go, not proved from fmt's source: count such statements apart). THE CARD IS WHAT COUNTS. Prove the row's statement (the work); the ties are given (YtbckpoddpghdcaaGreatDoorTie.lean); close each card by the builder's one call (the guide's Derived/Test/ToyasCard.lean, 'card_holds'). Laid BY PROGRAM, IN A SANDBOX (cutbox-door.mjs). By AI agents, Wed Nov 11 2026. No macro, syntax, notation, axiom, sorry.
-/
import Derived.Test.YtbckpoddpghdcaaGreatDoorRows
import GoSem.ClaimSeven
namespace Go.Proofs.YtbckpoddpghdcaaGreatDoor
namespace Rows

/-- THE TIED CARD OF 'dovetaillaw16.StackKnown'. -/
def stackKnownCard : Claim7 := { stood := { row := stackKnownRow, standIns := [], harness := (true, "08b18594271b387ed7e3bd0a3f810db2f99bc65959552366fb2aec835ed9679a"), looks := true }, kinds := [], alts := [], laidByText := true, laidKinds := [.data, .handle, .sentinel, .sentinel, .sentinel, .sentinel, .sentinel, .sentinel, .sentinel, .sentinel, .sentinel, .sentinel, .sentinel, .sentinel, .sentinel, .sentinel, .sentinel, .sentinel], laidTests := true, laidLooks := .later }
def StackKnownCardSaid : Prop := Claim7.holds Tryz.pinned (.plain (OpenSpec.ofChange stackKnownSpec)) stackKnownCard

/-- THE SECOND FORM's CARD OF 'dovetaillaw16.StackKnown'. -/
def stackKnownUptoCard : Claim7 := { stood := { row := stackKnownUptoRow, standIns := [], harness := (true, "08b18594271b387ed7e3bd0a3f810db2f99bc65959552366fb2aec835ed9679a"), looks := true }, kinds := [], alts := [], laidByText := true, laidKinds := [.data, .handle, .sentinel, .sentinel, .sentinel, .sentinel, .sentinel, .sentinel, .sentinel, .sentinel, .sentinel, .sentinel, .sentinel, .sentinel, .sentinel, .sentinel, .sentinel, .sentinel], laidTests := true, laidLooks := .later }
def StackKnownUptoCardSaid : Prop := Claim7.holds Tryz.pinned (.plain (OpenSpec.upto stackKnownSpec)) stackKnownUptoCard
end Rows
end Go.Proofs.YtbckpoddpghdcaaGreatDoor
