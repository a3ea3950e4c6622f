/-
  DERIVED. GIVEN WITH THE SEED: THE CARDS: each row of YtjnhoooeaoebnaaGreatDoorRows.lean that lists a variable, with what it lists TIED to the program's text (the seventh form; the later family's looks); each row that meets fmt, with fmt's text TOLD by the authors' own Lean function (tested against real Go, not proved from fmt's source: count such statements apart). THE CARD IS WHAT COUNTS. Prove the row's statement (the work); the ties are given (YtjnhoooeaoebnaaGreatDoorTie.lean); close each card by the builder's one call (the guide's Derived/Test/ToyasCard.lean, 'card_holds'). Laid BY PROGRAM, IN A SANDBOX (cutbox-door.mjs). By AI agents, Wed Nov 11 2026. No macro, syntax, notation, axiom, sorry.
-/
import Derived.Test.YtjnhoooeaoebnaaGreatDoorRows
import GoSem.ClaimSeven
namespace Go.Proofs.YtjnhoooeaoebnaaGreatDoor
namespace Rows

/-- THE TIED CARD OF 'dovetaillaw14.TablesKnown'. -/
def tablesKnownCard : Claim7 := { stood := { row := tablesKnownRow, standIns := [], harness := (true, "11a7478ff20aef90d68816677ff619ae623ba2672166959f68224ca9b8b2df33"), looks := true }, kinds := [], alts := [], laidByText := true, laidKinds := [.data, .handle, .sentinel, .sentinel, .sentinel, .sentinel, .sentinel, .sentinel, .sentinel, .sentinel, .sentinel, .sentinel, .sentinel, .sentinel, .sentinel, .sentinel, .sentinel], laidTests := true, laidLooks := .later }
def TablesKnownCardSaid : Prop := Claim7.holds Tryz.pinned (.plain (OpenSpec.ofChange tablesKnownSpec)) tablesKnownCard

/-- THE SECOND FORM's CARD OF 'dovetaillaw14.TablesKnown'. -/
def tablesKnownUptoCard : Claim7 := { stood := { row := tablesKnownUptoRow, standIns := [], harness := (true, "11a7478ff20aef90d68816677ff619ae623ba2672166959f68224ca9b8b2df33"), looks := true }, kinds := [], alts := [], laidByText := true, laidKinds := [.data, .handle, .sentinel, .sentinel, .sentinel, .sentinel, .sentinel, .sentinel, .sentinel, .sentinel, .sentinel, .sentinel, .sentinel, .sentinel, .sentinel, .sentinel, .sentinel], laidTests := true, laidLooks := .later }
def TablesKnownUptoCardSaid : Prop := Claim7.holds Tryz.pinned (.plain (OpenSpec.upto tablesKnownSpec)) tablesKnownUptoCard
end Rows
end Go.Proofs.YtjnhoooeaoebnaaGreatDoor
