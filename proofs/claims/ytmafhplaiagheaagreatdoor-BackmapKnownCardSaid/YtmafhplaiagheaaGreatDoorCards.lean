/-
  DERIVED. GIVEN WITH THE SEED: THE CARDS: each row of YtmafhplaiagheaaGreatDoorRows.lean that lists a variable, with what it lists TIED to the program's text (the seventh form; the later family's looks); each row that meets fmt, with fmt's text TOLD by the authors' own Lean function (tested against real Go, not proved from fmt's source: count such statements apart). THE CARD IS WHAT COUNTS. Prove the row's statement (the work); the ties are given (YtmafhplaiagheaaGreatDoorTie.lean); close each card by the builder's one call (the guide's Derived/Test/ToyasCard.lean, 'card_holds'). Laid BY PROGRAM, IN A SANDBOX (cutbox-door.mjs). By AI agents, Wed Nov 11 2026. No macro, syntax, notation, axiom, sorry.
-/
import Derived.Test.YtmafhplaiagheaaGreatDoorRows
import GoSem.ClaimSeven
namespace Go.Proofs.YtmafhplaiagheaaGreatDoor
namespace Rows

/-- THE TIED CARD OF 'dovetaillaw19.BackmapKnown'. -/
def backmapKnownCard : Claim7 := { stood := { row := backmapKnownRow, standIns := [], harness := (true, "d1335964be274ee75bddaafe963b1cadfb85d6345d6ad4f6321c1668748f234b"), looks := true }, kinds := [], alts := [], laidByText := true, laidKinds := [.data, .handle, .sentinel, .sentinel, .sentinel, .sentinel, .sentinel, .sentinel, .sentinel, .sentinel, .sentinel, .sentinel, .sentinel, .sentinel, .sentinel, .sentinel, .sentinel], laidTests := true, laidLooks := .later }
def BackmapKnownCardSaid : Prop := Claim7.holds Tryz.pinned (.plain (OpenSpec.ofChange backmapKnownSpec)) backmapKnownCard

/-- THE SECOND FORM's CARD OF 'dovetaillaw19.BackmapKnown'. -/
def backmapKnownUptoCard : Claim7 := { stood := { row := backmapKnownUptoRow, standIns := [], harness := (true, "d1335964be274ee75bddaafe963b1cadfb85d6345d6ad4f6321c1668748f234b"), looks := true }, kinds := [], alts := [], laidByText := true, laidKinds := [.data, .handle, .sentinel, .sentinel, .sentinel, .sentinel, .sentinel, .sentinel, .sentinel, .sentinel, .sentinel, .sentinel, .sentinel, .sentinel, .sentinel, .sentinel, .sentinel], laidTests := true, laidLooks := .later }
def BackmapKnownUptoCardSaid : Prop := Claim7.holds Tryz.pinned (.plain (OpenSpec.upto backmapKnownSpec)) backmapKnownUptoCard
end Rows
end Go.Proofs.YtmafhplaiagheaaGreatDoor
