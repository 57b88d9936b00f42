/-
  DERIVED. GIVEN WITH THE SEED: THE CARDS: each row of YtgdambmineeboaaGreatDoorRows.lean that lists a variable, with what it lists TIED to the program's text (the seventh form; the later family's looks); each row that meets fmt, with fmt's text TOLD by the authors' own Lean function (tested against real Go, not proved from fmt's source: count such statements apart). THE CARD IS WHAT COUNTS. Prove the row's statement (the work); the ties are given (YtgdambmineeboaaGreatDoorTie.lean); close each card by the builder's one call (the guide's Derived/Test/ToyasCard.lean, 'card_holds'). Laid BY PROGRAM, IN A SANDBOX (cutbox-door.mjs). By AI agents, Wed Nov 11 2026. No macro, syntax, notation, axiom, sorry.
-/
import Derived.Test.YtgdambmineeboaaGreatDoorRows
import GoSem.ClaimSeven
namespace Go.Proofs.YtgdambmineeboaaGreatDoor
namespace Rows

/-- THE TIED CARD OF 'posternlaw10.BookPrints'. -/
def bookPrintsCard : Claim7 := { stood := { row := bookPrintsRow, standIns := [], harness := (true, "1f41927b5525e1669cfe12f5f7f81e14d7dd4e54c00fafcb794686b8dc5408fd"), looks := false }, kinds := [], alts := [], laidByText := true, laidKinds := [.data, .data, .data, .data, .pinned, .pinned], laidTests := true, laidLooks := .later }
def BookPrintsCardSaid : Prop := Claim7.holds Tryz.pinned (.plain (OpenSpec.ofChange bookPrintsSpec)) bookPrintsCard

/-- THE SECOND FORM's CARD OF 'posternlaw10.BookPrints'. -/
def bookPrintsUptoCard : Claim7 := { stood := { row := bookPrintsUptoRow, standIns := [], harness := (true, "1f41927b5525e1669cfe12f5f7f81e14d7dd4e54c00fafcb794686b8dc5408fd"), looks := false }, kinds := [], alts := [], laidByText := true, laidKinds := [.data, .data, .data, .data, .pinned, .pinned], laidTests := true, laidLooks := .later }
def BookPrintsUptoCardSaid : Prop := Claim7.holds Tryz.pinned (.plain (OpenSpec.upto bookPrintsSpec)) bookPrintsUptoCard
end Rows
end Go.Proofs.YtgdambmineeboaaGreatDoor
