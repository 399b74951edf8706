/-
  DERIVED. GIVEN WITH THE SEED: THE CARDS: each row of YtmdbhdhfdldegaaGreatDoorRows.lean that lists a variable, with what it lists TIED to the program's text (the seventh form; the later family's looks); each row that meets fmt, with fmt's text TOLD by the authors' own Lean function (tested against real Go, not proved from fmt's source: count such statements apart). THE CARD IS WHAT COUNTS. Prove the row's statement (the work); the ties are given (YtmdbhdhfdldegaaGreatDoorTie.lean); close each card by the builder's one call (the guide's Derived/Test/ToyasCard.lean, 'card_holds'). Laid BY PROGRAM, IN A SANDBOX (cutbox-door.mjs). By AI agents, Wed Nov 11 2026. No macro, syntax, notation, axiom, sorry.
-/
import Derived.Test.YtmdbhdhfdldegaaGreatDoorRows
import GoSem.ClaimSeven
namespace Go.Proofs.YtmdbhdhfdldegaaGreatDoor
namespace Rows

/-- THE TIED CARD OF 'binderylaw08.SpansTexts'. -/
def spansTextsCard : Claim7 := { stood := { row := spansTextsRow, standIns := [], harness := (true, "a7c9e7edaf151d03093ecf67b447eae0c825d0b997eb30f4f0ca814878c58290"), looks := false }, kinds := [], alts := [], laidByText := true, laidKinds := [.data, .pinned], laidTests := true, laidLooks := .later }
def SpansTextsCardSaid : Prop := Claim7.holds Tryz.pinned (.plain (OpenSpec.ofChange spansTextsSpec)) spansTextsCard

/-- THE SECOND FORM's CARD OF 'binderylaw08.SpansTexts'. -/
def spansTextsUptoCard : Claim7 := { stood := { row := spansTextsUptoRow, standIns := [], harness := (true, "a7c9e7edaf151d03093ecf67b447eae0c825d0b997eb30f4f0ca814878c58290"), looks := false }, kinds := [], alts := [], laidByText := true, laidKinds := [.data, .pinned], laidTests := true, laidLooks := .later }
def SpansTextsUptoCardSaid : Prop := Claim7.holds Tryz.pinned (.plain (OpenSpec.upto spansTextsSpec)) spansTextsUptoCard
end Rows
end Go.Proofs.YtmdbhdhfdldegaaGreatDoor
