/-
  DERIVED. GIVEN WITH THE SEED: THE CARDS: each row of YtkkebmciiiajeaaGreatDoorRows.lean that lists a variable, with what it lists TIED to the program's text (the seventh form; the later family's looks); each row that meets fmt, with fmt's text TOLD by the authors' own Lean function (tested against real Go, not proved from fmt's source: count such statements apart). THE CARD IS WHAT COUNTS. Prove the row's statement (the work); the ties are given (YtkkebmciiiajeaaGreatDoorTie.lean); close each card by the builder's one call (the guide's Derived/Test/ToyasCard.lean, 'card_holds'). Laid BY PROGRAM, IN A SANDBOX (cutbox-door.mjs). By AI agents, Wed Nov 11 2026. No macro, syntax, notation, axiom, sorry.
-/
import Derived.Test.YtkkebmciiiajeaaGreatDoorRows
import GoSem.ClaimSeven
namespace Go.Proofs.YtkkebmciiiajeaaGreatDoor
namespace Rows

/-- THE TIED CARD OF 'binderylaw14.ParseAlike'. -/
def parseAlikeCard : Claim7 := { stood := { row := parseAlikeRow, standIns := [], harness := (true, "3a94fe3a6ca363c7d433e0b4459261a789eb9c5974a6884a7827b7057b5e2399"), looks := true }, kinds := [], alts := [], laidByText := true, laidKinds := [.data, .pinned], laidTests := true, laidLooks := .later }
def ParseAlikeCardSaid : Prop := Claim7.holds Tryz.pinned (.plain (OpenSpec.ofChange parseAlikeSpec)) parseAlikeCard

/-- THE TIED CARD OF 'binderylaw15.BookNames'. -/
def bookNamesCard : Claim7 := { stood := { row := bookNamesRow, standIns := [], harness := (true, "3a94fe3a6ca363c7d433e0b4459261a789eb9c5974a6884a7827b7057b5e2399"), looks := true }, kinds := [], alts := [], laidByText := true, laidKinds := [.data, .pinned], laidTests := true, laidLooks := .later }
def BookNamesCardSaid : Prop := Claim7.holds Tryz.pinned (.plain (OpenSpec.ofChange bookNamesSpec)) bookNamesCard

/-- THE SECOND FORM's CARD OF 'binderylaw14.ParseAlike'. -/
def parseAlikeUptoCard : Claim7 := { stood := { row := parseAlikeUptoRow, standIns := [], harness := (true, "3a94fe3a6ca363c7d433e0b4459261a789eb9c5974a6884a7827b7057b5e2399"), looks := true }, kinds := [], alts := [], laidByText := true, laidKinds := [.data, .pinned], laidTests := true, laidLooks := .later }
def ParseAlikeUptoCardSaid : Prop := Claim7.holds Tryz.pinned (.plain (OpenSpec.upto parseAlikeSpec)) parseAlikeUptoCard

/-- THE SECOND FORM's CARD OF 'binderylaw15.BookNames'. -/
def bookNamesUptoCard : Claim7 := { stood := { row := bookNamesUptoRow, standIns := [], harness := (true, "3a94fe3a6ca363c7d433e0b4459261a789eb9c5974a6884a7827b7057b5e2399"), looks := true }, kinds := [], alts := [], laidByText := true, laidKinds := [.data, .pinned], laidTests := true, laidLooks := .later }
def BookNamesUptoCardSaid : Prop := Claim7.holds Tryz.pinned (.plain (OpenSpec.upto bookNamesSpec)) bookNamesUptoCard
end Rows
end Go.Proofs.YtkkebmciiiajeaaGreatDoor
