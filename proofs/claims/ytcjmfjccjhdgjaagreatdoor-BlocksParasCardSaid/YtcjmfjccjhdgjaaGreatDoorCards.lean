/-
  DERIVED. GIVEN WITH THE SEED: THE CARDS: each row of YtcjmfjccjhdgjaaGreatDoorRows.lean that lists a variable, with what it lists TIED to the program's text (the seventh form; the later family's looks); each row that meets fmt, with fmt's text TOLD by the authors' own Lean function (tested against real Go, not proved from fmt's source: count such statements apart). THE CARD IS WHAT COUNTS. Prove the row's statement (the work); the ties are given (YtcjmfjccjhdgjaaGreatDoorTie.lean); close each card by the builder's one call (the guide's Derived/Test/ToyasCard.lean, 'card_holds'). Laid BY PROGRAM, IN A SANDBOX (cutbox-door.mjs). By AI agents, Wed Nov 11 2026. No macro, syntax, notation, axiom, sorry.
-/
import Derived.Test.YtcjmfjccjhdgjaaGreatDoorRows
import GoSem.ClaimSeven
namespace Go.Proofs.YtcjmfjccjhdgjaaGreatDoor
namespace Rows

/-- THE TIED CARD OF 'binderylaw10.BlocksPlaces'. -/
def blocksPlacesCard : Claim7 := { stood := { row := blocksPlacesRow, standIns := [], harness := (true, "7d4f627665a0f58d38d037471b160a5dc8e54119d442c47eb39dc25bb930d8e3"), looks := false }, kinds := [], alts := [], laidByText := true, laidKinds := [.data, .pinned], laidTests := true, laidLooks := .later }
def BlocksPlacesCardSaid : Prop := Claim7.holds Tryz.pinned (.plain (OpenSpec.ofChange blocksPlacesSpec)) blocksPlacesCard

/-- THE TIED CARD OF 'binderylaw10.BlocksJoins'. -/
def blocksJoinsCard : Claim7 := { stood := { row := blocksJoinsRow, standIns := [], harness := (true, "7d4f627665a0f58d38d037471b160a5dc8e54119d442c47eb39dc25bb930d8e3"), looks := false }, kinds := [], alts := [], laidByText := true, laidKinds := [.data, .pinned], laidTests := true, laidLooks := .later }
def BlocksJoinsCardSaid : Prop := Claim7.holds Tryz.pinned (.plain (OpenSpec.ofChange blocksJoinsSpec)) blocksJoinsCard

/-- THE TIED CARD OF 'binderylaw10.BlocksCode'. -/
def blocksCodeCard : Claim7 := { stood := { row := blocksCodeRow, standIns := [], harness := (true, "7d4f627665a0f58d38d037471b160a5dc8e54119d442c47eb39dc25bb930d8e3"), looks := false }, kinds := [], alts := [], laidByText := true, laidKinds := [.data, .pinned], laidTests := true, laidLooks := .later }
def BlocksCodeCardSaid : Prop := Claim7.holds Tryz.pinned (.plain (OpenSpec.ofChange blocksCodeSpec)) blocksCodeCard

/-- THE TIED CARD OF 'binderylaw10.BlocksEmpty'. -/
def blocksEmptyCard : Claim7 := { stood := { row := blocksEmptyRow, standIns := [], harness := (true, "7d4f627665a0f58d38d037471b160a5dc8e54119d442c47eb39dc25bb930d8e3"), looks := false }, kinds := [], alts := [], laidByText := true, laidKinds := [.data, .pinned], laidTests := true, laidLooks := .later }
def BlocksEmptyCardSaid : Prop := Claim7.holds Tryz.pinned (.plain (OpenSpec.ofChange blocksEmptySpec)) blocksEmptyCard

/-- THE TIED CARD OF 'binderylaw10.BlocksParas'. -/
def blocksParasCard : Claim7 := { stood := { row := blocksParasRow, standIns := [], harness := (true, "7d4f627665a0f58d38d037471b160a5dc8e54119d442c47eb39dc25bb930d8e3"), looks := false }, kinds := [], alts := [], laidByText := true, laidKinds := [.data, .pinned], laidTests := true, laidLooks := .later }
def BlocksParasCardSaid : Prop := Claim7.holds Tryz.pinned (.plain (OpenSpec.ofChange blocksParasSpec)) blocksParasCard

/-- THE TIED CARD OF 'binderylaw10.BlocksTitles'. -/
def blocksTitlesCard : Claim7 := { stood := { row := blocksTitlesRow, standIns := [], harness := (true, "7d4f627665a0f58d38d037471b160a5dc8e54119d442c47eb39dc25bb930d8e3"), looks := false }, kinds := [], alts := [], laidByText := true, laidKinds := [.data, .pinned], laidTests := true, laidLooks := .later }
def BlocksTitlesCardSaid : Prop := Claim7.holds Tryz.pinned (.plain (OpenSpec.ofChange blocksTitlesSpec)) blocksTitlesCard

/-- THE SECOND FORM's CARD OF 'binderylaw10.BlocksPlaces'. -/
def blocksPlacesUptoCard : Claim7 := { stood := { row := blocksPlacesUptoRow, standIns := [], harness := (true, "7d4f627665a0f58d38d037471b160a5dc8e54119d442c47eb39dc25bb930d8e3"), looks := false }, kinds := [], alts := [], laidByText := true, laidKinds := [.data, .pinned], laidTests := true, laidLooks := .later }
def BlocksPlacesUptoCardSaid : Prop := Claim7.holds Tryz.pinned (.plain (OpenSpec.upto blocksPlacesSpec)) blocksPlacesUptoCard

/-- THE SECOND FORM's CARD OF 'binderylaw10.BlocksJoins'. -/
def blocksJoinsUptoCard : Claim7 := { stood := { row := blocksJoinsUptoRow, standIns := [], harness := (true, "7d4f627665a0f58d38d037471b160a5dc8e54119d442c47eb39dc25bb930d8e3"), looks := false }, kinds := [], alts := [], laidByText := true, laidKinds := [.data, .pinned], laidTests := true, laidLooks := .later }
def BlocksJoinsUptoCardSaid : Prop := Claim7.holds Tryz.pinned (.plain (OpenSpec.upto blocksJoinsSpec)) blocksJoinsUptoCard

/-- THE SECOND FORM's CARD OF 'binderylaw10.BlocksCode'. -/
def blocksCodeUptoCard : Claim7 := { stood := { row := blocksCodeUptoRow, standIns := [], harness := (true, "7d4f627665a0f58d38d037471b160a5dc8e54119d442c47eb39dc25bb930d8e3"), looks := false }, kinds := [], alts := [], laidByText := true, laidKinds := [.data, .pinned], laidTests := true, laidLooks := .later }
def BlocksCodeUptoCardSaid : Prop := Claim7.holds Tryz.pinned (.plain (OpenSpec.upto blocksCodeSpec)) blocksCodeUptoCard

/-- THE SECOND FORM's CARD OF 'binderylaw10.BlocksEmpty'. -/
def blocksEmptyUptoCard : Claim7 := { stood := { row := blocksEmptyUptoRow, standIns := [], harness := (true, "7d4f627665a0f58d38d037471b160a5dc8e54119d442c47eb39dc25bb930d8e3"), looks := false }, kinds := [], alts := [], laidByText := true, laidKinds := [.data, .pinned], laidTests := true, laidLooks := .later }
def BlocksEmptyUptoCardSaid : Prop := Claim7.holds Tryz.pinned (.plain (OpenSpec.upto blocksEmptySpec)) blocksEmptyUptoCard

/-- THE SECOND FORM's CARD OF 'binderylaw10.BlocksParas'. -/
def blocksParasUptoCard : Claim7 := { stood := { row := blocksParasUptoRow, standIns := [], harness := (true, "7d4f627665a0f58d38d037471b160a5dc8e54119d442c47eb39dc25bb930d8e3"), looks := false }, kinds := [], alts := [], laidByText := true, laidKinds := [.data, .pinned], laidTests := true, laidLooks := .later }
def BlocksParasUptoCardSaid : Prop := Claim7.holds Tryz.pinned (.plain (OpenSpec.upto blocksParasSpec)) blocksParasUptoCard

/-- THE SECOND FORM's CARD OF 'binderylaw10.BlocksTitles'. -/
def blocksTitlesUptoCard : Claim7 := { stood := { row := blocksTitlesUptoRow, standIns := [], harness := (true, "7d4f627665a0f58d38d037471b160a5dc8e54119d442c47eb39dc25bb930d8e3"), looks := false }, kinds := [], alts := [], laidByText := true, laidKinds := [.data, .pinned], laidTests := true, laidLooks := .later }
def BlocksTitlesUptoCardSaid : Prop := Claim7.holds Tryz.pinned (.plain (OpenSpec.upto blocksTitlesSpec)) blocksTitlesUptoCard
end Rows
end Go.Proofs.YtcjmfjccjhdgjaaGreatDoor
