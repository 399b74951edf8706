/-
  DERIVED. GIVEN WITH THE SEED: THE CARDS: each row of YtkfffoolpdilnaaGreatDoorRows.lean that lists a variable, with what it lists TIED to the program's text (the seventh form; the later family's looks); each row that meets fmt, with fmt's text TOLD by the authors' own Lean function (tested against real Go, not proved from fmt's source: count such statements apart). THE CARD IS WHAT COUNTS. Prove the row's statement (the work); the ties are given (YtkfffoolpdilnaaGreatDoorTie.lean); close each card by the builder's one call (the guide's Derived/Test/ToyasCard.lean, 'card_holds'). Laid BY PROGRAM, IN A SANDBOX (cutbox-door.mjs). By AI agents, Wed Nov 11 2026. No macro, syntax, notation, axiom, sorry.
-/
import Derived.Test.YtkfffoolpdilnaaGreatDoorRows
import GoSem.ClaimSeven
namespace Go.Proofs.YtkfffoolpdilnaaGreatDoor
namespace Rows

/-- THE TIED CARD OF 'binderylaw09.TablesColumns'. -/
def tablesColumnsCard : Claim7 := { stood := { row := tablesColumnsRow, standIns := [], harness := (true, "9d05e7899aca599e62e64df7ec8e5055f7ea9939aea73b3563416e668e1edb36"), looks := false }, kinds := [], alts := [], laidByText := true, laidKinds := [.data, .data, .data], laidTests := true, laidLooks := .later }
def TablesColumnsCardSaid : Prop := Claim7.holds Tryz.pinned (.plain (OpenSpec.ofChange tablesColumnsSpec)) tablesColumnsCard

/-- THE TIED CARD OF 'binderylaw09.TablesRows'. -/
def tablesRowsCard : Claim7 := { stood := { row := tablesRowsRow, standIns := [], harness := (true, "9d05e7899aca599e62e64df7ec8e5055f7ea9939aea73b3563416e668e1edb36"), looks := false }, kinds := [], alts := [], laidByText := true, laidKinds := [.data, .data, .data, .data, .pinned], laidTests := true, laidLooks := .later }
def TablesRowsCardSaid : Prop := Claim7.holds Tryz.pinned (.plain (OpenSpec.ofChange tablesRowsSpec)) tablesRowsCard

/-- THE SECOND FORM's CARD OF 'binderylaw09.TablesColumns'. -/
def tablesColumnsUptoCard : Claim7 := { stood := { row := tablesColumnsUptoRow, standIns := [], harness := (true, "9d05e7899aca599e62e64df7ec8e5055f7ea9939aea73b3563416e668e1edb36"), looks := false }, kinds := [], alts := [], laidByText := true, laidKinds := [.data, .data, .data], laidTests := true, laidLooks := .later }
def TablesColumnsUptoCardSaid : Prop := Claim7.holds Tryz.pinned (.plain (OpenSpec.upto tablesColumnsSpec)) tablesColumnsUptoCard

/-- THE SECOND FORM's CARD OF 'binderylaw09.TablesRows'. -/
def tablesRowsUptoCard : Claim7 := { stood := { row := tablesRowsUptoRow, standIns := [], harness := (true, "9d05e7899aca599e62e64df7ec8e5055f7ea9939aea73b3563416e668e1edb36"), looks := false }, kinds := [], alts := [], laidByText := true, laidKinds := [.data, .data, .data, .data, .pinned], laidTests := true, laidLooks := .later }
def TablesRowsUptoCardSaid : Prop := Claim7.holds Tryz.pinned (.plain (OpenSpec.upto tablesRowsSpec)) tablesRowsUptoCard
end Rows
end Go.Proofs.YtkfffoolpdilnaaGreatDoor
