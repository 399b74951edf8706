/-
  DERIVED. GIVEN WITH THE SEED: THE CARDS: each row of YtkfffoolpdilnaaDoorRows.lean that lists a variable, with what it lists TIED to the program's text (the seventh form; the later family's looks); each row that meets fmt, with fmt's text TOLD by the authors' own Lean function (tested against real Go, not proved from fmt's source: count such statements apart). THE CARD IS WHAT COUNTS. Prove the row's statement (the work); the ties are given (YtkfffoolpdilnaaDoorTie.lean); close each card by the builder's one call (the guide's Derived/Test/ToyasCard.lean, 'card_holds'). Laid BY PROGRAM, IN A SANDBOX (cutbox-door.mjs). By AI agents, Wed Nov 11 2026. No macro, syntax, notation, axiom, sorry.
-/
import Derived.Test.YtkfffoolpdilnaaDoorRows
import GoSem.ClaimSeven
namespace Go.Proofs.YtkfffoolpdilnaaDoor
namespace Rows

/-- THE TIED CARD OF 'binderylaw09.TablesBack'. -/
def tablesBackCard : Claim7 := { stood := { row := tablesBackRow, standIns := [], harness := (true, "c6453f3e0ef38de479d8aedeab41086e86ab458d6f42a00adbd6df07bf7c7ec2"), looks := false }, kinds := [], alts := [], laidByText := true, laidKinds := [.data, .pinned], laidTests := true, laidLooks := .later }
def TablesBackCardSaid : Prop := Claim7.holds Tryd.pinned (.plain (OpenSpec.ofChange tablesBackSpec)) tablesBackCard

/-- THE TIED CARD OF 'binderylaw09.TablesCells'. -/
def tablesCellsCard : Claim7 := { stood := { row := tablesCellsRow, standIns := [], harness := (true, "c6453f3e0ef38de479d8aedeab41086e86ab458d6f42a00adbd6df07bf7c7ec2"), looks := false }, kinds := [], alts := [], laidByText := true, laidKinds := [.data, .pinned], laidTests := true, laidLooks := .later }
def TablesCellsCardSaid : Prop := Claim7.holds Tryd.pinned (.plain (OpenSpec.ofChange tablesCellsSpec)) tablesCellsCard

/-- THE TIED CARD OF 'binderylaw09.TablesAligned'. -/
def tablesAlignedCard : Claim7 := { stood := { row := tablesAlignedRow, standIns := [], harness := (true, "c6453f3e0ef38de479d8aedeab41086e86ab458d6f42a00adbd6df07bf7c7ec2"), looks := false }, kinds := [], alts := [], laidByText := true, laidKinds := [.data, .pinned], laidTests := true, laidLooks := .later }
def TablesAlignedCardSaid : Prop := Claim7.holds Tryd.pinned (.plain (OpenSpec.ofChange tablesAlignedSpec)) tablesAlignedCard

/-- THE TIED CARD OF 'binderylaw09.TablesWide'. -/
def tablesWideCard : Claim7 := { stood := { row := tablesWideRow, standIns := [], harness := (true, "c6453f3e0ef38de479d8aedeab41086e86ab458d6f42a00adbd6df07bf7c7ec2"), looks := false }, kinds := [], alts := [], laidByText := true, laidKinds := [.data, .pinned], laidTests := true, laidLooks := .later }
def TablesWideCardSaid : Prop := Claim7.holds Tryd.pinned (.plain (OpenSpec.ofChange tablesWideSpec)) tablesWideCard

/-- THE TIED CARD OF 'binderylaw09.TablesEven'. -/
def tablesEvenCard : Claim7 := { stood := { row := tablesEvenRow, standIns := [], harness := (true, "c6453f3e0ef38de479d8aedeab41086e86ab458d6f42a00adbd6df07bf7c7ec2"), looks := false }, kinds := [], alts := [], laidByText := true, laidKinds := [.data, .pinned], laidTests := true, laidLooks := .later }
def TablesEvenCardSaid : Prop := Claim7.holds Tryd.pinned (.plain (OpenSpec.ofChange tablesEvenSpec)) tablesEvenCard

/-- THE SECOND FORM's CARD OF 'binderylaw09.TablesBack'. -/
def tablesBackUptoCard : Claim7 := { stood := { row := tablesBackUptoRow, standIns := [], harness := (true, "c6453f3e0ef38de479d8aedeab41086e86ab458d6f42a00adbd6df07bf7c7ec2"), looks := false }, kinds := [], alts := [], laidByText := true, laidKinds := [.data, .pinned], laidTests := true, laidLooks := .later }
def TablesBackUptoCardSaid : Prop := Claim7.holds Tryd.pinned (.plain (OpenSpec.upto tablesBackSpec)) tablesBackUptoCard

/-- THE SECOND FORM's CARD OF 'binderylaw09.TablesCells'. -/
def tablesCellsUptoCard : Claim7 := { stood := { row := tablesCellsUptoRow, standIns := [], harness := (true, "c6453f3e0ef38de479d8aedeab41086e86ab458d6f42a00adbd6df07bf7c7ec2"), looks := false }, kinds := [], alts := [], laidByText := true, laidKinds := [.data, .pinned], laidTests := true, laidLooks := .later }
def TablesCellsUptoCardSaid : Prop := Claim7.holds Tryd.pinned (.plain (OpenSpec.upto tablesCellsSpec)) tablesCellsUptoCard

/-- THE SECOND FORM's CARD OF 'binderylaw09.TablesAligned'. -/
def tablesAlignedUptoCard : Claim7 := { stood := { row := tablesAlignedUptoRow, standIns := [], harness := (true, "c6453f3e0ef38de479d8aedeab41086e86ab458d6f42a00adbd6df07bf7c7ec2"), looks := false }, kinds := [], alts := [], laidByText := true, laidKinds := [.data, .pinned], laidTests := true, laidLooks := .later }
def TablesAlignedUptoCardSaid : Prop := Claim7.holds Tryd.pinned (.plain (OpenSpec.upto tablesAlignedSpec)) tablesAlignedUptoCard

/-- THE SECOND FORM's CARD OF 'binderylaw09.TablesWide'. -/
def tablesWideUptoCard : Claim7 := { stood := { row := tablesWideUptoRow, standIns := [], harness := (true, "c6453f3e0ef38de479d8aedeab41086e86ab458d6f42a00adbd6df07bf7c7ec2"), looks := false }, kinds := [], alts := [], laidByText := true, laidKinds := [.data, .pinned], laidTests := true, laidLooks := .later }
def TablesWideUptoCardSaid : Prop := Claim7.holds Tryd.pinned (.plain (OpenSpec.upto tablesWideSpec)) tablesWideUptoCard

/-- THE SECOND FORM's CARD OF 'binderylaw09.TablesEven'. -/
def tablesEvenUptoCard : Claim7 := { stood := { row := tablesEvenUptoRow, standIns := [], harness := (true, "c6453f3e0ef38de479d8aedeab41086e86ab458d6f42a00adbd6df07bf7c7ec2"), looks := false }, kinds := [], alts := [], laidByText := true, laidKinds := [.data, .pinned], laidTests := true, laidLooks := .later }
def TablesEvenUptoCardSaid : Prop := Claim7.holds Tryd.pinned (.plain (OpenSpec.upto tablesEvenSpec)) tablesEvenUptoCard
end Rows
end Go.Proofs.YtkfffoolpdilnaaDoor
