/-
  DERIVED. GIVEN WITH THE SEED: THE CARDS: each row of YtacghogdodcinaaDoorRows.lean that lists a variable, with what it lists TIED to the program's text (the seventh form; the later family's looks); each row that meets fmt, with fmt's text TOLD by the authors' own Lean function (tested against real Go, not proved from fmt's source: count such statements apart). THE CARD IS WHAT COUNTS. Prove the row's statement (the work); the ties are given (YtacghogdodcinaaDoorTie.lean); close each card by the builder's one call (the guide's Derived/Test/ToyasCard.lean, 'card_holds'). Laid BY PROGRAM, IN A SANDBOX (cutbox-door.mjs). By AI agents, Wed Nov 11 2026. No macro, syntax, notation, axiom, sorry.
-/
import Derived.Test.YtacghogdodcinaaDoorRows
import GoSem.ClaimSeven
namespace Go.Proofs.YtacghogdodcinaaDoor
namespace Rows

/-- THE TIED CARD OF 'binderylaw07.TermsTexts'. -/
def termsTextsCard : Claim7 := { stood := { row := termsTextsRow, standIns := [], harness := (true, "38557f5425c141a2e5910d02ac83c906f6a6d60ee39f93fc1ced68ff353ac48e"), looks := false }, kinds := [], alts := [], laidByText := true, laidKinds := [.data, .pinned], laidTests := true, laidLooks := .later }
def TermsTextsCardSaid : Prop := Claim7.holds Tryd.pinned (.plain (OpenSpec.ofChange termsTextsSpec)) termsTextsCard

/-- THE TIED CARD OF 'binderylaw07.TermsBack'. -/
def termsBackCard : Claim7 := { stood := { row := termsBackRow, standIns := [], harness := (true, "38557f5425c141a2e5910d02ac83c906f6a6d60ee39f93fc1ced68ff353ac48e"), looks := false }, kinds := [], alts := [], laidByText := true, laidKinds := [.data, .pinned], laidTests := true, laidLooks := .later }
def TermsBackCardSaid : Prop := Claim7.holds Tryd.pinned (.plain (OpenSpec.ofChange termsBackSpec)) termsBackCard

/-- THE TIED CARD OF 'binderylaw07.TermsAgain'. -/
def termsAgainCard : Claim7 := { stood := { row := termsAgainRow, standIns := [], harness := (true, "38557f5425c141a2e5910d02ac83c906f6a6d60ee39f93fc1ced68ff353ac48e"), looks := false }, kinds := [], alts := [], laidByText := true, laidKinds := [.data, .pinned], laidTests := true, laidLooks := .later }
def TermsAgainCardSaid : Prop := Claim7.holds Tryd.pinned (.plain (OpenSpec.ofChange termsAgainSpec)) termsAgainCard

/-- THE TIED CARD OF 'binderylaw07.TermsSigns'. -/
def termsSignsCard : Claim7 := { stood := { row := termsSignsRow, standIns := [], harness := (true, "38557f5425c141a2e5910d02ac83c906f6a6d60ee39f93fc1ced68ff353ac48e"), looks := false }, kinds := [], alts := [], laidByText := true, laidKinds := [.data, .pinned], laidTests := true, laidLooks := .later }
def TermsSignsCardSaid : Prop := Claim7.holds Tryd.pinned (.plain (OpenSpec.ofChange termsSignsSpec)) termsSignsCard

/-- THE TIED CARD OF 'binderylaw07.TermsKeys'. -/
def termsKeysCard : Claim7 := { stood := { row := termsKeysRow, standIns := [], harness := (true, "38557f5425c141a2e5910d02ac83c906f6a6d60ee39f93fc1ced68ff353ac48e"), looks := false }, kinds := [], alts := [], laidByText := true, laidKinds := [.data, .pinned], laidTests := true, laidLooks := .later }
def TermsKeysCardSaid : Prop := Claim7.holds Tryd.pinned (.plain (OpenSpec.ofChange termsKeysSpec)) termsKeysCard

/-- THE TIED CARD OF 'binderylaw07.TermsLong'. -/
def termsLongCard : Claim7 := { stood := { row := termsLongRow, standIns := [], harness := (true, "38557f5425c141a2e5910d02ac83c906f6a6d60ee39f93fc1ced68ff353ac48e"), looks := false }, kinds := [], alts := [], laidByText := true, laidKinds := [.data, .pinned], laidTests := true, laidLooks := .later }
def TermsLongCardSaid : Prop := Claim7.holds Tryd.pinned (.plain (OpenSpec.ofChange termsLongSpec)) termsLongCard

/-- THE SECOND FORM's CARD OF 'binderylaw07.TermsTexts'. -/
def termsTextsUptoCard : Claim7 := { stood := { row := termsTextsUptoRow, standIns := [], harness := (true, "38557f5425c141a2e5910d02ac83c906f6a6d60ee39f93fc1ced68ff353ac48e"), looks := false }, kinds := [], alts := [], laidByText := true, laidKinds := [.data, .pinned], laidTests := true, laidLooks := .later }
def TermsTextsUptoCardSaid : Prop := Claim7.holds Tryd.pinned (.plain (OpenSpec.upto termsTextsSpec)) termsTextsUptoCard

/-- THE SECOND FORM's CARD OF 'binderylaw07.TermsBack'. -/
def termsBackUptoCard : Claim7 := { stood := { row := termsBackUptoRow, standIns := [], harness := (true, "38557f5425c141a2e5910d02ac83c906f6a6d60ee39f93fc1ced68ff353ac48e"), looks := false }, kinds := [], alts := [], laidByText := true, laidKinds := [.data, .pinned], laidTests := true, laidLooks := .later }
def TermsBackUptoCardSaid : Prop := Claim7.holds Tryd.pinned (.plain (OpenSpec.upto termsBackSpec)) termsBackUptoCard

/-- THE SECOND FORM's CARD OF 'binderylaw07.TermsAgain'. -/
def termsAgainUptoCard : Claim7 := { stood := { row := termsAgainUptoRow, standIns := [], harness := (true, "38557f5425c141a2e5910d02ac83c906f6a6d60ee39f93fc1ced68ff353ac48e"), looks := false }, kinds := [], alts := [], laidByText := true, laidKinds := [.data, .pinned], laidTests := true, laidLooks := .later }
def TermsAgainUptoCardSaid : Prop := Claim7.holds Tryd.pinned (.plain (OpenSpec.upto termsAgainSpec)) termsAgainUptoCard

/-- THE SECOND FORM's CARD OF 'binderylaw07.TermsSigns'. -/
def termsSignsUptoCard : Claim7 := { stood := { row := termsSignsUptoRow, standIns := [], harness := (true, "38557f5425c141a2e5910d02ac83c906f6a6d60ee39f93fc1ced68ff353ac48e"), looks := false }, kinds := [], alts := [], laidByText := true, laidKinds := [.data, .pinned], laidTests := true, laidLooks := .later }
def TermsSignsUptoCardSaid : Prop := Claim7.holds Tryd.pinned (.plain (OpenSpec.upto termsSignsSpec)) termsSignsUptoCard

/-- THE SECOND FORM's CARD OF 'binderylaw07.TermsKeys'. -/
def termsKeysUptoCard : Claim7 := { stood := { row := termsKeysUptoRow, standIns := [], harness := (true, "38557f5425c141a2e5910d02ac83c906f6a6d60ee39f93fc1ced68ff353ac48e"), looks := false }, kinds := [], alts := [], laidByText := true, laidKinds := [.data, .pinned], laidTests := true, laidLooks := .later }
def TermsKeysUptoCardSaid : Prop := Claim7.holds Tryd.pinned (.plain (OpenSpec.upto termsKeysSpec)) termsKeysUptoCard

/-- THE SECOND FORM's CARD OF 'binderylaw07.TermsLong'. -/
def termsLongUptoCard : Claim7 := { stood := { row := termsLongUptoRow, standIns := [], harness := (true, "38557f5425c141a2e5910d02ac83c906f6a6d60ee39f93fc1ced68ff353ac48e"), looks := false }, kinds := [], alts := [], laidByText := true, laidKinds := [.data, .pinned], laidTests := true, laidLooks := .later }
def TermsLongUptoCardSaid : Prop := Claim7.holds Tryd.pinned (.plain (OpenSpec.upto termsLongSpec)) termsLongUptoCard
end Rows
end Go.Proofs.YtacghogdodcinaaDoor
