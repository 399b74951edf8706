/-
  DERIVED. GIVEN WITH THE SEED: THE CARDS: each row of YtgiiglcgfbnaoaaGreatDoorRows.lean that lists a variable, with what it lists TIED to the program's text (the seventh form; the later family's looks); each row that meets fmt, with fmt's text TOLD by the authors' own Lean function (tested against real Go, not proved from fmt's source: count such statements apart). THE CARD IS WHAT COUNTS. Prove the row's statement (the work); the ties are given (YtgiiglcgfbnaoaaGreatDoorTie.lean); close each card by the builder's one call (the guide's Derived/Test/ToyasCard.lean, 'card_holds'). Laid BY PROGRAM, IN A SANDBOX (cutbox-door.mjs). By AI agents, Wed Nov 11 2026. No macro, syntax, notation, axiom, sorry.
-/
import Derived.Test.YtgiiglcgfbnaoaaGreatDoorRows
import GoSem.ClaimSeven
namespace Go.Proofs.YtgiiglcgfbnaoaaGreatDoor
namespace Rows

/-- THE TIED CARD OF 'binderylaw08.SpansTexts'. -/
def spansTextsCard : Claim7 := { stood := { row := spansTextsRow, standIns := [], harness := (true, "f4ae76f0a858e805ca4cb53e280e97b91408ea0ff57efc76151ae7788352bdfe"), looks := false }, kinds := [], alts := [], laidByText := true, laidKinds := [.data, .pinned], laidTests := true, laidLooks := .later }
def SpansTextsCardSaid : Prop := Claim7.holds Tryz.pinned (.plain (OpenSpec.ofChange spansTextsSpec)) spansTextsCard

/-- THE TIED CARD OF 'binderylaw08.SpansBack'. -/
def spansBackCard : Claim7 := { stood := { row := spansBackRow, standIns := [], harness := (true, "f4ae76f0a858e805ca4cb53e280e97b91408ea0ff57efc76151ae7788352bdfe"), looks := false }, kinds := [], alts := [], laidByText := true, laidKinds := [.data, .pinned], laidTests := true, laidLooks := .later }
def SpansBackCardSaid : Prop := Claim7.holds Tryz.pinned (.plain (OpenSpec.ofChange spansBackSpec)) spansBackCard

/-- THE TIED CARD OF 'binderylaw08.SpansNone'. -/
def spansNoneCard : Claim7 := { stood := { row := spansNoneRow, standIns := [], harness := (true, "f4ae76f0a858e805ca4cb53e280e97b91408ea0ff57efc76151ae7788352bdfe"), looks := false }, kinds := [], alts := [], laidByText := true, laidKinds := [.data, .pinned], laidTests := true, laidLooks := .later }
def SpansNoneCardSaid : Prop := Claim7.holds Tryz.pinned (.plain (OpenSpec.ofChange spansNoneSpec)) spansNoneCard

/-- THE TIED CARD OF 'binderylaw08.SpansSound'. -/
def spansSoundCard : Claim7 := { stood := { row := spansSoundRow, standIns := [], harness := (true, "f4ae76f0a858e805ca4cb53e280e97b91408ea0ff57efc76151ae7788352bdfe"), looks := false }, kinds := [], alts := [], laidByText := true, laidKinds := [.data, .pinned], laidTests := true, laidLooks := .later }
def SpansSoundCardSaid : Prop := Claim7.holds Tryz.pinned (.plain (OpenSpec.ofChange spansSoundSpec)) spansSoundCard

/-- THE TIED CARD OF 'binderylaw08.SpansEach'. -/
def spansEachCard : Claim7 := { stood := { row := spansEachRow, standIns := [], harness := (true, "f4ae76f0a858e805ca4cb53e280e97b91408ea0ff57efc76151ae7788352bdfe"), looks := false }, kinds := [], alts := [], laidByText := true, laidKinds := [.data, .pinned], laidTests := true, laidLooks := .later }
def SpansEachCardSaid : Prop := Claim7.holds Tryz.pinned (.plain (OpenSpec.ofChange spansEachSpec)) spansEachCard

/-- THE TIED CARD OF 'binderylaw08.SpansStyles'. -/
def spansStylesCard : Claim7 := { stood := { row := spansStylesRow, standIns := [], harness := (true, "f4ae76f0a858e805ca4cb53e280e97b91408ea0ff57efc76151ae7788352bdfe"), looks := false }, kinds := [], alts := [], laidByText := true, laidKinds := [.data, .pinned], laidTests := true, laidLooks := .later }
def SpansStylesCardSaid : Prop := Claim7.holds Tryz.pinned (.plain (OpenSpec.ofChange spansStylesSpec)) spansStylesCard

/-- THE TIED CARD OF 'binderylaw08.SpansCode'. -/
def spansCodeCard : Claim7 := { stood := { row := spansCodeRow, standIns := [], harness := (true, "f4ae76f0a858e805ca4cb53e280e97b91408ea0ff57efc76151ae7788352bdfe"), looks := false }, kinds := [], alts := [], laidByText := true, laidKinds := [.data, .pinned], laidTests := true, laidLooks := .later }
def SpansCodeCardSaid : Prop := Claim7.holds Tryz.pinned (.plain (OpenSpec.ofChange spansCodeSpec)) spansCodeCard

/-- THE TIED CARD OF 'binderylaw08.SpansJoins'. -/
def spansJoinsCard : Claim7 := { stood := { row := spansJoinsRow, standIns := [], harness := (true, "f4ae76f0a858e805ca4cb53e280e97b91408ea0ff57efc76151ae7788352bdfe"), looks := false }, kinds := [], alts := [], laidByText := true, laidKinds := [.data, .pinned], laidTests := true, laidLooks := .later }
def SpansJoinsCardSaid : Prop := Claim7.holds Tryz.pinned (.plain (OpenSpec.ofChange spansJoinsSpec)) spansJoinsCard

/-- THE SECOND FORM's CARD OF 'binderylaw08.SpansTexts'. -/
def spansTextsUptoCard : Claim7 := { stood := { row := spansTextsUptoRow, standIns := [], harness := (true, "f4ae76f0a858e805ca4cb53e280e97b91408ea0ff57efc76151ae7788352bdfe"), looks := false }, kinds := [], alts := [], laidByText := true, laidKinds := [.data, .pinned], laidTests := true, laidLooks := .later }
def SpansTextsUptoCardSaid : Prop := Claim7.holds Tryz.pinned (.plain (OpenSpec.upto spansTextsSpec)) spansTextsUptoCard

/-- THE SECOND FORM's CARD OF 'binderylaw08.SpansBack'. -/
def spansBackUptoCard : Claim7 := { stood := { row := spansBackUptoRow, standIns := [], harness := (true, "f4ae76f0a858e805ca4cb53e280e97b91408ea0ff57efc76151ae7788352bdfe"), looks := false }, kinds := [], alts := [], laidByText := true, laidKinds := [.data, .pinned], laidTests := true, laidLooks := .later }
def SpansBackUptoCardSaid : Prop := Claim7.holds Tryz.pinned (.plain (OpenSpec.upto spansBackSpec)) spansBackUptoCard

/-- THE SECOND FORM's CARD OF 'binderylaw08.SpansNone'. -/
def spansNoneUptoCard : Claim7 := { stood := { row := spansNoneUptoRow, standIns := [], harness := (true, "f4ae76f0a858e805ca4cb53e280e97b91408ea0ff57efc76151ae7788352bdfe"), looks := false }, kinds := [], alts := [], laidByText := true, laidKinds := [.data, .pinned], laidTests := true, laidLooks := .later }
def SpansNoneUptoCardSaid : Prop := Claim7.holds Tryz.pinned (.plain (OpenSpec.upto spansNoneSpec)) spansNoneUptoCard

/-- THE SECOND FORM's CARD OF 'binderylaw08.SpansSound'. -/
def spansSoundUptoCard : Claim7 := { stood := { row := spansSoundUptoRow, standIns := [], harness := (true, "f4ae76f0a858e805ca4cb53e280e97b91408ea0ff57efc76151ae7788352bdfe"), looks := false }, kinds := [], alts := [], laidByText := true, laidKinds := [.data, .pinned], laidTests := true, laidLooks := .later }
def SpansSoundUptoCardSaid : Prop := Claim7.holds Tryz.pinned (.plain (OpenSpec.upto spansSoundSpec)) spansSoundUptoCard

/-- THE SECOND FORM's CARD OF 'binderylaw08.SpansEach'. -/
def spansEachUptoCard : Claim7 := { stood := { row := spansEachUptoRow, standIns := [], harness := (true, "f4ae76f0a858e805ca4cb53e280e97b91408ea0ff57efc76151ae7788352bdfe"), looks := false }, kinds := [], alts := [], laidByText := true, laidKinds := [.data, .pinned], laidTests := true, laidLooks := .later }
def SpansEachUptoCardSaid : Prop := Claim7.holds Tryz.pinned (.plain (OpenSpec.upto spansEachSpec)) spansEachUptoCard

/-- THE SECOND FORM's CARD OF 'binderylaw08.SpansStyles'. -/
def spansStylesUptoCard : Claim7 := { stood := { row := spansStylesUptoRow, standIns := [], harness := (true, "f4ae76f0a858e805ca4cb53e280e97b91408ea0ff57efc76151ae7788352bdfe"), looks := false }, kinds := [], alts := [], laidByText := true, laidKinds := [.data, .pinned], laidTests := true, laidLooks := .later }
def SpansStylesUptoCardSaid : Prop := Claim7.holds Tryz.pinned (.plain (OpenSpec.upto spansStylesSpec)) spansStylesUptoCard

/-- THE SECOND FORM's CARD OF 'binderylaw08.SpansCode'. -/
def spansCodeUptoCard : Claim7 := { stood := { row := spansCodeUptoRow, standIns := [], harness := (true, "f4ae76f0a858e805ca4cb53e280e97b91408ea0ff57efc76151ae7788352bdfe"), looks := false }, kinds := [], alts := [], laidByText := true, laidKinds := [.data, .pinned], laidTests := true, laidLooks := .later }
def SpansCodeUptoCardSaid : Prop := Claim7.holds Tryz.pinned (.plain (OpenSpec.upto spansCodeSpec)) spansCodeUptoCard

/-- THE SECOND FORM's CARD OF 'binderylaw08.SpansJoins'. -/
def spansJoinsUptoCard : Claim7 := { stood := { row := spansJoinsUptoRow, standIns := [], harness := (true, "f4ae76f0a858e805ca4cb53e280e97b91408ea0ff57efc76151ae7788352bdfe"), looks := false }, kinds := [], alts := [], laidByText := true, laidKinds := [.data, .pinned], laidTests := true, laidLooks := .later }
def SpansJoinsUptoCardSaid : Prop := Claim7.holds Tryz.pinned (.plain (OpenSpec.upto spansJoinsSpec)) spansJoinsUptoCard
end Rows
end Go.Proofs.YtgiiglcgfbnaoaaGreatDoor
