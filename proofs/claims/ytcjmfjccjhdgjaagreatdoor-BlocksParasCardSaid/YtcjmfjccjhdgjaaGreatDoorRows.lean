/-
  NARROWER THAN 'FOR EVERY INPUT', by the rows' own cells (each row's printed sentence says how): BlocksPlaces: laid · BlocksJoins: laid · BlocksCode: laid · BlocksEmpty: laid · BlocksParas: laid · BlocksTitles: laid.
  DERIVED. THE GIVEN ROWS OF THIS SEAT. 6 by the template 'for every input the law returns true; each argument reads behind the call as it read before'; 0 by the template 'total and deterministic' (their statements: YtcjmfjccjhdgjaaGreatDoorTotals.lean).
  GIVEN WITH THE SEED: the statements are not yours to turn. If you find one false, say at which input.
  Laid BY PROGRAM, IN A SANDBOX (cutbox-rows.mjs): the forced cells as the released guide's own fill.sh prints them over the translation d64731da232a3ec2… (all of the seat's roots in one cut). By AI agents, Wed Nov 11 2026. No macro, syntax, notation, axiom, sorry.
-/
import Derived.Test.YtcjmfjccjhdgjaaGreatDoorChecked
import GoSem.PinnedTables
import GoSem.Claim
import GoSem.ClaimJoined
import GoSem.ClaimMapViews
import Derived.JoinedTies
import Derived.KernelRfl
namespace Go.Proofs.YtcjmfjccjhdgjaaGreatDoor
/- THE CELL 'sum', in the pinned program and in every row, IS THE sha256 OF THE DUMP (.gsa) THAT YtcjmfjccjhdgjaaGreatDoorProg.lean LOADS. Nothing in Lean hashes anything: it is a label: what it is worth is what the hold of that sum in a sandbox is worth. -/
noncomputable def Tryz.pinned : Pinned := { name := "ytcjmfjccjhdgjaagreatdoor", sum := "d64731da232a3ec2d70e55075bae5ee19113c570199f4929a28003b687c95e44", checked := Tryz.checked }
namespace Rows
def none {H : Type} : Left H := { results := [], args := [] }

/- WHAT THE LISTED PACKAGE-LEVEL VARIABLES READ AS WHEN THE CALL BEGINS. Each datum BY PROGRAM (the guide's laid-datum.mjs) off the statement by which the dump's own 'gosem.cut.vars' lays the variable. In a bare row this is a premise. The card (YtcjmfjccjhdgjaaGreatDoorCards.lean) ties it to the program's text. -/
def laid_unicode_utf8_acceptRanges {H : Type} : DataW H := .agg [.agg [.lit (.int .u8 128), .lit (.int .u8 191)], .agg [.lit (.int .u8 160), .lit (.int .u8 191)], .agg [.lit (.int .u8 128), .lit (.int .u8 159)], .agg [.lit (.int .u8 144), .lit (.int .u8 191)], .agg [.lit (.int .u8 128), .lit (.int .u8 143)], .agg [.lit (.int .u8 0), .lit (.int .u8 0)], .agg [.lit (.int .u8 0), .lit (.int .u8 0)], .agg [.lit (.int .u8 0), .lit (.int .u8 0)], .agg [.lit (.int .u8 0), .lit (.int .u8 0)], .agg [.lit (.int .u8 0), .lit (.int .u8 0)], .agg [.lit (.int .u8 0), .lit (.int .u8 0)], .agg [.lit (.int .u8 0), .lit (.int .u8 0)], .agg [.lit (.int .u8 0), .lit (.int .u8 0)], .agg [.lit (.int .u8 0), .lit (.int .u8 0)], .agg [.lit (.int .u8 0), .lit (.int .u8 0)], .agg [.lit (.int .u8 0), .lit (.int .u8 0)]]
/-- One of Go's own tables, pinned by name: the form's constant. -/
def laid_unicode_utf8_first : DataW Unit := Go.Pinned.utf8First

/-- 'binderylaw10.BlocksPlaces': WHATEVER THE INPUT: true; the input reads as it did. -/
def blocksPlacesSpec : ChangeSpec := { name := "blocksPlaces", fn := fun _ => fun
  | [d] => { results := [.lit (.bool true)], args := [d] }
  | _ => none }
def blocksPlacesRow : OpenClaim := { program := "ytcjmfjccjhdgjaagreatdoor", sum := "d64731da232a3ec2d70e55075bae5ee19113c570199f4929a28003b687c95e44", func := "bindery/binderylaw10.BlocksPlaces", spec := "blocksPlaces", inPlace := ["internal/bytealg.IndexByteString", "internal/bytealg.IndexString", "internal/abi.NoEscape", "internal/bytealg.CountString", "internal/bytealg.MakeNoZero"], unfollowed := true, recurses := true, named := ["unicode/utf8.first", "unicode/utf8.acceptRanges", "internal/bytealg.MaxLen"], apart := false, laid := [("unicode/utf8.acceptRanges", laid_unicode_utf8_acceptRanges), ("unicode/utf8.first", laid_unicode_utf8_first)] }
def BlocksPlacesSaid : Prop := blocksPlacesRow.holds Tryz.pinned (OpenSpec.ofChange blocksPlacesSpec)

/-- ITS FALSE NEIGHBOUR: 'it returns false'. Refute it at one input. -/
def blocksPlacesWrong : ChangeSpec := { name := "blocksPlaces", fn := fun _ => fun
  | [d] => { results := [.lit (.bool false)], args := [d] }
  | _ => none }
def BlocksPlacesWrongFalsely : Prop := blocksPlacesRow.holds Tryz.pinned (OpenSpec.ofChange blocksPlacesWrong)

/-- 'binderylaw10.BlocksJoins': WHATEVER THE INPUT: true; the input reads as it did. -/
def blocksJoinsSpec : ChangeSpec := { name := "blocksJoins", fn := fun _ => fun
  | [d1, d2] => { results := [.lit (.bool true)], args := [d1, d2] }
  | _ => none }
def blocksJoinsRow : OpenClaim := { program := "ytcjmfjccjhdgjaagreatdoor", sum := "d64731da232a3ec2d70e55075bae5ee19113c570199f4929a28003b687c95e44", func := "bindery/binderylaw10.BlocksJoins", spec := "blocksJoins", inPlace := ["internal/bytealg.IndexByteString", "internal/bytealg.IndexString", "internal/abi.NoEscape", "internal/bytealg.CountString", "internal/bytealg.MakeNoZero"], unfollowed := true, recurses := true, named := ["unicode/utf8.first", "unicode/utf8.acceptRanges", "internal/bytealg.MaxLen"], apart := false, laid := [("unicode/utf8.acceptRanges", laid_unicode_utf8_acceptRanges), ("unicode/utf8.first", laid_unicode_utf8_first)] }
def BlocksJoinsSaid : Prop := blocksJoinsRow.holds Tryz.pinned (OpenSpec.ofChange blocksJoinsSpec)

/-- ITS FALSE NEIGHBOUR: 'it returns false'. Refute it at one input. -/
def blocksJoinsWrong : ChangeSpec := { name := "blocksJoins", fn := fun _ => fun
  | [d1, d2] => { results := [.lit (.bool false)], args := [d1, d2] }
  | _ => none }
def BlocksJoinsWrongFalsely : Prop := blocksJoinsRow.holds Tryz.pinned (OpenSpec.ofChange blocksJoinsWrong)

/-- 'binderylaw10.BlocksCode': WHATEVER THE INPUT: true; the input reads as it did. -/
def blocksCodeSpec : ChangeSpec := { name := "blocksCode", fn := fun _ => fun
  | [d] => { results := [.lit (.bool true)], args := [d] }
  | _ => none }
def blocksCodeRow : OpenClaim := { program := "ytcjmfjccjhdgjaagreatdoor", sum := "d64731da232a3ec2d70e55075bae5ee19113c570199f4929a28003b687c95e44", func := "bindery/binderylaw10.BlocksCode", spec := "blocksCode", inPlace := ["internal/bytealg.IndexByteString", "internal/bytealg.IndexString", "internal/abi.NoEscape", "internal/bytealg.CountString", "internal/bytealg.MakeNoZero"], unfollowed := true, recurses := true, named := ["unicode/utf8.first", "unicode/utf8.acceptRanges", "internal/bytealg.MaxLen"], apart := false, laid := [("unicode/utf8.acceptRanges", laid_unicode_utf8_acceptRanges), ("unicode/utf8.first", laid_unicode_utf8_first)] }
def BlocksCodeSaid : Prop := blocksCodeRow.holds Tryz.pinned (OpenSpec.ofChange blocksCodeSpec)

/-- ITS FALSE NEIGHBOUR: 'it returns false'. Refute it at one input. -/
def blocksCodeWrong : ChangeSpec := { name := "blocksCode", fn := fun _ => fun
  | [d] => { results := [.lit (.bool false)], args := [d] }
  | _ => none }
def BlocksCodeWrongFalsely : Prop := blocksCodeRow.holds Tryz.pinned (OpenSpec.ofChange blocksCodeWrong)

/-- 'binderylaw10.BlocksEmpty': WHATEVER THE INPUT: true; the input reads as it did. -/
def blocksEmptySpec : ChangeSpec := { name := "blocksEmpty", fn := fun _ => fun
  | [d] => { results := [.lit (.bool true)], args := [d] }
  | _ => none }
def blocksEmptyRow : OpenClaim := { program := "ytcjmfjccjhdgjaagreatdoor", sum := "d64731da232a3ec2d70e55075bae5ee19113c570199f4929a28003b687c95e44", func := "bindery/binderylaw10.BlocksEmpty", spec := "blocksEmpty", inPlace := ["internal/bytealg.IndexByteString", "internal/bytealg.IndexString", "internal/abi.NoEscape", "internal/bytealg.CountString", "internal/bytealg.MakeNoZero"], unfollowed := true, recurses := true, named := ["unicode/utf8.first", "unicode/utf8.acceptRanges", "internal/bytealg.MaxLen"], apart := false, laid := [("unicode/utf8.acceptRanges", laid_unicode_utf8_acceptRanges), ("unicode/utf8.first", laid_unicode_utf8_first)] }
def BlocksEmptySaid : Prop := blocksEmptyRow.holds Tryz.pinned (OpenSpec.ofChange blocksEmptySpec)

/-- ITS FALSE NEIGHBOUR: 'it returns false'. Refute it at one input. -/
def blocksEmptyWrong : ChangeSpec := { name := "blocksEmpty", fn := fun _ => fun
  | [d] => { results := [.lit (.bool false)], args := [d] }
  | _ => none }
def BlocksEmptyWrongFalsely : Prop := blocksEmptyRow.holds Tryz.pinned (OpenSpec.ofChange blocksEmptyWrong)

/-- 'binderylaw10.BlocksParas': WHATEVER THE INPUT: true; the input reads as it did. -/
def blocksParasSpec : ChangeSpec := { name := "blocksParas", fn := fun _ => fun
  | [d1, d2] => { results := [.lit (.bool true)], args := [d1, d2] }
  | _ => none }
def blocksParasRow : OpenClaim := { program := "ytcjmfjccjhdgjaagreatdoor", sum := "d64731da232a3ec2d70e55075bae5ee19113c570199f4929a28003b687c95e44", func := "bindery/binderylaw10.BlocksParas", spec := "blocksParas", inPlace := ["internal/bytealg.IndexByteString", "internal/bytealg.IndexString", "internal/abi.NoEscape", "internal/bytealg.CountString", "internal/bytealg.MakeNoZero"], unfollowed := true, recurses := true, named := ["unicode/utf8.first", "unicode/utf8.acceptRanges", "internal/bytealg.MaxLen"], apart := false, laid := [("unicode/utf8.acceptRanges", laid_unicode_utf8_acceptRanges), ("unicode/utf8.first", laid_unicode_utf8_first)] }
def BlocksParasSaid : Prop := blocksParasRow.holds Tryz.pinned (OpenSpec.ofChange blocksParasSpec)

/-- ITS FALSE NEIGHBOUR: 'it returns false'. Refute it at one input. -/
def blocksParasWrong : ChangeSpec := { name := "blocksParas", fn := fun _ => fun
  | [d1, d2] => { results := [.lit (.bool false)], args := [d1, d2] }
  | _ => none }
def BlocksParasWrongFalsely : Prop := blocksParasRow.holds Tryz.pinned (OpenSpec.ofChange blocksParasWrong)

/-- 'binderylaw10.BlocksTitles': WHATEVER THE INPUT: true; the input reads as it did. -/
def blocksTitlesSpec : ChangeSpec := { name := "blocksTitles", fn := fun _ => fun
  | [d1, d2, d3] => { results := [.lit (.bool true)], args := [d1, d2, d3] }
  | _ => none }
def blocksTitlesRow : OpenClaim := { program := "ytcjmfjccjhdgjaagreatdoor", sum := "d64731da232a3ec2d70e55075bae5ee19113c570199f4929a28003b687c95e44", func := "bindery/binderylaw10.BlocksTitles", spec := "blocksTitles", inPlace := ["internal/bytealg.IndexByteString", "internal/bytealg.IndexString", "internal/abi.NoEscape", "internal/bytealg.CountString", "internal/bytealg.MakeNoZero"], unfollowed := true, recurses := true, named := ["unicode/utf8.first", "unicode/utf8.acceptRanges", "internal/bytealg.MaxLen"], apart := false, laid := [("unicode/utf8.acceptRanges", laid_unicode_utf8_acceptRanges), ("unicode/utf8.first", laid_unicode_utf8_first)] }
def BlocksTitlesSaid : Prop := blocksTitlesRow.holds Tryz.pinned (OpenSpec.ofChange blocksTitlesSpec)

/-- ITS FALSE NEIGHBOUR: 'it returns false'. Refute it at one input. -/
def blocksTitlesWrong : ChangeSpec := { name := "blocksTitles", fn := fun _ => fun
  | [d1, d2, d3] => { results := [.lit (.bool false)], args := [d1, d2, d3] }
  | _ => none }
def BlocksTitlesWrongFalsely : Prop := blocksTitlesRow.holds Tryz.pinned (OpenSpec.ofChange blocksTitlesWrong)

/- THE SECOND FORM. 'bulk': how many values and letters a reading holds, each counted each time it is reached (what is shared counts as often as it is met; a slice's spare places count too). A statement '..UptoSaid' is the law's where the arguments, and the package variables that the reading takes, are together of bulk at most 1048576: NARROWER than '..Said'. Prove '..Said' where nothing that the law and all that it calls make is longer than what came in: it says more and counts as full. Else prove '..UptoSaid'. A law counts once. -/
mutual
def uptoBulk {H : Type} : DataW H → Nat
  | .lit (.string bytes) => bytes.length + 1
  | .lit _ => 1
  | .nil => 1
  | .ptr d => uptoBulk d + 1
  | .slice elems spare => uptoBulkAll elems + uptoBulkAll spare + 1
  | .agg parts => uptoBulkAll parts + 1
  | .iface _ d => uptoBulk d + 1
  | .map entries => uptoBulkEntries entries + 1
  | .held _ => 1
def uptoBulkAll {H : Type} : List (DataW H) → Nat
  | [] => 0
  | d :: r => uptoBulk d + uptoBulkAll r
def uptoBulkEntries {H : Type} : List (Lit × DataW H) → Nat
  | [] => 0
  | x :: r => uptoBulkEntry x + uptoBulkEntries r
def uptoBulkEntry {H : Type} : Lit × DataW H → Nat
  | (.string bytes, d) => bytes.length + uptoBulk d + 1
  | (_, d) => uptoBulk d + 1
 end
def uptoSmall : (H : Type) → List (DataW H) → Bool := fun _ ds => decide (uptoBulkAll ds ≤ 1048576)
def OpenSpec.upto (s : _root_.Go.ChangeSpec) : _root_.Go.OpenSpec := { _root_.Go.OpenSpec.ofChange s with cond := some uptoSmall }

/-- 'binderylaw10.BlocksPlaces', WHERE WHAT IT READS IS OF BULK AT MOST 1048576: true; the input reads as it did. -/
def blocksPlacesUptoRow : OpenClaim := { program := "ytcjmfjccjhdgjaagreatdoor", sum := "d64731da232a3ec2d70e55075bae5ee19113c570199f4929a28003b687c95e44", func := "bindery/binderylaw10.BlocksPlaces", spec := "blocksPlaces", inPlace := ["internal/bytealg.IndexByteString", "internal/bytealg.IndexString", "internal/abi.NoEscape", "internal/bytealg.CountString", "internal/bytealg.MakeNoZero"], unfollowed := true, recurses := true, named := ["unicode/utf8.first", "unicode/utf8.acceptRanges", "internal/bytealg.MaxLen"], apart := false, laid := [("unicode/utf8.acceptRanges", laid_unicode_utf8_acceptRanges), ("unicode/utf8.first", laid_unicode_utf8_first)], narrowed := true }
def BlocksPlacesUptoSaid : Prop := blocksPlacesUptoRow.holds Tryz.pinned (OpenSpec.upto blocksPlacesSpec)

/-- 'binderylaw10.BlocksJoins', WHERE WHAT IT READS IS OF BULK AT MOST 1048576: true; the input reads as it did. -/
def blocksJoinsUptoRow : OpenClaim := { program := "ytcjmfjccjhdgjaagreatdoor", sum := "d64731da232a3ec2d70e55075bae5ee19113c570199f4929a28003b687c95e44", func := "bindery/binderylaw10.BlocksJoins", spec := "blocksJoins", inPlace := ["internal/bytealg.IndexByteString", "internal/bytealg.IndexString", "internal/abi.NoEscape", "internal/bytealg.CountString", "internal/bytealg.MakeNoZero"], unfollowed := true, recurses := true, named := ["unicode/utf8.first", "unicode/utf8.acceptRanges", "internal/bytealg.MaxLen"], apart := false, laid := [("unicode/utf8.acceptRanges", laid_unicode_utf8_acceptRanges), ("unicode/utf8.first", laid_unicode_utf8_first)], narrowed := true }
def BlocksJoinsUptoSaid : Prop := blocksJoinsUptoRow.holds Tryz.pinned (OpenSpec.upto blocksJoinsSpec)

/-- 'binderylaw10.BlocksCode', WHERE WHAT IT READS IS OF BULK AT MOST 1048576: true; the input reads as it did. -/
def blocksCodeUptoRow : OpenClaim := { program := "ytcjmfjccjhdgjaagreatdoor", sum := "d64731da232a3ec2d70e55075bae5ee19113c570199f4929a28003b687c95e44", func := "bindery/binderylaw10.BlocksCode", spec := "blocksCode", inPlace := ["internal/bytealg.IndexByteString", "internal/bytealg.IndexString", "internal/abi.NoEscape", "internal/bytealg.CountString", "internal/bytealg.MakeNoZero"], unfollowed := true, recurses := true, named := ["unicode/utf8.first", "unicode/utf8.acceptRanges", "internal/bytealg.MaxLen"], apart := false, laid := [("unicode/utf8.acceptRanges", laid_unicode_utf8_acceptRanges), ("unicode/utf8.first", laid_unicode_utf8_first)], narrowed := true }
def BlocksCodeUptoSaid : Prop := blocksCodeUptoRow.holds Tryz.pinned (OpenSpec.upto blocksCodeSpec)

/-- 'binderylaw10.BlocksEmpty', WHERE WHAT IT READS IS OF BULK AT MOST 1048576: true; the input reads as it did. -/
def blocksEmptyUptoRow : OpenClaim := { program := "ytcjmfjccjhdgjaagreatdoor", sum := "d64731da232a3ec2d70e55075bae5ee19113c570199f4929a28003b687c95e44", func := "bindery/binderylaw10.BlocksEmpty", spec := "blocksEmpty", inPlace := ["internal/bytealg.IndexByteString", "internal/bytealg.IndexString", "internal/abi.NoEscape", "internal/bytealg.CountString", "internal/bytealg.MakeNoZero"], unfollowed := true, recurses := true, named := ["unicode/utf8.first", "unicode/utf8.acceptRanges", "internal/bytealg.MaxLen"], apart := false, laid := [("unicode/utf8.acceptRanges", laid_unicode_utf8_acceptRanges), ("unicode/utf8.first", laid_unicode_utf8_first)], narrowed := true }
def BlocksEmptyUptoSaid : Prop := blocksEmptyUptoRow.holds Tryz.pinned (OpenSpec.upto blocksEmptySpec)

/-- 'binderylaw10.BlocksParas', WHERE WHAT IT READS IS OF BULK AT MOST 1048576: true; the input reads as it did. -/
def blocksParasUptoRow : OpenClaim := { program := "ytcjmfjccjhdgjaagreatdoor", sum := "d64731da232a3ec2d70e55075bae5ee19113c570199f4929a28003b687c95e44", func := "bindery/binderylaw10.BlocksParas", spec := "blocksParas", inPlace := ["internal/bytealg.IndexByteString", "internal/bytealg.IndexString", "internal/abi.NoEscape", "internal/bytealg.CountString", "internal/bytealg.MakeNoZero"], unfollowed := true, recurses := true, named := ["unicode/utf8.first", "unicode/utf8.acceptRanges", "internal/bytealg.MaxLen"], apart := false, laid := [("unicode/utf8.acceptRanges", laid_unicode_utf8_acceptRanges), ("unicode/utf8.first", laid_unicode_utf8_first)], narrowed := true }
def BlocksParasUptoSaid : Prop := blocksParasUptoRow.holds Tryz.pinned (OpenSpec.upto blocksParasSpec)

/-- 'binderylaw10.BlocksTitles', WHERE WHAT IT READS IS OF BULK AT MOST 1048576: true; the input reads as it did. -/
def blocksTitlesUptoRow : OpenClaim := { program := "ytcjmfjccjhdgjaagreatdoor", sum := "d64731da232a3ec2d70e55075bae5ee19113c570199f4929a28003b687c95e44", func := "bindery/binderylaw10.BlocksTitles", spec := "blocksTitles", inPlace := ["internal/bytealg.IndexByteString", "internal/bytealg.IndexString", "internal/abi.NoEscape", "internal/bytealg.CountString", "internal/bytealg.MakeNoZero"], unfollowed := true, recurses := true, named := ["unicode/utf8.first", "unicode/utf8.acceptRanges", "internal/bytealg.MaxLen"], apart := false, laid := [("unicode/utf8.acceptRanges", laid_unicode_utf8_acceptRanges), ("unicode/utf8.first", laid_unicode_utf8_first)], narrowed := true }
def BlocksTitlesUptoSaid : Prop := blocksTitlesUptoRow.holds Tryz.pinned (OpenSpec.upto blocksTitlesSpec)

end Rows
end Go.Proofs.YtcjmfjccjhdgjaaGreatDoor
