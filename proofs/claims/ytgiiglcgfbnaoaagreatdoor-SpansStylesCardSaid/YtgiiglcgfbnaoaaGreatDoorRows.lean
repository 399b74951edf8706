/-
  NARROWER THAN 'FOR EVERY INPUT', by the rows' own cells (each row's printed sentence says how): SpansTexts: loops, laid · SpansBack: loops, laid · SpansNone: laid · SpansSound: laid · SpansEach: laid · SpansStyles: laid · SpansCode: laid · SpansJoins: laid.
  DERIVED. THE GIVEN ROWS OF THIS SEAT. 8 by the template 'for every input the law returns true; each argument reads behind the call as it read before'; 0 by the template 'total and deterministic' (their statements: YtgiiglcgfbnaoaaGreatDoorTotals.lean).
  GIVEN WITH THE SEED: the statements are not yours to turn. If you find one false, say at which input.
  Laid BY PROGRAM, IN A SANDBOX (cutbox-rows.mjs): the forced cells as the released guide's own fill.sh prints them over the translation e4ca9d6708f45a2a… (all of the seat's roots in one cut). By AI agents, Wed Nov 11 2026. No macro, syntax, notation, axiom, sorry.
-/
import Derived.Test.YtgiiglcgfbnaoaaGreatDoorChecked
import GoSem.PinnedTables
import GoSem.Claim
import GoSem.ClaimJoined
import GoSem.ClaimMapViews
import Derived.JoinedTies
import Derived.KernelRfl
namespace Go.Proofs.YtgiiglcgfbnaoaaGreatDoor
/- THE CELL 'sum', in the pinned program and in every row, IS THE sha256 OF THE DUMP (.gsa) THAT YtgiiglcgfbnaoaaGreatDoorProg.lean LOADS. Nothing in Lean hashes anything: it is a label: what it is worth is what the hold of that sum in a sandbox is worth. -/
noncomputable def Tryz.pinned : Pinned := { name := "ytgiiglcgfbnaoaagreatdoor", sum := "e4ca9d6708f45a2ae8c1add96914e36832f0e5cedd70b30ccfba301f9429f864", checked := Tryz.checked }
namespace Rows
def none {H : Type} : Left H := { results := [], args := [] }

/- WHAT THE LISTED PACKAGE-LEVEL VARIABLES READ AS WHEN THE CALL BEGINS. Each datum BY PROGRAM (the guide's laid-datum.mjs) off the statement by which the dump's own 'gosem.cut.vars' lays the variable. In a bare row this is a premise. The card (YtgiiglcgfbnaoaaGreatDoorCards.lean) ties it to the program's text. -/
def laid_unicode_utf8_acceptRanges {H : Type} : DataW H := .agg [.agg [.lit (.int .u8 128), .lit (.int .u8 191)], .agg [.lit (.int .u8 160), .lit (.int .u8 191)], .agg [.lit (.int .u8 128), .lit (.int .u8 159)], .agg [.lit (.int .u8 144), .lit (.int .u8 191)], .agg [.lit (.int .u8 128), .lit (.int .u8 143)], .agg [.lit (.int .u8 0), .lit (.int .u8 0)], .agg [.lit (.int .u8 0), .lit (.int .u8 0)], .agg [.lit (.int .u8 0), .lit (.int .u8 0)], .agg [.lit (.int .u8 0), .lit (.int .u8 0)], .agg [.lit (.int .u8 0), .lit (.int .u8 0)], .agg [.lit (.int .u8 0), .lit (.int .u8 0)], .agg [.lit (.int .u8 0), .lit (.int .u8 0)], .agg [.lit (.int .u8 0), .lit (.int .u8 0)], .agg [.lit (.int .u8 0), .lit (.int .u8 0)], .agg [.lit (.int .u8 0), .lit (.int .u8 0)], .agg [.lit (.int .u8 0), .lit (.int .u8 0)]]
/-- One of Go's own tables, pinned by name: the form's constant. -/
def laid_unicode_utf8_first : DataW Unit := Go.Pinned.utf8First

/-- 'binderylaw08.SpansTexts': WHATEVER THE INPUT: true; the input reads as it did. -/
def spansTextsSpec : ChangeSpec := { name := "spansTexts", fn := fun _ => fun
  | [d] => { results := [.lit (.bool true)], args := [d] }
  | _ => none }
def spansTextsRow : OpenClaim := { program := "ytgiiglcgfbnaoaagreatdoor", sum := "e4ca9d6708f45a2ae8c1add96914e36832f0e5cedd70b30ccfba301f9429f864", func := "bindery/binderylaw08.SpansTexts", spec := "spansTexts", inPlace := ["internal/abi.NoEscape", "internal/bytealg.IndexByteString", "internal/bytealg.IndexString"], unfollowed := true, recurses := true, named := ["internal/bytealg.MaxLen", "unicode/utf8.first", "unicode/utf8.acceptRanges"], loops := true, apart := false, laid := [("unicode/utf8.acceptRanges", laid_unicode_utf8_acceptRanges), ("unicode/utf8.first", laid_unicode_utf8_first)] }
def SpansTextsSaid : Prop := spansTextsRow.holds Tryz.pinned (OpenSpec.ofChange spansTextsSpec)

/-- ITS FALSE NEIGHBOUR: 'it returns false'. Refute it at one input. -/
def spansTextsWrong : ChangeSpec := { name := "spansTexts", fn := fun _ => fun
  | [d] => { results := [.lit (.bool false)], args := [d] }
  | _ => none }
def SpansTextsWrongFalsely : Prop := spansTextsRow.holds Tryz.pinned (OpenSpec.ofChange spansTextsWrong)

/-- 'binderylaw08.SpansBack': WHATEVER THE INPUT: true; the input reads as it did. -/
def spansBackSpec : ChangeSpec := { name := "spansBack", fn := fun _ => fun
  | [d1, d2] => { results := [.lit (.bool true)], args := [d1, d2] }
  | _ => none }
def spansBackRow : OpenClaim := { program := "ytgiiglcgfbnaoaagreatdoor", sum := "e4ca9d6708f45a2ae8c1add96914e36832f0e5cedd70b30ccfba301f9429f864", func := "bindery/binderylaw08.SpansBack", spec := "spansBack", inPlace := ["internal/abi.NoEscape", "internal/bytealg.IndexByteString", "internal/bytealg.IndexString"], unfollowed := true, recurses := true, named := ["internal/bytealg.MaxLen", "unicode/utf8.first", "unicode/utf8.acceptRanges"], loops := true, apart := false, laid := [("unicode/utf8.acceptRanges", laid_unicode_utf8_acceptRanges), ("unicode/utf8.first", laid_unicode_utf8_first)] }
def SpansBackSaid : Prop := spansBackRow.holds Tryz.pinned (OpenSpec.ofChange spansBackSpec)

/-- ITS FALSE NEIGHBOUR: 'it returns false'. Refute it at one input. -/
def spansBackWrong : ChangeSpec := { name := "spansBack", fn := fun _ => fun
  | [d1, d2] => { results := [.lit (.bool false)], args := [d1, d2] }
  | _ => none }
def SpansBackWrongFalsely : Prop := spansBackRow.holds Tryz.pinned (OpenSpec.ofChange spansBackWrong)

/-- 'binderylaw08.SpansNone': WHATEVER THE INPUT: true; the input reads as it did. -/
def spansNoneSpec : ChangeSpec := { name := "spansNone", fn := fun _ => fun
  | [d] => { results := [.lit (.bool true)], args := [d] }
  | _ => none }
def spansNoneRow : OpenClaim := { program := "ytgiiglcgfbnaoaagreatdoor", sum := "e4ca9d6708f45a2ae8c1add96914e36832f0e5cedd70b30ccfba301f9429f864", func := "bindery/binderylaw08.SpansNone", spec := "spansNone", inPlace := ["internal/abi.NoEscape", "internal/bytealg.IndexByteString", "internal/bytealg.IndexString"], unfollowed := true, recurses := true, named := ["internal/bytealg.MaxLen", "unicode/utf8.first", "unicode/utf8.acceptRanges"], apart := false, laid := [("unicode/utf8.acceptRanges", laid_unicode_utf8_acceptRanges), ("unicode/utf8.first", laid_unicode_utf8_first)] }
def SpansNoneSaid : Prop := spansNoneRow.holds Tryz.pinned (OpenSpec.ofChange spansNoneSpec)

/-- ITS FALSE NEIGHBOUR: 'it returns false'. Refute it at one input. -/
def spansNoneWrong : ChangeSpec := { name := "spansNone", fn := fun _ => fun
  | [d] => { results := [.lit (.bool false)], args := [d] }
  | _ => none }
def SpansNoneWrongFalsely : Prop := spansNoneRow.holds Tryz.pinned (OpenSpec.ofChange spansNoneWrong)

/-- 'binderylaw08.SpansSound': WHATEVER THE INPUT: true; the input reads as it did. -/
def spansSoundSpec : ChangeSpec := { name := "spansSound", fn := fun _ => fun
  | [d] => { results := [.lit (.bool true)], args := [d] }
  | _ => none }
def spansSoundRow : OpenClaim := { program := "ytgiiglcgfbnaoaagreatdoor", sum := "e4ca9d6708f45a2ae8c1add96914e36832f0e5cedd70b30ccfba301f9429f864", func := "bindery/binderylaw08.SpansSound", spec := "spansSound", inPlace := ["internal/abi.NoEscape", "internal/bytealg.IndexByteString", "internal/bytealg.IndexString"], unfollowed := true, recurses := true, named := ["internal/bytealg.MaxLen", "unicode/utf8.first", "unicode/utf8.acceptRanges"], apart := false, laid := [("unicode/utf8.acceptRanges", laid_unicode_utf8_acceptRanges), ("unicode/utf8.first", laid_unicode_utf8_first)] }
def SpansSoundSaid : Prop := spansSoundRow.holds Tryz.pinned (OpenSpec.ofChange spansSoundSpec)

/-- ITS FALSE NEIGHBOUR: 'it returns false'. Refute it at one input. -/
def spansSoundWrong : ChangeSpec := { name := "spansSound", fn := fun _ => fun
  | [d] => { results := [.lit (.bool false)], args := [d] }
  | _ => none }
def SpansSoundWrongFalsely : Prop := spansSoundRow.holds Tryz.pinned (OpenSpec.ofChange spansSoundWrong)

/-- 'binderylaw08.SpansEach': WHATEVER THE INPUT: true; the input reads as it did. -/
def spansEachSpec : ChangeSpec := { name := "spansEach", fn := fun _ => fun
  | [d] => { results := [.lit (.bool true)], args := [d] }
  | _ => none }
def spansEachRow : OpenClaim := { program := "ytgiiglcgfbnaoaagreatdoor", sum := "e4ca9d6708f45a2ae8c1add96914e36832f0e5cedd70b30ccfba301f9429f864", func := "bindery/binderylaw08.SpansEach", spec := "spansEach", inPlace := ["internal/abi.NoEscape", "internal/bytealg.IndexByteString", "internal/bytealg.IndexString"], unfollowed := true, recurses := true, named := ["internal/bytealg.MaxLen", "unicode/utf8.first", "unicode/utf8.acceptRanges"], apart := false, laid := [("unicode/utf8.acceptRanges", laid_unicode_utf8_acceptRanges), ("unicode/utf8.first", laid_unicode_utf8_first)] }
def SpansEachSaid : Prop := spansEachRow.holds Tryz.pinned (OpenSpec.ofChange spansEachSpec)

/-- ITS FALSE NEIGHBOUR: 'it returns false'. Refute it at one input. -/
def spansEachWrong : ChangeSpec := { name := "spansEach", fn := fun _ => fun
  | [d] => { results := [.lit (.bool false)], args := [d] }
  | _ => none }
def SpansEachWrongFalsely : Prop := spansEachRow.holds Tryz.pinned (OpenSpec.ofChange spansEachWrong)

/-- 'binderylaw08.SpansStyles': WHATEVER THE INPUT: true; the input reads as it did. -/
def spansStylesSpec : ChangeSpec := { name := "spansStyles", fn := fun _ => fun
  | [d] => { results := [.lit (.bool true)], args := [d] }
  | _ => none }
def spansStylesRow : OpenClaim := { program := "ytgiiglcgfbnaoaagreatdoor", sum := "e4ca9d6708f45a2ae8c1add96914e36832f0e5cedd70b30ccfba301f9429f864", func := "bindery/binderylaw08.SpansStyles", spec := "spansStyles", inPlace := ["internal/abi.NoEscape", "internal/bytealg.IndexByteString", "internal/bytealg.IndexString"], unfollowed := true, recurses := true, named := ["internal/bytealg.MaxLen", "unicode/utf8.first", "unicode/utf8.acceptRanges"], apart := false, laid := [("unicode/utf8.acceptRanges", laid_unicode_utf8_acceptRanges), ("unicode/utf8.first", laid_unicode_utf8_first)] }
def SpansStylesSaid : Prop := spansStylesRow.holds Tryz.pinned (OpenSpec.ofChange spansStylesSpec)

/-- ITS FALSE NEIGHBOUR: 'it returns false'. Refute it at one input. -/
def spansStylesWrong : ChangeSpec := { name := "spansStyles", fn := fun _ => fun
  | [d] => { results := [.lit (.bool false)], args := [d] }
  | _ => none }
def SpansStylesWrongFalsely : Prop := spansStylesRow.holds Tryz.pinned (OpenSpec.ofChange spansStylesWrong)

/-- 'binderylaw08.SpansCode': WHATEVER THE INPUT: true; the input reads as it did. -/
def spansCodeSpec : ChangeSpec := { name := "spansCode", fn := fun _ => fun
  | [d] => { results := [.lit (.bool true)], args := [d] }
  | _ => none }
def spansCodeRow : OpenClaim := { program := "ytgiiglcgfbnaoaagreatdoor", sum := "e4ca9d6708f45a2ae8c1add96914e36832f0e5cedd70b30ccfba301f9429f864", func := "bindery/binderylaw08.SpansCode", spec := "spansCode", inPlace := ["internal/abi.NoEscape", "internal/bytealg.IndexByteString", "internal/bytealg.IndexString"], unfollowed := true, recurses := true, named := ["internal/bytealg.MaxLen", "unicode/utf8.first", "unicode/utf8.acceptRanges"], apart := false, laid := [("unicode/utf8.acceptRanges", laid_unicode_utf8_acceptRanges), ("unicode/utf8.first", laid_unicode_utf8_first)] }
def SpansCodeSaid : Prop := spansCodeRow.holds Tryz.pinned (OpenSpec.ofChange spansCodeSpec)

/-- ITS FALSE NEIGHBOUR: 'it returns false'. Refute it at one input. -/
def spansCodeWrong : ChangeSpec := { name := "spansCode", fn := fun _ => fun
  | [d] => { results := [.lit (.bool false)], args := [d] }
  | _ => none }
def SpansCodeWrongFalsely : Prop := spansCodeRow.holds Tryz.pinned (OpenSpec.ofChange spansCodeWrong)

/-- 'binderylaw08.SpansJoins': WHATEVER THE INPUT: true; the input reads as it did. -/
def spansJoinsSpec : ChangeSpec := { name := "spansJoins", fn := fun _ => fun
  | [d1, d2] => { results := [.lit (.bool true)], args := [d1, d2] }
  | _ => none }
def spansJoinsRow : OpenClaim := { program := "ytgiiglcgfbnaoaagreatdoor", sum := "e4ca9d6708f45a2ae8c1add96914e36832f0e5cedd70b30ccfba301f9429f864", func := "bindery/binderylaw08.SpansJoins", spec := "spansJoins", inPlace := ["internal/abi.NoEscape", "internal/bytealg.IndexByteString", "internal/bytealg.IndexString"], unfollowed := true, recurses := true, named := ["internal/bytealg.MaxLen", "unicode/utf8.first", "unicode/utf8.acceptRanges"], apart := false, laid := [("unicode/utf8.acceptRanges", laid_unicode_utf8_acceptRanges), ("unicode/utf8.first", laid_unicode_utf8_first)] }
def SpansJoinsSaid : Prop := spansJoinsRow.holds Tryz.pinned (OpenSpec.ofChange spansJoinsSpec)

/-- ITS FALSE NEIGHBOUR: 'it returns false'. Refute it at one input. -/
def spansJoinsWrong : ChangeSpec := { name := "spansJoins", fn := fun _ => fun
  | [d1, d2] => { results := [.lit (.bool false)], args := [d1, d2] }
  | _ => none }
def SpansJoinsWrongFalsely : Prop := spansJoinsRow.holds Tryz.pinned (OpenSpec.ofChange spansJoinsWrong)

/- THE SECOND FORM. 'bulk': how many values and letters a reading holds, each counted each time it is reached (what is shared counts as often as it is met; a slice's spare places count too). A statement '..UptoSaid' is the law's where the arguments, and the package variables that the reading takes, are together of bulk at most 1048576: NARROWER than '..Said'. Prove '..Said' where nothing that the law and all that it calls make is longer than what came in: it says more and counts as full. Else prove '..UptoSaid'. A law counts once. -/
mutual
def uptoBulk {H : Type} : DataW H → Nat
  | .lit (.string bytes) => bytes.length + 1
  | .lit _ => 1
  | .nil => 1
  | .ptr d => uptoBulk d + 1
  | .slice elems spare => uptoBulkAll elems + uptoBulkAll spare + 1
  | .agg parts => uptoBulkAll parts + 1
  | .iface _ d => uptoBulk d + 1
  | .map entries => uptoBulkEntries entries + 1
  | .held _ => 1
def uptoBulkAll {H : Type} : List (DataW H) → Nat
  | [] => 0
  | d :: r => uptoBulk d + uptoBulkAll r
def uptoBulkEntries {H : Type} : List (Lit × DataW H) → Nat
  | [] => 0
  | x :: r => uptoBulkEntry x + uptoBulkEntries r
def uptoBulkEntry {H : Type} : Lit × DataW H → Nat
  | (.string bytes, d) => bytes.length + uptoBulk d + 1
  | (_, d) => uptoBulk d + 1
 end
def uptoSmall : (H : Type) → List (DataW H) → Bool := fun _ ds => decide (uptoBulkAll ds ≤ 1048576)
def OpenSpec.upto (s : _root_.Go.ChangeSpec) : _root_.Go.OpenSpec := { _root_.Go.OpenSpec.ofChange s with cond := some uptoSmall }

/-- 'binderylaw08.SpansTexts', WHERE WHAT IT READS IS OF BULK AT MOST 1048576: true; the input reads as it did. -/
def spansTextsUptoRow : OpenClaim := { program := "ytgiiglcgfbnaoaagreatdoor", sum := "e4ca9d6708f45a2ae8c1add96914e36832f0e5cedd70b30ccfba301f9429f864", func := "bindery/binderylaw08.SpansTexts", spec := "spansTexts", inPlace := ["internal/abi.NoEscape", "internal/bytealg.IndexByteString", "internal/bytealg.IndexString"], unfollowed := true, recurses := true, named := ["internal/bytealg.MaxLen", "unicode/utf8.first", "unicode/utf8.acceptRanges"], loops := true, apart := false, laid := [("unicode/utf8.acceptRanges", laid_unicode_utf8_acceptRanges), ("unicode/utf8.first", laid_unicode_utf8_first)], narrowed := true }
def SpansTextsUptoSaid : Prop := spansTextsUptoRow.holds Tryz.pinned (OpenSpec.upto spansTextsSpec)

/-- 'binderylaw08.SpansBack', WHERE WHAT IT READS IS OF BULK AT MOST 1048576: true; the input reads as it did. -/
def spansBackUptoRow : OpenClaim := { program := "ytgiiglcgfbnaoaagreatdoor", sum := "e4ca9d6708f45a2ae8c1add96914e36832f0e5cedd70b30ccfba301f9429f864", func := "bindery/binderylaw08.SpansBack", spec := "spansBack", inPlace := ["internal/abi.NoEscape", "internal/bytealg.IndexByteString", "internal/bytealg.IndexString"], unfollowed := true, recurses := true, named := ["internal/bytealg.MaxLen", "unicode/utf8.first", "unicode/utf8.acceptRanges"], loops := true, apart := false, laid := [("unicode/utf8.acceptRanges", laid_unicode_utf8_acceptRanges), ("unicode/utf8.first", laid_unicode_utf8_first)], narrowed := true }
def SpansBackUptoSaid : Prop := spansBackUptoRow.holds Tryz.pinned (OpenSpec.upto spansBackSpec)

/-- 'binderylaw08.SpansNone', WHERE WHAT IT READS IS OF BULK AT MOST 1048576: true; the input reads as it did. -/
def spansNoneUptoRow : OpenClaim := { program := "ytgiiglcgfbnaoaagreatdoor", sum := "e4ca9d6708f45a2ae8c1add96914e36832f0e5cedd70b30ccfba301f9429f864", func := "bindery/binderylaw08.SpansNone", spec := "spansNone", inPlace := ["internal/abi.NoEscape", "internal/bytealg.IndexByteString", "internal/bytealg.IndexString"], unfollowed := true, recurses := true, named := ["internal/bytealg.MaxLen", "unicode/utf8.first", "unicode/utf8.acceptRanges"], apart := false, laid := [("unicode/utf8.acceptRanges", laid_unicode_utf8_acceptRanges), ("unicode/utf8.first", laid_unicode_utf8_first)], narrowed := true }
def SpansNoneUptoSaid : Prop := spansNoneUptoRow.holds Tryz.pinned (OpenSpec.upto spansNoneSpec)

/-- 'binderylaw08.SpansSound', WHERE WHAT IT READS IS OF BULK AT MOST 1048576: true; the input reads as it did. -/
def spansSoundUptoRow : OpenClaim := { program := "ytgiiglcgfbnaoaagreatdoor", sum := "e4ca9d6708f45a2ae8c1add96914e36832f0e5cedd70b30ccfba301f9429f864", func := "bindery/binderylaw08.SpansSound", spec := "spansSound", inPlace := ["internal/abi.NoEscape", "internal/bytealg.IndexByteString", "internal/bytealg.IndexString"], unfollowed := true, recurses := true, named := ["internal/bytealg.MaxLen", "unicode/utf8.first", "unicode/utf8.acceptRanges"], apart := false, laid := [("unicode/utf8.acceptRanges", laid_unicode_utf8_acceptRanges), ("unicode/utf8.first", laid_unicode_utf8_first)], narrowed := true }
def SpansSoundUptoSaid : Prop := spansSoundUptoRow.holds Tryz.pinned (OpenSpec.upto spansSoundSpec)

/-- 'binderylaw08.SpansEach', WHERE WHAT IT READS IS OF BULK AT MOST 1048576: true; the input reads as it did. -/
def spansEachUptoRow : OpenClaim := { program := "ytgiiglcgfbnaoaagreatdoor", sum := "e4ca9d6708f45a2ae8c1add96914e36832f0e5cedd70b30ccfba301f9429f864", func := "bindery/binderylaw08.SpansEach", spec := "spansEach", inPlace := ["internal/abi.NoEscape", "internal/bytealg.IndexByteString", "internal/bytealg.IndexString"], unfollowed := true, recurses := true, named := ["internal/bytealg.MaxLen", "unicode/utf8.first", "unicode/utf8.acceptRanges"], apart := false, laid := [("unicode/utf8.acceptRanges", laid_unicode_utf8_acceptRanges), ("unicode/utf8.first", laid_unicode_utf8_first)], narrowed := true }
def SpansEachUptoSaid : Prop := spansEachUptoRow.holds Tryz.pinned (OpenSpec.upto spansEachSpec)

/-- 'binderylaw08.SpansStyles', WHERE WHAT IT READS IS OF BULK AT MOST 1048576: true; the input reads as it did. -/
def spansStylesUptoRow : OpenClaim := { program := "ytgiiglcgfbnaoaagreatdoor", sum := "e4ca9d6708f45a2ae8c1add96914e36832f0e5cedd70b30ccfba301f9429f864", func := "bindery/binderylaw08.SpansStyles", spec := "spansStyles", inPlace := ["internal/abi.NoEscape", "internal/bytealg.IndexByteString", "internal/bytealg.IndexString"], unfollowed := true, recurses := true, named := ["internal/bytealg.MaxLen", "unicode/utf8.first", "unicode/utf8.acceptRanges"], apart := false, laid := [("unicode/utf8.acceptRanges", laid_unicode_utf8_acceptRanges), ("unicode/utf8.first", laid_unicode_utf8_first)], narrowed := true }
def SpansStylesUptoSaid : Prop := spansStylesUptoRow.holds Tryz.pinned (OpenSpec.upto spansStylesSpec)

/-- 'binderylaw08.SpansCode', WHERE WHAT IT READS IS OF BULK AT MOST 1048576: true; the input reads as it did. -/
def spansCodeUptoRow : OpenClaim := { program := "ytgiiglcgfbnaoaagreatdoor", sum := "e4ca9d6708f45a2ae8c1add96914e36832f0e5cedd70b30ccfba301f9429f864", func := "bindery/binderylaw08.SpansCode", spec := "spansCode", inPlace := ["internal/abi.NoEscape", "internal/bytealg.IndexByteString", "internal/bytealg.IndexString"], unfollowed := true, recurses := true, named := ["internal/bytealg.MaxLen", "unicode/utf8.first", "unicode/utf8.acceptRanges"], apart := false, laid := [("unicode/utf8.acceptRanges", laid_unicode_utf8_acceptRanges), ("unicode/utf8.first", laid_unicode_utf8_first)], narrowed := true }
def SpansCodeUptoSaid : Prop := spansCodeUptoRow.holds Tryz.pinned (OpenSpec.upto spansCodeSpec)

/-- 'binderylaw08.SpansJoins', WHERE WHAT IT READS IS OF BULK AT MOST 1048576: true; the input reads as it did. -/
def spansJoinsUptoRow : OpenClaim := { program := "ytgiiglcgfbnaoaagreatdoor", sum := "e4ca9d6708f45a2ae8c1add96914e36832f0e5cedd70b30ccfba301f9429f864", func := "bindery/binderylaw08.SpansJoins", spec := "spansJoins", inPlace := ["internal/abi.NoEscape", "internal/bytealg.IndexByteString", "internal/bytealg.IndexString"], unfollowed := true, recurses := true, named := ["internal/bytealg.MaxLen", "unicode/utf8.first", "unicode/utf8.acceptRanges"], apart := false, laid := [("unicode/utf8.acceptRanges", laid_unicode_utf8_acceptRanges), ("unicode/utf8.first", laid_unicode_utf8_first)], narrowed := true }
def SpansJoinsUptoSaid : Prop := spansJoinsUptoRow.holds Tryz.pinned (OpenSpec.upto spansJoinsSpec)

end Rows
end Go.Proofs.YtgiiglcgfbnaoaaGreatDoor
