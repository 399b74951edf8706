/-
  NARROWER THAN 'FOR EVERY INPUT', by the rows' own cells (each row's printed sentence says how): TablesBack: laid · TablesCells: laid · TablesAligned: laid · TablesWide: laid · TablesEven: laid.
  DERIVED. THE GIVEN ROWS OF THIS SEAT. 5 by the template 'for every input the law returns true; each argument reads behind the call as it read before'; 0 by the template 'total and deterministic' (their statements: YtkfffoolpdilnaaDoorTotals.lean).
  GIVEN WITH THE SEED: the statements are not yours to turn. If you find one false, say at which input.
  Laid BY PROGRAM, IN A SANDBOX (cutbox-rows.mjs): the forced cells as the released guide's own fill.sh prints them over the translation 01a0945b8aebbf17… (all of the seat's roots in one cut). By AI agents, Wed Nov 11 2026. No macro, syntax, notation, axiom, sorry.
-/
import Derived.Test.YtkfffoolpdilnaaDoorChecked
import GoSem.PinnedTables
import GoSem.Claim
import GoSem.ClaimJoined
import GoSem.ClaimMapViews
import Derived.JoinedTies
import Derived.KernelRfl
namespace Go.Proofs.YtkfffoolpdilnaaDoor
/- THE CELL 'sum', in the pinned program and in every row, IS THE sha256 OF THE DUMP (.gsa) THAT YtkfffoolpdilnaaDoorProg.lean LOADS. Nothing in Lean hashes anything: it is a label: what it is worth is what the hold of that sum in a sandbox is worth. -/
noncomputable def Tryd.pinned : Pinned := { name := "ytkfffoolpdilnaadoor", sum := "01a0945b8aebbf172db5bdf466ee7657884af16ce998a9e59cbea3cdfd6d287c", checked := Tryd.checked }
namespace Rows
def none {H : Type} : Left H := { results := [], args := [] }

/- WHAT THE LISTED PACKAGE-LEVEL VARIABLES READ AS WHEN THE CALL BEGINS. Each datum BY PROGRAM (the guide's laid-datum.mjs) off the statement by which the dump's own 'gosem.cut.vars' lays the variable. In a bare row this is a premise. The card (YtkfffoolpdilnaaDoorCards.lean) ties it to the program's text. -/
def laid_unicode_utf8_acceptRanges {H : Type} : DataW H := .agg [.agg [.lit (.int .u8 128), .lit (.int .u8 191)], .agg [.lit (.int .u8 160), .lit (.int .u8 191)], .agg [.lit (.int .u8 128), .lit (.int .u8 159)], .agg [.lit (.int .u8 144), .lit (.int .u8 191)], .agg [.lit (.int .u8 128), .lit (.int .u8 143)], .agg [.lit (.int .u8 0), .lit (.int .u8 0)], .agg [.lit (.int .u8 0), .lit (.int .u8 0)], .agg [.lit (.int .u8 0), .lit (.int .u8 0)], .agg [.lit (.int .u8 0), .lit (.int .u8 0)], .agg [.lit (.int .u8 0), .lit (.int .u8 0)], .agg [.lit (.int .u8 0), .lit (.int .u8 0)], .agg [.lit (.int .u8 0), .lit (.int .u8 0)], .agg [.lit (.int .u8 0), .lit (.int .u8 0)], .agg [.lit (.int .u8 0), .lit (.int .u8 0)], .agg [.lit (.int .u8 0), .lit (.int .u8 0)], .agg [.lit (.int .u8 0), .lit (.int .u8 0)]]
/-- One of Go's own tables, pinned by name: the form's constant. -/
def laid_unicode_utf8_first : DataW Unit := Go.Pinned.utf8First

/-- 'binderylaw09.TablesBack': WHATEVER THE INPUT: true; the input reads as it did. -/
def tablesBackSpec : ChangeSpec := { name := "tablesBack", fn := fun _ => fun
  | [d] => { results := [.lit (.bool true)], args := [d] }
  | _ => none }
def tablesBackRow : OpenClaim := { program := "ytkfffoolpdilnaadoor", sum := "01a0945b8aebbf172db5bdf466ee7657884af16ce998a9e59cbea3cdfd6d287c", func := "bindery/binderylaw09.TablesBack", spec := "tablesBack", inPlace := ["internal/bytealg.IndexByteString", "internal/bytealg.IndexString", "internal/bytealg.CountString", "internal/abi.NoEscape", "internal/bytealg.MakeNoZero"], unfollowed := true, recurses := true, named := ["unicode/utf8.first", "unicode/utf8.acceptRanges", "internal/bytealg.MaxLen"], apart := false, laid := [("unicode/utf8.acceptRanges", laid_unicode_utf8_acceptRanges), ("unicode/utf8.first", laid_unicode_utf8_first)] }
def TablesBackSaid : Prop := tablesBackRow.holds Tryd.pinned (OpenSpec.ofChange tablesBackSpec)

/-- ITS FALSE NEIGHBOUR: 'it returns false'. Refute it at one input. -/
def tablesBackWrong : ChangeSpec := { name := "tablesBack", fn := fun _ => fun
  | [d] => { results := [.lit (.bool false)], args := [d] }
  | _ => none }
def TablesBackWrongFalsely : Prop := tablesBackRow.holds Tryd.pinned (OpenSpec.ofChange tablesBackWrong)

/-- 'binderylaw09.TablesCells': WHATEVER THE INPUT: true; the input reads as it did. -/
def tablesCellsSpec : ChangeSpec := { name := "tablesCells", fn := fun _ => fun
  | [d] => { results := [.lit (.bool true)], args := [d] }
  | _ => none }
def tablesCellsRow : OpenClaim := { program := "ytkfffoolpdilnaadoor", sum := "01a0945b8aebbf172db5bdf466ee7657884af16ce998a9e59cbea3cdfd6d287c", func := "bindery/binderylaw09.TablesCells", spec := "tablesCells", inPlace := ["internal/bytealg.IndexByteString", "internal/bytealg.IndexString", "internal/bytealg.CountString", "internal/abi.NoEscape", "internal/bytealg.MakeNoZero"], unfollowed := true, recurses := true, named := ["unicode/utf8.first", "unicode/utf8.acceptRanges", "internal/bytealg.MaxLen"], apart := false, laid := [("unicode/utf8.acceptRanges", laid_unicode_utf8_acceptRanges), ("unicode/utf8.first", laid_unicode_utf8_first)] }
def TablesCellsSaid : Prop := tablesCellsRow.holds Tryd.pinned (OpenSpec.ofChange tablesCellsSpec)

/-- ITS FALSE NEIGHBOUR: 'it returns false'. Refute it at one input. -/
def tablesCellsWrong : ChangeSpec := { name := "tablesCells", fn := fun _ => fun
  | [d] => { results := [.lit (.bool false)], args := [d] }
  | _ => none }
def TablesCellsWrongFalsely : Prop := tablesCellsRow.holds Tryd.pinned (OpenSpec.ofChange tablesCellsWrong)

/-- 'binderylaw09.TablesAligned': WHATEVER THE INPUT: true; the input reads as it did. -/
def tablesAlignedSpec : ChangeSpec := { name := "tablesAligned", fn := fun _ => fun
  | [d] => { results := [.lit (.bool true)], args := [d] }
  | _ => none }
def tablesAlignedRow : OpenClaim := { program := "ytkfffoolpdilnaadoor", sum := "01a0945b8aebbf172db5bdf466ee7657884af16ce998a9e59cbea3cdfd6d287c", func := "bindery/binderylaw09.TablesAligned", spec := "tablesAligned", inPlace := ["internal/bytealg.IndexByteString", "internal/bytealg.IndexString", "internal/bytealg.CountString", "internal/abi.NoEscape", "internal/bytealg.MakeNoZero"], unfollowed := true, recurses := true, named := ["unicode/utf8.first", "unicode/utf8.acceptRanges", "internal/bytealg.MaxLen"], apart := false, laid := [("unicode/utf8.acceptRanges", laid_unicode_utf8_acceptRanges), ("unicode/utf8.first", laid_unicode_utf8_first)] }
def TablesAlignedSaid : Prop := tablesAlignedRow.holds Tryd.pinned (OpenSpec.ofChange tablesAlignedSpec)

/-- ITS FALSE NEIGHBOUR: 'it returns false'. Refute it at one input. -/
def tablesAlignedWrong : ChangeSpec := { name := "tablesAligned", fn := fun _ => fun
  | [d] => { results := [.lit (.bool false)], args := [d] }
  | _ => none }
def TablesAlignedWrongFalsely : Prop := tablesAlignedRow.holds Tryd.pinned (OpenSpec.ofChange tablesAlignedWrong)

/-- 'binderylaw09.TablesWide': WHATEVER THE INPUT: true; the input reads as it did. -/
def tablesWideSpec : ChangeSpec := { name := "tablesWide", fn := fun _ => fun
  | [d] => { results := [.lit (.bool true)], args := [d] }
  | _ => none }
def tablesWideRow : OpenClaim := { program := "ytkfffoolpdilnaadoor", sum := "01a0945b8aebbf172db5bdf466ee7657884af16ce998a9e59cbea3cdfd6d287c", func := "bindery/binderylaw09.TablesWide", spec := "tablesWide", inPlace := ["internal/bytealg.IndexByteString", "internal/bytealg.IndexString", "internal/bytealg.CountString", "internal/abi.NoEscape", "internal/bytealg.MakeNoZero"], unfollowed := true, recurses := true, named := ["unicode/utf8.first", "unicode/utf8.acceptRanges", "internal/bytealg.MaxLen"], apart := false, laid := [("unicode/utf8.acceptRanges", laid_unicode_utf8_acceptRanges), ("unicode/utf8.first", laid_unicode_utf8_first)] }
def TablesWideSaid : Prop := tablesWideRow.holds Tryd.pinned (OpenSpec.ofChange tablesWideSpec)

/-- ITS FALSE NEIGHBOUR: 'it returns false'. Refute it at one input. -/
def tablesWideWrong : ChangeSpec := { name := "tablesWide", fn := fun _ => fun
  | [d] => { results := [.lit (.bool false)], args := [d] }
  | _ => none }
def TablesWideWrongFalsely : Prop := tablesWideRow.holds Tryd.pinned (OpenSpec.ofChange tablesWideWrong)

/-- 'binderylaw09.TablesEven': WHATEVER THE INPUT: true; the input reads as it did. -/
def tablesEvenSpec : ChangeSpec := { name := "tablesEven", fn := fun _ => fun
  | [d] => { results := [.lit (.bool true)], args := [d] }
  | _ => none }
def tablesEvenRow : OpenClaim := { program := "ytkfffoolpdilnaadoor", sum := "01a0945b8aebbf172db5bdf466ee7657884af16ce998a9e59cbea3cdfd6d287c", func := "bindery/binderylaw09.TablesEven", spec := "tablesEven", inPlace := ["internal/bytealg.IndexByteString", "internal/bytealg.IndexString", "internal/bytealg.CountString", "internal/abi.NoEscape", "internal/bytealg.MakeNoZero"], unfollowed := true, recurses := true, named := ["unicode/utf8.first", "unicode/utf8.acceptRanges", "internal/bytealg.MaxLen"], apart := false, laid := [("unicode/utf8.acceptRanges", laid_unicode_utf8_acceptRanges), ("unicode/utf8.first", laid_unicode_utf8_first)] }
def TablesEvenSaid : Prop := tablesEvenRow.holds Tryd.pinned (OpenSpec.ofChange tablesEvenSpec)

/-- ITS FALSE NEIGHBOUR: 'it returns false'. Refute it at one input. -/
def tablesEvenWrong : ChangeSpec := { name := "tablesEven", fn := fun _ => fun
  | [d] => { results := [.lit (.bool false)], args := [d] }
  | _ => none }
def TablesEvenWrongFalsely : Prop := tablesEvenRow.holds Tryd.pinned (OpenSpec.ofChange tablesEvenWrong)

/- THE SECOND FORM. 'bulk': how many values and letters a reading holds, each counted each time it is reached (what is shared counts as often as it is met; a slice's spare places count too). A statement '..UptoSaid' is the law's where the arguments, and the package variables that the reading takes, are together of bulk at most 1048576: NARROWER than '..Said'. Prove '..Said' where nothing that the law and all that it calls make is longer than what came in: it says more and counts as full. Else prove '..UptoSaid'. A law counts once. -/
mutual
def uptoBulk {H : Type} : DataW H → Nat
  | .lit (.string bytes) => bytes.length + 1
  | .lit _ => 1
  | .nil => 1
  | .ptr d => uptoBulk d + 1
  | .slice elems spare => uptoBulkAll elems + uptoBulkAll spare + 1
  | .agg parts => uptoBulkAll parts + 1
  | .iface _ d => uptoBulk d + 1
  | .map entries => uptoBulkEntries entries + 1
  | .held _ => 1
def uptoBulkAll {H : Type} : List (DataW H) → Nat
  | [] => 0
  | d :: r => uptoBulk d + uptoBulkAll r
def uptoBulkEntries {H : Type} : List (Lit × DataW H) → Nat
  | [] => 0
  | x :: r => uptoBulkEntry x + uptoBulkEntries r
def uptoBulkEntry {H : Type} : Lit × DataW H → Nat
  | (.string bytes, d) => bytes.length + uptoBulk d + 1
  | (_, d) => uptoBulk d + 1
 end
def uptoSmall : (H : Type) → List (DataW H) → Bool := fun _ ds => decide (uptoBulkAll ds ≤ 1048576)
def OpenSpec.upto (s : _root_.Go.ChangeSpec) : _root_.Go.OpenSpec := { _root_.Go.OpenSpec.ofChange s with cond := some uptoSmall }

/-- 'binderylaw09.TablesBack', WHERE WHAT IT READS IS OF BULK AT MOST 1048576: true; the input reads as it did. -/
def tablesBackUptoRow : OpenClaim := { program := "ytkfffoolpdilnaadoor", sum := "01a0945b8aebbf172db5bdf466ee7657884af16ce998a9e59cbea3cdfd6d287c", func := "bindery/binderylaw09.TablesBack", spec := "tablesBack", inPlace := ["internal/bytealg.IndexByteString", "internal/bytealg.IndexString", "internal/bytealg.CountString", "internal/abi.NoEscape", "internal/bytealg.MakeNoZero"], unfollowed := true, recurses := true, named := ["unicode/utf8.first", "unicode/utf8.acceptRanges", "internal/bytealg.MaxLen"], apart := false, laid := [("unicode/utf8.acceptRanges", laid_unicode_utf8_acceptRanges), ("unicode/utf8.first", laid_unicode_utf8_first)], narrowed := true }
def TablesBackUptoSaid : Prop := tablesBackUptoRow.holds Tryd.pinned (OpenSpec.upto tablesBackSpec)

/-- 'binderylaw09.TablesCells', WHERE WHAT IT READS IS OF BULK AT MOST 1048576: true; the input reads as it did. -/
def tablesCellsUptoRow : OpenClaim := { program := "ytkfffoolpdilnaadoor", sum := "01a0945b8aebbf172db5bdf466ee7657884af16ce998a9e59cbea3cdfd6d287c", func := "bindery/binderylaw09.TablesCells", spec := "tablesCells", inPlace := ["internal/bytealg.IndexByteString", "internal/bytealg.IndexString", "internal/bytealg.CountString", "internal/abi.NoEscape", "internal/bytealg.MakeNoZero"], unfollowed := true, recurses := true, named := ["unicode/utf8.first", "unicode/utf8.acceptRanges", "internal/bytealg.MaxLen"], apart := false, laid := [("unicode/utf8.acceptRanges", laid_unicode_utf8_acceptRanges), ("unicode/utf8.first", laid_unicode_utf8_first)], narrowed := true }
def TablesCellsUptoSaid : Prop := tablesCellsUptoRow.holds Tryd.pinned (OpenSpec.upto tablesCellsSpec)

/-- 'binderylaw09.TablesAligned', WHERE WHAT IT READS IS OF BULK AT MOST 1048576: true; the input reads as it did. -/
def tablesAlignedUptoRow : OpenClaim := { program := "ytkfffoolpdilnaadoor", sum := "01a0945b8aebbf172db5bdf466ee7657884af16ce998a9e59cbea3cdfd6d287c", func := "bindery/binderylaw09.TablesAligned", spec := "tablesAligned", inPlace := ["internal/bytealg.IndexByteString", "internal/bytealg.IndexString", "internal/bytealg.CountString", "internal/abi.NoEscape", "internal/bytealg.MakeNoZero"], unfollowed := true, recurses := true, named := ["unicode/utf8.first", "unicode/utf8.acceptRanges", "internal/bytealg.MaxLen"], apart := false, laid := [("unicode/utf8.acceptRanges", laid_unicode_utf8_acceptRanges), ("unicode/utf8.first", laid_unicode_utf8_first)], narrowed := true }
def TablesAlignedUptoSaid : Prop := tablesAlignedUptoRow.holds Tryd.pinned (OpenSpec.upto tablesAlignedSpec)

/-- 'binderylaw09.TablesWide', WHERE WHAT IT READS IS OF BULK AT MOST 1048576: true; the input reads as it did. -/
def tablesWideUptoRow : OpenClaim := { program := "ytkfffoolpdilnaadoor", sum := "01a0945b8aebbf172db5bdf466ee7657884af16ce998a9e59cbea3cdfd6d287c", func := "bindery/binderylaw09.TablesWide", spec := "tablesWide", inPlace := ["internal/bytealg.IndexByteString", "internal/bytealg.IndexString", "internal/bytealg.CountString", "internal/abi.NoEscape", "internal/bytealg.MakeNoZero"], unfollowed := true, recurses := true, named := ["unicode/utf8.first", "unicode/utf8.acceptRanges", "internal/bytealg.MaxLen"], apart := false, laid := [("unicode/utf8.acceptRanges", laid_unicode_utf8_acceptRanges), ("unicode/utf8.first", laid_unicode_utf8_first)], narrowed := true }
def TablesWideUptoSaid : Prop := tablesWideUptoRow.holds Tryd.pinned (OpenSpec.upto tablesWideSpec)

/-- 'binderylaw09.TablesEven', WHERE WHAT IT READS IS OF BULK AT MOST 1048576: true; the input reads as it did. -/
def tablesEvenUptoRow : OpenClaim := { program := "ytkfffoolpdilnaadoor", sum := "01a0945b8aebbf172db5bdf466ee7657884af16ce998a9e59cbea3cdfd6d287c", func := "bindery/binderylaw09.TablesEven", spec := "tablesEven", inPlace := ["internal/bytealg.IndexByteString", "internal/bytealg.IndexString", "internal/bytealg.CountString", "internal/abi.NoEscape", "internal/bytealg.MakeNoZero"], unfollowed := true, recurses := true, named := ["unicode/utf8.first", "unicode/utf8.acceptRanges", "internal/bytealg.MaxLen"], apart := false, laid := [("unicode/utf8.acceptRanges", laid_unicode_utf8_acceptRanges), ("unicode/utf8.first", laid_unicode_utf8_first)], narrowed := true }
def TablesEvenUptoSaid : Prop := tablesEvenUptoRow.holds Tryd.pinned (OpenSpec.upto tablesEvenSpec)

end Rows
end Go.Proofs.YtkfffoolpdilnaaDoor
