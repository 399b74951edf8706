/-
  NARROWER THAN 'FOR EVERY INPUT', by the rows' own cells (each row's printed sentence says how): TermsTexts: laid · TermsBack: laid · TermsAgain: laid · TermsSigns: laid · TermsKeys: laid · TermsLong: laid.
  DERIVED. THE GIVEN ROWS OF THIS SEAT. 6 by the template 'for every input the law returns true; each argument reads behind the call as it read before'; 0 by the template 'total and deterministic' (their statements: YtacghogdodcinaaDoorTotals.lean).
  GIVEN WITH THE SEED: the statements are not yours to turn. If you find one false, say at which input.
  Laid BY PROGRAM, IN A SANDBOX (cutbox-rows.mjs): the forced cells as the released guide's own fill.sh prints them over the translation 942258776d7f21c7… (all of the seat's roots in one cut). By AI agents, Wed Nov 11 2026. No macro, syntax, notation, axiom, sorry.
-/
import Derived.Test.YtacghogdodcinaaDoorChecked
import GoSem.PinnedTables
import GoSem.Claim
import GoSem.ClaimJoined
import GoSem.ClaimMapViews
import Derived.JoinedTies
import Derived.KernelRfl
namespace Go.Proofs.YtacghogdodcinaaDoor
/- THE CELL 'sum', in the pinned program and in every row, IS THE sha256 OF THE DUMP (.gsa) THAT YtacghogdodcinaaDoorProg.lean LOADS. Nothing in Lean hashes anything: it is a label: what it is worth is what the hold of that sum in a sandbox is worth. -/
noncomputable def Tryd.pinned : Pinned := { name := "ytacghogdodcinaadoor", sum := "942258776d7f21c7aeeeb2690ad78d1232497cf8a95fbe4b5092c7a383a454f5", checked := Tryd.checked }
namespace Rows
def none {H : Type} : Left H := { results := [], args := [] }

/- WHAT THE LISTED PACKAGE-LEVEL VARIABLES READ AS WHEN THE CALL BEGINS. Each datum BY PROGRAM (the guide's laid-datum.mjs) off the statement by which the dump's own 'gosem.cut.vars' lays the variable. In a bare row this is a premise. The card (YtacghogdodcinaaDoorCards.lean) ties it to the program's text. -/
def laid_unicode_utf8_acceptRanges {H : Type} : DataW H := .agg [.agg [.lit (.int .u8 128), .lit (.int .u8 191)], .agg [.lit (.int .u8 160), .lit (.int .u8 191)], .agg [.lit (.int .u8 128), .lit (.int .u8 159)], .agg [.lit (.int .u8 144), .lit (.int .u8 191)], .agg [.lit (.int .u8 128), .lit (.int .u8 143)], .agg [.lit (.int .u8 0), .lit (.int .u8 0)], .agg [.lit (.int .u8 0), .lit (.int .u8 0)], .agg [.lit (.int .u8 0), .lit (.int .u8 0)], .agg [.lit (.int .u8 0), .lit (.int .u8 0)], .agg [.lit (.int .u8 0), .lit (.int .u8 0)], .agg [.lit (.int .u8 0), .lit (.int .u8 0)], .agg [.lit (.int .u8 0), .lit (.int .u8 0)], .agg [.lit (.int .u8 0), .lit (.int .u8 0)], .agg [.lit (.int .u8 0), .lit (.int .u8 0)], .agg [.lit (.int .u8 0), .lit (.int .u8 0)], .agg [.lit (.int .u8 0), .lit (.int .u8 0)]]
/-- One of Go's own tables, pinned by name: the form's constant. -/
def laid_unicode_utf8_first : DataW Unit := Go.Pinned.utf8First

/-- 'binderylaw07.TermsTexts': WHATEVER THE INPUT: true; the input reads as it did. -/
def termsTextsSpec : ChangeSpec := { name := "termsTexts", fn := fun _ => fun
  | [d1, d2, d3] => { results := [.lit (.bool true)], args := [d1, d2, d3] }
  | _ => none }
def termsTextsRow : OpenClaim := { program := "ytacghogdodcinaadoor", sum := "942258776d7f21c7aeeeb2690ad78d1232497cf8a95fbe4b5092c7a383a454f5", func := "bindery/binderylaw07.TermsTexts", spec := "termsTexts", inPlace := ["internal/bytealg.IndexByteString", "internal/bytealg.IndexString"], unfollowed := true, recurses := true, named := ["internal/bytealg.MaxLen", "unicode/utf8.first", "unicode/utf8.acceptRanges"], apart := false, laid := [("unicode/utf8.acceptRanges", laid_unicode_utf8_acceptRanges), ("unicode/utf8.first", laid_unicode_utf8_first)] }
def TermsTextsSaid : Prop := termsTextsRow.holds Tryd.pinned (OpenSpec.ofChange termsTextsSpec)

/-- ITS FALSE NEIGHBOUR: 'it returns false'. Refute it at one input. -/
def termsTextsWrong : ChangeSpec := { name := "termsTexts", fn := fun _ => fun
  | [d1, d2, d3] => { results := [.lit (.bool false)], args := [d1, d2, d3] }
  | _ => none }
def TermsTextsWrongFalsely : Prop := termsTextsRow.holds Tryd.pinned (OpenSpec.ofChange termsTextsWrong)

/-- 'binderylaw07.TermsBack': WHATEVER THE INPUT: true; the input reads as it did. -/
def termsBackSpec : ChangeSpec := { name := "termsBack", fn := fun _ => fun
  | [d1, d2, d3] => { results := [.lit (.bool true)], args := [d1, d2, d3] }
  | _ => none }
def termsBackRow : OpenClaim := { program := "ytacghogdodcinaadoor", sum := "942258776d7f21c7aeeeb2690ad78d1232497cf8a95fbe4b5092c7a383a454f5", func := "bindery/binderylaw07.TermsBack", spec := "termsBack", inPlace := ["internal/bytealg.IndexByteString", "internal/bytealg.IndexString"], unfollowed := true, recurses := true, named := ["internal/bytealg.MaxLen", "unicode/utf8.first", "unicode/utf8.acceptRanges"], apart := false, laid := [("unicode/utf8.acceptRanges", laid_unicode_utf8_acceptRanges), ("unicode/utf8.first", laid_unicode_utf8_first)] }
def TermsBackSaid : Prop := termsBackRow.holds Tryd.pinned (OpenSpec.ofChange termsBackSpec)

/-- ITS FALSE NEIGHBOUR: 'it returns false'. Refute it at one input. -/
def termsBackWrong : ChangeSpec := { name := "termsBack", fn := fun _ => fun
  | [d1, d2, d3] => { results := [.lit (.bool false)], args := [d1, d2, d3] }
  | _ => none }
def TermsBackWrongFalsely : Prop := termsBackRow.holds Tryd.pinned (OpenSpec.ofChange termsBackWrong)

/-- 'binderylaw07.TermsAgain': WHATEVER THE INPUT: true; the input reads as it did. -/
def termsAgainSpec : ChangeSpec := { name := "termsAgain", fn := fun _ => fun
  | [d] => { results := [.lit (.bool true)], args := [d] }
  | _ => none }
def termsAgainRow : OpenClaim := { program := "ytacghogdodcinaadoor", sum := "942258776d7f21c7aeeeb2690ad78d1232497cf8a95fbe4b5092c7a383a454f5", func := "bindery/binderylaw07.TermsAgain", spec := "termsAgain", inPlace := ["internal/bytealg.IndexByteString", "internal/bytealg.IndexString"], unfollowed := true, recurses := true, named := ["internal/bytealg.MaxLen", "unicode/utf8.first", "unicode/utf8.acceptRanges"], apart := false, laid := [("unicode/utf8.acceptRanges", laid_unicode_utf8_acceptRanges), ("unicode/utf8.first", laid_unicode_utf8_first)] }
def TermsAgainSaid : Prop := termsAgainRow.holds Tryd.pinned (OpenSpec.ofChange termsAgainSpec)

/-- ITS FALSE NEIGHBOUR: 'it returns false'. Refute it at one input. -/
def termsAgainWrong : ChangeSpec := { name := "termsAgain", fn := fun _ => fun
  | [d] => { results := [.lit (.bool false)], args := [d] }
  | _ => none }
def TermsAgainWrongFalsely : Prop := termsAgainRow.holds Tryd.pinned (OpenSpec.ofChange termsAgainWrong)

/-- 'binderylaw07.TermsSigns': WHATEVER THE INPUT: true; the input reads as it did. -/
def termsSignsSpec : ChangeSpec := { name := "termsSigns", fn := fun _ => fun
  | [d1, d2] => { results := [.lit (.bool true)], args := [d1, d2] }
  | _ => none }
def termsSignsRow : OpenClaim := { program := "ytacghogdodcinaadoor", sum := "942258776d7f21c7aeeeb2690ad78d1232497cf8a95fbe4b5092c7a383a454f5", func := "bindery/binderylaw07.TermsSigns", spec := "termsSigns", inPlace := ["internal/bytealg.IndexByteString", "internal/bytealg.IndexString"], unfollowed := true, recurses := true, named := ["internal/bytealg.MaxLen", "unicode/utf8.first", "unicode/utf8.acceptRanges"], apart := false, laid := [("unicode/utf8.acceptRanges", laid_unicode_utf8_acceptRanges), ("unicode/utf8.first", laid_unicode_utf8_first)] }
def TermsSignsSaid : Prop := termsSignsRow.holds Tryd.pinned (OpenSpec.ofChange termsSignsSpec)

/-- ITS FALSE NEIGHBOUR: 'it returns false'. Refute it at one input. -/
def termsSignsWrong : ChangeSpec := { name := "termsSigns", fn := fun _ => fun
  | [d1, d2] => { results := [.lit (.bool false)], args := [d1, d2] }
  | _ => none }
def TermsSignsWrongFalsely : Prop := termsSignsRow.holds Tryd.pinned (OpenSpec.ofChange termsSignsWrong)

/-- 'binderylaw07.TermsKeys': WHATEVER THE INPUT: true; the input reads as it did. -/
def termsKeysSpec : ChangeSpec := { name := "termsKeys", fn := fun _ => fun
  | [d] => { results := [.lit (.bool true)], args := [d] }
  | _ => none }
def termsKeysRow : OpenClaim := { program := "ytacghogdodcinaadoor", sum := "942258776d7f21c7aeeeb2690ad78d1232497cf8a95fbe4b5092c7a383a454f5", func := "bindery/binderylaw07.TermsKeys", spec := "termsKeys", inPlace := ["internal/bytealg.IndexByteString", "internal/bytealg.IndexString"], unfollowed := true, recurses := true, named := ["internal/bytealg.MaxLen", "unicode/utf8.first", "unicode/utf8.acceptRanges"], apart := false, laid := [("unicode/utf8.acceptRanges", laid_unicode_utf8_acceptRanges), ("unicode/utf8.first", laid_unicode_utf8_first)] }
def TermsKeysSaid : Prop := termsKeysRow.holds Tryd.pinned (OpenSpec.ofChange termsKeysSpec)

/-- ITS FALSE NEIGHBOUR: 'it returns false'. Refute it at one input. -/
def termsKeysWrong : ChangeSpec := { name := "termsKeys", fn := fun _ => fun
  | [d] => { results := [.lit (.bool false)], args := [d] }
  | _ => none }
def TermsKeysWrongFalsely : Prop := termsKeysRow.holds Tryd.pinned (OpenSpec.ofChange termsKeysWrong)

/-- 'binderylaw07.TermsLong': WHATEVER THE INPUT: true; the input reads as it did. -/
def termsLongSpec : ChangeSpec := { name := "termsLong", fn := fun _ => fun
  | [d1, d2] => { results := [.lit (.bool true)], args := [d1, d2] }
  | _ => none }
def termsLongRow : OpenClaim := { program := "ytacghogdodcinaadoor", sum := "942258776d7f21c7aeeeb2690ad78d1232497cf8a95fbe4b5092c7a383a454f5", func := "bindery/binderylaw07.TermsLong", spec := "termsLong", inPlace := ["internal/bytealg.IndexByteString", "internal/bytealg.IndexString"], unfollowed := true, recurses := true, named := ["internal/bytealg.MaxLen", "unicode/utf8.first", "unicode/utf8.acceptRanges"], apart := false, laid := [("unicode/utf8.acceptRanges", laid_unicode_utf8_acceptRanges), ("unicode/utf8.first", laid_unicode_utf8_first)] }
def TermsLongSaid : Prop := termsLongRow.holds Tryd.pinned (OpenSpec.ofChange termsLongSpec)

/-- ITS FALSE NEIGHBOUR: 'it returns false'. Refute it at one input. -/
def termsLongWrong : ChangeSpec := { name := "termsLong", fn := fun _ => fun
  | [d1, d2] => { results := [.lit (.bool false)], args := [d1, d2] }
  | _ => none }
def TermsLongWrongFalsely : Prop := termsLongRow.holds Tryd.pinned (OpenSpec.ofChange termsLongWrong)

/- THE SECOND FORM. 'bulk': how many values and letters a reading holds, each counted each time it is reached (what is shared counts as often as it is met; a slice's spare places count too). A statement '..UptoSaid' is the law's where the arguments, and the package variables that the reading takes, are together of bulk at most 1048576: NARROWER than '..Said'. Prove '..Said' where nothing that the law and all that it calls make is longer than what came in: it says more and counts as full. Else prove '..UptoSaid'. A law counts once. -/
mutual
def uptoBulk {H : Type} : DataW H → Nat
  | .lit (.string bytes) => bytes.length + 1
  | .lit _ => 1
  | .nil => 1
  | .ptr d => uptoBulk d + 1
  | .slice elems spare => uptoBulkAll elems + uptoBulkAll spare + 1
  | .agg parts => uptoBulkAll parts + 1
  | .iface _ d => uptoBulk d + 1
  | .map entries => uptoBulkEntries entries + 1
  | .held _ => 1
def uptoBulkAll {H : Type} : List (DataW H) → Nat
  | [] => 0
  | d :: r => uptoBulk d + uptoBulkAll r
def uptoBulkEntries {H : Type} : List (Lit × DataW H) → Nat
  | [] => 0
  | x :: r => uptoBulkEntry x + uptoBulkEntries r
def uptoBulkEntry {H : Type} : Lit × DataW H → Nat
  | (.string bytes, d) => bytes.length + uptoBulk d + 1
  | (_, d) => uptoBulk d + 1
 end
def uptoSmall : (H : Type) → List (DataW H) → Bool := fun _ ds => decide (uptoBulkAll ds ≤ 1048576)
def OpenSpec.upto (s : _root_.Go.ChangeSpec) : _root_.Go.OpenSpec := { _root_.Go.OpenSpec.ofChange s with cond := some uptoSmall }

/-- 'binderylaw07.TermsTexts', WHERE WHAT IT READS IS OF BULK AT MOST 1048576: true; the input reads as it did. -/
def termsTextsUptoRow : OpenClaim := { program := "ytacghogdodcinaadoor", sum := "942258776d7f21c7aeeeb2690ad78d1232497cf8a95fbe4b5092c7a383a454f5", func := "bindery/binderylaw07.TermsTexts", spec := "termsTexts", inPlace := ["internal/bytealg.IndexByteString", "internal/bytealg.IndexString"], unfollowed := true, recurses := true, named := ["internal/bytealg.MaxLen", "unicode/utf8.first", "unicode/utf8.acceptRanges"], apart := false, laid := [("unicode/utf8.acceptRanges", laid_unicode_utf8_acceptRanges), ("unicode/utf8.first", laid_unicode_utf8_first)], narrowed := true }
def TermsTextsUptoSaid : Prop := termsTextsUptoRow.holds Tryd.pinned (OpenSpec.upto termsTextsSpec)

/-- 'binderylaw07.TermsBack', WHERE WHAT IT READS IS OF BULK AT MOST 1048576: true; the input reads as it did. -/
def termsBackUptoRow : OpenClaim := { program := "ytacghogdodcinaadoor", sum := "942258776d7f21c7aeeeb2690ad78d1232497cf8a95fbe4b5092c7a383a454f5", func := "bindery/binderylaw07.TermsBack", spec := "termsBack", inPlace := ["internal/bytealg.IndexByteString", "internal/bytealg.IndexString"], unfollowed := true, recurses := true, named := ["internal/bytealg.MaxLen", "unicode/utf8.first", "unicode/utf8.acceptRanges"], apart := false, laid := [("unicode/utf8.acceptRanges", laid_unicode_utf8_acceptRanges), ("unicode/utf8.first", laid_unicode_utf8_first)], narrowed := true }
def TermsBackUptoSaid : Prop := termsBackUptoRow.holds Tryd.pinned (OpenSpec.upto termsBackSpec)

/-- 'binderylaw07.TermsAgain', WHERE WHAT IT READS IS OF BULK AT MOST 1048576: true; the input reads as it did. -/
def termsAgainUptoRow : OpenClaim := { program := "ytacghogdodcinaadoor", sum := "942258776d7f21c7aeeeb2690ad78d1232497cf8a95fbe4b5092c7a383a454f5", func := "bindery/binderylaw07.TermsAgain", spec := "termsAgain", inPlace := ["internal/bytealg.IndexByteString", "internal/bytealg.IndexString"], unfollowed := true, recurses := true, named := ["internal/bytealg.MaxLen", "unicode/utf8.first", "unicode/utf8.acceptRanges"], apart := false, laid := [("unicode/utf8.acceptRanges", laid_unicode_utf8_acceptRanges), ("unicode/utf8.first", laid_unicode_utf8_first)], narrowed := true }
def TermsAgainUptoSaid : Prop := termsAgainUptoRow.holds Tryd.pinned (OpenSpec.upto termsAgainSpec)

/-- 'binderylaw07.TermsSigns', WHERE WHAT IT READS IS OF BULK AT MOST 1048576: true; the input reads as it did. -/
def termsSignsUptoRow : OpenClaim := { program := "ytacghogdodcinaadoor", sum := "942258776d7f21c7aeeeb2690ad78d1232497cf8a95fbe4b5092c7a383a454f5", func := "bindery/binderylaw07.TermsSigns", spec := "termsSigns", inPlace := ["internal/bytealg.IndexByteString", "internal/bytealg.IndexString"], unfollowed := true, recurses := true, named := ["internal/bytealg.MaxLen", "unicode/utf8.first", "unicode/utf8.acceptRanges"], apart := false, laid := [("unicode/utf8.acceptRanges", laid_unicode_utf8_acceptRanges), ("unicode/utf8.first", laid_unicode_utf8_first)], narrowed := true }
def TermsSignsUptoSaid : Prop := termsSignsUptoRow.holds Tryd.pinned (OpenSpec.upto termsSignsSpec)

/-- 'binderylaw07.TermsKeys', WHERE WHAT IT READS IS OF BULK AT MOST 1048576: true; the input reads as it did. -/
def termsKeysUptoRow : OpenClaim := { program := "ytacghogdodcinaadoor", sum := "942258776d7f21c7aeeeb2690ad78d1232497cf8a95fbe4b5092c7a383a454f5", func := "bindery/binderylaw07.TermsKeys", spec := "termsKeys", inPlace := ["internal/bytealg.IndexByteString", "internal/bytealg.IndexString"], unfollowed := true, recurses := true, named := ["internal/bytealg.MaxLen", "unicode/utf8.first", "unicode/utf8.acceptRanges"], apart := false, laid := [("unicode/utf8.acceptRanges", laid_unicode_utf8_acceptRanges), ("unicode/utf8.first", laid_unicode_utf8_first)], narrowed := true }
def TermsKeysUptoSaid : Prop := termsKeysUptoRow.holds Tryd.pinned (OpenSpec.upto termsKeysSpec)

/-- 'binderylaw07.TermsLong', WHERE WHAT IT READS IS OF BULK AT MOST 1048576: true; the input reads as it did. -/
def termsLongUptoRow : OpenClaim := { program := "ytacghogdodcinaadoor", sum := "942258776d7f21c7aeeeb2690ad78d1232497cf8a95fbe4b5092c7a383a454f5", func := "bindery/binderylaw07.TermsLong", spec := "termsLong", inPlace := ["internal/bytealg.IndexByteString", "internal/bytealg.IndexString"], unfollowed := true, recurses := true, named := ["internal/bytealg.MaxLen", "unicode/utf8.first", "unicode/utf8.acceptRanges"], apart := false, laid := [("unicode/utf8.acceptRanges", laid_unicode_utf8_acceptRanges), ("unicode/utf8.first", laid_unicode_utf8_first)], narrowed := true }
def TermsLongUptoSaid : Prop := termsLongUptoRow.holds Tryd.pinned (OpenSpec.upto termsLongSpec)

end Rows
end Go.Proofs.YtacghogdodcinaaDoor
