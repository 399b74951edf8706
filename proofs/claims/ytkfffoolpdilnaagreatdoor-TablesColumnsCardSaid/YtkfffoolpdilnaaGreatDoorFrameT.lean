/-
  What the claims of laws with a Book share: a world that holds the library's five tables; the table of powers out of what a row lists.
-/
import Derived.Test.YtkfffoolpdilnaaGreatDoorFrame2
import Derived.Test.YtkfffoolpdilnaaGreatDoorBkW
import Derived.Lib.TrailingZeros
namespace Go.Proofs.YtkfffoolpdilnaaGreatDoor
open Go.RowKit Go.WideShapes Go.ChangeShapes
noncomputable def laidWorldT (os : Os) : World :=
  { laidWorld os with heap := putCells (putCells (putCells (laidWorld os).heap 3 (Lib.pow10Tab.map fun z => Value.int .u64 z).toArray) 4 (Lib.deBruijn32tab.map fun (n : Nat) => Value.int .u8 (n : Int)).toArray) 5 (Lib.deBruijn64tab.map fun (n : Nat) => Value.int .u8 (n : Int)).toArray }
theorem tab_third {W : World} {x y : String × DataW Unit} {rest : List (String × DataW Unit)} (h : laidMet Tryz.prog (x :: y :: ("internal/strconv.uint64pow10", Lib.tabData .u64 Lib.pow10Tab) :: rest) W) : Tab W := by
  obtain ⟨ps, h1, _⟩ := h
  obtain ⟨_, _, _, _, _, _, _, _, _, _, h2, _⟩ := h1
  obtain ⟨_, _, _, _, _, _, _, _, _, _, h3, _⟩ := h2
  obtain ⟨g', t', cs, fuel, p, q, hg', ht', hvar, hd, _, _⟩ := h3
  obtain rfl := Option.some.inj ((show Tryz.prog.globalNamed "internal/strconv.uint64pow10" = some 3 by kernel_rfl).symm.trans hg')
  obtain rfl := Option.some.inj ((show (Tryz.prog.globals[3]?).map (·.type) = some 236 by kernel_rfl).symm.trans ht')
  unfold Tab Lib.TabIs
  rw [hvar, ← Lib.cells_of_tab (k := .u64) Tryz.underlying236 Tryz.underlying212 (by kernel_rfl) (by kernel_rfl) hd]
end Go.Proofs.YtkfffoolpdilnaaGreatDoor
