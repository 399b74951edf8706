/-
  Walks: a Book's marks as ints.
-/
import Derived.Test.YtkfffoolpdilnaaGreatDoorBkW
namespace Go.Proofs.YtkfffoolpdilnaaGreatDoor.IntB
open Go.RowKit Go.Bd
/-- a mark as an int -/
def imark (n : Nat) : Int := -1000 - (n : Int)
theorem markInt_any (n : Nat) (hn : n ≤ 1000000000) (w : World) (ht : Tab w) :
    Calls Tryz.prog 95 #[.int .i64 (n : Int)] w fun e w' => e = .returned (.int .i64 (imark n)) ∧ Below w.heap.size w w' := by
  clear ht
  unfold imark
  go_enter Tryz.func95, Tryz.ntmps95
  go_wp2
  go_ret
  exact ⟨rfl, Below.refl _ _⟩
theorem isInt_any (n : Nat) (hn : n ≤ 1000000000) (w : World) (ht : Tab w) :
    Calls Tryz.prog 112 #[.int .i64 (imark n), .int .i64 (n : Int)] w fun e w' => e = .returned (.bool true) ∧ Below w.heap.size w w' := by
  clear ht
  unfold imark
  go_enter Tryz.func112, Tryz.ntmps112
  go_wp2
  go_ret
  exact ⟨by simp, Below.refl _ _⟩
end Go.Proofs.YtkfffoolpdilnaaGreatDoor.IntB
