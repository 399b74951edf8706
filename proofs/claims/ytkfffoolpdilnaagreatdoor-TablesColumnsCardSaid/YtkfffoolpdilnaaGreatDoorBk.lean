/-
  Memory: a Book, and the lists that it is told of. No condition.
-/
import Derived.Test.YtkfffoolpdilnaaGreatDoorVec
import Derived.Test.YtkfffoolpdilnaaGreatDoorChecked
import Derived.Test.YtkfffoolpdilnaaGreatDoorMem
import Derived.IntWalk
import Derived.Deep.Light
import Derived.Handy
import Derived.Lib.Hide
import Derived.BigQuiet
import Derived.Deep.LoopGhost
import Derived.Below
import Derived.WalkKit
import Derived.WalkSpells
import Derived.Deep.RegionHeld3
import Derived.Deep.AppendLies
import Derived.Deep.DrawnRows
import Derived.Outline
namespace Go.Proofs.YtkfffoolpdilnaaGreatDoor
open Go.RowKit Go.Bd
end Go.Proofs.YtkfffoolpdilnaaGreatDoor
