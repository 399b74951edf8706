/-
  Walks of the small functions on texts: first.
-/
import Derived.Test.YtacghogdodcinaaDoorChecked
import Derived.Test.YtacghogdodcinaaDoorBytes
import Derived.WalkKit
import Derived.WalkSpells
import Derived.WalkLawsBesides
import Derived.Outline
import Derived.Deep.Light
import Derived.Lib.Hide
import Derived.Handy
namespace Go.Proofs.YtacghogdodcinaaDoor
open Go.RowKit Go.Bd
theorem ret_int {k : IntKind} {a b : Int} (h : a = b) : Ending.returned (.int k a) = .returned (.int k b) := by rw [h]

set_option maxHeartbeats 400000 in
theorem first_any (s : ByteArray) (c : Int) (w : World) (hs : s.size ≤ 9223372036854775807) :
    Calls Tryd.prog 25 #[.string s, .int .u8 c] w fun e w' => e = .returned (.int .i64 (first s.data.toList c)) ∧ w = w' := by
  go_enter Tryd.func25, Tryd.ntmps25
  go_wp2
  go_loop [5] (fun i => ∃ k : Nat, k ≤ s.size ∧ i = .int .i64 k ∧ NoBefore s c k) (fun i => s.size - (intOf i).toNat)
  case atStart => exact ⟨0, Nat.zero_le _, rfl, .zero _ _⟩
  case round =>
    obtain ⟨k, hk, rfl, H⟩ := hrel
    go_wp2
    · go_ret
      exact ⟨ret_int (by rw [H.hit ‹_› ‹_›]), rfl⟩
    · exact ⟨⟨k + 1, by omega, by go_num, H.succ ‹_› ‹_›⟩, by simp [intOf]; omega⟩
    · obtain rfl : k = s.size := by omega
      go_ret
      exact ⟨ret_int (by rw [H.none]), rfl⟩
end Go.Proofs.YtacghogdodcinaaDoor
