/-
  Walks: Key of the reference.
-/
import Derived.Test.YtacghogdodcinaaDoorTW5
namespace Go.Proofs.YtacghogdodcinaaDoor
open Go.RowKit Go.Bd
theorem beg_cell (j : Nat) (hj : j < 3) : (#[Value.string ⟨#[116, 104, 101, 32]⟩, .string ⟨#[97, 32]⟩, .string ⟨#[97, 110, 32]⟩] : Array Value)[j]? = some (.string (beg j)) := by
  match j, hj with
  | 0, _ => rfl
  | 1, _ => rfl
  | 2, _ => rfl
theorem prefix_eq (t b : ByteArray) : ((t.extract 0 b.size).toList == b.toList) = b.data.toList.isPrefixOf t.data.toList := by
  rw [Bool.eq_iff_iff, beq_iff_eq, isPrefixOf_iff, ByteArray.toList_eq, ByteArray.toList_eq, extract_list]
  simp
set_option maxHeartbeats 400000 in
theorem refKey_any (s : ByteArray) (w : World) (hs : s.size ≤ 140737488355328) :
    Calls Tryd.prog 13 #[.string s] w fun e w' => e = .returned (strV (key s.data.toList)) ∧ Below w.heap.size w w' := by
  obtain ⟨t, ht⟩ : ∃ t : ByteArray, t = ⟨(lower s.data.toList).toArray⟩ := ⟨_, rfl⟩
  have hts : t.size ≤ 140737488355328 := by rw [ht, size_mk, lower_length, ← size_list]; exact hs
  have hl := refLower_any s w hs
  rw [← ht] at hl
  have Ht := Lib.hid ht
  clear ht
  go_enter Tryd.func13, Tryd.ntmps13
  go_wp2_with (go_at_call 19; refine hl.mono ?_; rintro e w1 ⟨rfl, hb⟩)
  go_loopg [5] 3 (fun g v wr => ∃ j : Nat, j + g = 3 ∧ v = .int .i64 j ∧ Hid (∀ i, i < j → (beg i).data.toList.isPrefixOf t.data.toList = false) ∧ Holds wr w1.heap.size 9 #[.string ⟨#[116, 104, 101, 32]⟩, .string ⟨#[97, 32]⟩, .string ⟨#[97, 110, 32]⟩] ∧ Below w.heap.size w wr)
  case atStart => exact ⟨0, rfl, rfl, fun i hi => by omega, Holds.new _ _ _, hb.alloc hb.size _⟩
  case round =>
    obtain ⟨j, hj, rfl, H, hh, hbr⟩ := hrel
    obtain ⟨gO, hgO⟩ : ∃ g, g = gk := ⟨_, rfl⟩
    subst hgO
    by_cases hlt : j < 3
    · have hi := (hh.cell j).trans (beg_cell j hlt)
      obtain ⟨hb2, hb4⟩ := beg_size j
      obtain ⟨b, hbe⟩ : ∃ b, b = beg j := ⟨_, rfl⟩
      rw [← hbe] at hi hb2 hb4
      have Hb := Lib.hid hbe
      clear hbe
      have HH := Lib.hid hh
      clear hh
      by_cases h1 : b.size ≤ t.size
      · have h1' : decide ((b.size : Int) ≤ (t.size : Int)) = true := by simpa using h1
        go_wp2
        go_quiet (fail)
        go_wp2
        · have hp : ((t.extract 0 b.size).toList == b.toList) = true := by assumption
          go_ret
          refine ⟨?_, below_drewN hbr _⟩
          have ht := Ht.out
          have hbe := Hb.out
          rw [prefix_eq] at hp
          subst hbe
          have e := key_hit hlt (l := s.data.toList) (by subst ht; exact H.out) (by subst ht; exact hp)
          rw [e, strV]
          refine ret_str ?_
          rw [extract_list, take_rest, ht]
        · have hp : ((t.extract 0 b.size).toList == b.toList) = false := by assumption
          rw [prefix_eq, Hb.out] at hp
          go_roundg (gO - 1)
          case measure => omega
          case rel => exact ⟨j + 1, by omega, by go_num, not_upto H.out hp, HH.out, below_drewN hbr _⟩
      · have h1' : decide ((b.size : Int) ≤ (t.size : Int)) = false := by simpa using h1
        have hp : Hid ((beg j).data.toList.isPrefixOf t.data.toList = false) := by
          rw [← Hb.out]; exact no_prefix (k := t.size) (by omega) (fun h => by omega)
        go_wp2
        go_quiet (fail)
        go_wp2
        go_roundg (gO - 1)
        case measure => omega
        case rel => exact ⟨j + 1, by omega, by go_num, not_upto H.out hp.out, HH.out, below_drewN hbr _⟩
    · obtain rfl : j = 3 := by omega
      go_wp2
      go_ret
      refine ⟨?_, hbr⟩
      have ht := Ht.out
      subst ht
      exact congrArg (fun l => Ending.returned (strV l)) (key_none H.out).symm
end Go.Proofs.YtacghogdodcinaaDoor
