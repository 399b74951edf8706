/-
  Walks: Trim of the reference.
-/
import Derived.Test.YtacghogdodcinaaDoorTW1
namespace Go.Proofs.YtacghogdodcinaaDoor
open Go.RowKit Go.Bd
set_option maxHeartbeats 400000 in
theorem trim_any (s : ByteArray) (w : World) (hs : s.size ≤ 9223372036854775807) :
    Calls Tryd.prog 26 #[.string s] w fun e w' => e = .returned (.string ⟨(trim s.data.toList).toArray⟩) ∧ w = w' := by
  go_enter Tryd.func26, Tryd.ntmps26
  go_wp2
  go_loop [0] (fun v => ∃ t : ByteArray, t.size ≤ s.size ∧ v = .string t ∧ Hid (dropL t.data.toList = dropL s.data.toList)) (fun v => (strOf v).size)
  case atStart => exact ⟨s, Nat.le_refl _, rfl, rfl⟩
  case round =>
    obtain ⟨t, hk, rfl, H⟩ := hrel
    go_wp2
    · exact ⟨⟨_, by simp; omega, rfl, by unfold Hid; rw [dropL_hit ‹_› (.inl ‹_›)]; exact H.out⟩, by simp [strOf]; omega⟩
    · exact ⟨⟨_, by simp; omega, rfl, by unfold Hid; rw [dropL_hit2 ‹_› ‹_›]; exact H.out⟩, by simp [strOf]; omega⟩
    all_goals
      have hd : Hid (t.data.toList = dropL s.data.toList) := by
        rw [← H.out]; unfold Hid
        first
          | rw [dropL_none ‹_›]
          | (rw [dropL_stop2 ‹_› ‹_›])
      clear H
      go_loop [0] (fun v => ∃ u : ByteArray, u.size ≤ s.size ∧ v = .string u ∧ Hid (dropR u.data.toList = dropR t.data.toList)) (fun v => (strOf v).size)
      case atStart => exact ⟨t, by omega, rfl, rfl⟩
      case round =>
        obtain ⟨u, hk, rfl, H⟩ := hrel
        go_wp2
        · exact ⟨⟨_, by simp; omega, rfl, by unfold Hid; rw [dropR_hit ‹_› (.inl ‹_›)]; exact H.out⟩, by simp [strOf]; omega⟩
        · exact ⟨⟨_, by simp; omega, rfl, by unfold Hid; rw [dropR_hit2 ‹_› ‹_›]; exact H.out⟩, by simp [strOf]; omega⟩
        all_goals
          go_ret
          refine ⟨ret_str ?_, rfl⟩
          rw [trim, ← hd.out, ← H.out]
          first
            | rw [dropR_none ‹_›]
            | rw [dropR_stop2 ‹_› ‹_›]
end Go.Proofs.YtacghogdodcinaaDoor
