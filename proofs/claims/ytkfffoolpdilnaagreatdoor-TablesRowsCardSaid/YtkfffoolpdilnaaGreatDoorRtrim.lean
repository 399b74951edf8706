/-
  Walks: blanks and trim of the tables' reference.
-/
import Derived.Test.YtkfffoolpdilnaaGreatDoorGE
import Derived.Deep.LoopGhost
namespace Go.Proofs.YtkfffoolpdilnaaGreatDoor
open Go.RowKit Go.Bd
theorem refBlank_any (c : Int) (w : World) :
    Calls Tryz.prog 137 #[.int .u8 c] w fun e w' => e = .returned (.bool (c == 32 || c == 9)) ∧ w = w' := by
  go_enter Tryz.func137, Tryz.ntmps137
  go_wp2
  all_goals
    go_ret
    exact ⟨by simp [*], rfl⟩
theorem blank_or {c : Int} : (c == 32 || c == 9) = true ↔ (c = 32 ∨ c = 9) := by simp
set_option maxHeartbeats 1000000 in
theorem refTrim_any (s : ByteArray) (w : World) (hs : s.size ≤ 9223372036854775807) :
    Calls Tryz.prog 86 #[.string s] w fun e w' => e = .returned (.string (tr s)) ∧ w = w' := by
  unfold tr
  have inner : ∀ (t : ByteArray), Hid (t.data.toList = dropL s.data.toList) → Hid (⟨(dropR t.data.toList).toArray⟩ = (⟨(trim s.data.toList).toArray⟩ : ByteArray)) := fun t h => by
    unfold Hid
    rw [trim, ← h.out]
  have HIN := Lib.hid inner
  clear inner
  go_enter Tryz.func86, Tryz.ntmps86
  go_wp2
  go_loopg [0] s.size (fun q v wr => ∃ t : ByteArray, q = t.size ∧ t.size ≤ s.size ∧ v = .string t ∧ Hid (dropL t.data.toList = dropL s.data.toList) ∧ wr = w)
  case atStart => exact ⟨s, rfl, Nat.le_refl _, rfl, rfl, rfl⟩
  case round =>
    obtain ⟨t, rfl, hk, rfl, H, rfl⟩ := hrel
    by_cases h0 : 0 < t.size
    · have cb := fun w => refBlank_any ((t[0].toNat : Int)) w
      obtain ⟨bb, hbb⟩ : ∃ bb, ((t[0].toNat : Int) == 32 || (t[0].toNat : Int) == 9) = bb := ⟨_, rfl⟩
      rw [hbb] at cb
      have HB := Lib.hid hbb
      clear hbb
      cases bb
      · have hd : Hid (t.data.toList = dropL s.data.toList) := by
          have h9 := HB.out
          unfold Hid
          rw [← H.out, dropL_stop2 h0 (by simpa using h9)]
        have HT := Lib.hid (HIN.out t hd).out
        clear H HB hd
        go_wp2_with (go_at_call 137; refine (cb _).mono ?_; rintro e w' ⟨rfl, rfl⟩)
        clear cb
        go_loopg [0] t.size (fun q v wi => ∃ u : ByteArray, q = u.size ∧ u.size ≤ s.size ∧ v = .string u ∧ Hid (dropR u.data.toList = dropR t.data.toList) ∧ wi = wr)
        case atStart => exact ⟨t, rfl, by omega, rfl, rfl, rfl⟩
        case round =>
          obtain ⟨u, rfl, hku, rfl, H, rfl⟩ := hrel
          by_cases h1 : 0 < u.size
          · have cu := fun w => refBlank_any ((u[u.size - 1].toNat : Int)) w
            obtain ⟨bb, hbb⟩ : ∃ bb, ((u[u.size - 1].toNat : Int) == 32 || (u[u.size - 1].toNat : Int) == 9) = bb := ⟨_, rfl⟩
            rw [hbb] at cu
            have HB := Lib.hid hbb
            clear hbb
            cases bb
            · go_wp2_with (go_at_call 137; refine (cu _).mono ?_; rintro e w' ⟨rfl, rfl⟩)
              go_ret
              refine ⟨?_, rfl⟩
              have h9 := HB.out
              rw [← HT.out, ← H.out, dropR_stop2 h1 (by simpa using h9)]
              rfl
            · go_wp2_with (go_at_call 137; refine (cu _).mono ?_; rintro e w' ⟨rfl, rfl⟩)
              go_roundg (u.size - 1)
              case measure => omega
              case rel =>
                have h9 := HB.out
                exact ⟨_, by simp, by simp; omega, rfl, by unfold Hid; rw [dropR_hit2 h1 (by simpa using h9)]; exact H.out, rfl⟩
          · go_wp2
            go_ret
            refine ⟨?_, rfl⟩
            rw [← HT.out, ← H.out, dropR_none h1]
            rfl
      · go_wp2_with (go_at_call 137; refine (cb _).mono ?_; rintro e w' ⟨rfl, rfl⟩)
        go_roundg (t.size - 1)
        case measure => omega
        case rel =>
          have h9 := HB.out
          exact ⟨_, by simp, by simp; omega, rfl, by unfold Hid; rw [dropL_hit2 h0 (by simpa using h9)]; exact H.out, rfl⟩
    · have hd : Hid (t.data.toList = dropL s.data.toList) := by
        unfold Hid
        rw [← H.out, dropL_none h0]
      have HT := Lib.hid (HIN.out t hd).out
      clear H hd
      go_wp2
      go_loopg [0] t.size (fun q v wi => ∃ u : ByteArray, q = u.size ∧ u.size ≤ s.size ∧ v = .string u ∧ Hid (dropR u.data.toList = dropR t.data.toList) ∧ wi = wr)
      case atStart => exact ⟨t, rfl, by omega, rfl, rfl, rfl⟩
      case round =>
        obtain ⟨u, rfl, hku, rfl, H, rfl⟩ := hrel
        by_cases h1 : 0 < u.size
        · have cu := fun w => refBlank_any ((u[u.size - 1].toNat : Int)) w
          obtain ⟨bb, hbb⟩ : ∃ bb, ((u[u.size - 1].toNat : Int) == 32 || (u[u.size - 1].toNat : Int) == 9) = bb := ⟨_, rfl⟩
          rw [hbb] at cu
          have HB := Lib.hid hbb
          clear hbb
          cases bb
          · go_wp2_with (go_at_call 137; refine (cu _).mono ?_; rintro e w' ⟨rfl, rfl⟩)
            go_ret
            refine ⟨?_, rfl⟩
            have h9 := HB.out
            rw [← HT.out, ← H.out, dropR_stop2 h1 (by simpa using h9)]
            rfl
          · go_wp2_with (go_at_call 137; refine (cu _).mono ?_; rintro e w' ⟨rfl, rfl⟩)
            go_roundg (u.size - 1)
            case measure => omega
            case rel =>
              have h9 := HB.out
              exact ⟨_, by simp, by simp; omega, rfl, by unfold Hid; rw [dropR_hit2 h1 (by simpa using h9)]; exact H.out, rfl⟩
        · go_wp2
          go_ret
          refine ⟨?_, rfl⟩
          rw [← HT.out, ← H.out, dropR_none h1]
          rfl
end Go.Proofs.YtkfffoolpdilnaaGreatDoor
