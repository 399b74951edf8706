/-
  Walks: may a name be; is a disk one; a new disk.
-/
import Derived.Test.YtggnkpblfmjbcaaDm
import Derived.Test.YtggnkpblfmjbcaaChecked
import Derived.IntWalk
import Derived.Deep.Light
import Derived.Handy
import Derived.Lib.Hide
import Derived.BigQuiet
import Derived.Deep.LoopGhost
import Derived.Below
import Derived.WalkKit
import Derived.WalkSpells
import Derived.Deep.RegionHeld3
import Derived.Deep.AppendLies
import Derived.Deep.DrawnRows
import Derived.Outline
namespace Go.Proofs.Ytggnkpblfmjbcaa
open Go.RowKit Go.Bd
/-- a sign of a name -/
def okC (c : Nat) : Prop := (97 ≤ c ∧ c ≤ 122) ∨ (65 ≤ c ∧ c ≤ 90) ∨ (48 ≤ c ∧ c ≤ 57) ∨ c = 45 ∨ c = 46
instance (c : Nat) : Decidable (okC c) := by unfold okC; infer_instance
/-- may a name be? -/
def nameB (s : ByteArray) : Bool := decide (1 ≤ s.size ∧ s.size ≤ 80 ∧ ∀ b ∈ s.data.toList, okC b.toNat)
theorem nameB_true {s : ByteArray} (h1 : 1 ≤ s.size) (h2 : s.size ≤ 80) (h : ∀ j (hj : j < s.size), okC s[j].toNat) : nameB s = true := by
  refine decide_eq_true ⟨h1, h2, fun b hb => ?_⟩
  obtain ⟨j, hj, rfl⟩ := List.mem_iff_getElem.1 hb
  exact h j (by simpa using hj)
theorem nameB_false {s : ByteArray} {j : Nat} (hj : j < s.size) (h : ¬ okC s[j].toNat) : nameB s = false := by
  refine decide_eq_false fun e => h (e.2.2 _ ?_)
  have : s[j] = s.data.toList[j]'(by simpa using hj) := rfl
  rw [this]
  exact List.getElem_mem _
set_option maxRecDepth 100000 in
set_option maxHeartbeats 2000000 in
theorem named_any (s : ByteArray) (w : World) (hs : s.size ≤ 140737488355328) :
    Calls Try.prog 18 #[.string s] w fun e w' => e = .returned (.bool (nameB s)) ∧ w' = w := by
  by_cases h0 : 1 ≤ s.size ∧ s.size ≤ 80
  · obtain ⟨h1, h2⟩ := h0
    go_enter Try.func18, Try.ntmps18
    go_wp2
    go_loopg [15] s.size (fun q v wr => ∃ k : Nat, k + q = s.size ∧ v = .int .i64 (k : Int) ∧ Hid (∀ j (hj : j < s.size), j < k → okC s[j].toNat) ∧ wr = w)
    case atStart => exact ⟨0, by omega, rfl, fun _ _ h => absurd h (by omega), rfl⟩
    case round =>
      obtain ⟨k, hk, rfl, H, rfl⟩ := hrel
      by_cases hlt : k < s.size
      · by_cases hok : okC s[k].toNat
        · have HN : Hid (∀ j (hj : j < s.size), j < k + 1 → okC s[j].toNat) := fun j hj hjk => by
            by_cases e : j = k
            · subst e; exact hok
            · exact H.out j hj (by omega)
          clear H
          rcases hok with h | h | h | h | h
          all_goals
            go_wp2
            all_goals
              go_roundg (gk - 1)
              case measure => omega
              case rel => exact ⟨k + 1, by omega, by go_num, HN.out, rfl⟩
        · have hf := nameB_false hlt hok
          have HF := Lib.hid hf
          unfold okC at hok
          have n1 : ¬ (97 ≤ s[k].toNat ∧ s[k].toNat ≤ 122) := fun h => hok (.inl h)
          have n2 : ¬ (65 ≤ s[k].toNat ∧ s[k].toNat ≤ 90) := fun h => hok (.inr (.inl h))
          have n3 : ¬ (48 ≤ s[k].toNat ∧ s[k].toNat ≤ 57) := fun h => hok (.inr (.inr (.inl h)))
          have n4 : ¬ s[k].toNat = 45 := fun h => hok (.inr (.inr (.inr (.inl h))))
          have n5 : ¬ s[k].toNat = 46 := fun h => hok (.inr (.inr (.inr (.inr h))))
          clear hok hf H
          go_wp2
          all_goals
            go_ret
            exact ⟨by rw [HF.out]; rfl, rfl⟩
      · obtain rfl : k = s.size := by omega
        have hf := nameB_true h1 h2 (fun j hj => H.out j hj hj)
        have HF := Lib.hid hf
        clear hf H
        go_wp2
        go_ret
        exact ⟨by rw [HF.out]; rfl, rfl⟩
  · have hf : nameB s = false := decide_eq_false fun e => h0 ⟨e.1, e.2.1⟩
    rw [hf]
    clear hf
    by_cases h1 : 1 ≤ s.size
    · have h2 : 80 < s.size := by omega
      go_enter Try.func18, Try.ntmps18
      go_wp2
      go_ret
      exact ⟨rfl, rfl⟩
    · go_enter Try.func18, Try.ntmps18
      go_wp2
      go_ret
      exact ⟨rfl, rfl⟩
end Go.Proofs.Ytggnkpblfmjbcaa
