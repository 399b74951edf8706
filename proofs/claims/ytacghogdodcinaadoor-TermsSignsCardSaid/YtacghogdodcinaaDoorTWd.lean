/-
  Walks: Beyond.
-/
import Derived.Test.YtacghogdodcinaaDoorTWc
namespace Go.Proofs.YtacghogdodcinaaDoor
open Go.RowKit Go.Bd
theorem sum_take_le : ∀ (xs : List Nat) (k : Nat), (xs.take k).sum ≤ xs.sum
  | [], k => by simp
  | x :: xs, 0 => by simp
  | x :: xs, k + 1 => by have := sum_take_le xs k; simp only [List.take_succ_cons, List.sum_cons]; omega
theorem sum_take_succ {xs : List Nat} {k x : Nat} (h : xs[k]? = some x) : (xs.take (k + 1)).sum = (xs.take k).sum + x := by
  obtain ⟨hk, e⟩ := List.getElem?_eq_some_iff.1 h
  rw [List.take_succ_eq_append_getElem hk, List.sum_append, e]; simp
set_option maxHeartbeats 400000 in
theorem beyond_any (g : Nat) (xs : List Nat) (w : World) (hn : xs.length ≤ 100) (hx : ∀ x ∈ xs, x ≤ 140737488355328) (hc : ∀ (j x : Nat), xs[j]? = some x → w.cell? ⟨g, j, none⟩ = some (.int .i64 x)) :
    Calls Tryd.prog 9 #[.slice (some ⟨g, 0, none⟩) xs.length xs.length] w fun e w' => e = .returned (.bool (decide (1048576 < xs.sum))) ∧ w = w' := by
  have HX := Lib.hid hx
  have HC := Lib.hid hc
  clear hx hc
  generalize hL : xs.length = n at hn ⊢
  have HL := Lib.hid hL
  clear hL
  go_enter Tryd.func9, Tryd.ntmps9
  go_wp2
  go_loopg [3, 4] n (fun r s i wr => ∃ k t : Nat, k + r = n ∧ i = .int .i64 k ∧ s = .int .i64 t ∧ t ≤ 1048576 ∧ Hid ((xs.take k).sum = t) ∧ w = wr)
  case atStart => exact ⟨0, 0, by omega, rfl, rfl, by omega, by unfold Hid; simp, rfl⟩
  case round =>
    obtain ⟨k, t, hk, rfl, rfl, ht, HT, rfl⟩ := hrel
    by_cases hlt : k < n
    · obtain ⟨x, hxk⟩ : ∃ x, xs[k]? = some x := ⟨_, List.getElem?_eq_getElem (by rw [HL.out]; exact hlt)⟩
      have hcx := HC.out k x hxk
      have hxb := HX.out x (List.mem_of_getElem? hxk)
      have HS := Lib.hid (sum_take_succ hxk)
      have HSL := Lib.hid (sum_take_le xs (k + 1))
      clear hxk
      by_cases hbig : 1048576 < t + x
      · go_wp2
        go_ret
        refine ⟨ret_bool ?_, rfl⟩
        have h1 := HS.out; have h2 := HSL.out; rw [HT.out] at h1
        exact (decide_eq_true (by omega)).symm
      · go_wp2
        go_roundg (gk - 1)
        case measure => omega
        case rel => exact ⟨k + 1, t + x, by omega, by go_num, by go_num, by omega, by unfold Hid; rw [HS.out, HT.out], rfl⟩
    · go_wp2
      go_ret
      refine ⟨ret_bool ?_, rfl⟩
      have h1 := HT.out
      rw [List.take_of_length_le (by rw [HL.out]; omega)] at h1
      exact (decide_eq_false (by omega)).symm
end Go.Proofs.YtacghogdodcinaaDoor
