/-
  Walks: part, Parse, Text of the reference.
-/
import Derived.Test.YtacghogdodcinaaDoorTW2
namespace Go.Proofs.YtacghogdodcinaaDoor
open Go.RowKit Go.Bd
attribute [local go_sem] take_rest
theorem ret_bool {a b : Bool} (h : a = b) : Ending.returned (.bool a) = .returned (.bool b) := by rw [h]
set_option maxHeartbeats 400000 in
theorem part_any (s : ByteArray) (w : World) (hs : s.size ≤ 9223372036854775807) :
    Calls Tryd.prog 27 #[.string s] w fun e w' => e = .returned (.bool (partB s.data.toList)) ∧ w = w' := by
  go_enter Tryd.func27, Tryd.ntmps27
  go_wp2_with (go_at_call 25; refine (first_any _ _ _ hs).mono ?_; rintro e w' ⟨rfl, rfl⟩)
  all_goals
    go_ret
    refine ⟨ret_bool ?_, rfl⟩
    rw [partB_eq]
    go_light
    simp [*]
set_option maxHeartbeats 400000 in
theorem refParse_any (s : ByteArray) (w : World) (hs : s.size ≤ 9223372036854775807) :
    Calls Tryd.prog 18 #[.string s] w fun e w' => e = .returned (parseV s.data.toList) ∧ w = w' := by
  have h1 := first_le s.data.toList 59
  have h2 := first_le s.data.toList 62
  have h3 := trim_take_le s.data.toList (first s.data.toList 62)
  have h4 := trim_drop_le s.data.toList (first s.data.toList 62 + 1)
  have h5 := trim_take_le s.data.toList (first s.data.toList 59)
  have h6 := trim_drop_le s.data.toList (first s.data.toList 59 + 1)
  rw [← size_list] at h1 h2 h3 h4 h5 h6
  rcases Nat.lt_or_ge (first s.data.toList 62) (first s.data.toList 59) with h | h
  · rw [parseV_at (Nat.min_eq_right (Nat.le_of_lt h))]
    go_enter Tryd.func18, Tryd.ntmps18
    go_wp2_with (first
      | (go_at_call 25; refine (first_any _ _ _ hs).mono ?_; rintro e w' ⟨rfl, rfl⟩)
      | (go_at_call 26; refine (trim_any _ _ ?_).mono ?_; (simp; omega); rintro e w' ⟨rfl, rfl⟩)
      | (go_at_call 27; refine (part_any _ _ ?_).mono ?_; (rw [size_mk]; omega); rintro e w' ⟨rfl, rfl⟩))
    all_goals
      go_returns
      refine ⟨congrArg Ending.returned ?_, rfl⟩
      go_light
      rw [parseAt]
      first
        | (rw [getD_get (by assumption)]; simp_all [strV]; done)
        | (simp_all [strV]; done)
        | (simp_all [strV]; omega)
  · rw [parseV_at (Nat.min_eq_left h)]
    rcases Nat.lt_or_ge (first s.data.toList 59) s.size with hz | hz
    · have hb : ((first s.data.toList 59 : Int) == s.size) = false := by rw [beq_eq_false_iff_ne]; omega
      go_enter Tryd.func18, Tryd.ntmps18
      go_wp2_with (first
        | (go_at_call 25; refine (first_any _ _ _ hs).mono ?_; rintro e w' ⟨rfl, rfl⟩)
        | (go_at_call 26; refine (trim_any _ _ ?_).mono ?_; (simp; omega); rintro e w' ⟨rfl, rfl⟩)
        | (go_at_call 27; refine (part_any _ _ ?_).mono ?_; (rw [size_mk]; omega); rintro e w' ⟨rfl, rfl⟩))
      all_goals
        go_returns
        refine ⟨congrArg Ending.returned ?_, rfl⟩
        go_light
        rw [parseAt]
        first
          | (rw [getD_get (by assumption)]; simp_all [strV]; done)
          | (simp_all [strV]; done)
          | (simp_all [strV]; omega)
    · have hb : ((first s.data.toList 59 : Int) == s.size) = true := by rw [beq_iff_eq]; omega
      go_enter Tryd.func18, Tryd.ntmps18
      go_wp2_with (first
        | (go_at_call 25; refine (first_any _ _ _ hs).mono ?_; rintro e w' ⟨rfl, rfl⟩)
        | (go_at_call 26; refine (trim_any _ _ ?_).mono ?_; (simp; omega); rintro e w' ⟨rfl, rfl⟩)
        | (go_at_call 27; refine (part_any _ _ ?_).mono ?_; (rw [size_mk]; omega); rintro e w' ⟨rfl, rfl⟩))
      all_goals
        go_returns
        refine ⟨congrArg Ending.returned ?_, rfl⟩
        go_light
        rw [parseAt]
        first
          | (rw [getD_get (by assumption)]; simp_all [strV]; done)
          | (simp_all [strV]; done)
          | (simp_all [strV]; omega)
end Go.Proofs.YtacghogdodcinaaDoor
