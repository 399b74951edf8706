/-
  Walks: clean texts.
-/
import Derived.Test.YtkfffoolpdilnaaDoorGQ
namespace Go.Bd
theorem dropL_le (l : Bs) : (dropL l).length ≤ l.length := (List.dropWhile_sublist _).length_le
theorem dropR_le (l : Bs) : (dropR l).length ≤ l.length := by
  rw [dropR, List.length_reverse]
  have := (List.dropWhile_sublist (l := l.reverse) blank).length_le
  simpa using this
/-- blanks at its ends -/
theorem trim_ends {s : ByteArray} (h : 0 < s.size) : trim s.data.toList = s.data.toList ↔ (((s[0].toNat : Int) ≠ 32 ∧ (s[0].toNat : Int) ≠ 9) ∧ (s[s.size - 1].toNat : Int) ≠ 32 ∧ (s[s.size - 1].toNat : Int) ≠ 9) := by
  have hl := size_list s
  constructor
  · intro e
    have key1 : ¬ ((s[0].toNat : Int) = 32 ∨ (s[0].toNat : Int) = 9) := by
      intro hb
      have h1 := dropL_hit h hb
      have h2 := dropL_le (s.extract 1 s.size).data.toList
      have h3 := dropR_le (dropL s.data.toList)
      rw [← trim, e, ← h1] at h3
      have h4 : (s.extract 1 s.size).data.toList.length = s.size - 1 := by rw [extract_list, List.length_take, List.length_drop, ← size_list]; omega
      rw [h4] at h2
      rw [← size_list] at h3
      omega
    have key2 : ¬ ((s[s.size - 1].toNat : Int) = 32 ∨ (s[s.size - 1].toNat : Int) = 9) := by
      intro hb
      have h1 := dropR_hit h hb
      have h2 := dropR_le (s.extract 0 (s.size - 1)).data.toList
      have h3 := dropL_le (dropR s.data.toList)
      rw [dropLR, e, ← h1] at h3
      have h4 : (s.extract 0 (s.size - 1)).data.toList.length = s.size - 1 := by rw [extract_list, List.length_take, List.length_drop, ← size_list]; omega
      rw [h4] at h2
      rw [← size_list] at h3
      omega
    omega
  · intro ⟨h0, h1⟩
    rw [trim, dropL_stop h (by omega), dropR_stop h (by omega)]
end Go.Bd
namespace Go.Proofs.YtkfffoolpdilnaaDoor
open Go.RowKit Go.Bd
set_option maxRecDepth 100000 in
theorem clean_any (s : ByteArray) (w : World) (hs : s.size ≤ 140737488355328) :
    Calls Tryd.prog 11 #[.string s] w fun e w' => e = .returned (.bool (cleanB s)) ∧ w = w' := by
  go_enter Tryd.func11, Tryd.ntmps11
  go_wp2
  go_loopg [3] s.size (fun r i wr => ∃ k : Nat, k + r = s.size ∧ i = .int .i64 k ∧ Hid (124 ∉ s.data.toList.take k) ∧ w = wr)
  case atStart => exact ⟨0, by omega, rfl, by unfold Hid; simp, rfl⟩
  case round =>
    obtain ⟨k, hk, rfl, HT, rfl⟩ := hrel
    by_cases hlt : k < s.size
    · have hgk : s.data.toList[k]'(by rw [← size_list]; exact hlt) = s[k] := rfl
      have HG := Lib.hid hgk
      clear hgk
      by_cases hb : ((s[k].toNat : Int) == 124) = true
      · go_wp2
        go_ret
        refine ⟨ret_bool ?_, rfl⟩
        have : s.data.toList.contains 124 = true := by
          rw [List.contains_iff_mem]
          have e : s[k] = 124 := by
            have := eq_of_beq hb
            apply UInt8.toNat_inj.1
            show s[k].toNat = 124
            omega
          rw [← e, ← HG.out]
          exact List.getElem_mem _
        rw [cleanB, this]; rfl
      · have hb' : ((s[k].toNat : Int) == 124) = false := by simpa using hb
        have hbn : (s[k].toNat : Int) ≠ 124 := by simpa using hb
        have HB := Lib.hid hbn
        clear hb hbn
        go_wp2
        go_roundg (gk - 1)
        case measure => omega
        case rel =>
          refine ⟨k + 1, by omega, by go_num, ?_, rfl⟩
          unfold Hid
          rw [List.take_succ_eq_append_getElem (by rw [← size_list]; exact hlt), List.mem_append, List.mem_singleton, HG.out]
          intro h
          rcases h with h | h
          · exact HT.out h
          · exact HB.out (by rw [← h]; rfl)
    · have hc : s.data.toList.contains 124 = false := by
        have := HT.out
        rw [List.take_of_length_le (by rw [← size_list]; omega)] at this
        simpa using this
      have HC : Hid (cleanB s = decide (trim s.data.toList = s.data.toList)) := by
        unfold Hid
        rw [cleanB, hc]; rfl
      clear hc
      by_cases h0 : 0 < s.size
      · have HE := Lib.hid (trim_ends h0)
        go_wp2
        · exfalso
          rename_i h
          rw [h] at h0
          simp at h0
        all_goals
          go_ret
          refine ⟨ret_bool ?_, rfl⟩
          rw [HC.out, Bool.eq_iff_iff, decide_eq_true_iff, HE.out]
          simp [*]
      · have h00 : s = ⟨#[]⟩ := by
          refine ba_ext (List.eq_nil_of_length_eq_zero ?_)
          rw [← size_list]; omega
        subst h00
        clear HC HT
        go_wp2
        go_ret
        exact ⟨rfl, rfl⟩
end Go.Proofs.YtkfffoolpdilnaaDoor
