/-
  Walks: Parse and Text.
-/
import Derived.Test.YtacghogdodcinaaDoorTWb
import Derived.Test.YtacghogdodcinaaDoorBytes3
namespace Go.Proofs.YtacghogdodcinaaDoor
open Go.RowKit Go.Bd
theorem parseV_none {l : Bs} (h : parseB l = none) : parseV l = .tuple #[strV [], strV [], strV [], .int .i64 4] := by rw [parseV, h]
theorem parseV_some {l a b c : Bs} (h : parseB l = some (a, b, c)) : parseV l = .tuple #[strV a, strV b, strV c, .int .i64 0] := by rw [parseV, h]
theorem parseP_none {l : Bs} (h : parseB l = none) : parseP l = .tuple #[.agg #[strV [], strV [], strV []], .bool false] := by rw [parseP, h]; rfl
theorem parseP_some {l a b c : Bs} (h : parseB l = some (a, b, c)) : parseP l = .tuple #[.agg #[strV a, strV b, strV c], .bool true] := by rw [parseP, h]; rfl
set_option maxHeartbeats 400000 in
theorem Parse_any (s : ByteArray) (m : Int) (w : World) (hs : s.size ≤ 9223372036854775807) (hm : w.cell? ⟨0, 0, none⟩ = some (.int .i64 m)) :
    Calls Tryd.prog 15 #[.string s] w fun e w' => e = .returned (parseV s.data.toList) ∧ Below w.heap.size w w' := by
  have c := parse_any s m w hs hm
  cases hp : parseB s.data.toList with
  | none =>
    rw [parseP_none hp] at c
    rw [parseV_none hp]
    clear hp
    go_enter Tryd.func15, Tryd.ntmps15
    go_wp2_with (go_at_call 17; refine c.mono ?_; rintro e w1 ⟨rfl, hb⟩; rw [strV])
    go_returns
    exact ⟨rfl, hb.alloc hb.size _⟩
  | some t =>
    obtain ⟨x, y, z⟩ := t
    rw [parseP_some hp] at c
    rw [parseV_some hp]
    clear hp
    go_enter Tryd.func15, Tryd.ntmps15
    go_wp2_with (go_at_call 17; refine c.mono ?_; rintro e w1 ⟨rfl, hb⟩; rw [strV, strV, strV])
    go_quiet (fail)
    go_wp2
    go_returns
    exact ⟨rfl, below_drewN (hb.alloc hb.size _) _⟩
/-- what Text answers -/
def textV (a b c : Bs) : Value := if parseB (textL a b c) = some (a, b, c) then .tuple #[strV (textL a b c), .int .i64 0] else .tuple #[strV [], .int .i64 1]
theorem sz59 : (⟨#[59]⟩ : ByteArray).size = 1 := rfl
theorem sz62 : (⟨#[62]⟩ : ByteArray).size = 1 := rfl
theorem emptyB (b : ByteArray) : (b.toList = [] ∧ b.toList.isEmpty = true) ∨ (¬ b.toList = [] ∧ b.toList.isEmpty = false) := by
  by_cases h : b.toList = []
  · exact .inl ⟨h, by rw [h]; rfl⟩
  · exact .inr ⟨h, by simpa using h⟩
theorem textV_yes {la lb lc tl x y z : Bs} (htl : textL la lb lc = tl) (hp : parseB tl = some (x, y, z)) (hx : x = la) (hy : y = lb) (hz : z = lc) : textV la lb lc = .tuple #[strV tl, .int .i64 0] := by
  subst hx hy hz; rw [textV, htl, if_pos hp]
theorem textV_no {la lb lc tl x y z : Bs} (htl : textL la lb lc = tl) (hp : parseB tl = some (x, y, z)) (h : ¬ (x = la ∧ y = lb ∧ z = lc)) : textV la lb lc = .tuple #[strV [], .int .i64 1] := by
  rw [textV, htl, hp, if_neg]; intro e; exact h (by simpa using e)
set_option maxHeartbeats 1000000 in
theorem refText_any (a b c : ByteArray) (w : World) (ha : a.size ≤ 140737488355328) (hb : b.size ≤ 140737488355328) (hc : c.size ≤ 140737488355328) :
    Calls Tryd.prog 11 #[.string a, .string b, .string c] w fun e w' => e = .returned (textV a.data.toList b.data.toList c.data.toList) ∧ w = w' := by
  rcases emptyB b with ⟨h1, h1'⟩ | ⟨h1, h1'⟩ <;> rcases emptyB c with ⟨h2, h2'⟩ | ⟨h2, h2'⟩
  · have ht : (a : ByteArray).data.toList = textL a.data.toList b.data.toList c.data.toList := by
      rw [ByteArray.toList_eq] at h1 h2
      simp [textL, h1, h2]
    have hz : a.size ≤ 9223372036854775807 := by omega
    have cp := refParse_any a w hz
    rw [ht] at cp
    generalize htl : textL a.data.toList b.data.toList c.data.toList = tl at cp ht
    go_enter Tryd.func11, Tryd.ntmps11
    go_wp2_with fail
    have HT := Lib.hid ht
    clear ht hz
    cases hp : parseB tl with
    | none =>
      have HV : Hid (textV a.data.toList b.data.toList c.data.toList = .tuple #[strV [], .int .i64 1]) := by
        unfold Hid; rw [textV, htl, hp]; exact if_neg (by simp)
      rw [parseV_none hp] at cp
      clear hp htl
      refine cp.mono ?_
      rintro e w1 ⟨rfl, rfl⟩
      rw [strV]
      go_wp2
      go_ret2
      exact ⟨congrArg Ending.returned HV.out.symm, rfl⟩
    | some p =>
      obtain ⟨x, y, z⟩ := p
      rw [parseV_some hp] at cp
      have HP := Lib.hid hp
      have HTL := Lib.hid htl
      clear hp htl
      refine cp.mono ?_
      rintro e w1 ⟨rfl, rfl⟩
      rw [strV, strV, strV]
      go_wp2
      all_goals
        go_ret2
        refine ⟨congrArg Ending.returned ?_, rfl⟩
        go_light
        simp only [ByteArray.toList_eq] at *
        first
          | (rw [textV_no HTL.out HP.out (by simp_all)]; rfl)
          | (rw [textV_yes HTL.out HP.out (by simp_all) (by simp_all) (by simp_all), strV, ← mk_of HT.out]; rfl)
  · have ht : ((a ++ ⟨#[62]⟩ ++ c) : ByteArray).data.toList = textL a.data.toList b.data.toList c.data.toList := by
      rw [ByteArray.toList_eq] at h1 h2
      simp [textL, h1, h2]
    have hz : ((a ++ ⟨#[62]⟩ ++ c) : ByteArray).size ≤ 9223372036854775807 := by simp only [ByteArray.size_append, sz62]; omega
    have cp := refParse_any (a ++ ⟨#[62]⟩ ++ c) w hz
    rw [ht] at cp
    generalize htl : textL a.data.toList b.data.toList c.data.toList = tl at cp ht
    go_enter Tryd.func11, Tryd.ntmps11
    go_wp2_with fail
    generalize (a ++ ⟨#[62]⟩ ++ c) = t at cp ht ⊢
    have HT := Lib.hid ht
    clear ht hz
    cases hp : parseB tl with
    | none =>
      have HV : Hid (textV a.data.toList b.data.toList c.data.toList = .tuple #[strV [], .int .i64 1]) := by
        unfold Hid; rw [textV, htl, hp]; exact if_neg (by simp)
      rw [parseV_none hp] at cp
      clear hp htl
      refine cp.mono ?_
      rintro e w1 ⟨rfl, rfl⟩
      rw [strV]
      go_wp2
      go_ret2
      exact ⟨congrArg Ending.returned HV.out.symm, rfl⟩
    | some p =>
      obtain ⟨x, y, z⟩ := p
      rw [parseV_some hp] at cp
      have HP := Lib.hid hp
      have HTL := Lib.hid htl
      clear hp htl
      refine cp.mono ?_
      rintro e w1 ⟨rfl, rfl⟩
      rw [strV, strV, strV]
      go_wp2
      all_goals
        go_ret2
        refine ⟨congrArg Ending.returned ?_, rfl⟩
        go_light
        simp only [ByteArray.toList_eq] at *
        first
          | (rw [textV_no HTL.out HP.out (by simp_all)]; rfl)
          | (rw [textV_yes HTL.out HP.out (by simp_all) (by simp_all) (by simp_all), strV, ← mk_of HT.out]; rfl)
  · have ht : ((a ++ ⟨#[59]⟩ ++ b) : ByteArray).data.toList = textL a.data.toList b.data.toList c.data.toList := by
      rw [ByteArray.toList_eq] at h1 h2
      simp [textL, h1, h2]
    have hz : ((a ++ ⟨#[59]⟩ ++ b) : ByteArray).size ≤ 9223372036854775807 := by simp only [ByteArray.size_append, sz59]; omega
    have cp := refParse_any (a ++ ⟨#[59]⟩ ++ b) w hz
    rw [ht] at cp
    generalize htl : textL a.data.toList b.data.toList c.data.toList = tl at cp ht
    go_enter Tryd.func11, Tryd.ntmps11
    go_wp2_with fail
    generalize (a ++ ⟨#[59]⟩ ++ b) = t at cp ht ⊢
    have HT := Lib.hid ht
    clear ht hz
    cases hp : parseB tl with
    | none =>
      have HV : Hid (textV a.data.toList b.data.toList c.data.toList = .tuple #[strV [], .int .i64 1]) := by
        unfold Hid; rw [textV, htl, hp]; exact if_neg (by simp)
      rw [parseV_none hp] at cp
      clear hp htl
      refine cp.mono ?_
      rintro e w1 ⟨rfl, rfl⟩
      rw [strV]
      go_wp2
      go_ret2
      exact ⟨congrArg Ending.returned HV.out.symm, rfl⟩
    | some p =>
      obtain ⟨x, y, z⟩ := p
      rw [parseV_some hp] at cp
      have HP := Lib.hid hp
      have HTL := Lib.hid htl
      clear hp htl
      refine cp.mono ?_
      rintro e w1 ⟨rfl, rfl⟩
      rw [strV, strV, strV]
      go_wp2
      all_goals
        go_ret2
        refine ⟨congrArg Ending.returned ?_, rfl⟩
        go_light
        simp only [ByteArray.toList_eq] at *
        first
          | (rw [textV_no HTL.out HP.out (by simp_all)]; rfl)
          | (rw [textV_yes HTL.out HP.out (by simp_all) (by simp_all) (by simp_all), strV, ← mk_of HT.out]; rfl)
  · have ht : (((a ++ ⟨#[59]⟩ ++ b) ++ ⟨#[62]⟩ ++ c) : ByteArray).data.toList = textL a.data.toList b.data.toList c.data.toList := by
      rw [ByteArray.toList_eq] at h1 h2
      simp [textL, h1, h2]
    have hz : (((a ++ ⟨#[59]⟩ ++ b) ++ ⟨#[62]⟩ ++ c) : ByteArray).size ≤ 9223372036854775807 := by simp only [ByteArray.size_append, sz59, sz62]; omega
    have cp := refParse_any ((a ++ ⟨#[59]⟩ ++ b) ++ ⟨#[62]⟩ ++ c) w hz
    rw [ht] at cp
    generalize htl : textL a.data.toList b.data.toList c.data.toList = tl at cp ht
    go_enter Tryd.func11, Tryd.ntmps11
    go_wp2_with fail
    generalize ((a ++ ⟨#[59]⟩ ++ b) ++ ⟨#[62]⟩ ++ c) = t at cp ht ⊢
    have HT := Lib.hid ht
    clear ht hz
    cases hp : parseB tl with
    | none =>
      have HV : Hid (textV a.data.toList b.data.toList c.data.toList = .tuple #[strV [], .int .i64 1]) := by
        unfold Hid; rw [textV, htl, hp]; exact if_neg (by simp)
      rw [parseV_none hp] at cp
      clear hp htl
      refine cp.mono ?_
      rintro e w1 ⟨rfl, rfl⟩
      rw [strV]
      go_wp2
      go_ret2
      exact ⟨congrArg Ending.returned HV.out.symm, rfl⟩
    | some p =>
      obtain ⟨x, y, z⟩ := p
      rw [parseV_some hp] at cp
      have HP := Lib.hid hp
      have HTL := Lib.hid htl
      clear hp htl
      refine cp.mono ?_
      rintro e w1 ⟨rfl, rfl⟩
      rw [strV, strV, strV]
      go_wp2
      all_goals
        go_ret2
        refine ⟨congrArg Ending.returned ?_, rfl⟩
        go_light
        simp only [ByteArray.toList_eq] at *
        first
          | (rw [textV_no HTL.out HP.out (by simp_all)]; rfl)
          | (rw [textV_yes HTL.out HP.out (by simp_all) (by simp_all) (by simp_all), strV, ← mk_of HT.out]; rfl)
set_option maxHeartbeats 1000000 in
theorem Text_any (a b c : ByteArray) (w : World) (m : Int) (hm : w.cell? ⟨0, 0, none⟩ = some (.int .i64 m)) (ha : a.size ≤ 140737488355328) (hb : b.size ≤ 140737488355328) (hc : c.size ≤ 140737488355328) :
    Calls Tryd.prog 10 #[.string a, .string b, .string c] w fun e w' => e = .returned (textV a.data.toList b.data.toList c.data.toList) ∧ Below w.heap.size w w' := by
  rcases emptyB b with ⟨h1, h1'⟩ | ⟨h1, h1'⟩ <;> rcases emptyB c with ⟨h2, h2'⟩ | ⟨h2, h2'⟩
  · have ht : (a : ByteArray).data.toList = textL a.data.toList b.data.toList c.data.toList := by
      rw [ByteArray.toList_eq] at h1 h2
      simp [textL, h1, h2]
    have hz : a.size ≤ 9223372036854775807 := by omega
    have cp := parse_any a m w hz hm
    rw [ht] at cp
    generalize htl : textL a.data.toList b.data.toList c.data.toList = tl at cp ht
    go_enter Tryd.func10, Tryd.ntmps10
    go_wp2_with fail
    have HT := Lib.hid ht
    clear ht hz
    cases hp : parseB tl with
    | none =>
      have HV : Hid (textV a.data.toList b.data.toList c.data.toList = .tuple #[strV [], .int .i64 1]) := by
        unfold Hid; rw [textV, htl, hp]; exact if_neg (by simp)
      rw [parseP_none hp] at cp
      clear hp htl
      refine cp.mono ?_
      rintro e w1 ⟨rfl, hb1⟩
      rw [strV]
      go_wp2
      go_ret2
      exact ⟨congrArg Ending.returned HV.out.symm, hb1.alloc hb1.size _⟩
    | some p =>
      obtain ⟨x, y, z⟩ := p
      rw [parseP_some hp] at cp
      have HP := Lib.hid hp
      have HTL := Lib.hid htl
      clear hp htl
      refine cp.mono ?_
      rintro e w1 ⟨rfl, hb1⟩
      rw [strV, strV, strV]
      go_wp2
      all_goals
        go_ret2
        refine ⟨congrArg Ending.returned ?_, hb1.alloc hb1.size _⟩
        go_light
        simp only [ByteArray.toList_eq] at *
        first
          | (rw [textV_no HTL.out HP.out (by simp_all)]; rfl)
          | (rw [textV_yes HTL.out HP.out (by simp_all) (by simp_all) (by simp_all), strV, ← mk_of HT.out]; rfl)
  · have ht : ((a ++ (⟨#[62]⟩ ++ c)) : ByteArray).data.toList = textL a.data.toList b.data.toList c.data.toList := by
      rw [ByteArray.toList_eq] at h1 h2
      simp [textL, h1, h2]
    have hz : ((a ++ (⟨#[62]⟩ ++ c)) : ByteArray).size ≤ 9223372036854775807 := by simp only [ByteArray.size_append, sz62]; omega
    have cp := parse_any (a ++ (⟨#[62]⟩ ++ c)) m w hz hm
    rw [ht] at cp
    generalize htl : textL a.data.toList b.data.toList c.data.toList = tl at cp ht
    go_enter Tryd.func10, Tryd.ntmps10
    go_wp2_with fail
    generalize (a ++ (⟨#[62]⟩ ++ c)) = t at cp ht ⊢
    have HT := Lib.hid ht
    clear ht hz
    cases hp : parseB tl with
    | none =>
      have HV : Hid (textV a.data.toList b.data.toList c.data.toList = .tuple #[strV [], .int .i64 1]) := by
        unfold Hid; rw [textV, htl, hp]; exact if_neg (by simp)
      rw [parseP_none hp] at cp
      clear hp htl
      refine cp.mono ?_
      rintro e w1 ⟨rfl, hb1⟩
      rw [strV]
      go_wp2
      go_ret2
      exact ⟨congrArg Ending.returned HV.out.symm, hb1.alloc hb1.size _⟩
    | some p =>
      obtain ⟨x, y, z⟩ := p
      rw [parseP_some hp] at cp
      have HP := Lib.hid hp
      have HTL := Lib.hid htl
      clear hp htl
      refine cp.mono ?_
      rintro e w1 ⟨rfl, hb1⟩
      rw [strV, strV, strV]
      go_wp2
      all_goals
        go_ret2
        refine ⟨congrArg Ending.returned ?_, hb1.alloc hb1.size _⟩
        go_light
        simp only [ByteArray.toList_eq] at *
        first
          | (rw [textV_no HTL.out HP.out (by simp_all)]; rfl)
          | (rw [textV_yes HTL.out HP.out (by simp_all) (by simp_all) (by simp_all), strV, ← mk_of HT.out]; rfl)
  · have ht : ((a ++ (⟨#[59]⟩ ++ b)) : ByteArray).data.toList = textL a.data.toList b.data.toList c.data.toList := by
      rw [ByteArray.toList_eq] at h1 h2
      simp [textL, h1, h2]
    have hz : ((a ++ (⟨#[59]⟩ ++ b)) : ByteArray).size ≤ 9223372036854775807 := by simp only [ByteArray.size_append, sz59]; omega
    have cp := parse_any (a ++ (⟨#[59]⟩ ++ b)) m w hz hm
    rw [ht] at cp
    generalize htl : textL a.data.toList b.data.toList c.data.toList = tl at cp ht
    go_enter Tryd.func10, Tryd.ntmps10
    go_wp2_with fail
    generalize (a ++ (⟨#[59]⟩ ++ b)) = t at cp ht ⊢
    have HT := Lib.hid ht
    clear ht hz
    cases hp : parseB tl with
    | none =>
      have HV : Hid (textV a.data.toList b.data.toList c.data.toList = .tuple #[strV [], .int .i64 1]) := by
        unfold Hid; rw [textV, htl, hp]; exact if_neg (by simp)
      rw [parseP_none hp] at cp
      clear hp htl
      refine cp.mono ?_
      rintro e w1 ⟨rfl, hb1⟩
      rw [strV]
      go_wp2
      go_ret2
      exact ⟨congrArg Ending.returned HV.out.symm, hb1.alloc hb1.size _⟩
    | some p =>
      obtain ⟨x, y, z⟩ := p
      rw [parseP_some hp] at cp
      have HP := Lib.hid hp
      have HTL := Lib.hid htl
      clear hp htl
      refine cp.mono ?_
      rintro e w1 ⟨rfl, hb1⟩
      rw [strV, strV, strV]
      go_wp2
      all_goals
        go_ret2
        refine ⟨congrArg Ending.returned ?_, hb1.alloc hb1.size _⟩
        go_light
        simp only [ByteArray.toList_eq] at *
        first
          | (rw [textV_no HTL.out HP.out (by simp_all)]; rfl)
          | (rw [textV_yes HTL.out HP.out (by simp_all) (by simp_all) (by simp_all), strV, ← mk_of HT.out]; rfl)
  · have ht : (((a ++ (⟨#[59]⟩ ++ b)) ++ (⟨#[62]⟩ ++ c)) : ByteArray).data.toList = textL a.data.toList b.data.toList c.data.toList := by
      rw [ByteArray.toList_eq] at h1 h2
      simp [textL, h1, h2]
    have hz : (((a ++ (⟨#[59]⟩ ++ b)) ++ (⟨#[62]⟩ ++ c)) : ByteArray).size ≤ 9223372036854775807 := by simp only [ByteArray.size_append, sz59, sz62]; omega
    have cp := parse_any ((a ++ (⟨#[59]⟩ ++ b)) ++ (⟨#[62]⟩ ++ c)) m w hz hm
    rw [ht] at cp
    generalize htl : textL a.data.toList b.data.toList c.data.toList = tl at cp ht
    go_enter Tryd.func10, Tryd.ntmps10
    go_wp2_with fail
    generalize ((a ++ (⟨#[59]⟩ ++ b)) ++ (⟨#[62]⟩ ++ c)) = t at cp ht ⊢
    have HT := Lib.hid ht
    clear ht hz
    cases hp : parseB tl with
    | none =>
      have HV : Hid (textV a.data.toList b.data.toList c.data.toList = .tuple #[strV [], .int .i64 1]) := by
        unfold Hid; rw [textV, htl, hp]; exact if_neg (by simp)
      rw [parseP_none hp] at cp
      clear hp htl
      refine cp.mono ?_
      rintro e w1 ⟨rfl, hb1⟩
      rw [strV]
      go_wp2
      go_ret2
      exact ⟨congrArg Ending.returned HV.out.symm, hb1.alloc hb1.size _⟩
    | some p =>
      obtain ⟨x, y, z⟩ := p
      rw [parseP_some hp] at cp
      have HP := Lib.hid hp
      have HTL := Lib.hid htl
      clear hp htl
      refine cp.mono ?_
      rintro e w1 ⟨rfl, hb1⟩
      rw [strV, strV, strV]
      go_wp2
      all_goals
        go_ret2
        refine ⟨congrArg Ending.returned ?_, hb1.alloc hb1.size _⟩
        go_light
        simp only [ByteArray.toList_eq] at *
        first
          | (rw [textV_no HTL.out HP.out (by simp_all)]; rfl)
          | (rw [textV_yes HTL.out HP.out (by simp_all) (by simp_all) (by simp_all), strV, ← mk_of HT.out]; rfl)
end Go.Proofs.YtacghogdodcinaaDoor
