/-
  Walks: part of the terms.
-/
import Derived.Test.YtacghogdodcinaaDoorTW8
import Derived.Shelf.Strings.SlTrimAscii
namespace Go.Proofs.YtacghogdodcinaaDoor
open Go.RowKit Go.Bd
theorem set_info : (Tryd.prog.info? 60).map (fun i => (i.zero, i.size)) = some (some (.agg (Array.replicate 256 (.bool false))), 256) := by kernel_rfl
theorem indexAny_any (chars : Bs) : ∀ l : Bs, decide (0 ≤ Lib.indexAny l chars) = l.any (chars.contains ·)
  | [] => rfl
  | b :: l => by
    have ih := indexAny_any chars l
    have hge := Lib.indexAny_ge chars l
    rw [List.any_cons, ← ih, Lib.indexAny]
    cases h : chars.contains b
    · simp only [Bool.false_or, Bool.false_eq_true, if_false]
      by_cases h1 : Lib.indexAny l chars == -1
      · rw [if_pos h1]
        have : Lib.indexAny l chars = -1 := by simpa using h1
        rw [this]
      · rw [if_neg h1]
        have : Lib.indexAny l chars ≠ -1 := by simpa using h1
        rw [Bool.eq_iff_iff, decide_eq_true_eq, decide_eq_true_eq]; omega
    · simp
theorem containsAny_any (s g : ByteArray) (w : World) (hg : ∀ b ∈ g.data.toList, b.toNat < 128) (h4 : 4 ≤ g.size) (h5 : g.size ≤ 200) (hs : s.size < 4294967281) :
    Calls Tryd.prog 33 #[.string s, .string g] w fun e w' => e = .returned (.bool (s.data.toList.any (g.data.toList.contains ·))) ∧ Below w.heap.size w w' := by
  have c : Calls Tryd.prog 42 #[.string s, .string g] w (HitPost (s.data.toList.any (g.data.toList.contains ·)) w) := by
    by_cases h8 : s.size ≤ 8
    · exact indexAny_short s g w hg h4 h5 h8
    · refine (Tryd.strings_IndexAny_long (zero_of_info set_info).1 s g w (by omega) (by omega) hs (by omega) ?_).mono ?_
      · intro j b hj
        exact hg b (List.mem_of_getElem? hj)
      · rintro e w' ⟨he, hw⟩
        refine ⟨_, ?_, he, ?_⟩
        · exact indexAny_any _ _
        · rw [hw]
          exact ((Below.refl _ _).alloc (Nat.le_refl _) _).alloc (by simp) _
  generalize s.data.toList.any (g.data.toList.contains ·) = hit at c ⊢
  go_enter Tryd.func33, Tryd.ntmps33
  go_wp2_with (go_at_call 42; refine c.mono ?_; rintro e w' ⟨r, hr, rfl, hb⟩)
  go_ret
  exact ⟨rfl, hb⟩
theorem trimS_blank (l : Bs) : Lib.trimS l [32, 9] = trim l := by
  have e : (fun c => ([32, 9] : Bs).contains c) = Go.Bd.blank := by
    funext c
    rw [Bool.eq_iff_iff, blank_iff]
    simp only [List.contains_eq_mem, List.mem_cons, List.not_mem_nil, or_false, decide_eq_true_eq, ← UInt8.toNat_inj]
    simp; omega
  rw [← dropLR, Lib.trimS, Lib.trimLeftS, Lib.trimRightS, dropL, dropR, e]
theorem strTrim_any (s : ByteArray) (w : World) (hs : s.size ≤ 9223372036854775807) :
    Calls Tryd.prog 32 #[.string s, .string ⟨#[32, 9]⟩] w fun e w' => e = .returned (strV (trim s.data.toList)) ∧ Below w.heap.size w w' := by
  refine (Any.strings_Trim_laid Tryd.lays160 set_info s ⟨#[32, 9]⟩ w hs (by decide) (ascii_of_all (by decide))).mono ?_
  rintro e w' ⟨he, hb⟩
  refine ⟨?_, hb⟩
  rw [he]
  exact congrArg (fun l : Bs => Ending.returned (strV l)) (trimS_blank _)
theorem sg_data : (⟨#[59, 62, 60, 40, 41]⟩ : ByteArray).data.toList = signs := rfl
def anySign (l : Bs) : Bool := l.any (signs.contains ·)
theorem containsSigns_any (s : ByteArray) (w : World) (hs : s.size < 4294967281) :
    Calls Tryd.prog 33 #[.string s, .string ⟨#[59, 62, 60, 40, 41]⟩] w fun e w' => e = .returned (.bool (anySign s.data.toList)) ∧ Below w.heap.size w w' :=
  containsAny_any s ⟨#[59, 62, 60, 40, 41]⟩ w (by decide) (by decide) (by decide) hs
set_option maxHeartbeats 400000 in
theorem termPart_any (s : ByteArray) (w : World) (hs : s.size < 4294967281) :
    Calls Tryd.prog 24 #[.string s] w fun e w' => e = .returned (.tuple #[strV (trim s.data.toList), .bool (partB (trim s.data.toList))]) ∧ Below w.heap.size w w' := by
  have hle := trim_le s.data.toList
  rw [← size_list] at hle
  have ht := strTrim_any s w (by omega)
  have Hp : Hid (partB (trim s.data.toList) = (!(trim s.data.toList).isEmpty && !anySign (trim s.data.toList))) := partB_signs _
  obtain ⟨l, hl⟩ : ∃ l, l = trim s.data.toList := ⟨_, rfl⟩
  rw [← hl] at ht Hp hle ⊢
  clear hl
  rw [strV] at ht
  by_cases he : l = []
  · subst he
    go_enter Tryd.func24, Tryd.ntmps24
    go_wp2_with (go_at_call 32; refine ht.mono ?_; rintro e w1 ⟨rfl, hb⟩)
    go_ret2
    exact ⟨rfl, hb⟩
  · have h1 : l.isEmpty = false := by simpa using he
    go_enter Tryd.func24, Tryd.ntmps24
    go_wp2_with (first
      | (go_at_call 32; refine ht.mono ?_; rintro e w1 ⟨rfl, hb⟩)
      | (go_at_call 33; refine (containsSigns_any _ _ (by rw [size_mk]; omega)).mono ?_; rintro e w2 ⟨rfl, hb2⟩))
    go_ret2
    exact ⟨congrArg Ending.returned (by rw [Hp.out, h1]; rfl), hb.trans (hb2.mono hb.size)⟩
end Go.Proofs.YtacghogdodcinaaDoor
