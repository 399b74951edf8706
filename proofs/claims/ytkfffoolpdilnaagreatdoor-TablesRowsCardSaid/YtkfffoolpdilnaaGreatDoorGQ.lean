/-
  Plain: what a line's cells are. No condition.
-/
import Derived.Test.YtkfffoolpdilnaaGreatDoorGE
namespace Go.Bd
/-- cut at bars -/
def splitL : Bs → List Bs
  | [] => [[]]
  | c :: l => if c = 124 then [] :: splitL l else match splitL l with
    | [] => [[c]]
    | p :: ps => (c :: p) :: ps
theorem splitL_ne (l : Bs) : splitL l ≠ [] := by
  cases l with
  | nil => simp [splitL]
  | cons c l =>
    rw [splitL]
    split
    · simp
    · split <;> simp
theorem index_eq (l : Bs) : Lib.index (124 :: l) [124] = 0 := by rw [Lib.index]; simp [List.isPrefixOf]
theorem index_ne (c : UInt8) (l : Bs) (h : c ≠ 124) : Lib.index (c :: l) [124] = if Lib.index l [124] == -1 then -1 else Lib.index l [124] + 1 := by
  have hp : ([124] : List UInt8).isPrefixOf (c :: l) = false := by simp [List.isPrefixOf]; exact fun e => h e.symm
  rw [Lib.index, hp]; simp
theorem splitK_splitL : ∀ l : Bs, Lib.splitK [124] 0 (Lib.count l [124]) l = splitL l
  | [] => by rw [Lib.count_one]; rfl
  | c :: l => by
    have ih := splitK_splitL l
    by_cases h : c = 124
    · subst h
      rw [Lib.count_cons_eq, Nat.add_comm, Lib.splitK, index_eq, splitL, if_pos rfl, if_neg (by decide), ← ih]
      simp
    · rw [Lib.count_cons_ne c 124 l h, splitL, if_neg h, ← ih]
      cases hk : Lib.count l [124] with
      | zero => rfl
      | succ k =>
        rw [Lib.splitK, Lib.splitK, index_ne c l h]
        by_cases hi : Lib.index l [124] = -1
        · simp [hi]
        · have hge := Lib.index_ge l [124]
          obtain ⟨i, hi'⟩ : ∃ i : Nat, Lib.index l [124] = i := ⟨(Lib.index l [124]).toNat, by omega⟩
          have e1 : ((i : Int) == -1) = false := by simp
          have e2 : (((i : Int) + 1) == -1) = false := by simp; omega
          have e3 : ((i : Int) + 1).toNat = i + 1 := by omega
          rw [hi', e1]
          simp [e2, e3]
theorem pieces_list (b : ByteArray) : (pieces b).map (·.data.toList) = splitL b.data.toList := by
  rw [pieces, Lib.splitB_data]
  exact splitK_splitL _
theorem splitL_app : ∀ (x y : Bs), 124 ∉ x → splitL (x ++ 124 :: y) = x :: splitL y
  | [], y, _ => by rw [List.nil_append, splitL, if_pos rfl]
  | c :: x, y, h => by
    simp only [List.mem_cons, not_or] at h
    rw [List.cons_append, splitL, if_neg (fun e => h.1 e.symm), splitL_app x y h.2]
theorem splitL_no : ∀ (l : Bs) (p : Bs), p ∈ splitL l → 124 ∉ p
  | [], p, h => by rw [splitL, List.mem_singleton] at h; subst h; simp
  | c :: l, p, h => by
    rw [splitL] at h
    split at h
    · rcases List.mem_cons.1 h with rfl | h
      · simp
      · exact splitL_no l p h
    · rename_i hc
      have ih := splitL_no l
      cases hs : splitL l with
      | nil => exact absurd hs (splitL_ne l)
      | cons q qs =>
        rw [hs] at h ih
        rcases List.mem_cons.1 h with rfl | h
        · have := ih q (List.mem_cons_self ..)
          simp only [List.mem_cons, not_or]
          exact ⟨fun e => hc e.symm, this⟩
        · exact ih p (List.mem_cons_of_mem _ h)
theorem splitL_length : ∀ l : Bs, (splitL l).length = l.count 124 + 1
  | [] => rfl
  | c :: l => by
    have ih := splitL_length l
    rw [splitL]
    split
    · rename_i h; subst h; rw [List.length_cons, ih, List.count_cons_self]
    · rename_i h
      rw [List.count_cons_of_ne h]
      cases hs : splitL l with
      | nil => exact absurd hs (splitL_ne l)
      | cons q qs => rw [hs] at ih; simpa using ih
/-- without bars, and blanks at its ends -/
def cleanB (s : ByteArray) : Bool := !s.data.toList.contains 124 && decide (trim s.data.toList = s.data.toList)
theorem tr_list (b : ByteArray) : (tr b).data.toList = trim b.data.toList := rfl
theorem dropL_sub (l : Bs) : ∀ x ∈ dropL l, x ∈ l := fun x h => (List.dropWhile_sublist _).subset h
theorem dropR_sub (l : Bs) : ∀ x ∈ dropR l, x ∈ l := fun x h => by
  rw [dropR, List.mem_reverse] at h
  exact List.mem_reverse.1 ((List.dropWhile_sublist _).subset h)
theorem trim_sub (l : Bs) : ∀ x ∈ trim l, x ∈ l := fun x h => dropL_sub l x (dropR_sub _ x h)
theorem dropL_idem (l : Bs) : dropL (dropL l) = dropL l := by
  unfold dropL
  induction l with
  | nil => rfl
  | cons a l ih =>
    by_cases h : blank a = true
    · rw [List.dropWhile_cons_of_pos h, ih]
    · rw [List.dropWhile_cons_of_neg h, List.dropWhile_cons_of_neg h]
theorem dropR_idem (l : Bs) : dropR (dropR l) = dropR l := by
  have := dropL_idem l.reverse
  unfold dropL at this
  unfold dropR
  rw [List.reverse_reverse, this]
theorem trim_idem (l : Bs) : trim (trim l) = trim l := by
  conv => lhs; rw [trim]
  have e : dropL (trim l) = trim l := by rw [← dropLR, dropL_idem]
  rw [e, trim, dropR_idem]
theorem mem_dropEnd {xs : List ByteArray} {x : ByteArray} (h : x ∈ dropEnd xs) : x ∈ xs := by
  rw [dropEnd] at h
  split at h
  · exact List.mem_of_mem_take h
  · exact h
theorem dropEnd_length (xs : List ByteArray) : (dropEnd xs).length = xs.length ∨ (1 < xs.length ∧ (dropEnd xs).length = xs.length - 1) := by
  rw [dropEnd]
  split
  · rename_i h; right; exact ⟨h.1, by rw [List.length_take]; omega⟩
  · left; rfl
theorem rowOf_clean {s x : ByteArray} (h : x ∈ rowOf s) : cleanB x = true := by
  obtain ⟨p, hp, rfl⟩ := List.mem_map.1 (mem_dropEnd h)
  have hp2 : p.data.toList ∈ splitL (Lib.trimPrefix (trim s.data.toList) [124]) := by
    have e := pieces_list ⟨(Lib.trimPrefix (trim s.data.toList) [124]).toArray⟩
    rw [show (⟨(Lib.trimPrefix (trim s.data.toList) [124]).toArray⟩ : ByteArray).data.toList = Lib.trimPrefix (trim s.data.toList) [124] from rfl] at e
    rw [← e]
    exact List.mem_map.2 ⟨p, hp, rfl⟩
  have h1 := splitL_no _ _ hp2
  rw [cleanB, tr_list, trim_idem]
  simp only [Bool.and_eq_true, Bool.not_eq_true', List.contains_eq_mem, decide_eq_false_iff_not, decide_eq_true_eq, and_true]
  exact fun hm => h1 (trim_sub _ _ hm)
/-- a text behind a bar -/
theorem trim_bar (l : Bs) : trim (124 :: l) = 124 :: dropR l := by
  have e : dropL (124 :: l) = 124 :: l := List.dropWhile_cons_of_neg (by decide)
  rw [trim, e, dropR_cons, if_neg (by simp [show blank 124 = false from rfl])]
theorem trim_x (l : Bs) : trim (120 :: l) = 120 :: dropR l := by
  have e : dropL (120 :: l) = 120 :: l := List.dropWhile_cons_of_neg (by decide)
  rw [trim, e, dropR_cons, if_neg (by simp [show blank 120 = false from rfl])]
theorem count_dropR (l : Bs) : (dropR l).count 124 = l.count 124 := by
  have key : ∀ m : Bs, (m.dropWhile blank).count 124 = m.count 124 := by
    intro m
    induction m with
    | nil => rfl
    | cons a m ih =>
      by_cases h : blank a = true
      · rw [List.dropWhile_cons_of_pos h, ih, List.count_cons_of_ne]
        rintro rfl; revert h; decide
      · rw [List.dropWhile_cons_of_neg h]
  rw [dropR, List.count_reverse, key, List.count_reverse]
theorem hasPrefix_cons (c : UInt8) (l : Bs) : Lib.hasPrefix (c :: l) [124] = (c == 124) := by
  rw [Bool.eq_iff_iff]
  simp [Lib.hasPrefix, List.isPrefixOf]
  constructor <;> intro h <;> exact h.symm
theorem trimPrefix_bar (l : Bs) : Lib.trimPrefix (124 :: l) [124] = l := by
  simp [Lib.trimPrefix, Lib.hasPrefix, List.isPrefixOf]
theorem begins_bar (s : ByteArray) : beginsB (bar ++ s) = true := by
  rw [beginsB, show (bar ++ s).data.toList = 124 :: s.data.toList by simp [bar], trim_bar, hasPrefix_cons]; rfl
theorem begins_x (s : ByteArray) : beginsB ((⟨#[120]⟩ : ByteArray) ++ s) = false := by
  rw [beginsB, show ((⟨#[120]⟩ : ByteArray) ++ s).data.toList = 120 :: s.data.toList by simp, trim_x, hasPrefix_cons]; rfl
/-- as many cells as bars, and one more; but for an empty one at its end -/
theorem rowOf_count (s : ByteArray) : (rowOf (bar ++ s)).length = s.data.toList.count 124 + 1 ∨ (1 < s.data.toList.count 124 + 1 ∧ (rowOf (bar ++ s)).length = s.data.toList.count 124) := by
  have e : Lib.trimPrefix (trim (bar ++ s).data.toList) [124] = dropR s.data.toList := by
    rw [show (bar ++ s).data.toList = 124 :: s.data.toList by simp [bar], trim_bar, trimPrefix_bar]
  have hl : ((pieces ⟨(dropR s.data.toList).toArray⟩).map tr).length = s.data.toList.count 124 + 1 := by
    have := congrArg List.length (pieces_list ⟨(dropR s.data.toList).toArray⟩)
    rw [List.length_map] at this
    rw [List.length_map, this, splitL_length]
    show (dropR s.data.toList).count 124 + 1 = _
    rw [count_dropR]
  rw [rowOf, e]
  have := dropEnd_length ((pieces ⟨(dropR s.data.toList).toArray⟩).map tr)
  rw [hl] at this
  simpa using this
end Go.Bd
