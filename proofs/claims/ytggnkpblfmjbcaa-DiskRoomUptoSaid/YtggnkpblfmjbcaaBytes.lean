/-
  Plain facts on lists of bytes: small letters, blanks, places of a byte, cuts. No condition.
-/
import Derived.WalkKit
namespace Go.Bd
abbrev Bs := List UInt8

/-- small letters -/
def lowerB (c : UInt8) : UInt8 := if 65 ≤ c ∧ c ≤ 90 then c + 32 else c
def lower (l : Bs) : Bs := l.map lowerB

/-- the place of a byte; the length, if there is none -/
def first (l : Bs) (c : Int) : Nat := l.findIdx (fun b => (b.toNat : Int) == c)

theorem first_le (l : Bs) (c : Int) : first l c ≤ l.length := List.findIdx_le_length
theorem first_lt {l : Bs} {c : Int} {k : Nat} (hk : k < l.length) (h0 : ∀ j (h : j < l.length), j < k → ((l[j].toNat : Int) == c) = false)
    (h : ((l[k].toNat : Int) == c) = true) : first l c = k := by
  unfold first
  rw [List.findIdx_eq hk]
  exact ⟨h, fun j hj => h0 j (by omega) hj⟩
theorem first_none {l : Bs} {c : Int} (h0 : ∀ j (h : j < l.length), ((l[j].toNat : Int) == c) = false) : first l c = l.length := by
  unfold first
  rw [List.findIdx_eq_length]
  intro x hx
  obtain ⟨j, hj, rfl⟩ := List.mem_iff_getElem.1 hx
  exact h0 j hj
/-- the same, of a text as the walk has it -/
def NoBefore (s : ByteArray) (c : Int) (k : Nat) : Prop := ∀ j (h : j < s.size), j < k → ((s[j].toNat : Int) == c) = false
theorem NoBefore.zero (s : ByteArray) (c : Int) : NoBefore s c 0 := fun _ _ h => absurd h (by omega)
theorem NoBefore.succ {s : ByteArray} {c : Int} {k : Nat} (h : NoBefore s c k) (hk : k < s.size) (h1 : ((s[k].toNat : Int) == c) = false) : NoBefore s c (k + 1) := by
  intro j hj hjk
  by_cases e : j = k
  · subst e; exact h1
  · exact h j hj (by omega)
theorem NoBefore.hit {s : ByteArray} {c : Int} {k : Nat} (h : NoBefore s c k) (hk : k < s.size) (h1 : ((s[k].toNat : Int) == c) = true) : first s.data.toList c = k :=
  first_lt (by simpa using hk) (fun j hj hjk => h j (by simpa using hj) hjk) h1
theorem NoBefore.none {s : ByteArray} {c : Int} (h : NoBefore s c s.size) : first s.data.toList c = s.size := by
  rw [first_none (fun j hj => h j (by simpa using hj) (by simpa using hj))]; simp
/-- a part of a term's text: not empty, and none of the five signs -/
def partB (l : Bs) : Bool := !l.isEmpty && (first l 59 == l.length && (first l 62 == l.length && (first l 60 == l.length && (first l 40 == l.length && first l 41 == l.length))))

/-- blanks -/
def blank (c : UInt8) : Bool := c.toNat == 32 || c.toNat == 9
def dropL (l : Bs) : Bs := l.dropWhile blank
def dropR (l : Bs) : Bs := (l.reverse.dropWhile blank).reverse
/-- without blanks at its ends -/
def trim (l : Bs) : Bs := dropR (dropL l)
def strOf : Value → ByteArray | .string s => s | _ => ByteArray.empty

theorem mk_of {u : ByteArray} {l : Bs} (h : u.data.toList = l) : u = ⟨l.toArray⟩ := by subst h; simp
theorem take_rest (s : ByteArray) (a : Nat) : List.take (s.size - a) (List.drop a s.data.toList) = List.drop a s.data.toList := List.take_of_length_le (by simp)
theorem ret_str {u : ByteArray} {l : Bs} (h : u.data.toList = l) : Ending.returned (.string u) = .returned (.string ⟨l.toArray⟩) := by rw [mk_of h]
theorem size_mk (l : Bs) : (ByteArray.mk l.toArray).size = l.length := rfl
theorem size_list (s : ByteArray) : s.size = s.data.toList.length := by simp
theorem extract_list (s : ByteArray) (a b : Nat) : (s.extract a b).data.toList = (s.data.toList.drop a).take (b - a) := by
  simp [ByteArray.extract, ByteArray.copySlice]
theorem blank_iff (c : UInt8) : blank c = true ↔ (c.toNat : Int) = 32 ∨ (c.toNat : Int) = 9 := by
  simp only [blank, Bool.or_eq_true, beq_iff_eq]; omega
theorem list_head {t : ByteArray} (h : 0 < t.size) : t.data.toList = t[0] :: (t.extract 1 t.size).data.toList := by
  have hl : 0 < t.data.toList.length := by simpa using h
  rw [extract_list, List.take_of_length_le (by simp)]
  cases hd : t.data.toList with
  | nil => rw [hd] at hl; simp at hl
  | cons x r =>
    have : t[0] = t.data.toList[0] := rfl
    rw [this]; simp [hd]
theorem dropL_hit {t : ByteArray} (h : 0 < t.size) (hb : (t[0].toNat : Int) = 32 ∨ (t[0].toNat : Int) = 9) : dropL (t.extract 1 t.size).data.toList = dropL t.data.toList := by
  rw [list_head h, dropL, dropL, List.dropWhile_cons_of_pos ((blank_iff _).2 hb)]
theorem dropL_stop {t : ByteArray} (h : 0 < t.size) (hb : ¬ ((t[0].toNat : Int) = 32 ∨ (t[0].toNat : Int) = 9)) : dropL t.data.toList = t.data.toList := by
  rw [list_head h, dropL, List.dropWhile_cons_of_neg]
  rw [blank_iff]; exact hb
theorem dropL_hit2 {t : ByteArray} (h : 0 < t.size) (hb : ((t[0].toNat : Int) == 32) = true ∨ ((t[0].toNat : Int) == 9) = true) : dropL (t.extract 1 t.size).data.toList = dropL t.data.toList :=
  dropL_hit h (by simpa using hb)
theorem dropL_stop2 {t : ByteArray} (h : 0 < t.size) (hb : ((t[0].toNat : Int) == 32) = false ∧ ((t[0].toNat : Int) == 9) = false) : dropL t.data.toList = t.data.toList :=
  dropL_stop h (by simpa using hb)
theorem dropL_none {t : ByteArray} (h : ¬ 0 < t.size) : dropL t.data.toList = t.data.toList := by
  have : t.data.toList = [] := List.eq_nil_of_length_eq_zero (by have := size_list t; omega)
  rw [this]; rfl
theorem list_last {t : ByteArray} (h : 0 < t.size) : t.data.toList = (t.extract 0 (t.size - 1)).data.toList ++ [t[t.size - 1]] := by
  have hl : t.data.toList.length = t.size := by simp
  rw [extract_list, List.drop_zero, Nat.sub_zero]
  have e : t[t.size - 1] = t.data.toList[t.size - 1]'(by omega) := rfl
  rw [e, ← List.take_succ_eq_append_getElem, List.take_of_length_le (by omega)]
theorem dropR_hit {t : ByteArray} (h : 0 < t.size) (hb : (t[t.size - 1].toNat : Int) = 32 ∨ (t[t.size - 1].toNat : Int) = 9) : dropR (t.extract 0 (t.size - 1)).data.toList = dropR t.data.toList := by
  rw [dropR, dropR]; conv => rhs; rw [list_last h]
  rw [List.reverse_append, List.reverse_singleton, List.singleton_append, List.dropWhile_cons_of_pos ((blank_iff _).2 hb)]
theorem dropR_stop {t : ByteArray} (h : 0 < t.size) (hb : ¬ ((t[t.size - 1].toNat : Int) = 32 ∨ (t[t.size - 1].toNat : Int) = 9)) : dropR t.data.toList = t.data.toList := by
  rw [dropR]; conv => lhs; rw [list_last h]
  rw [List.reverse_append, List.reverse_singleton, List.singleton_append, List.dropWhile_cons_of_neg, List.reverse_cons, List.reverse_reverse, ← list_last h]
  rw [blank_iff]; exact hb
theorem dropR_hit2 {t : ByteArray} (h : 0 < t.size) (hb : ((t[t.size - 1].toNat : Int) == 32) = true ∨ ((t[t.size - 1].toNat : Int) == 9) = true) : dropR (t.extract 0 (t.size - 1)).data.toList = dropR t.data.toList :=
  dropR_hit h (by simpa using hb)
theorem dropR_stop2 {t : ByteArray} (h : 0 < t.size) (hb : ((t[t.size - 1].toNat : Int) == 32) = false ∧ ((t[t.size - 1].toNat : Int) == 9) = false) : dropR t.data.toList = t.data.toList :=
  dropR_stop h (by simpa using hb)
theorem dropR_none {t : ByteArray} (h : ¬ 0 < t.size) : dropR t.data.toList = t.data.toList := by
  have : t.data.toList = [] := List.eq_nil_of_length_eq_zero (by have := size_list t; omega)
  rw [this]; rfl
theorem partB_eq (s : ByteArray) : partB s.data.toList = (!s.toList.isEmpty && ((first s.data.toList 59 : Int) == s.size && ((first s.data.toList 62 : Int) == s.size && ((first s.data.toList 60 : Int) == s.size && ((first s.data.toList 40 : Int) == s.size && (first s.data.toList 41 : Int) == s.size))))) := by
  have e : ∀ c : Int, ((first s.data.toList c : Int) == (s.size : Int)) = (first s.data.toList c == s.data.toList.length) := by
    intro c; rw [size_list]; rw [Bool.eq_iff_iff]; simp only [beq_iff_eq]; omega
  simp only [partB, e, ByteArray.toList_eq]
theorem dropR_cons (x : UInt8) (xs : Bs) : dropR (x :: xs) = if dropR xs = [] ∧ blank x = true then [] else x :: dropR xs := by
  unfold dropR
  rw [List.reverse_cons, List.dropWhile_append]
  by_cases h : (xs.reverse.dropWhile blank) = []
  · rw [h]
    by_cases hb : blank x = true
    · simp [hb]
    · simp [hb]
  · rw [if_neg (by simpa using h), if_neg (by simp [h])]
    simp
/-- the end first, or the beginning first -/
theorem dropLR (l : Bs) : dropL (dropR l) = trim l := by
  unfold trim
  induction l with
  | nil => rfl
  | cons x xs ih =>
    by_cases hb : blank x = true
    · have e : dropL (x :: xs) = dropL xs := List.dropWhile_cons_of_pos hb
      rw [e, ← ih, dropR_cons]
      by_cases h : dropR xs = []
      · rw [if_pos ⟨h, hb⟩, h]
      · rw [if_neg (by simp [h])]
        exact List.dropWhile_cons_of_pos hb
    · have e : dropL (x :: xs) = x :: xs := List.dropWhile_cons_of_neg hb
      rw [e, dropR_cons, if_neg (by simp [hb])]
      exact List.dropWhile_cons_of_neg hb
def signs : Bs := [59, 62, 60, 40, 41]
theorem first_eq (l : Bs) (c : UInt8) : (first l c.toNat == l.length) = !l.contains c := by
  rw [Bool.eq_iff_iff, beq_iff_eq, first, List.findIdx_eq_length]
  simp only [Bool.not_eq_true', beq_eq_false_iff_ne, List.contains_eq_mem, decide_eq_false_iff_not]
  constructor
  · intro h hm
    exact h c hm rfl
  · intro h x hx e
    have : x = c := UInt8.toNat_inj.1 (by omega)
    exact h (this ▸ hx)
theorem partB_signs (l : Bs) : partB l = (!l.isEmpty && !l.any (signs.contains ·)) := by
  have h59 := first_eq l 59
  have h62 := first_eq l 62
  have h60 := first_eq l 60
  have h40 := first_eq l 40
  have h41 := first_eq l 41
  have e59 : ((59 : UInt8).toNat : Int) = 59 := rfl
  have e62 : ((62 : UInt8).toNat : Int) = 62 := rfl
  have e60 : ((60 : UInt8).toNat : Int) = 60 := rfl
  have e40 : ((40 : UInt8).toNat : Int) = 40 := rfl
  have e41 : ((41 : UInt8).toNat : Int) = 41 := rfl
  rw [e59] at h59; rw [e62] at h62; rw [e60] at h60; rw [e40] at h40; rw [e41] at h41
  rw [partB, h59, h62, h60, h40, h41]
  congr 1
  rw [Bool.eq_iff_iff]
  simp only [Bool.and_eq_true, Bool.not_eq_true', List.contains_eq_mem, decide_eq_false_iff_not, List.any_eq_false]
  constructor
  · rintro ⟨a, b, c, d, e⟩ x hx
    simp only [signs, List.mem_cons, List.not_mem_nil, or_false, decide_eq_true_eq]
    rintro (rfl | rfl | rfl | rfl | rfl) <;> contradiction
  · intro h
    refine ⟨fun m => ?_, fun m => ?_, fun m => ?_, fun m => ?_, fun m => ?_⟩
    all_goals exact h _ m (by decide)
/-- a term's text: the term, what stands under it, what it leads to -/
def parseB (l : Bs) : Option (Bs × Bs × Bs) :=
  if 240 < l.length then none
  else if partB (trim (l.take (min (first l 59) (first l 62)))) = false then none
  else if min (first l 59) (first l 62) = l.length then some (trim (l.take (min (first l 59) (first l 62))), [], [])
  else if partB (trim (l.drop (min (first l 59) (first l 62) + 1))) = false then none
  else if (l.getD (min (first l 59) (first l 62)) 0).toNat = 59 then some (trim (l.take (min (first l 59) (first l 62))), trim (l.drop (min (first l 59) (first l 62) + 1)), [])
  else some (trim (l.take (min (first l 59) (first l 62))), [], trim (l.drop (min (first l 59) (first l 62) + 1)))
def strV (l : Bs) : Value := .string ⟨l.toArray⟩
def parseV (l : Bs) : Value := match parseB l with
  | none => .tuple #[strV [], strV [], strV [], .int .i64 4]
  | some (a, b, c) => .tuple #[strV a, strV b, strV c, .int .i64 0]
/-- the same, the place of the sign that cuts being m -/
def parseAt (s : ByteArray) (m : Nat) : Value :=
  if (240 : Int) < s.size then .tuple #[strV [], strV [], strV [], .int .i64 4]
  else if partB (trim (s.data.toList.take m)) = false then .tuple #[strV [], strV [], strV [], .int .i64 4]
  else if (m : Int) = s.size then .tuple #[strV (trim (s.data.toList.take m)), strV [], strV [], .int .i64 0]
  else if partB (trim (s.data.toList.drop (m + 1))) = false then .tuple #[strV [], strV [], strV [], .int .i64 4]
  else if ((s.data.toList.getD m 0).toNat : Int) = 59 then .tuple #[strV (trim (s.data.toList.take m)), strV (trim (s.data.toList.drop (m + 1))), strV [], .int .i64 0]
  else .tuple #[strV (trim (s.data.toList.take m)), strV [], strV (trim (s.data.toList.drop (m + 1))), .int .i64 0]
theorem parseV_at {s : ByteArray} {m : Nat} (hm : min (first s.data.toList 59) (first s.data.toList 62) = m) : parseV s.data.toList = parseAt s m := by
  have hl := size_list s
  rw [parseV, parseB, hm, parseAt]
  have c1 : (240 < s.data.toList.length) ↔ ((240 : Int) < s.size) := by rw [hl]; omega
  have c2 : (m = s.data.toList.length) ↔ ((m : Int) = s.size) := by rw [hl]; omega
  have c3 : ((s.data.toList.getD m 0).toNat = 59) ↔ (((s.data.toList.getD m 0).toNat : Int) = 59) := by omega
  simp only [c1, c2, c3]
  repeat' split
  all_goals simp_all
theorem trim_le (l : Bs) : (trim l).length ≤ l.length := by
  have h1 : ∀ (p : UInt8 → Bool) (l : Bs), (l.dropWhile p).length ≤ l.length := fun p l => (List.dropWhile_sublist p).length_le
  unfold trim dropR dropL
  have a := h1 blank (l.dropWhile blank).reverse
  have b := h1 blank l
  simp only [List.length_reverse] at *
  omega
theorem trim_take_le (l : Bs) (m : Nat) : (trim (l.take m)).length ≤ l.length := by
  have := trim_le (l.take m); simp at this; omega
theorem trim_drop_le (l : Bs) (m : Nat) : (trim (l.drop m)).length ≤ l.length := by
  have := trim_le (l.drop m); simp at this; omega
theorem getD_get {s : ByteArray} {m : Nat} (h : m < s.size) : s.data.toList.getD m 0 = s[m] := by
  rw [List.getD_eq_getElem?_getD, List.getElem?_eq_getElem (by simpa using h)]; rfl
end Go.Bd
