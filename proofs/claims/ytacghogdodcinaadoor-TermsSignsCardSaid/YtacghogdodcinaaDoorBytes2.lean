/-
  Plain facts on a term's text: what it tells, case by case. No condition.
-/
import Derived.Test.YtacghogdodcinaaDoorBytes
import Derived.Lib.IndexMore
import Derived.Lib.IndexBytes
namespace Go.Bd
theorem first_cons (x : UInt8) (l : Bs) (c : UInt8) : first (x :: l) c.toNat = if x = c then 0 else first l c.toNat + 1 := by
  unfold first
  rw [List.findIdx_cons]
  by_cases h : x = c
  · subst h; simp
  · have : ((x.toNat : Int) == (c.toNat : Int)) = false := by
      rw [beq_eq_false_iff_ne]; intro e; exact h (UInt8.toNat_inj.1 (by omega))
    rw [this, if_neg h]; rfl
theorem indexByte_first (c : UInt8) : ∀ l : Bs, Lib.indexByte l c = if first l c.toNat < l.length then (first l c.toNat : Int) else -1
  | [] => rfl
  | x :: l => by
    have ih := indexByte_first c l
    have hle := first_le l (c.toNat : Int)
    rw [first_cons, Lib.indexByte, ih]
    by_cases h : x = c
    · subst h; simp
    · rw [if_neg (by simpa using h), if_neg h]
      by_cases h2 : first l c.toNat < l.length
      · rw [if_pos h2, if_neg (by rw [beq_iff_eq]; omega), if_pos (by simp only [List.length_cons]; omega)]; omega
      · rw [if_neg h2, if_pos (by decide), if_neg (by simp only [List.length_cons]; omega)]
theorem cut_hit {l : Bs} {c : UInt8} (h : first l c.toNat < l.length) : Lib.cut l [c] = (l.take (first l c.toNat), l.drop (first l c.toNat + 1), true) := by
  rw [Lib.cut, Lib.index_one, indexByte_first, if_pos h, if_pos (by omega)]; rfl
theorem cut_none {l : Bs} {c : UInt8} (h : l.length ≤ first l c.toNat) : Lib.cut l [c] = (l, [], false) := by
  rw [Lib.cut, Lib.index_one, indexByte_first, if_neg (by omega)]
/-- a text with two parts, cut at m -/
def two (l : Bs) (m : Nat) : Bool := partB (trim (l.take m)) && partB (trim (l.drop (m + 1)))
theorem mem_dropL {l : Bs} {c : UInt8} (h : c ∈ l) (hb : blank c = false) : c ∈ dropL l := by
  unfold dropL
  induction l with
  | nil => cases h
  | cons x l ih =>
    by_cases hx : blank x = true
    · rw [List.dropWhile_cons_of_pos hx]
      rcases List.mem_cons.1 h with e | e
      · subst e; rw [hb] at hx; cases hx
      · exact ih e
    · rw [List.dropWhile_cons_of_neg hx]; exact h
theorem mem_trim {l : Bs} {c : UInt8} (h : c ∈ l) (hb : blank c = false) : c ∈ trim l := by
  unfold trim dropR
  rw [List.mem_reverse]
  exact mem_dropL (List.mem_reverse.2 (mem_dropL h hb)) hb
theorem partB_mem {l : Bs} {c : UInt8} (h : c ∈ l) (hc : c ∈ signs) : partB l = false := by
  rw [partB_signs]
  have : l.any (signs.contains ·) = true := List.any_eq_true.2 ⟨c, h, by simpa using hc⟩
  rw [this]; simp
theorem first_mem {l : Bs} {c : UInt8} (h : first l c.toNat < l.length) : l[first l c.toNat]'h = c := by
  have := List.findIdx_getElem (w := h)
  have e : (((l[first l c.toNat]'h).toNat : Int) == c.toNat) = true := this
  exact UInt8.toNat_inj.1 (by have := (beq_iff_eq.1 e); omega)
theorem mem_take_first {l : Bs} {c : UInt8} {m : Nat} (h : first l c.toNat < l.length) (hm : first l c.toNat < m) : c ∈ l.take m := by
  rw [List.mem_iff_getElem]
  exact ⟨first l c.toNat, by simp; omega, by rw [List.getElem_take, first_mem h]⟩
theorem mem_drop_first {l : Bs} {c : UInt8} {m : Nat} (h : first l c.toNat < l.length) (hm : m ≤ first l c.toNat) : c ∈ l.drop m := by
  rw [List.mem_iff_getElem]
  refine ⟨first l c.toNat - m, by simp; omega, ?_⟩
  rw [List.getElem_drop]
  have e : m + (first l c.toNat - m) = first l c.toNat := by omega
  simp only [e]
  exact first_mem h
theorem parseB_long {l : Bs} (h : 240 < l.length) : parseB l = none := by rw [parseB, if_pos h]
theorem e59 : ((59 : UInt8).toNat : Int) = 59 := rfl
theorem e62 : ((62 : UInt8).toNat : Int) = 62 := rfl
/-- with the sign ';' -/
theorem parseB_sub {l : Bs} (hl : l.length ≤ 240) (h : first l 59 < l.length) :
    parseB l = if two l (first l 59) = true then some (trim (l.take (first l 59)), trim (l.drop (first l 59 + 1)), []) else none := by
  have f59 := @first_mem l 59 (by rw [e59]; exact h)
  simp only [e59] at f59
  rw [parseB, if_neg (by omega)]
  rcases Nat.lt_or_ge (first l 62) (first l 59) with hlt | hge
  · have hm : min (first l 59) (first l 62) = first l 62 := Nat.min_eq_right (Nat.le_of_lt hlt)
    have n1 : partB (trim (l.take (first l 59))) = false :=
      partB_mem (c := 62) (mem_trim (mem_take_first (by rw [e62]; omega) (by rw [e62]; exact hlt)) (by decide)) (by decide)
    have n2 : partB (trim (l.drop (first l 62 + 1))) = false :=
      partB_mem (c := 59) (mem_trim (mem_drop_first (by rw [e59]; exact h) (by rw [e59]; omega)) (by decide)) (by decide)
    rw [hm, if_neg (show ¬ two l (first l 59) = true by simp [two, n1]), n2]
    split
    · rfl
    · rw [if_neg (by omega)]; simp
  · have hm : min (first l 59) (first l 62) = first l 59 := Nat.min_eq_left hge
    rw [hm, two]
    cases h1 : partB (trim (l.take (first l 59)))
    · simp
    · rw [if_neg (by simp), if_neg (by omega)]
      cases h2 : partB (trim (l.drop (first l 59 + 1)))
      · simp
      · rw [if_neg (by simp), if_pos, if_pos (by simp)]
        rw [List.getD_eq_getElem?_getD, List.getElem?_eq_getElem h, Option.getD_some, f59]; rfl
/-- with the sign '>' alone -/
theorem parseB_see {l : Bs} (hl : l.length ≤ 240) (h0 : first l 59 = l.length) (h : first l 62 < l.length) :
    parseB l = if two l (first l 62) = true then some (trim (l.take (first l 62)), [], trim (l.drop (first l 62 + 1))) else none := by
  have f62 := @first_mem l 62 (by rw [e62]; exact h)
  simp only [e62] at f62
  have hm : min (first l 59) (first l 62) = first l 62 := Nat.min_eq_right (by omega)
  rw [parseB, if_neg (by omega), hm, two]
  cases h1 : partB (trim (l.take (first l 62)))
  · simp
  · rw [if_neg (by simp), if_neg (by omega)]
    cases h2 : partB (trim (l.drop (first l 62 + 1)))
    · simp
    · rw [if_neg (by simp), if_neg, if_pos (by simp)]
      rw [List.getD_eq_getElem?_getD, List.getElem?_eq_getElem h, Option.getD_some, f62]; decide
/-- with none -/
theorem parseB_one {l : Bs} (hl : l.length ≤ 240) (h0 : first l 59 = l.length) (h : first l 62 = l.length) :
    parseB l = if partB (trim l) = true then some (trim l, [], []) else none := by
  have hm : min (first l 59) (first l 62) = l.length := by omega
  rw [parseB, if_neg (by omega), hm, List.take_of_length_le (Nat.le_refl _), if_pos rfl]
  cases h1 : partB (trim l) <;> simp
end Go.Bd
