/-
  Plain: parses of texts without signs, of styled words, of code. No condition.
-/
import Derived.Test.YtkfffoolpdilnaaSQ
namespace Go.Bd
/-- no byte of these begins anything -/
def plainC (c : UInt8) : Bool := !(c == 42 || c == 95 || c == 60 || c == 40 || c == 94 || c == 93 || c == 92 || c == 96)
theorem drop_cons {s : Bs} {i : Nat} (h : i < s.length) : s.drop i = s.getD i 0 :: s.drop (i + 1) := by
  rw [List.drop_eq_getElem_cons h, List.getD_eq_getElem?_getD, List.getElem?_eq_getElem h]; rfl
theorem plain_ne {c : UInt8} (h : plainC c = true) : c ≠ 42 ∧ c ≠ 95 ∧ c ≠ 60 ∧ c ≠ 40 ∧ c ≠ 94 ∧ c ≠ 93 ∧ c ≠ 92 ∧ c ≠ 96 := by
  simp only [plainC, Bool.not_eq_true', Bool.or_eq_false_iff, beq_eq_false_iff_ne] at h
  obtain ⟨⟨⟨⟨⟨⟨⟨h1, h2⟩, h3⟩, h4⟩, h5⟩, h6⟩, h7⟩, h8⟩ := h
  exact ⟨h1, h2, h3, h4, h5, h6, h7, h8⟩
theorem pre_ne {a b : UInt8} {s : Bs} {i : Nat} (hi : i < s.length) (h : s.getD i 0 ≠ a) : [a, b].isPrefixOf (s.drop i) = false := by
  rw [drop_cons hi, List.isPrefixOf]
  have : (a == s.getD i 0) = false := by simpa using fun e => h e.symm
  rw [this]; rfl
theorem step_plain {s : Bs} {i : Nat} (st : Pst) (hi : i < s.length) (h : plainC (s.getD i 0) = true) : st.step s i = (st.write [s.getD i 0], i + 1) := by
  obtain ⟨h1, h2, h3, h4, h5, h6, h7, h8⟩ := plain_ne h
  unfold Pst.step
  rw [if_neg (fun h => h7 h.1), if_neg h8, if_neg (by rw [pre_ne hi h3]; simp), if_neg (by rw [pre_ne hi h4]; simp), if_neg (by rw [pre_ne hi h5]; simp), if_neg (fun h => h6 h.1), if_neg h1, if_neg h2]
theorem onTop_twice (g h : Rw → Rw) (l : List Fr) : onTop h (onTop g l) = onTop (fun r => h (g r)) l := by cases l <;> rfl
theorem write_write (st : Pst) (a b : Bs) : (st.write a).write b = st.write (a ++ b) := by
  unfold Pst.write Pst.top
  simp only [onTop_twice]
  congr 1
  cases st.fs with
  | nil => rfl
  | cons f r => simp [onTop, Rw.write]
theorem write_nil (st : Pst) : st.write [] = st := by
  obtain ⟨fs, fa⟩ := st
  cases fs with
  | nil => rfl
  | cons f r => simp [Pst.write, Pst.top, onTop, Rw.write]
/-- a stretch of plain bytes is text -/
theorem run_plain {s : Bs} : ∀ (m : Nat) (n i : Nat) (st : Pst), i + m ≤ s.length → (∀ j, i ≤ j → j < i + m → plainC (s.getD j 0) = true) → m ≤ n → runP s n i st = runP s (n - m) (i + m) (st.write ((s.drop i).take m))
  | 0, n, i, st, _, _, _ => by simp [write_nil]
  | m + 1, n, i, st, hl, hp, hn => by
    obtain ⟨n, rfl⟩ : ∃ k, n = k + 1 := ⟨n - 1, by omega⟩
    have hi : i < s.length := by omega
    rw [runP, if_pos hi, step_plain st hi (hp i (Nat.le_refl _) (by omega))]
    simp only
    rw [run_plain m n (i + 1) _ (by omega) (fun j h1 h2 => hp j (by omega) (by omega)) (by omega), write_write]
    have e1 : n + 1 - (m + 1) = n - m := by omega
    have e2 : i + (m + 1) = i + 1 + m := by omega
    rw [e1, e2, drop_cons hi, List.take_succ_cons]; rfl
theorem run_end {s : Bs} {n i : Nat} (st : Pst) (h : s.length ≤ i) : runP s n i st = st := by
  cases n with
  | zero => rfl
  | succ n => rw [runP, if_neg (by omega)]
/-- fuel beyond what is left does not matter -/
theorem run_fuel {s : Bs} : ∀ (n m i : Nat) (st : Pst), Inv st i → s.length - i ≤ n → s.length - i ≤ m → runP s n i st = runP s m i st
  | 0, m, i, st, _, h1, _ => by rw [run_end st (by omega), run_end st (by omega)]
  | n + 1, 0, i, st, _, _, h2 => by rw [run_end st (by omega), run_end st (by omega)]
  | n + 1, m + 1, i, st, hI, h1, h2 => by
    rw [runP, runP]
    split
    · rename_i hi
      obtain ⟨h3, h4, h5⟩ := hI.step hi
      exact run_fuel n m _ _ h3 (by omega) (by omega)
    · rfl
theorem run_step {s : Bs} {n i : Nat} {st : Pst} (hI : Inv st i) (hi : i < s.length) (hn : s.length - i ≤ n) : runP s n i st = runP s n (st.step s i).2 (st.step s i).1 := by
  obtain ⟨n, rfl⟩ : ∃ k, n = k + 1 := ⟨n - 1, by omega⟩
  obtain ⟨h3, h4, h5⟩ := hI.step hi
  rw [runP, if_pos hi]
  exact run_fuel _ _ _ _ h3 (by omega) (by omega)
theorem Inv.run {s : Bs} : ∀ (n i : Nat) (st : Pst), Inv st i → i ≤ s.length → s.length - i ≤ n → Inv (runP s n i st) s.length
  | 0, i, st, h, hi, hn => by rw [run_end st (by omega)]; exact h.more hi
  | n + 1, i, st, h, hi, hn => by
    rw [runP]
    split
    · rename_i hlt
      obtain ⟨h3, h4, h5⟩ := h.step hlt
      exact Inv.run n _ _ h3 h5 (by omega)
    · exact h.more hi
theorem drop_one {st : Pst} (h : st.fs.length = 1) : st.drop 0 = st := by rw [Pst.drop, h]; rfl
theorem getD_app_left {a b : Bs} {i : Nat} (h : i < a.length) : (a ++ b).getD i 0 = a.getD i 0 := by rw [List.getD_eq_getElem?_getD, List.getElem?_append_left h, ← List.getD_eq_getElem?_getD]
theorem getD_app_right {a b : Bs} {i : Nat} (h : a.length ≤ i) : (a ++ b).getD i 0 = b.getD (i - a.length) 0 := by rw [List.getD_eq_getElem?_getD, List.getElem?_append_right h, ← List.getD_eq_getElem?_getD]
theorem plain_getD {l : Bs} (h : l.all plainC = true) {j : Nat} (hj : j < l.length) : plainC (l.getD j 0) = true := by
  rw [List.getD_eq_getElem?_getD, List.getElem?_eq_getElem hj]
  exact List.all_eq_true.1 h _ (List.getElem_mem hj)
/-- a text without signs is one text -/
theorem end_plain {s : Bs} (h : s.all plainC = true) : endP s = ⟨[⟨⟨[], s⟩, 0, [], 0⟩], []⟩ := by
  unfold endP
  rw [run_plain s.length s.length 0 Pst.first (by omega) (fun j _ h2 => plain_getD h (by omega)) (Nat.le_refl _), run_end _ (by omega)]
  simp only [List.drop_zero, List.take_length]
  rfl
theorem spans_plain {s : Bs} (h : s.all plainC = true) : spansOf s = (if s = [] then [] else [txt s]) ∧ faultsAt s = [] := by
  unfold spansOf faultsAt
  rw [end_plain h]
  refine ⟨?_, rfl⟩
  simp only [Rw.flush]
  split <;> rfl
end Go.Bd
