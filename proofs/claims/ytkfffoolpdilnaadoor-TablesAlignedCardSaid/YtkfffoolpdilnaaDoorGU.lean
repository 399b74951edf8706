/-
  Plain: in a line of plain texts each bar stands at its place. No condition.
-/
import Derived.Test.YtkfffoolpdilnaaDoorGP
import Derived.Lib.Hide
namespace Go.Bd
/-- a line's bytes from the k-th text on, the bar ahead of that left out -/
def lineIn (W : List Nat) (k : Nat) : List ByteArray → Bs
  | [] => []
  | s :: r => s.data.toList ++ (if r = [] then [] else List.replicate (W.getD k 0 - sg s) 32) ++ lineGo W (k + 1) r
theorem lineGo_bar (W : List Nat) (k : Nat) (s : ByteArray) (r : List ByteArray) : lineGo W (k + 1) (s :: r) = [32, 124, 32] ++ lineIn W (k + 1) (s :: r) := by
  rw [lineGo, if_pos (by omega), lineIn]; simp
theorem lineOf_in (W : List Nat) (r : List ByteArray) : lineOf W r = lineIn W 0 r := by
  cases r with
  | nil => rfl
  | cons s r => rw [lineOf, lineGo, if_neg (by omega), lineIn]; simp
theorem lineIn_step (W : List Nat) (k : Nat) (s t : ByteArray) (r : List ByteArray) (hs : sg s = s.size) : lineIn W k (s :: t :: r) = (s.data.toList ++ List.replicate (W.getD k 0 - s.size) 32) ++ ([32, 124, 32] ++ lineIn W (k + 1) (t :: r)) := by
  rw [lineIn, if_neg (by simp), hs, lineGo_bar]
/-- the place of the k-th text in the line -/
def Stands (W : List Nat) (r : List ByteArray) (line : ByteArray) (k at' : Nat) : Prop := ∃ P : Bs, P.length = at' ∧ line.data.toList = P ++ lineIn W k (r.drop k)
theorem Stands.start (W : List Nat) (r : List ByteArray) : Stands W r ⟨(lineOf W r).toArray⟩ 0 0 := ⟨[], rfl, by rw [lineOf_in]; rfl⟩
theorem Stands.le {W : List Nat} {r : List ByteArray} {line : ByteArray} {k at' : Nat} (h : Stands W r line k at') : at' ≤ line.size := by
  obtain ⟨P, hP, e⟩ := h
  rw [size_list, e, List.length_append]; omega
theorem Stands.step {W : List Nat} {r : List ByteArray} {line : ByteArray} {k at' x : Nat} (h : Stands W r line k at') {s t : ByteArray} (hk : r[k]? = some s) (ht : r[k + 1]? = some t) (hs : sg s = s.size) (hw : W.getD k 0 = x) (hx : s.size ≤ x) :
    at' + x + 3 ≤ line.size ∧ line.extract (at' + x) (at' + x + 3) = ⟨#[32, 124, 32]⟩ ∧ Stands W r line (k + 1) (at' + x + 3) := by
  obtain ⟨P, hP, e⟩ := h
  obtain ⟨hk1, hk2⟩ := List.getElem?_eq_some_iff.1 hk
  obtain ⟨ht1, ht2⟩ := List.getElem?_eq_some_iff.1 ht
  rw [List.drop_eq_getElem_cons hk1, List.drop_eq_getElem_cons ht1, hk2, ht2, lineIn_step W k s t _ hs, hw] at e
  have e2 : line.data.toList = (P ++ (s.data.toList ++ List.replicate (x - s.size) 32)) ++ ([32, 124, 32] ++ lineIn W (k + 1) (t :: r.drop (k + 1 + 1))) := by rw [e]; simp
  have hl : (P ++ (s.data.toList ++ List.replicate (x - s.size) 32)).length = at' + x := by
    rw [List.length_append, List.length_append, List.length_replicate, hP, ← size_list]; omega
  refine ⟨?_, ?_, (P ++ (s.data.toList ++ List.replicate (x - s.size) 32)) ++ [32, 124, 32], ?_, ?_⟩
  · rw [size_list, e2, List.length_append, hl]; simp
  · have : (line.extract (at' + x) (at' + x + 3)).data.toList = [32, 124, 32] := by
      rw [extract_list, e2, List.drop_left' hl]
      simp
    cases hh : line.extract (at' + x) (at' + x + 3) with
    | mk d =>
      rw [hh] at this
      rw [ByteArray.mk.injEq]
      exact Array.toList_inj.1 this
  · rw [List.length_append, hl]; rfl
  · rw [List.drop_eq_getElem_cons ht1, ht2, e2]; simp
end Go.Bd
