/-
  Plain: how much spans have, and how deep they stand. No condition.
-/
import Derived.Test.YtkfffoolpdilnaaSP
namespace Go.Bd
mutual
def sz1 : Sp → Nat
  | ⟨_, t, u, v, kids⟩ => 1 + t.length + u.length + v.length + szL kids
/-- how much spans have -/
def szL : List Sp → Nat
  | [] => 0
  | x :: l => 1 + sz1 x + szL l
end
mutual
def dp1 : Sp → Nat
  | ⟨_, _, _, _, kids⟩ => 1 + dpL kids
/-- how deep they stand -/
def dpL : List Sp → Nat
  | [] => 0
  | x :: l => max (dp1 x) (dpL l)
end
theorem szL_app : ∀ a b : List Sp, szL (a ++ b) = szL a + szL b
  | [], b => by simp [szL]
  | x :: a, b => by rw [List.cons_append, szL, szL, szL_app a b]; omega
theorem szL_take {l : List Sp} {k : Nat} {x : Sp} (h : l[k]? = some x) : szL (l.take (k + 1)) = szL (l.take k) + (1 + sz1 x) := by
  rw [List.take_add_one, h, szL_app]; simp [szL]
theorem szL_le {l : List Sp} {k : Nat} : szL (l.take k) ≤ szL l := by
  have := szL_app (l.take k) (l.drop k)
  rw [List.take_append_drop] at this
  omega
theorem sz_get {l : List Sp} {k : Nat} {x : Sp} (h : l[k]? = some x) : szL (l.take k) + 1 + sz1 x ≤ szL l := by
  have h1 := szL_take h
  have h2 := szL_le (l := l) (k := k + 1)
  omega
theorem sz1_eq (x : Sp) : sz1 x = 1 + x.text.length + x.sub.length + x.see.length + szL x.kids := by
  obtain ⟨k, t, u, v, ks⟩ := x; simp only [sz1]
theorem szL_len : ∀ l : List Sp, l.length ≤ szL l
  | [] => Nat.zero_le _
  | x :: l => by have := szL_len l; simp only [szL, List.length_cons]; omega
theorem dp1_eq (x : Sp) : dp1 x = 1 + dpL x.kids := by obtain ⟨k, t, u, v, ks⟩ := x; simp only [dp1]
theorem dpL_app : ∀ a b : List Sp, dpL (a ++ b) = max (dpL a) (dpL b)
  | [], b => by simp [dpL]
  | x :: a, b => by rw [List.cons_append, dpL, dpL, dpL_app a b, Nat.max_assoc]
theorem dpL_take {l : List Sp} {k : Nat} {x : Sp} (h : l[k]? = some x) : dpL (l.take (k + 1)) = max (dpL (l.take k)) (dp1 x) := by
  rw [List.take_add_one, h, dpL_app]; simp [dpL]
theorem dpL_le {l : List Sp} {k : Nat} : dpL (l.take k) ≤ dpL l := by
  have := dpL_app (l.take k) (l.drop k)
  rw [List.take_append_drop] at this
  omega
theorem dp_get {l : List Sp} {k : Nat} {x : Sp} (h : l[k]? = some x) : dp1 x ≤ dpL l := by
  have h1 := dpL_take h
  have h2 := dpL_le (l := l) (k := k + 1)
  omega
mutual
theorem dp_sz1 : ∀ x : Sp, dp1 x ≤ sz1 x
  | ⟨_, _, _, _, kids⟩ => by have := dp_szL kids; simp only [dp1, sz1]; omega
/-- not deeper than there are -/
theorem dp_szL : ∀ l : List Sp, dpL l ≤ szL l
  | [] => Nat.le_refl _
  | x :: l => by have := dp_sz1 x; have := dp_szL l; simp only [dpL, szL]; omega
end
end Go.Bd
