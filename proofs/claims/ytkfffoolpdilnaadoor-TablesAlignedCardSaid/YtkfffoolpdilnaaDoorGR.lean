/-
  Plain: a line of texts is told again as its row. No condition.
-/
import Derived.Test.YtkfffoolpdilnaaDoorGQ
import Derived.Test.YtkfffoolpdilnaaDoorGF
namespace Go.Bd
theorem blank_bar : blank 124 = false := rfl
theorem dropL_spaces (k : Nat) (l : Bs) : dropL (List.replicate k 32 ++ l) = dropL l := by
  induction k with
  | zero => rfl
  | succ k ih => rw [List.replicate_succ, List.cons_append, dropL, List.dropWhile_cons_of_pos (by decide)]; exact ih
theorem dropR_spaces (k : Nat) (l : Bs) : dropR (l ++ List.replicate k 32) = dropR l := by
  rw [dropR, List.reverse_append, List.reverse_replicate]
  have := dropL_spaces k l.reverse
  unfold dropL at this
  rw [this]; rfl
/-- a clean text between blanks -/
theorem trim_pad (a b : Nat) (l : Bs) (h : trim l = l) : trim (List.replicate a 32 ++ l ++ List.replicate b 32) = l := by
  rw [← dropLR, dropR_spaces, dropLR, trim, dropL_spaces, ← trim, h]
theorem split_go (W : List Nat) : ∀ (r : List ByteArray) (i : Nat) (s : ByteArray), (∀ x ∈ s :: r, cleanB x = true) →
    (splitL (32 :: (s.data.toList ++ (if r = [] then [] else List.replicate (W.getD i 0 - sg s) 32)) ++ lineGo W (i + 1) r ++ [32, 124])).map trim = (s :: r).map (·.data.toList) ++ [[]]
  | [], i, s, h => by
    have hs := h s (List.mem_cons_self ..)
    rw [cleanB] at hs
    simp only [Bool.and_eq_true, Bool.not_eq_true', List.contains_eq_mem, decide_eq_false_iff_not, decide_eq_true_eq] at hs
    rw [if_pos rfl, lineGo]
    have e : 32 :: (s.data.toList ++ []) ++ [] ++ [32, 124] = (32 :: (s.data.toList ++ [32])) ++ 124 :: [] := by simp
    rw [e, splitL_app _ _ (by simpa using hs.1)]
    have := trim_pad 1 1 s.data.toList hs.2
    simp only [List.replicate_one, List.singleton_append] at this
    have this' : trim (32 :: (s.data.toList ++ [32])) = s.data.toList := by simpa using this
    simp only [splitL, List.map_cons, List.map_nil, this', List.cons_append, List.nil_append]
    rfl
  | t :: r, i, s, h => by
    have hs := h s (List.mem_cons_self ..)
    rw [cleanB] at hs
    simp only [Bool.and_eq_true, Bool.not_eq_true', List.contains_eq_mem, decide_eq_false_iff_not, decide_eq_true_eq] at hs
    rw [if_neg (by simp), lineGo, if_pos (by omega)]
    have ih := split_go W r (i + 1) t (fun x hx => h x (List.mem_cons_of_mem _ hx))
    generalize W.getD i 0 - sg s = p
    have e : 32 :: (s.data.toList ++ List.replicate p 32) ++ ([32, 124, 32] ++ t.data.toList ++ (if r = [] then [] else List.replicate (W.getD (i + 1) 0 - sg t) 32) ++ lineGo W (i + 1 + 1) r) ++ [32, 124] =
        (32 :: (s.data.toList ++ List.replicate (p + 1) 32)) ++ 124 :: (32 :: (t.data.toList ++ (if r = [] then [] else List.replicate (W.getD (i + 1) 0 - sg t) 32)) ++ lineGo W (i + 1 + 1) r ++ [32, 124]) := by
      rw [List.replicate_succ']
      simp
    rw [e, splitL_app _ _ (by simpa [List.mem_replicate] using hs.1), List.map_cons, ih]
    have := trim_pad 1 (p + 1) s.data.toList hs.2
    simp only [List.replicate_one, List.singleton_append] at this
    rw [show (32 : UInt8) :: (s.data.toList ++ List.replicate (p + 1) 32) = 32 :: s.data.toList ++ List.replicate (p + 1) 32 by simp, this]
    rfl
theorem ba_ext2 {s t : ByteArray} (h : s.data.toList = t.data.toList) : s = t := by
  cases s
  cases t
  rw [ByteArray.mk.injEq]
  exact Array.toList_inj.1 h
theorem map_ba_inj : ∀ {xs ys : List ByteArray}, xs.map (·.data.toList) = ys.map (·.data.toList) → xs = ys
  | [], [], _ => rfl
  | [], _ :: _, h => by simp at h
  | _ :: _, [], h => by simp at h
  | x :: xs, y :: ys, h => by
    simp only [List.map_cons, List.cons.injEq] at h
    rw [ba_ext2 h.1, map_ba_inj h.2]
/-- a line between bars -/
def barred (l : ByteArray) : ByteArray := (⟨#[124, 32]⟩ ++ l) ++ ⟨#[32, 124]⟩
theorem barred_list (l : ByteArray) : (barred l).data.toList = 124 :: (32 :: l.data.toList ++ [32, 124]) := by simp [barred]
theorem trim_barred (l : ByteArray) : trim (barred l).data.toList = (barred l).data.toList := by
  rw [barred_list, trim_bar]
  congr 1
  have : (32 :: l.data.toList ++ [32, 124]) = (32 :: l.data.toList ++ [32]) ++ [124] := by simp
  rw [this, dropR, List.reverse_append, List.reverse_singleton, List.singleton_append, List.dropWhile_cons_of_neg (by decide), List.reverse_cons, List.reverse_reverse]
theorem begins_barred (l : ByteArray) : beginsB (barred l) = true := by
  rw [beginsB, trim_barred, barred_list, hasPrefix_cons]; rfl
/-- read again as it was told -/
theorem rowOf_barred (W : List Nat) (s : ByteArray) (r : List ByteArray) (h : ∀ x ∈ s :: r, cleanB x = true) : rowOf (barred ⟨(lineOf W (s :: r)).toArray⟩) = s :: r := by
  have e : Lib.trimPrefix (trim (barred ⟨(lineOf W (s :: r)).toArray⟩).data.toList) [124] = 32 :: lineOf W (s :: r) ++ [32, 124] := by
    rw [trim_barred, barred_list, trimPrefix_bar]
  rw [rowOf, e]
  have hp : List.map trim ((pieces ⟨(32 :: lineOf W (s :: r) ++ [32, 124]).toArray⟩).map (·.data.toList)) = List.map trim (splitL (32 :: lineOf W (s :: r) ++ [32, 124])) := congrArg (List.map trim) (pieces_list ⟨(32 :: lineOf W (s :: r) ++ [32, 124]).toArray⟩)
  have hg := split_go W r 0 s h
  rw [show 32 :: (s.data.toList ++ (if r = [] then [] else List.replicate (W.getD 0 0 - sg s) 32)) ++ lineGo W (0 + 1) r ++ [32, 124] = 32 :: lineOf W (s :: r) ++ [32, 124] by
    rw [lineOf, lineGo, if_neg (Nat.lt_irrefl 0)]; simp] at hg
  rw [hg, List.map_map] at hp
  have hm : (pieces ⟨(32 :: lineOf W (s :: r) ++ [32, 124]).toArray⟩).map tr = (s :: r) ++ [⟨#[]⟩] := by
    apply map_ba_inj
    rw [List.map_map, List.map_append]
    exact hp
  rw [hm, dropEnd, if_pos]
  · simp
  · simp
end Go.Bd
