/-
  Plain: all spans of a kind, as many as there are; code that does not end. No condition.
-/
import Derived.Test.YtkfffoolpdilnaaSV
import Derived.Test.YtkfffoolpdilnaaSU
namespace Go.Bd
mutual
/-- the spans of a kind in one -/
def each1 : Sp → Nat → List Sp
  | ⟨q, t, u, v, kids⟩, k => if q = k then ⟨q, t, u, v, kids⟩ :: eachL kids k else eachL kids k
/-- the spans of a kind among these -/
def eachL : List Sp → Nat → List Sp
  | [], _ => []
  | x :: l, k => each1 x k ++ eachL l k
end
mutual
def many1 : Sp → Nat
  | ⟨_, _, _, _, kids⟩ => 1 + manyL kids
/-- how many there are -/
def manyL : List Sp → Nat
  | [] => 0
  | x :: l => many1 x + manyL l
end
mutual
def kinds1 : Sp → Bool
  | ⟨k, _, _, _, kids⟩ => decide (k ≤ 6) && kindsL kids
/-- are all kinds those that there are? -/
def kindsL : List Sp → Bool
  | [] => true
  | x :: l => kinds1 x && kindsL l
end
mutual
theorem snd_kinds1 : ∀ (x : Sp) (d : Nat), snd1 x d = true → kinds1 x = true
  | ⟨k, t, u, v, kids⟩, d, h => by
    simp only [snd1, Bool.and_eq_true] at h
    obtain ⟨⟨⟨⟨h1, _⟩, h2⟩, _⟩, _⟩ := h
    simp only [kinds1, Bool.and_eq_true]
    refine ⟨h1, ?_⟩
    split at h2
    · simp only [Bool.and_eq_true] at h2
      exact snd_kindsL kids _ _ h2.2
    · cases kids with
      | nil => rfl
      | cons x l => simp at h2
theorem snd_kindsL : ∀ (l : List Sp) (d p : Nat), sndL l d p = true → kindsL l = true
  | [], _, _, _ => rfl
  | x :: l, d, p, h => by
    simp only [sndL, Bool.and_eq_true] at h
    simp only [kindsL, Bool.and_eq_true]
    exact ⟨snd_kinds1 x d h.1.1, snd_kindsL l d _ h.2⟩
end
theorem each_kind1 : ∀ (x : Sp) (k : Nat), (∀ (l : List Sp), l = x.kids → ∀ y ∈ eachL l k, y.kind = k) → ∀ y ∈ each1 x k, y.kind = k
  | ⟨q, t, u, v, kids⟩, k, ih, y, hy => by
    simp only [each1] at hy
    split at hy
    · rename_i hq
      rcases List.mem_cons.1 hy with rfl | hy
      · exact hq
      · exact ih kids rfl y hy
    · exact ih kids rfl y hy
mutual
theorem each1_kind : ∀ (x : Sp) (k : Nat), ∀ y ∈ each1 x k, y.kind = k
  | ⟨q, t, u, v, kids⟩, k, y, hy => by
    have ih := eachL_kind kids k
    simp only [each1] at hy
    split at hy
    · rename_i hq
      rcases List.mem_cons.1 hy with rfl | hy
      · exact hq
      · exact ih y hy
    · exact ih y hy
/-- they are of the kind -/
theorem eachL_kind : ∀ (l : List Sp) (k : Nat), ∀ y ∈ eachL l k, y.kind = k
  | [], _, _, hy => by simp [eachL] at hy
  | x :: l, k, y, hy => by
    simp only [eachL, List.mem_append] at hy
    rcases hy with hy | hy
    · exact each1_kind x k y hy
    · exact eachL_kind l k y hy
end
def sum7 (f : Nat → Nat) : Nat := f 0 + f 1 + f 2 + f 3 + f 4 + f 5 + f 6
mutual
theorem each_sum1 : ∀ (x : Sp), kinds1 x = true → sum7 (fun k => (each1 x k).length) = many1 x
  | ⟨q, t, u, v, kids⟩, h => by
    simp only [kinds1, Bool.and_eq_true, decide_eq_true_eq] at h
    have ih := each_sumL kids h.2
    have e : ∀ k, (each1 ⟨q, t, u, v, kids⟩ k).length = (if q = k then 1 else 0) + (eachL kids k).length := fun k => by
      simp only [each1]; split <;> simp; omega
    simp only [sum7, e, many1] at *
    rw [← ih]
    have hq : q = 0 ∨ q = 1 ∨ q = 2 ∨ q = 3 ∨ q = 4 ∨ q = 5 ∨ q = 6 := by omega
    rcases hq with rfl | rfl | rfl | rfl | rfl | rfl | rfl <;> simp <;> omega
/-- those of all kinds are all there are -/
theorem each_sumL : ∀ (l : List Sp), kindsL l = true → sum7 (fun k => (eachL l k).length) = manyL l
  | [], _ => rfl
  | x :: l, h => by
    simp only [kindsL, Bool.and_eq_true] at h
    have h1 := each_sum1 x h.1
    have h2 := each_sumL l h.2
    simp only [sum7, eachL, manyL, List.length_append] at *
    omega
end
mutual
theorem each_none1 : ∀ (x : Sp), kinds1 x = true → each1 x 7 = []
  | ⟨q, t, u, v, kids⟩, h => by
    simp only [kinds1, Bool.and_eq_true, decide_eq_true_eq] at h
    simp only [each1]
    rw [if_neg (by omega)]
    exact each_noneL kids h.2
theorem each_noneL : ∀ (l : List Sp), kindsL l = true → eachL l 7 = []
  | [], _ => rfl
  | x :: l, h => by
    simp only [kindsL, Bool.and_eq_true] at h
    simp only [eachL, each_none1 x h.1, each_noneL l h.2, List.append_nil]
end
theorem kinds_spans (s : Bs) : kindsL (spansOf s) = true := snd_kindsL _ _ _ (sound_spans s)
/-- the faults of a state begin with those of the one ahead -/
theorem faults_top (st : Pst) (g : Rw → Rw) : (st.top g).faults = st.faults := rfl
def Pre (a b : Pst) : Prop := a.faults <+: b.faults
theorem Pre.refl (a : Pst) : Pre a a := List.prefix_refl _
theorem Pre.trans {a b c : Pst} (h : Pre a b) (h2 : Pre b c) : Pre a c := List.IsPrefix.trans h h2
theorem Pre.tell (st : Pst) (a f : Nat) : Pre st (st.tell a f) := List.prefix_append _ _
theorem Pre.drop1 (st : Pst) : Pre st st.drop1 := by
  unfold Pst.drop1
  split
  · exact List.prefix_append _ _
  · exact Pre.refl _
theorem Pre.dropN : ∀ (n : Nat) (st : Pst), Pre st (st.dropN n)
  | 0, st => Pre.refl st
  | n + 1, st => (Pre.drop1 st).trans (Pre.dropN n _)
theorem Pre.fin (st : Pst) (n : Nat) : Pre st (st.fin n) := by
  have h := Pre.dropN (st.fs.length - 1 - n) st
  unfold Pst.fin Pst.shut
  split
  · exact h
  · exact h
theorem Pre.between (st : Pst) (s : Bs) (i : Nat) (a b : Bs) (as : Bs → Sp ⊕ Nat) : Pre st (st.between s i a b as).1 := by
  unfold Pst.between
  split
  · exact Pre.tell (st.write a) _ _
  · split
    · exact Pre.tell (st.write _) _ _
    · exact Pre.refl st
theorem Pre.mark (st : Pst) (s : Bs) (i k : Nat) : Pre st (st.mark s i k) := by
  unfold Pst.mark
  split
  · exact Pre.fin _ _
  · split
    · exact Pre.refl st
    · split
      · exact Pre.tell (st.write _) _ _
      · exact Pre.refl st
theorem Pre.step (st : Pst) (s : Bs) (i : Nat) : Pre st (st.step s i).1 := by
  unfold Pst.step
  split
  · exact Pre.refl st
  split
  · exact Pre.between _ _ _ _ _ _
  split
  · exact Pre.between _ _ _ _ _ _
  split
  · exact Pre.between _ _ _ _ _ _
  split
  · simp only
    split
    · exact Pre.refl st
    · exact Pre.tell (st.write _) _ _
  split
  · exact Pre.fin _ _
  split
  · exact Pre.mark _ _ _ _
  split
  · exact Pre.mark _ _ _ _
  · exact Pre.refl st
theorem Pre.run (s : Bs) : ∀ (n i : Nat) (st : Pst), Pre st (runP s n i st)
  | 0, _, st => Pre.refl st
  | n + 1, i, st => by
    rw [runP]
    split
    · exact (Pre.step st s i).trans (Pre.run s n _ _)
    · exact Pre.refl st
/-- code that does not end is the first fault -/
theorem code_open {w : Bs} (hw : (96 : UInt8) ∉ w) : ∃ l, faultsAt (96 :: w) = (0, 7) :: l := by
  have h0 : (0 : Nat) < (96 :: w).length := by simp
  have hst : Pst.first.step (96 :: w) 0 = ((Pst.first.write [96]).tell 0 7, 1) := by
    rw [step_code Pst.first rfl]
    unfold Pst.between
    rw [next_nowhere (by simpa using hw)]
    rfl
  have e : runP (96 :: w) (96 :: w).length 0 Pst.first = runP (96 :: w) w.length 1 ((Pst.first.write [96]).tell 0 7) := by
    rw [List.length_cons, runP, if_pos (by simp), hst]
  have h1 : Pre ((Pst.first.write [96]).tell 0 7) (endP (96 :: w)) := by
    unfold endP
    rw [e]
    exact (Pre.run _ _ _ _).trans (Pre.dropN _ _)
  obtain ⟨t, ht⟩ := h1
  exact ⟨t, ht.symm⟩
end Go.Bd
