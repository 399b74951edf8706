/-
  The law BlocksPlaces: for every input it answers true, and the input reads as it did: the row, and its card. Its conditions: those of the given row alone.
-/
import Derived.IntWalk
import Derived.Lib.Hide
import Derived.Deep.LoopGhost
import Derived.Below
import Derived.WalkKit
import Derived.Test.YtcjmfjccjhdgjaaGreatDoorRows
import Derived.Test.YtcjmfjccjhdgjaaGreatDoorChecked
import Derived.Deep.Slices
import Derived.ChangeArms
import Derived.WideShapes
import Derived.SizedLaws
import Derived.Test.YtcjmfjccjhdgjaaGreatDoorK7
set_option linter.unusedSimpArgs false
set_option linter.unusedVariables false
namespace Go.Bd
open Go.RowKit
/-- faults that are told -/
def FaOk (st : Pst) : Prop := ∀ p ∈ st.faults, p.2 ≠ 0
theorem FaOk.first : FaOk Pst.first := fun p h => by simp [Pst.first] at h
theorem FaOk.same {a b : Pst} (h : FaOk a) (e : b.faults = a.faults) : FaOk b := fun p hp => h p (e ▸ hp)
theorem FaOk.top {st : Pst} (h : FaOk st) (g : Rw → Rw) : FaOk (st.top g) := h.same rfl
theorem FaOk.write {st : Pst} (h : FaOk st) (s : Bs) : FaOk (st.write s) := h.same rfl
theorem FaOk.tell {st : Pst} (h : FaOk st) (i : Nat) {f : Nat} (hf : f ≠ 0) : FaOk (st.tell i f) := fun p hp => by
  rcases List.mem_append.1 hp with hp | hp
  · exact h p hp
  · rw [List.mem_singleton] at hp
    rw [hp]; exact hf
theorem FaOk.begin {st : Pst} (h : FaOk st) (k i : Nat) (s : Bs) : FaOk (st.begin k i s) := h.same rfl
theorem FaOk.drop1 {st : Pst} (h : FaOk st) : FaOk st.drop1 := by
  obtain ⟨fs, fa⟩ := st
  unfold Pst.drop1
  split
  · intro p hp
    rcases List.mem_append.1 hp with hp | hp
    · exact h p hp
    · rw [List.mem_singleton] at hp
      rw [hp]; show 7 ≠ 0; omega
  · exact h
theorem FaOk.dropN : ∀ (n : Nat) {st : Pst}, FaOk st → FaOk (st.dropN n)
  | 0, _, h => h
  | n + 1, _, h => FaOk.dropN n h.drop1
theorem FaOk.drop {st : Pst} (h : FaOk st) (n : Nat) : FaOk (st.drop n) := FaOk.dropN _ h
theorem FaOk.shut {st : Pst} (h : FaOk st) : FaOk st.shut := by
  obtain ⟨fs, fa⟩ := st
  unfold Pst.shut
  split <;> exact h.same rfl
theorem FaOk.fin {st : Pst} (h : FaOk st) (n : Nat) : FaOk (st.fin n) := (h.drop n).shut
theorem FaOk.between {st : Pst} (h : FaOk st) (s : Bs) (i : Nat) (a b : Bs) {ga : Bs → Sp ⊕ Nat} (has : ∀ l f, ga l = .inr f → f ≠ 0) : FaOk (st.between s i a b ga).1 := by
  unfold Pst.between
  split
  · exact (h.write a).tell i (by omega)
  · split
    · rename_i f hf
      exact (h.write _).tell i (has _ _ hf)
    · exact h.top _
theorem FaOk.mark {st : Pst} (h : FaOk st) (s : Bs) (i k : Nat) : FaOk (st.mark s i k) := by
  unfold Pst.mark
  split
  · exact h.fin _
  · split
    · exact h.write _
    · split
      · exact (h.write _).tell i (by omega)
      · exact h.begin _ _ _
theorem codeS_ok (l : Bs) (f : Nat) (h : codeS l = .inr f) : f ≠ 0 := by cases h
theorem refS_ok (l : Bs) (f : Nat) (h : refS l = .inr f) : f ≠ 0 := by
  unfold refS at h
  split at h
  · cases h
  · cases h; omega
theorem termS_ok (l : Bs) (f : Nat) (h : termS l = .inr f) : f ≠ 0 := by
  unfold termS at h
  split at h
  · cases h
  · cases h; omega
theorem FaOk.step {st : Pst} (h : FaOk st) (s : Bs) (i : Nat) : FaOk (st.step s i).1 := by
  unfold Pst.step
  split
  · exact h.write _
  split
  · exact h.between s i _ _ codeS_ok
  split
  · exact h.between s i _ _ refS_ok
  split
  · exact h.between s i _ _ termS_ok
  split
  · simp only
    split
    · exact h.begin _ _ _
    · exact (h.write _).tell i (by omega)
  split
  · exact h.fin _
  split
  · exact h.mark s i 1
  split
  · exact h.mark s i 2
  · exact h.write _
theorem FaOk.run (s : Bs) : ∀ (n i : Nat) {st : Pst}, FaOk st → FaOk (runP s n i st)
  | 0, _, _, h => h
  | n + 1, i, st, h => by
    unfold runP
    split
    · exact FaOk.run s n _ (h.step s i)
    · exact h
theorem faults_ne {s : Bs} {f : Nat} (h : f ∈ faultsOf s) : f ≠ 0 := by
  unfold faultsOf at h
  obtain ⟨p, hp, rfl⟩ := List.mem_map.1 h
  have h1 : p ∈ faultsAt s := (sortF_perm (faultsAt s)).mem_iff.1 hp
  exact (FaOk.run s s.length 0 FaOk.first).drop 0 p h1
theorem leadB_le3 (l : Bs) (c : UInt8) : (leadB l c).1 ≤ 3 := by
  unfold leadB
  split
  · exact Nat.zero_le _
  · rename_i h
    simp only [not_or, Nat.not_lt] at h
    exact h.2.1
theorem itemB_le3 (l : Bs) : (itemB l).1 ≤ 3 := by
  unfold itemB
  split
  · exact leadB_le3 _ _
  · split
    · exact leadB_le3 _ _
    · exact Nat.zero_le _
def e0 : ByteArray := ⟨#[]⟩
/-- a block has just what its kind has -/
def BlkOk (x : Bl) : Prop :=
  (x.kind = 1 ∧ 1 ≤ x.level ∧ x.level ≤ 3 ∧ x.ordered = false ∧ x.text = e0 ∧ x.rows = []) ∨
  (x.kind = 2 ∧ x.level = 0 ∧ x.ordered = false ∧ x.label = e0 ∧ x.text = e0 ∧ x.rows = []) ∨
  (x.kind = 3 ∧ 1 ≤ x.level ∧ x.level ≤ 3 ∧ x.label = e0 ∧ x.text = e0 ∧ x.rows = []) ∨
  (x.kind = 4 ∧ x.level = 0 ∧ x.ordered = false ∧ x.label = e0 ∧ x.spans = [] ∧ x.rows = []) ∨
  (x.kind = 5 ∧ x.level = 0 ∧ x.ordered = false ∧ x.label = e0 ∧ x.rows = []) ∨
  (x.kind = 6 ∧ x.level = 0 ∧ x.ordered = false ∧ x.text = e0) ∨
  (x.kind = 7 ∧ x.level = 0 ∧ x.ordered = false ∧ x.rows = [])
end Go.Bd
namespace Go.Proofs.YtcjmfjccjhdgjaaGreatDoor
open Go.RowKit Go.Bd
theorem read_ok (f : ByteArray) (no : Int) (s : ByteArray) (rest : List Ln) : ∀ b ∈ (readR f no s rest).2.1, b.file = f ∧ b.line = no ∧ BlkOk b := by
  unfold readR
  split
  · rename_i h
    intro b hb
    simp only [headR, List.mem_singleton] at hb
    subst hb
    exact ⟨rfl, rfl, .inl ⟨rfl, h, leadB_le3 _ _, rfl, rfl, rfl⟩⟩
  split
  · rename_i h
    intro b hb
    simp only [itemR, List.mem_singleton] at hb
    subst hb
    exact ⟨rfl, rfl, .inr (.inr (.inl ⟨rfl, h, itemB_le3 _, rfl, rfl, rfl⟩))⟩
  split
  · intro b hb; cases hb
  split
  · intro b hb
    simp only [codeR, List.mem_singleton] at hb
    subst hb
    exact ⟨rfl, rfl, .inr (.inr (.inr (.inl ⟨rfl, rfl, rfl, rfl, rfl, rfl⟩)))⟩
  split
  · intro b hb
    simp only [tableR, List.mem_singleton] at hb
    subst hb
    exact ⟨rfl, rfl, .inr (.inr (.inr (.inr (.inr (.inl ⟨rfl, rfl, rfl, rfl⟩)))))⟩
  · intro b hb
    simp only [paraR, List.mem_singleton] at hb
    subst hb
    exact ⟨rfl, rfl, .inr (.inl ⟨rfl, rfl, rfl, rfl, rfl, rfl⟩)⟩
theorem cmd_ok (f : ByteArray) (no : Int) (s : ByteArray) (wd bh : Bs) : ∀ b ∈ (cmdR f no s wd bh).2.1, b.file = f ∧ b.line = no ∧ BlkOk b := by
  unfold cmdR
  split
  · split
    · intro b hb; cases hb
    · intro b hb
      simp only [figR, List.mem_singleton] at hb
      subst hb
      exact ⟨rfl, rfl, .inr (.inr (.inr (.inr (.inr (.inr ⟨rfl, rfl, rfl, rfl⟩)))))⟩
  split
  · intro b hb
    simp only [noteR, List.mem_singleton] at hb
    subst hb
    exact ⟨rfl, rfl, .inr (.inr (.inr (.inr (.inl ⟨rfl, rfl, rfl, rfl, rfl⟩))))⟩
  · intro b hb; cases hb
theorem step_ok (x : Ln) (rest : List Ln) : ∀ b ∈ (stepR x rest).2.1, b.file = x.file ∧ b.line = x.no ∧ BlkOk b := by
  unfold stepR
  split
  · exact cmd_ok _ _ _ _ _
  · exact read_ok _ _ _ _
theorem lns_drop : ∀ (k n : Nat) (l : List ByteArray), (lnsFrom n l).drop k = lnsFrom (n + k) (l.drop k)
  | 0, n, l => rfl
  | k + 1, n, [] => by simp [lnsFrom]
  | k + 1, n, x :: l => by
    rw [lnsFrom, List.drop_succ_cons, List.drop_succ_cons, lns_drop k (n + 1) l]
    congr 1; omega
theorem blocks_places : ∀ (m n : Nat) (l : List ByteArray), l.length ≤ m → (blocksOf (lnsFrom n l)).Pairwise (fun a b => a.line < b.line) ∧ ∀ b ∈ blocksOf (lnsFrom n l), b.file = ⟨#[102]⟩ ∧ (n : Int) ≤ b.line ∧ b.line < (n : Int) + l.length ∧ BlkOk b
  | m, n, [], _ => by
    rw [lnsFrom, blocksOf_nil]
    exact ⟨List.Pairwise.nil, fun b hb => by cases hb⟩
  | 0, n, x :: l, h => by simp at h
  | m + 1, n, x :: l, h => by
    rw [lnsFrom, blocksOf_cons, lns_drop]
    obtain ⟨c, hc⟩ : ∃ c, (stepR ⟨⟨#[102]⟩, (n : Int), x⟩ (lnsFrom (n + 1) l)).1 = c := ⟨_, rfl⟩
    have hs := step_ok ⟨⟨#[102]⟩, (n : Int), x⟩ (lnsFrom (n + 1) l)
    have h1 := step_one ⟨⟨#[102]⟩, (n : Int), x⟩ (lnsFrom (n + 1) l)
    rw [hc]
    obtain ⟨P, hP⟩ := blocks_places m (n + 1 + c) (l.drop c) (by simp at h ⊢; omega)
    refine ⟨?_, fun b hb => ?_⟩
    · rw [List.pairwise_append]
      refine ⟨?_, P, fun a ha b hb => ?_⟩
      · generalize (stepR ⟨⟨#[102]⟩, (n : Int), x⟩ (lnsFrom (n + 1) l)).2.1 = r at h1
        match r, h1 with
        | [], _ => exact List.Pairwise.nil
        | [y], _ => exact List.pairwise_singleton _ _
      · have h2 := (hs a ha).2.1
        have h3 := (hP b hb).2.1
        simp only at h2
        omega
    · rcases List.mem_append.1 hb with hb | hb
      · obtain ⟨e1, e2, e3⟩ := hs b hb
        simp only at e1 e2
        rw [List.length_cons]
        exact ⟨e1, by omega, by omega, e3⟩
      · obtain ⟨e1, e2, e3, e4⟩ := hP b hb
        rw [List.length_drop] at e3
        rw [List.length_cons]
        exact ⟨e1, by omega, by omega, e4⟩
/-- faults of lines from one to another, in order -/
def Told2 (a b : Int) (l : List Dg) : Prop := l.Pairwise (fun x y => x.line ≤ y.line) ∧ ∀ x ∈ l, x.file = ⟨#[102]⟩ ∧ a ≤ x.line ∧ x.line ≤ b ∧ x.fault ≠ 0
theorem Told2.nil (a b : Int) : Told2 a b [] := ⟨List.Pairwise.nil, fun x h => by cases h⟩
theorem Told2.append {a b c : Int} {l r : List Dg} (h : Told2 a b l) (k : Told2 b c r) (hab : a ≤ b) (hbc : b ≤ c) : Told2 a c (l ++ r) := by
  refine ⟨List.pairwise_append.2 ⟨h.1, k.1, fun x hx y hy => ?_⟩, fun x hx => ?_⟩
  · have h1 := (h.2 x hx).2.2.1
    have h2 := (k.2 y hy).2.1
    omega
  · rcases List.mem_append.1 hx with hx | hx
    · obtain ⟨e1, e2, e3, e4⟩ := h.2 x hx
      exact ⟨e1, e2, by omega, e4⟩
    · obtain ⟨e1, e2, e3, e4⟩ := k.2 x hx
      exact ⟨e1, by omega, e3, e4⟩
theorem Told2.more {a b a' b' : Int} {l : List Dg} (h : Told2 a b l) (ha : a' ≤ a) (hb : b ≤ b') : Told2 a' b' l :=
  ⟨h.1, fun x hx => by obtain ⟨e1, e2, e3, e4⟩ := h.2 x hx; exact ⟨e1, by omega, by omega, e4⟩⟩
theorem Told2.one (no : Int) {k : Nat} (hk : k ≠ 0) (t : ByteArray) : Told2 no no [⟨⟨#[102]⟩, no, k, t⟩] :=
  ⟨List.pairwise_singleton _ _, fun x hx => by rw [List.mem_singleton] at hx; subst hx; exact ⟨rfl, Int.le_refl _, Int.le_refl _, hk⟩⟩
theorem Told2.faults (no : Int) (t : ByteArray) (s : Bs) : Told2 no no ((faultsOf s).map (dgOf ⟨#[102]⟩ no t)) := by
  refine ⟨?_, fun x hx => ?_⟩
  · rw [List.pairwise_map]
    exact List.pairwise_of_forall (fun _ _ => Int.le_refl _)
  · obtain ⟨k, hk, rfl⟩ := List.mem_map.1 hx
    exact ⟨rfl, Int.le_refl _, Int.le_refl _, faults_ne hk⟩
theorem Told2.titled (no : Int) (t : ByteArray) : Told2 no no (titledD ⟨#[102]⟩ no t) := by
  unfold titledD titledW
  refine Told2.append ?_ (Told2.faults no _ _) (Int.le_refl _) (Int.le_refl _)
  split
  · exact Told2.nil _ _
  · exact Told2.one no (by omega) _
theorem Told2.cells (no : Int) : ∀ l : List ByteArray, Told2 no no (l.flatMap fun t => (faultsOf t.data.toList).map (dgOf ⟨#[102]⟩ no t))
  | [] => Told2.nil _ _
  | t :: l => by
    rw [List.flatMap_cons]
    exact (Told2.faults no t _).append (Told2.cells no l) (Int.le_refl _) (Int.le_refl _)
theorem Told2.row (no : Int) (x : ByteArray) : Told2 no no (rowF ⟨⟨#[102]⟩, no, x⟩) := by
  unfold rowF
  split
  · exact Told2.nil _ _
  split
  · exact Told2.one no (by omega) _
  · exact Told2.cells no _
theorem rows_tight : ∀ (n : Nat) (l : List ByteArray), 0 < l.length → Told2 (n : Int) ((n : Int) + l.length - 1) ((lnsFrom n l).flatMap rowF)
  | n, [], h => by simp at h
  | n, [x], _ => by
    simp only [lnsFrom, List.flatMap_cons, List.flatMap_nil, List.append_nil]
    exact (Told2.row (n : Int) x).more (Int.le_refl _) (by simp)
  | n, x :: y :: l, _ => by
    rw [lnsFrom, List.flatMap_cons]
    have h := rows_tight (n + 1) (y :: l) (by simp)
    refine ((Told2.row (n : Int) x).append (h.more (a' := (n : Int)) (b' := (n : Int) + (x :: y :: l).length - 1) (by omega) (by simp only [List.length_cons]; omega)) (Int.le_refl _) (by simp only [List.length_cons]; omega))
theorem lns_take : ∀ (k n : Nat) (l : List ByteArray), (lnsFrom n l).take k = lnsFrom n (l.take k)
  | 0, n, l => by simp [lnsFrom]
  | k + 1, n, [] => by simp [lnsFrom]
  | k + 1, n, x :: l => by
    rw [lnsFrom, List.take_succ_cons, List.take_succ_cons, lns_take k (n + 1) l]
    rfl
theorem read_told (n : Nat) (s : ByteArray) (l : List ByteArray) : Told2 (n : Int) ((n : Int) + (readR ⟨#[102]⟩ (n : Int) s (lnsFrom (n + 1) l)).1) (readR ⟨#[102]⟩ (n : Int) s (lnsFrom (n + 1) l)).2.2 := by
  unfold readR
  split
  · simp only [headR]
    exact (Told2.titled (n : Int) _).more (Int.le_refl _) (by omega)
  split
  · simp only [itemR]
    exact (Told2.faults (n : Int) _ _).more (Int.le_refl _) (by omega)
  split
  · exact Told2.nil _ _
  split
  · simp only [codeR]
    split
    · exact Told2.nil _ _
    · exact (Told2.one (n : Int) (by omega) _).more (Int.le_refl _) (by omega)
  split
  · simp only [tableR]
    have h1 : Told2 (n : Int) (n : Int) (tabE ⟨#[102]⟩ (n : Int) s (lnsFrom (n + 1) l)) := by
      unfold tabE
      refine Told2.append ?_ ?_ (Int.le_refl _) (Int.le_refl _)
      · split
        · exact Told2.nil _ _
        · exact Told2.one _ (by omega) _
      · split
        · exact Told2.nil _ _
        · exact Told2.one _ (by omega) _
    have h2 := h1.append (Told2.titled (n : Int) (tabT s)) (Int.le_refl _) (Int.le_refl _)
    have hk : tabN (lnsFrom (n + 1) l) ≤ l.length := by
      have := untilN_le (fun t => t == barsL) (lnsFrom (n + 1) l)
      rw [lnsFrom_length] at this
      exact this
    have hke : tabN (lnsFrom (n + 1) l) ≤ endN (tabN (lnsFrom (n + 1) l)) (lnsFrom (n + 1) l).length := by unfold endN; split <;> omega
    have hl0 : l.length = 0 ∨ 0 < l.length := by omega
    have h3 : Told2 (n : Int) ((n : Int) + (endN (tabN (lnsFrom (n + 1) l)) (lnsFrom (n + 1) l).length : Nat)) (tabF (lnsFrom (n + 1) l)) := by
      unfold tabF
      by_cases h0 : tabN (lnsFrom (n + 1) l) = 0
      · rw [h0, List.take_zero, List.flatMap_nil]; exact Told2.nil _ _
      · have h4 := rows_tight (n + 1) (l.take (tabN (lnsFrom (n + 1) l))) (by rw [List.length_take]; omega)
        rw [lns_take]
        refine h4.more (by omega) ?_
        rw [List.length_take]
        omega
    exact h2.append h3 (Int.le_refl _) (by omega)
  · simp only [paraR]
    exact (Told2.faults (n : Int) _ _).more (Int.le_refl _) (by omega)
theorem cmd_told (no : Int) (s : ByteArray) (wd bh : Bs) : Told2 no no (cmdR ⟨#[102]⟩ no s wd bh).2.2 := by
  unfold cmdR
  split
  · split
    · exact Told2.one _ (by omega) _
    · exact Told2.titled _ _
  split
  · exact Told2.faults _ _ _
  · exact Told2.one _ (by omega) _
theorem step_told (n : Nat) (x : ByteArray) (l : List ByteArray) : Told2 (n : Int) ((n : Int) + (stepR ⟨⟨#[102]⟩, (n : Int), x⟩ (lnsFrom (n + 1) l)).1) (stepR ⟨⟨#[102]⟩, (n : Int), x⟩ (lnsFrom (n + 1) l)).2.2 := by
  unfold stepR
  split
  · simp only
    exact (cmd_told _ _ _ _).more (Int.le_refl _) (by omega)
  · exact read_told n _ l
theorem diags_places : ∀ (m n : Nat) (l : List ByteArray), l.length ≤ m → Told2 (n : Int) ((n : Int) + l.length - 1) (diagsOf (lnsFrom n l))
  | m, n, [], _ => by
    rw [lnsFrom, diagsOf_nil]
    exact Told2.nil _ _
  | 0, n, x :: l, h => by simp at h
  | m + 1, n, x :: l, h => by
    rw [lnsFrom, diagsOf_cons, lns_drop]
    have h1 := step_told n x l
    have hc := step_le ⟨⟨#[102]⟩, (n : Int), x⟩ (lnsFrom (n + 1) l)
    rw [lnsFrom_length] at hc
    generalize (stepR ⟨⟨#[102]⟩, (n : Int), x⟩ (lnsFrom (n + 1) l)) = T at h1 hc ⊢
    have h2 := diags_places m (n + 1 + T.1) (l.drop T.1) (by simp at h ⊢; omega)
    rw [List.length_cons]
    refine h1.append (h2.more (b' := (n : Int) + (l.length + 1 : Nat) - 1) (by omega) ?_) (by omega) (by omega)
    rw [List.length_drop]
    omega
theorem diags_count : ∀ (m : Nat) (l : List Ln), l.length ≤ m → (diagsOf l).length ≤ 3 * wtX l
  | _, [], _ => Nat.zero_le _
  | 0, x :: l, h => by simp at h
  | m + 1, x :: l, h => by
    have h1 := step_ds x l
    have h2 := diags_count m (l.drop (stepR x l).1) (by simp at h ⊢; omega)
    have h3 := wtX_split l (stepR x l).1
    rw [diagsOf_cons, List.length_append, wtX]
    omega
end Go.Proofs.YtcjmfjccjhdgjaaGreatDoor
namespace Go.Proofs.YtcjmfjccjhdgjaaGreatDoor
open Go.RowKit Go.Bd
theorem texts_form {w : World} {B : Nat} {v : Value} {xs : List ByteArray} (h : Rd w B v (xs.map Value.string)) : ∃ A c, v = .slice A xs.length c ∧ xs.length ≤ c ∧ ∀ (j : Nat) s, xs[j]? = some s → ∃ b off, A = some ⟨b, off, none⟩ ∧ b < B ∧ w.cell? ⟨b, off + j, none⟩ = some (.string s) := by
  obtain ⟨A, c, hv, hc, h⟩ := Rd.form h
  rw [List.length_map] at hv hc
  exact ⟨A, c, hv, hc, fun j s hj => h j _ (by rw [List.getElem?_map, hj]; rfl)⟩
theorem sum_take_succ {xs : List Nat} {k x : Nat} (h : xs[k]? = some x) : (xs.take (k + 1)).sum = (xs.take k).sum + x := by
  obtain ⟨hk, e⟩ := List.getElem?_eq_some_iff.1 h
  rw [List.take_succ_eq_append_getElem hk, List.sum_append, e]; simp
/-- the size of texts, where it is not beyond all -/
def textsOk (xs : List ByteArray) (n : Nat) : Prop := n ≤ 1048576 → n = xs.length + (xs.map ByteArray.size).sum
set_option maxRecDepth 100000 in
theorem textsSize_any (v : Value) (xs : List ByteArray) (w : World) (B : Nat) (h : Rd w B v (xs.map Value.string)) (hl : xs.length ≤ 140737488355328) (hx : ∀ s ∈ xs, s.size ≤ 140737488355328) :
    Calls Tryz.prog 10 #[v] w fun e w' => (∃ n : Nat, e = .returned (.int .i64 n) ∧ n ≤ 281474976710656 ∧ textsOk xs n) ∧ w = w' := by
  obtain ⟨A, c, rfl, hc, f⟩ := texts_form h
  have F := Lib.hid f
  have HX := Lib.hid hx
  clear f hx h
  generalize hn : xs.length = n at hl hc ⊢
  have HN := Lib.hid hn
  clear hn
  go_enter Tryz.func10, Tryz.ntmps10
  go_wp2
  go_loopg [3, 4] n (fun r s i wr => ∃ k t : Nat, k + r = n ∧ i = .int .i64 k ∧ s = .int .i64 t ∧ t ≤ 281474976710656 ∧ Hid (t = n + ((xs.map ByteArray.size).take k).sum) ∧ w = wr)
  case atStart => exact ⟨0, n, by omega, rfl, rfl, by omega, by unfold Hid; simp, rfl⟩
  case round =>
    obtain ⟨k, t, hk, rfl, rfl, ht, HT, rfl⟩ := hrel
    by_cases hlt : k < n
    · by_cases hbig : t ≤ 1048576
      · obtain ⟨x, hxk⟩ : ∃ x, xs[k]? = some x := ⟨_, List.getElem?_eq_getElem (by rw [HN.out]; exact hlt)⟩
        obtain ⟨b, off, rfl, _, hcx⟩ := F.out k x hxk
        have hxb := HX.out x (List.mem_of_getElem? hxk)
        have HS := Lib.hid (sum_take_succ (xs := xs.map ByteArray.size) (k := k) (x := x.size) (by rw [List.getElem?_map, hxk]; rfl))
        clear hxk
        go_wp2
        go_roundg (gk - 1)
        case measure => omega
        case rel => exact ⟨k + 1, t + x.size, by omega, by go_num, by go_num, by omega, by unfold Hid; rw [HS.out, HT.out]; omega, rfl⟩
      · go_wp2
        go_ret
        exact ⟨⟨t, rfl, ht, fun h => absurd h (by omega)⟩, rfl⟩
    · go_wp2
      all_goals
        go_ret
        refine ⟨⟨t, rfl, ht, fun _ => ?_⟩, rfl⟩
        have h1 := HT.out
        rw [List.take_of_length_le (by rw [List.length_map, HN.out]; omega)] at h1
        rw [HN.out]; exact h1
end Go.Proofs.YtcjmfjccjhdgjaaGreatDoor
namespace Go.Proofs.YtcjmfjccjhdgjaaGreatDoor
open Go.RowKit Go.Bd
/-- the line of the last of some blocks -/
def lastB (l : List Bl) (k : Nat) : Int := if k = 0 then 0 else match l[k - 1]? with | some b => b.line | none => 0
theorem lastB_succ {l : List Bl} {k : Nat} {x : Bl} (h : l[k]? = some x) : lastB l (k + 1) = x.line := by
  unfold lastB
  rw [if_neg (by omega), Nat.add_sub_cancel, h]
theorem lastB_lt {l : List Bl} (hp : l.Pairwise (fun a b => a.line < b.line)) (h1 : ∀ b ∈ l, 1 ≤ b.line) {k : Nat} {x : Bl} (h : l[k]? = some x) : lastB l k < x.line := by
  unfold lastB
  split
  · have := h1 x (List.mem_of_getElem? h); omega
  · obtain ⟨hk, e⟩ := List.getElem?_eq_some_iff.1 h
    rw [List.getElem?_eq_getElem (show k - 1 < l.length by omega)]
    have := List.pairwise_iff_getElem.1 hp (k - 1) k (by omega) hk (by omega)
    rw [e] at this
    exact this
def lastD (l : List Dg) (k : Nat) : Int := if k = 0 then 1 else match l[k - 1]? with | some b => b.line | none => 1
theorem lastD_succ {l : List Dg} {k : Nat} {x : Dg} (h : l[k]? = some x) : lastD l (k + 1) = x.line := by
  unfold lastD
  rw [if_neg (by omega), Nat.add_sub_cancel, h]
theorem lastD_le {l : List Dg} (hp : l.Pairwise (fun a b => a.line ≤ b.line)) (h1 : ∀ b ∈ l, 1 ≤ b.line) {k : Nat} {x : Dg} (h : l[k]? = some x) : lastD l k ≤ x.line := by
  unfold lastD
  split
  · exact h1 x (List.mem_of_getElem? h)
  · obtain ⟨hk, e⟩ := List.getElem?_eq_some_iff.1 h
    rw [List.getElem?_eq_getElem (show k - 1 < l.length by omega)]
    have := List.pairwise_iff_getElem.1 hp (k - 1) k (by omega) hk (by omega)
    rw [e] at this
    exact this
set_option maxRecDepth 100000 in
set_option maxHeartbeats 16000000 in
theorem blocksPlaces_true (v : Value) (xs : List ByteArray) (m : Int) (w : World) (hm : Glob m w) (hR : Rd w w.heap.size v (xs.map Value.string)) (hb : xs.length ≤ 140737488355328 ∧ ∀ s ∈ xs, s.size ≤ 140737488355328) :
    Calls Tryz.prog 3 #[v] w fun e w' => e = .returned (.bool true) ∧ Below w.heap.size w w' := by
  obtain ⟨A, c, rfl, hcl, _⟩ := texts_form hR
  have CA := alive_any hm
  have CT := fun (W : World) (hW : Below w.heap.size w W) => textsSize_any _ xs W w.heap.size (hR.below hW) hb.1 hb.2
  have HM := Lib.hid (And.intro hm hR)
  have HT := Lib.hid CT
  obtain ⟨n, hn⟩ : ∃ n, xs.length = n := ⟨_, rfl⟩
  rw [hn] at HM HT hcl ⊢
  have hnb : n ≤ 140737488355328 := hn ▸ hb.1
  have HN := Lib.hid hn
  clear hm hR hb CT hn
  go_enter Tryz.func3, Tryz.ntmps3
  go_wp2_with fail
  refine CA.mono ?_
  clear CA
  rintro e w1 ⟨rfl, hb1⟩
  have HB1 := Lib.hid hb1
  clear hb1
  by_cases hbig : 300 < n
  · have hbi : decide (300 < (n : Int)) = true := by simp; omega
    have CA := alive_any (HM.out.1.below HB1.out)
    go_wp2_with fail
    refine CA.mono ?_
    rintro e w2 ⟨rfl, hb2⟩
    go_wp2
    go_ret
    exact ⟨rfl, HB1.out.trans (hb2.mono HB1.out.size)⟩
  · have hbi : decide (300 < (n : Int)) = false := by simp; omega
    have C1 := HT.out w1 HB1.out
    go_wp2_with fail
    refine C1.mono ?_
    clear C1
    rintro e w2 ⟨⟨z, rfl, hz, hok⟩, rfl⟩
    by_cases hz4 : 4000 < z
    · have hzi : decide (4000 < (z : Int)) = true := by simp; omega
      have CA := alive_any (HM.out.1.below HB1.out)
      clear hok
      go_wp2_with fail
      refine CA.mono ?_
      rintro e w2 ⟨rfl, hb2⟩
      go_wp2
      go_ret
      exact ⟨rfl, HB1.out.trans (hb2.mono HB1.out.size)⟩
    · have hzi : decide (4000 < (z : Int)) = false := by simp; omega
      have hwt : wtT xs ≤ 4000 := by have h1 := hok (by omega); have h2 : (xs.map ByteArray.size).sum = (xs.map (·.size)).sum := rfl; unfold wtT; omega
      have HWT := Lib.hid hwt
      clear hok hwt
      have CO := of_any (HM.out.2.below HB1.out) HB1.out.size (by have := HWT.out; have := wtT_len xs; omega)
      go_wp2_with fail
      refine CO.mono ?_
      clear CO
      rintro e w2 ⟨lv, rfl, ho, hb2⟩
      have hB2 := HB1.out.trans (hb2.mono HB1.out.size)
      have CP := parsed_any (xs := xs) (HM.out.1.below hB2) (by have := HWT.out; omega) ho hb2
      have H2 := Lib.hid hB2
      clear ho hb2 hB2
      go_wp2_with fail
      refine CP.mono ?_
      clear CP
      rintro e w3 ⟨⟨O, F1, rb, lv2, bv, dv, rfl, hr, _, _⟩, hb3⟩
      have hB3 := H2.out.trans (hb3.mono H2.out.size)
      obtain ⟨BA, bc, rfl⟩ := hr.bform
      obtain ⟨DA, dc, rfl⟩ := hr.dform
      have hbp := blocks_places xs.length 1 xs (Nat.le_refl _)
      have hdp := diags_places xs.length 1 xs (Nat.le_refl _)
      have hbl := step_count (linesOf xs)
      rw [linesOf_length, HN.out] at hbl
      have hdl : (diagsOf (linesOf xs)).length ≤ 3 * 4000 := by
        have h1 := diags_count (linesOf xs).length (linesOf xs) (Nat.le_refl _)
        have h2 := linesOf_wt xs
        have := HWT.out
        omega
      have e1 : lnsFrom 1 xs = linesOf xs := rfl
      rw [e1] at hbp hdp
      obtain ⟨bs, hbs⟩ : ∃ bs, blocksOf (linesOf xs) = bs := ⟨_, rfl⟩
      obtain ⟨ds, hds⟩ : ∃ ds, diagsOf (linesOf xs) = ds := ⟨_, rfl⟩
      rw [hbs] at hr hbp hbl ⊢
      rw [hds] at hr hdp hdl ⊢
      rw [HN.out] at hbp hdp
      have H3 := Lib.hid (And.intro hr hB3)
      have HP := Lib.hid (And.intro hbp hdp)
      obtain ⟨nb, hnb2⟩ : ∃ nb, bs.length = nb := ⟨_, rfl⟩
      obtain ⟨nd, hnd2⟩ : ∃ nd, ds.length = nd := ⟨_, rfl⟩
      rw [hnb2] at hbl ⊢
      rw [hnd2] at hdl ⊢
      have HNB := Lib.hid (And.intro hnb2 hnd2)
      clear hr hb3 hB3 hbp hdp hbs hds hnb2 hnd2 e1
      go_wp2
      go_loopg [5, 6, 7, 8, 9, 10] nb (fun q vl vi v7 v8 v9 v10 wr => ∃ k : Nat, k + q = nb ∧ vi = .int .i64 (k : Int) ∧ vl = .int .i64 (lastB bs k) ∧ Hid (Below w3.heap.size w3 wr))
      case atStart => exact ⟨0, by omega, rfl, rfl, Below.refl _ _⟩
      case round =>
        obtain ⟨k, hk, rfl, rfl, HI⟩ := hrel
        by_cases hlt : k < nb
        · obtain ⟨x, hx⟩ : ∃ x, bs[k]? = some x := ⟨_, List.getElem?_eq_getElem (by have := HNB.out.1; omega)⟩
          have hrw := H3.out.1.below HI.out
          obtain ⟨g, sA, sc, rA, rc, rfl, _, _, _, c0, c1, c2, c3, c4, c5, c6, c7, c8⟩ := hrw.blk_at hx
          obtain ⟨p1, p2, p3, p4⟩ := HP.out.1.2 x (List.mem_of_getElem? hx)
          have hll := lastB_lt HP.out.1.1 (fun b hb => by have := (HP.out.1.2 b hb).2.1; omega) hx
          have hls := lastB_succ hx
          have HX := Lib.hid hls
          have HIS := Lib.hid HI.out.size
          obtain ⟨kind, level, ordered, label, text, spans, rows, file, line⟩ := x
          simp only at p1 p2 p3 p4 hll c0 c1 c2 c3 c4 c5 c6 c7 c8 HX
          subst p1
          have q1 : decide (line ≤ lastB bs k) = false := decide_eq_false (by omega)
          have q2 : decide ((n : Int) < line) = false := decide_eq_false (by omega)
          obtain ⟨last, hlast⟩ : ∃ last, lastB bs k = last := ⟨_, rfl⟩
          rw [hlast] at q1 ⊢
          clear hrw hx hll hls hlast p2 p3
          unfold BlkOk e0 at p4
          simp only at p4
          rcases p4 with ⟨rfl, y1, y2, rfl, rfl, rfl⟩ | ⟨rfl, rfl, rfl, rfl, rfl, rfl⟩ | ⟨rfl, y1, y2, rfl, rfl, rfl⟩ | ⟨rfl, rfl, rfl, rfl, rfl, rfl⟩ | ⟨rfl, rfl, rfl, rfl, rfl⟩ | ⟨rfl, rfl, rfl, rfl⟩ | ⟨rfl, rfl, rfl, rfl⟩
          · have q3 : decide (0 < (level : Int)) = true := decide_eq_true (by omega)
            have q4 : decide (3 < (level : Int)) = false := decide_eq_false (by omega)
            simp only [List.length_nil] at c6
            go_wp2
            go_roundg (gk - 1)
            case measure => omega
            case rel => exact ⟨k + 1, by omega, by go_num, by rw [HX.out], HI.out.alloc HIS.out _⟩
          · simp only [List.length_nil] at c6
            go_wp2
            go_roundg (gk - 1)
            case measure => omega
            case rel => exact ⟨k + 1, by omega, by go_num, by rw [HX.out], HI.out.alloc HIS.out _⟩
          · cases ordered with
            | true =>
              have q3 : decide (0 < (level : Int)) = true := decide_eq_true (by omega)
              have q4 : decide (3 < (level : Int)) = false := decide_eq_false (by omega)
              simp only [List.length_nil] at c6
              go_wp2
              go_roundg (gk - 1)
              case measure => omega
              case rel => exact ⟨k + 1, by omega, by go_num, by rw [HX.out], HI.out.alloc HIS.out _⟩
            | false =>
              have q3 : decide (0 < (level : Int)) = true := decide_eq_true (by omega)
              have q4 : decide (3 < (level : Int)) = false := decide_eq_false (by omega)
              simp only [List.length_nil] at c6
              go_wp2
              go_roundg (gk - 1)
              case measure => omega
              case rel => exact ⟨k + 1, by omega, by go_num, by rw [HX.out], HI.out.alloc HIS.out _⟩
          · simp only [List.length_nil] at c5 c6
            go_wp2
            go_roundg (gk - 1)
            case measure => omega
            case rel => exact ⟨k + 1, by omega, by go_num, by rw [HX.out], HI.out.alloc HIS.out _⟩
          · simp only [List.length_nil] at c6
            go_wp2
            go_roundg (gk - 1)
            case measure => omega
            case rel => exact ⟨k + 1, by omega, by go_num, by rw [HX.out], HI.out.alloc HIS.out _⟩
          · skip
            go_wp2
            go_roundg (gk - 1)
            case measure => omega
            case rel => exact ⟨k + 1, by omega, by go_num, by rw [HX.out], HI.out.alloc HIS.out _⟩
          · simp only [List.length_nil] at c6
            go_wp2
            go_roundg (gk - 1)
            case measure => omega
            case rel => exact ⟨k + 1, by omega, by go_num, by rw [HX.out], HI.out.alloc HIS.out _⟩
        · obtain rfl : k = nb := by omega
          go_wp2
          obtain ⟨wO, hwO⟩ : ∃ q, q = wr := ⟨_, rfl⟩
          subst hwO
          go_loopg [11, 12] nd (fun q va vi wr => ∃ j : Nat, j + q = nd ∧ vi = .int .i64 (j : Int) ∧ va = .int .i64 (lastD ds j) ∧ Hid (Below w3.heap.size w3 wr))
          case atStart => exact ⟨0, by omega, rfl, rfl, HI.out⟩
          case round =>
            obtain ⟨j, hj, rfl, rfl, HJ⟩ := hrel
            by_cases hlt2 : j < nd
            · obtain ⟨x, hx⟩ : ∃ x, ds[j]? = some x := ⟨_, List.getElem?_eq_getElem (by have := HNB.out.2; omega)⟩
              have hrw := H3.out.1.below HJ.out
              obtain ⟨g, rfl, _, d0, d1, d2, d3⟩ := hrw.dg_at hx
              obtain ⟨p1, p2, p3, p4⟩ := HP.out.2.2 x (List.mem_of_getElem? hx)
              have hll := lastD_le HP.out.2.1 (fun b hb => by have := (HP.out.2.2 b hb).2.1; omega) hx
              have hls := lastD_succ hx
              have HX := Lib.hid hls
              obtain ⟨file, line, fault, text⟩ := x
              simp only at p1 p2 p3 p4 hll d0 d1 d2 d3 HX
              subst p1
              have q1 : decide (line < lastD ds j) = false := decide_eq_false (by omega)
              have q2 : decide ((n : Int) < line) = false := decide_eq_false (by omega)
              have q3 : ((fault : Int) == 0) = false := by simp; omega
              have q4 : ¬ (fault : Int) = 0 := by omega
              have q5 : decide ((fault : Int) = 0) = false := decide_eq_false q4
              obtain ⟨last, hlast⟩ : ∃ last, lastD ds j = last := ⟨_, rfl⟩
              rw [hlast] at q1 ⊢
              clear hrw hx hll hls hlast p2 p3 p4
              go_wp2
              go_roundg (gk - 1)
              case measure => omega
              case rel => exact ⟨j + 1, by omega, by go_num, by rw [HX.out], HJ.out⟩
            · go_wp2
              go_ret
              exact ⟨rfl, H3.out.2.trans (HJ.out.mono H3.out.2.size)⟩
end Go.Proofs.YtcjmfjccjhdgjaaGreatDoor
namespace Go.Proofs.YtcjmfjccjhdgjaaGreatDoor
open Go.ChangeShapes Go.WideShapes Go.RowKit Go.Bd
theorem str_cells : Tryz.prog.cellsOf 9 = 1 := by kernel_rfl
theorem str_bytes : Tryz.prog.bytesOf 9 = 16 := by kernel_rfl
theorem weights_all {H : Type} {P : Program} {e : TypeId} {n : Nat} {d : DataW H} : ∀ {ds : List (DataW H)}, d ∈ ds → n ∈ d.weights P e → n ∈ DataW.weightsAll P e ds
  | x :: ds, hd, hn => by
    rw [DataW.weightsAll]
    rcases List.mem_cons.1 hd with rfl | hd
    · exact List.mem_append_left _ hn
    · exact List.mem_append_right _ (weights_all hd hn)
theorem addr_lit {w : World} {a : Addr} {v : Value} (h : w.cell? (a.add 0) = some v) : ∃ b off, a = ⟨b, off, none⟩ ∧ b < w.heap.size := by
  obtain ⟨b, off, spot⟩ := a
  have e : (⟨b, off, spot⟩ : Addr).add 0 = ⟨b, off, spot⟩ := by simp [Addr.add]
  rw [e] at h
  refine ⟨b, off, ?_, World.block_lt_of_cell? w _ h⟩
  cases spot with
  | none => rfl
  | some s =>
    exfalso
    simp only [World.cell?] at h
    split at h <;> simp at h
section
variable {H : Type} {enc : TypeId × Value → H} {w : World} {sp : Nat → Bool} {held : Bool}
/-- a slice's cells, read asf one value each -/
theorem rd_of {a : Addr} {len cap : Nat} {V : Nat → Value} (hl : len ≤ cap) (h : ∀ i, i < len → w.cell? (a.add i) = some (V i)) : Rd w w.heap.size (.slice (some a) len cap) ((List.range len).map V) := by
  refine ⟨some a, cap, by simp, by simpa using hl, fun hn => ?_⟩
  have hn' : 0 < len := by simpa using hn
  obtain ⟨b, off, rfl, hb⟩ := addr_lit (h 0 hn')
  refine ⟨b, off, rfl, hb, fun j u hu => ?_⟩
  have hj : j < len := by have := (List.getElem?_eq_some_iff.1 hu).1; simpa using this
  rw [List.getElem?_map, List.getElem?_range hj] at hu
  have := h j hj
  rw [Addr.add_lit] at this
  rw [this]; exact hu
theorem open_texts {fuel : Nat} {cs : List Value} {x : DataW H × List MemPlace} (h : DataW.trod enc Tryz.prog w 0 sp held fuel 22 cs = some x) :
    ∃ (v : Value) (xs : List ByteArray), cs = [v] ∧ Rd w w.heap.size v (xs.map Value.string) ∧ ((∀ n ∈ x.1.weights Tryz.prog 22, n ≤ reachBytes) → xs.length ≤ 140737488355328 ∧ ∀ s ∈ xs, s.size ≤ 140737488355328) := by
  rcases Deep.open_slice1 (e := 9) Tryz.underlying22 str_cells h with ⟨rfl, rfl⟩ | ⟨a, len, cap, m, n, V, D, Pl, rfl, _, hl, _, hmm, rfl, hx⟩
  · exact ⟨_, [], rfl, Rd.nil _ _, fun _ => ⟨by decide, fun _ h => by cases h⟩⟩
  · have hlm : len ≤ m := by rw [hmm]; split <;> omega
    have each : ∀ i, i < len → ∃ s : ByteArray, V i = .string s ∧ D i = .lit (.string s.data.toList) := by
      intro i hi
      obtain ⟨s, h1, h2, _⟩ := DataW.trod_string Tryz.underlying9 (hx i (by omega)).2
      simp only [List.cons.injEq, and_true] at h1
      simp only [Prod.mk.injEq] at h2
      exact ⟨s, h1, h2.1⟩
    obtain ⟨S, hS⟩ := Deep.choose_lt each
    refine ⟨_, (List.range len).map S, rfl, ?_, fun hw => ⟨?_, fun s hs => ?_⟩⟩
    · have hr := rd_of (w := w) (V := fun i => .string (S i)) hl (fun i hi => by rw [(hx i (by omega)).1, (hS i hi).1])
      rw [List.map_map]
      exact hr
    · have := hw _ (by simp only [DataW.weights, Tryz.underlying22]; exact List.mem_cons_self ..)
      simp only [List.length_map, List.length_range, str_bytes] at this
      unfold reachBytes at this
      simp only [List.length_map, List.length_range]
      omega
    · obtain ⟨i, hi, rfl⟩ := List.mem_map.1 hs
      have hi' : i < len := by simpa using hi
      have := hw (S i).data.toList.length (by
        simp only [DataW.weights, Tryz.underlying22]
        refine List.mem_cons_of_mem _ (List.mem_append_left _ (weights_all (List.mem_map.2 ⟨i, hi, (hS i hi').2⟩) ?_))
        simp [DataW.weights])
      unfold reachBytes at this
      rw [size_list]; omega
end
set_option maxRecDepth 100000 in
theorem open_strs {H : Type} {enc : TypeId × Value → H} {W : World} {base : Nat} {sp : Nat → Bool} {hd : Bool} {v : Value} {d : DataW H} {p : List MemPlace}
    (hv : Value.okWide Tryz.prog W .any base 22 v) (h : DataW.Trod enc Tryz.prog W 0 sp hd 22 v d p) :
    ∃ xs : List ByteArray, Rd W W.heap.size v (xs.map Value.string) ∧ ((∀ n ∈ d.weights Tryz.prog 22, n ≤ reachBytes) → xs.length ≤ 140737488355328 ∧ ∀ s ∈ xs, s.size ≤ 140737488355328) := by
  obtain ⟨A, l, c, rfl⟩ := okWide_slice Tryz.underlying22 hv
  obtain ⟨fuel, hf⟩ := h
  obtain ⟨v, ls, h1, h2, h3⟩ := open_texts hf
  simp only [Value.cells, List.cons.injEq, and_true] at h1
  subst h1
  exact ⟨ls, h2, h3⟩
end Go.Proofs.YtcjmfjccjhdgjaaGreatDoor
namespace Go.Proofs.YtcjmfjccjhdgjaaGreatDoor.blocksPlaces
open Go.ChangeShapes Go.WideShapes Go.ChangeAt Go.RowKit Go.Bd Go.WideMaps Go.WideElems
open Go.ChangeMaps (open_string shut_string)
set_option maxRecDepth 100000 in
theorem contract (H : Type) (enc : TypeId × Value → H) (W : World) (base : Nat) (args : Array Value) (ds gs : List (DataW H)) (before : List MemPlace)
    (hval : ∀ (j : Nat) t v, Tryz.f3.params[j]? = some t → args[j]? = some v → Value.okWide Tryz.prog W .any base t v)
    (hW : DataW.Whole enc Tryz.prog Tryz.f3.params.toList Rows.blocksPlacesSpec.vars false W args.toList ds gs before) (hsh : W.ShapedOpen Tryz.prog)
    (hsz : (DataW.weightsEach Tryz.prog (Tryz.f3.params.toList ++ (OpenSpec.ofChange Rows.blocksPlacesSpec).bare.plain.varTypes Tryz.prog) (ds ++ gs)).all (· ≤ reachBytes) = true) (hU : Lib.Utf8Tabs 1 2 W) :
    Calls Tryz.prog 3 args W fun e W' => ∃ v, e = .returned v ∧ Rows.blocksPlacesSpec.post enc Tryz.prog Tryz.f3 false true false false W args v W' := by
  obtain ⟨m, hm⟩ := maxLen_cell W hsh
  have hW' := hW
  obtain ⟨p, q, hA0, hV, rfl, hfz, hnd⟩ := hW
  have hA : DataW.TrodAll enc Tryz.prog W 0 (fun _ => true) true Tryz.f3.params.toList args.toList ds p := hA0
  rw [Tryz.params3] at hA hval hsz
  obtain ⟨v0, vs0, d0, ds0, p0, q0, hargs, rfl, rfl, h0, r0⟩ := trodAll_cons hA
  obtain ⟨rfl, rfl, rfl⟩ := trodAll_nil r0
  obtain rfl : args = #[v0] := by cases args; simp_all
  obtain ⟨rfl, rfl⟩ := trodVars_none hV
  obtain ⟨xs0, hR0, bs0⟩ := open_strs (hval 0 22 v0 rfl rfl) h0
  have b0 := bs0 (fun n hn => by have := List.all_eq_true.1 hsz n (DataW.weights_mem_each (j := 0) rfl rfl n hn); simpa using this)
  refine (blocksPlaces_true v0 xs0 m W ⟨hm, hU⟩ hR0 b0).mono fun e W' ⟨he, hg⟩ => ?_
  subst he
  exact law_post hW' hg laidOut (by rw [Tryz.params3]; intro t ht; simp at ht; subst ht; exact ⟨by kernel_rfl, of_decide_eq_true (by kernel_rfl)⟩) rfl rfl (by kernel_rfl) Tryz.underlying4
theorem laid_met (os : Os) : laidMet Tryz.prog Rows.blocksPlacesRow.laid ((laidWorld os).forCall (fun _ _ => 0) ⟨#[], #[.slice none 0 0], []⟩).memory :=
  laidMet_of_run' 8 (by kernel_rfl) (by kernel_rfl)
theorem reads (os : Os) {H : Type} (enc : TypeId × Value → H) : ∃ places, DataW.whole enc Tryz.prog ((laidWorld os).forCall (fun _ _ => 0) ⟨#[], #[.slice none 0 0], []⟩).memory Tryz.f3.params.toList Rows.blocksPlacesSpec.vars false (#[.slice none 0 0] : Array Value).toList 8 = some ([.nil], [], places) :=
  ⟨[], by kernel_rfl⟩
set_option maxRecDepth 100000 in
theorem lifted (os : Os) (started : os.Started) (H : Type) (enc : TypeId × Value → H) (F : Stop.Interp) :
    ReturnsInHanded {} Tryz.checked os 3 .any ((OpenSpec.ofChange Rows.blocksPlacesSpec).preRow enc Tryz.prog Tryz.f3 Rows.blocksPlacesRow.domain false Rows.blocksPlacesRow.laid) (((OpenSpec.ofChange Rows.blocksPlacesSpec).at F).post enc Tryz.prog Tryz.f3 false true false false) := by
  obtain ⟨places, hx⟩ := reads os enc
  refine returnsInHanded_of_row (C := Tryz.checked) (s := OpenSpec.ofChange Rows.blocksPlacesSpec) own started (by kernel_rfl) Tryz.func3
    (witness_row_at (enc := enc) (C := Tryz.checked) false (laidWorld os) #[.slice none 0 0] rfl (by kernel_rfl) (by kernel_rfl) (by kernel_rfl)
      (OpenSpec.preRow_of_cond 8 hx (by kernel_rfl) (fun k hk => by cases hk) (by kernel_rfl) (laid_met os))) ?_
  intro W base args ds gs before hval hW _ _ hsz hL hsh _
  have hL' : laidMet Tryz.prog Rows.blocksPlacesRow.laid W := hL
  exact contract H enc W base args ds gs before hval hW hsh hsz (tabs_of hL')
theorem said : Rows.BlocksPlacesSaid :=
  OpenClaim.holds_of_cond 3 Tryz.f3 rfl rfl rfl rfl rfl rfl rfl ⟨rfl, rfl, rfl, rfl, rfl⟩ rfl rfl rfl rfl rfl (by kernel_rfl) Tryz.func3 (by kernel_rfl)
    (of_decide_eq_true (by kernel_rfl)) (by unfold Func.isWrapper; first | (rw [if_pos (by decide +kernel)]; kernel_rfl) | (rw [if_neg (by decide +kernel)]; exact ⟨rfl, rfl⟩))
    (fun os started H enc _ F => by rw [OpenClaim.pre_eq_preRow]; exact lifted os started H enc F)
theorem plain (f : FuncId) (fn : Func) (hf : Tryz.pinned.checked.prog.funcNamed Tryz.f3.name = some f) (hfn : Tryz.pinned.checked.prog.funcs[f]? = some fn) :
    false = Tryz.pinned.checked.prog.looks [] ∧ ∀ (j : Nat) t, fn.params[j]? = some t → Tryz.pinned.checked.prog.wantsStandIn t = false := by
  obtain rfl : f = 3 := Option.some.inj ((show Tryz.prog.funcNamed Tryz.f3.name = some 3 by kernel_rfl).symm.trans hf) |>.symm
  obtain rfl : fn = Tryz.f3 := (Option.some.inj (Tryz.func3.symm.trans hfn)).symm
  refine ⟨by kernel_rfl, fun j t ht => ?_⟩
  rw [Tryz.params3] at ht
  obtain rfl : t = 22 := by simpa using Array.mem_of_getElem? ht
  exact (show Tryz.prog.wantsStandIn 22 = false by kernel_rfl)
theorem card : Rows.BlocksPlacesCardSaid :=
  Claim7.holds_tied_plain_at .later [] _ _ _ _ said (fun _ h => by cases h) (by kernel_rfl) (fun _ h => by cases h) blocksPlaces_row_tie rfl ⟨rfl, rfl⟩ (by kernel_rfl) rfl plain (by kernel_rfl)
end Go.Proofs.YtcjmfjccjhdgjaaGreatDoor.blocksPlaces
