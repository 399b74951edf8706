/-
  Plain: widths and lines of texts. No condition.
-/
import Derived.Test.YtkfffoolpdilnaaGreatDoorBytes
import Derived.Lib.RuneCount
namespace Go.Bd
/-- how many signs a text has -/
def sg (s : ByteArray) : Nat := Lib.runeCount s
theorem sg_le (s : ByteArray) : sg s ≤ s.size := Lib.runeCount_le s
/-- the columns' widths behind one more row -/
def colRow : List Nat → List ByteArray → List Nat
  | ws, [] => ws
  | [], s :: r => sg s :: colRow [] r
  | w :: ws, s :: r => max w (sg s) :: colRow ws r
def wid (ls : List (List ByteArray)) : List Nat := ls.foldl colRow []
theorem colRow_length : ∀ (ws : List Nat) (r : List ByteArray), (colRow ws r).length = max ws.length r.length
  | ws, [] => by simp [colRow]
  | [], s :: r => by simp [colRow, colRow_length [] r]
  | w :: ws, s :: r => by simp [colRow, colRow_length ws r]
theorem colRow_nil (ws : List Nat) : colRow ws [] = ws := by cases ws <;> rfl
theorem colRow_getD : ∀ (ws : List Nat) (r : List ByteArray) (k : Nat), (colRow ws r).getD k 0 = max (ws.getD k 0) ((r.map sg).getD k 0)
  | ws, [], k => by simp [colRow_nil]
  | [], s :: r, 0 => by simp [colRow]
  | [], s :: r, k + 1 => by have := colRow_getD [] r k; simpa [colRow] using this
  | w :: ws, s :: r, 0 => by simp [colRow]
  | w :: ws, s :: r, k + 1 => by have := colRow_getD ws r k; simpa [colRow] using this
/-- one more text, in a new column -/
theorem colRow_new : ∀ (ws : List Nat) (r : List ByteArray) (k : Nat) (s : ByteArray), r[k]? = some s → ws.length ≤ k → colRow ws (r.take (k + 1)) = colRow ws (r.take k) ++ [sg s]
  | _, [], _, _, h, _ => by simp at h
  | [], a :: r, 0, s, h, _ => by simp at h; subst h; simp [colRow]
  | w :: ws, a :: r, 0, s, h, hl => by simp at hl
  | [], a :: r, k + 1, s, h, _ => by
    have := colRow_new [] r k s (by simpa using h) (by simp)
    simp only [List.take_succ_cons, colRow, this, List.cons_append]
  | w :: ws, a :: r, k + 1, s, h, hl => by
    have := colRow_new ws r k s (by simpa using h) (by simpa using hl)
    simp only [List.take_succ_cons, colRow, this, List.cons_append]
/-- one more text, in a column that is there -/
theorem colRow_old : ∀ (ws : List Nat) (r : List ByteArray) (k : Nat) (s : ByteArray) (x : Nat), r[k]? = some s → (colRow ws (r.take k))[k]? = some x → colRow ws (r.take (k + 1)) = (colRow ws (r.take k)).set k (max x (sg s))
  | _, [], _, _, _, h, _ => by simp at h
  | [], a :: r, 0, s, x, h, hx => by simp [colRow] at hx
  | w :: ws, a :: r, 0, s, x, h, hx => by
    simp at h; subst h
    simp [colRow] at hx; subst hx
    simp [colRow, colRow_nil]
  | [], a :: r, k + 1, s, x, h, hx => by
    simp only [List.take_succ_cons, colRow, List.getElem?_cons_succ] at h hx ⊢
    rw [colRow_old [] r k s x h hx]; rfl
  | w :: ws, a :: r, k + 1, s, x, h, hx => by
    simp only [List.take_succ_cons, colRow, List.getElem?_cons_succ] at h hx ⊢
    rw [colRow_old ws r k s x h hx]; rfl
theorem list_ext_getD {a b : List Nat} (hl : a.length = b.length) (h : ∀ k, a.getD k 0 = b.getD k 0) : a = b := by
  refine List.ext_getElem hl fun k h1 h2 => ?_
  have := h k
  rwa [List.getD_eq_getElem?_getD, List.getD_eq_getElem?_getD, List.getElem?_eq_getElem h1, List.getElem?_eq_getElem h2] at this
theorem colRow_comm (ws : List Nat) (a b : List ByteArray) : colRow (colRow ws a) b = colRow (colRow ws b) a := by
  refine list_ext_getD (by simp only [colRow_length]; omega) fun k => ?_
  simp only [colRow_getD]; omega
theorem foldl_reverse : ∀ (ls : List (List ByteArray)) (ws : List Nat), ls.reverse.foldl colRow ws = ls.foldl colRow ws := by
  have step : ∀ (ls : List (List ByteArray)) (ws : List Nat) (a : List ByteArray), ls.foldl colRow (colRow ws a) = colRow (ls.foldl colRow ws) a := by
    intro ls
    induction ls with
    | nil => intro ws a; rfl
    | cons b ls ih => intro ws a; rw [List.foldl_cons, List.foldl_cons, colRow_comm, ih]
  intro ls
  induction ls with
  | nil => intro ws; rfl
  | cons a ls ih => intro ws; rw [List.reverse_cons, List.foldl_append, ih, List.foldl_cons, List.foldl_nil, List.foldl_cons, step]
theorem wid_reverse (ls : List (List ByteArray)) : wid ls.reverse = wid ls := foldl_reverse ls []
/-- the most texts of a row -/
def most (ls : List (List ByteArray)) : Nat := ls.foldl (fun n r => max n r.length) 0
theorem foldl_most : ∀ (ls : List (List ByteArray)) (ws : List Nat), (ls.foldl colRow ws).length = ls.foldl (fun n r => max n r.length) ws.length
  | [], _ => rfl
  | r :: ls, ws => by rw [List.foldl_cons, List.foldl_cons, foldl_most ls, colRow_length]
theorem wid_length (ls : List (List ByteArray)) : (wid ls).length = most ls := foldl_most ls []
theorem sg_empty : sg ⟨#[]⟩ = 0 := rfl
theorem colRow_blank (ws : List Nat) (n : Nat) (h : n ≤ ws.length) : colRow ws (List.replicate n ⟨#[]⟩) = ws := by
  refine list_ext_getD (by rw [colRow_length, List.length_replicate]; omega) fun k => ?_
  rw [colRow_getD, List.map_replicate, sg_empty]
  have : (List.replicate n 0).getD k 0 = 0 := by
    rw [List.getD_eq_getElem?_getD]
    by_cases hk : k < n
    · rw [List.getElem?_eq_getElem (by simpa using hk)]; simp
    · rw [List.getElem?_eq_none (by simpa using hk)]; rfl
  rw [this]; omega
theorem foldl_ge : ∀ (ls : List (List ByteArray)) (ws : List Nat) (k : Nat), ws.getD k 0 ≤ (ls.foldl colRow ws).getD k 0
  | [], _, _ => Nat.le_refl _
  | r :: ls, ws, k => by
    rw [List.foldl_cons]
    have := foldl_ge ls (colRow ws r) k
    rw [colRow_getD] at this
    omega
theorem foldl_row : ∀ (ls : List (List ByteArray)) (ws : List Nat) (r : List ByteArray), r ∈ ls → ∀ k, (r.map sg).getD k 0 ≤ (ls.foldl colRow ws).getD k 0
  | b :: ls, ws, r, h, k => by
    rw [List.foldl_cons]
    rcases List.mem_cons.1 h with rfl | h
    · have := foldl_ge ls (colRow ws r) k
      rw [colRow_getD] at this
      omega
    · exact foldl_row ls _ r h k
theorem most_ge : ∀ (ls : List (List ByteArray)) (n : Nat), n ≤ ls.foldl (fun n r => max n r.length) n
  | [], _ => Nat.le_refl _
  | r :: ls, n => by
    rw [List.foldl_cons]
    have := most_ge ls (max n r.length)
    omega
theorem most_row : ∀ (ls : List (List ByteArray)) (n : Nat) (r : List ByteArray), r ∈ ls → r.length ≤ ls.foldl (fun n r => max n r.length) n
  | b :: ls, n, r, h => by
    rw [List.foldl_cons]
    rcases List.mem_cons.1 h with rfl | h
    · have := most_ge ls (max n r.length); omega
    · exact most_row ls _ r h
/-- a text stands in a column that is wide enough -/
theorem wid_row {ls : List (List ByteArray)} {r : List ByteArray} (h : r ∈ ls) {k : Nat} {s : ByteArray} (hs : r[k]? = some s) : k < (wid ls).length ∧ sg s ≤ (wid ls).getD k 0 := by
  obtain ⟨hk, e⟩ := List.getElem?_eq_some_iff.1 hs
  refine ⟨?_, ?_⟩
  · rw [wid_length]
    exact Nat.lt_of_lt_of_le hk (most_row ls 0 r h)
  · have := foldl_row ls [] r h k
    rw [List.getD_eq_getElem?_getD, List.getElem?_map, hs] at this
    exact this
theorem foldl_bound {N : Nat} : ∀ (ls : List (List ByteArray)) (ws : List Nat), (∀ r ∈ ls, ∀ s ∈ r, s.size ≤ N) → (∀ x ∈ ws, x ≤ N) → ∀ x ∈ ls.foldl colRow ws, x ≤ N := by
  have row : ∀ (ws : List Nat) (r : List ByteArray), (∀ s ∈ r, s.size ≤ N) → (∀ x ∈ ws, x ≤ N) → ∀ x ∈ colRow ws r, x ≤ N := by
    intro ws r
    induction r generalizing ws with
    | nil => intro _ h; rw [colRow_nil]; exact h
    | cons s r ih =>
      intro hr hw
      have hs := sg_le s
      have h0 := hr s (List.mem_cons_self ..)
      cases ws with
      | nil =>
        intro x hx
        rcases List.mem_cons.1 hx with rfl | hx
        · omega
        · exact ih [] (fun t ht => hr t (List.mem_cons_of_mem _ ht)) (fun _ h => by cases h) x hx
      | cons w ws =>
        intro x hx
        have := hw w (List.mem_cons_self ..)
        rcases List.mem_cons.1 hx with rfl | hx
        · omega
        · exact ih ws (fun t ht => hr t (List.mem_cons_of_mem _ ht)) (fun y hy => hw y (List.mem_cons_of_mem _ hy)) x hx
  intro ls
  induction ls with
  | nil => intro ws _ h; exact h
  | cons r ls ih => intro ws hl hw; exact ih _ (fun q hq => hl q (List.mem_cons_of_mem _ hq)) (row ws r (hl r (List.mem_cons_self ..)) hw)
theorem wid_bound {N : Nat} {ls : List (List ByteArray)} (h : ∀ r ∈ ls, ∀ s ∈ r, s.size ≤ N) : ∀ x ∈ wid ls, x ≤ N := foldl_bound ls [] h (fun _ h => by cases h)
/-- the bytes of a row's texts from the i-th on, in columns -/
def lineGo (w : List Nat) : Nat → List ByteArray → Bs
  | _, [] => []
  | i, s :: r => (if 0 < i then [32, 124, 32] else []) ++ s.data.toList ++ (if r = [] then [] else List.replicate (w.getD i 0 - sg s) 32) ++ lineGo w (i + 1) r
def lineOf (w : List Nat) (r : List ByteArray) : Bs := lineGo w 0 r
def linesOf (ls : List (List ByteArray)) : List ByteArray := ls.map fun r => ⟨(lineOf (wid ls) r).toArray⟩
end Go.Bd
