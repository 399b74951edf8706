/-
  Plain: files by their names, raw writes, and what they come to. No condition.
-/
import Derived.Test.YtggnkpblfmjbcaaDm
namespace Go.Bd
/-- files: names and bytes -/
abbrev Fs := List (ByteArray × Bs)
def fsOf (es : List Fe) : Fs := es.map fun e => (e.name, e.c)
def getB (fs : Fs) (s : ByteArray) : Option Bs := (fs.find? (fun p => decide (p.1 = s))).map (·.2)
def delB (fs : Fs) (s : ByteArray) : Fs := fs.filter (fun p => !decide (p.1 = s))
def setB (fs : Fs) (s : ByteArray) (c : Bs) : Fs := delB fs s ++ [(s, c)]
def usedB (fs : Fs) : Nat := (fs.map (·.2.length)).sum
/-- a raw write -/
inductive Raw
  | empty (n : ByteArray)
  | behind (n : ByteArray) (b : Bs)
  | gone (n : ByteArray)
def Raw.app : Raw → Fs → Fs
  | .empty n, fs => setB fs n []
  | .behind n b, fs => setB fs n ((getB fs n).getD [] ++ b)
  | .gone n, fs => delB fs n
def runR (h : List Raw) : Fs := h.foldl (fun fs r => r.app fs) []
theorem runR_snoc (h : List Raw) (r : Raw) : runR (h ++ [r]) = r.app (runR h) := by unfold runR; rw [List.foldl_append]; rfl
theorem fsOf_del (es : List Fe) (s : ByteArray) : fsOf (delF es s) = delB (fsOf es) s := by
  unfold fsOf delF delB
  rw [List.filter_map]
  rfl
theorem fsOf_put (es : List Fe) (e : Fe) : fsOf (putF es e) = setB (fsOf es) e.name e.c := by
  unfold putF setB
  rw [← fsOf_del]
  simp [fsOf]
theorem getB_of (es : List Fe) (s : ByteArray) : getB (fsOf es) s = (findF es s).map (·.c) := by
  unfold getB fsOf findF
  rw [List.find?_map, Option.map_map]
  rfl
def UniqB (fs : Fs) : Prop := fs.Pairwise (fun a b => a.1 ≠ b.1)
theorem UniqB.del {fs : Fs} (h : UniqB fs) (s : ByteArray) : UniqB (delB fs s) := List.Pairwise.filter _ h
theorem UniqB.set {fs : Fs} (h : UniqB fs) (s : ByteArray) (c : Bs) : UniqB (setB fs s c) := by
  unfold UniqB setB
  rw [List.pairwise_append]
  refine ⟨h.del _, List.pairwise_singleton _ _, fun a ha b hb => ?_⟩
  rw [List.mem_singleton] at hb
  subst hb
  have := (List.mem_filter.1 ha).2
  simpa using this
theorem uniq_app (r : Raw) {fs : Fs} (h : UniqB fs) : UniqB (r.app fs) := by
  cases r with
  | empty n => exact h.set _ _
  | behind n b => exact h.set _ _
  | gone n => exact h.del _
theorem uniq_run : ∀ (h : List Raw) (fs : Fs), UniqB fs → UniqB (h.foldl (fun fs r => r.app fs) fs)
  | [], _, h => h
  | r :: h, fs, hu => uniq_run h _ (uniq_app r hu)
theorem uniq_runR (h : List Raw) : UniqB (runR h) := uniq_run h [] List.Pairwise.nil
theorem used_del {fs : Fs} (h : UniqB fs) (s : ByteArray) : usedB (delB fs s) + ((getB fs s).getD []).length = usedB fs := by
  induction fs with
  | nil => rfl
  | cons a fs ih =>
    have h1 := List.pairwise_cons.1 h
    have ih' := ih h1.2
    by_cases ha : a.1 = s
    · have e1 : delB fs s = fs := by
        unfold delB
        rw [List.filter_eq_self]
        intro x hx
        have := h1.1 x hx
        simp [← ha, Ne.symm this]
      have e2 : delB (a :: fs) s = fs := by
        unfold delB at e1 ⊢
        rw [List.filter_cons_of_neg (by simp [ha]), e1]
      rw [e2]
      simp [getB, ha, usedB]
      omega
    · have e2 : delB (a :: fs) s = a :: delB fs s := by
        unfold delB
        rw [List.filter_cons_of_pos (by simp [ha])]
      have e3 : getB (a :: fs) s = getB fs s := by
        unfold getB
        rw [List.find?_cons_of_neg (by simp [ha])]
      rw [e2, e3]
      unfold usedB at ih' ⊢
      rw [List.map_cons, List.map_cons, List.sum_cons, List.sum_cons]
      omega
theorem used_set {fs : Fs} (h : UniqB fs) (s : ByteArray) (c : Bs) : usedB (setB fs s c) + ((getB fs s).getD []).length = usedB fs + c.length := by
  have h1 := used_del h s
  unfold setB usedB at *
  rw [List.map_append, List.sum_append]
  simp
  omega
theorem getB_set_same (fs : Fs) (s : ByteArray) (c : Bs) : getB (setB fs s c) s = some c := by
  have h : (delB fs s).find? (fun p => decide (p.1 = s)) = none := by
    unfold delB
    rw [List.find?_eq_none]
    intro x hx
    have := (List.mem_filter.1 hx).2
    simpa using this
  unfold getB setB
  rw [List.find?_append, h]
  simp
theorem getB_set_other (fs : Fs) {s t : ByteArray} (c : Bs) (ht : t ≠ s) : getB (setB fs s c) t = getB fs t := by
  have h : (delB fs s).find? (fun p => decide (p.1 = t)) = fs.find? (fun p => decide (p.1 = t)) := by
    unfold delB
    rw [List.find?_filter]
    congr 1
    funext p
    by_cases hp : p.1 = t
    · simp [hp, ht]
    · simp [hp]
  unfold getB setB
  rw [List.find?_append, h]
  have : List.find? (fun p => decide (p.1 = t)) [(s, c)] = none := by simp [Ne.symm ht]
  rw [this, Option.or_none]
end Go.Bd
