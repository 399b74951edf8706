/-
  Memory: a map of files: names, and slices of bytes. No condition.
-/
import Derived.Test.YtggnkpblfmjbcaaChg
import Derived.Maps.OwnSet
import Derived.StringKeys
namespace Go.Bd
open Go.RowKit Go.Maps Go.WideMaps
/-- a map's element as it stands -/
def heldR : Value → Option (DataW Value × List MemPlace) := fun v => some (.held v, [])
def nameL (s : ByteArray) : Lit := .string s.data.toList
/-- a file: its name, the slice that holds it, its bytes -/
structure Fe where
  name : ByteArray
  v : Value
  c : Bs
def findF (es : List Fe) (s : ByteArray) : Option Fe := es.find? (fun e => decide (e.name = s))
def valF (es : List Fe) (s : ByteArray) : Value := match findF es s with | some e => e.v | none => .slice none 0 0
def delF (es : List Fe) (s : ByteArray) : List Fe := es.filter (fun e => !decide (e.name = s))
/-- a file is written: the others go ahead of it -/
def putF (es : List Fe) (e : Fe) : List Fe := delF es e.name ++ [e]
theorem findF_name {es : List Fe} {s : ByteArray} {e : Fe} (h : findF es s = some e) : e.name = s := by
  have := List.find?_some h
  simpa using this
theorem findF_del_same (es : List Fe) (s : ByteArray) : findF (delF es s) s = none := by
  unfold findF delF
  rw [List.find?_eq_none]
  intro x hx
  have := (List.mem_filter.1 hx).2
  simpa using this
theorem findF_del_other (es : List Fe) {s t : ByteArray} (h : t ≠ s) : findF (delF es s) t = findF es t := by
  unfold findF delF
  rw [List.find?_filter]
  congr 1
  funext e
  by_cases he : e.name = t
  · simp [he, h]
  · simp [he]
theorem findF_put_same (es : List Fe) (e : Fe) : findF (putF es e) e.name = some e := by
  unfold putF
  have h := findF_del_same es e.name
  unfold findF at h ⊢
  rw [List.find?_append, h]
  simp
theorem findF_put_other (es : List Fe) (e : Fe) {t : ByteArray} (h : t ≠ e.name) : findF (putF es e) t = findF es t := by
  unfold putF
  have h1 := findF_del_other es h
  unfold findF at h1 ⊢
  rw [List.find?_append, h1]
  have : List.find? (fun x => decide (x.name = t)) [e] = none := by simp [Ne.symm h]
  rw [this, Option.or_none]
/-- no name twice -/
def Uniq (es : List Fe) : Prop := es.Pairwise (fun a b => a.name ≠ b.name)
theorem Uniq.del {es : List Fe} (h : Uniq es) (s : ByteArray) : Uniq (delF es s) := List.Pairwise.filter _ h
theorem Uniq.put {es : List Fe} (h : Uniq es) (e : Fe) : Uniq (putF es e) := by
  unfold Uniq putF
  rw [List.pairwise_append]
  refine ⟨h.del _, List.pairwise_singleton _ _, fun a ha b hb => ?_⟩
  rw [List.mem_singleton] at hb
  subst hb
  have := (List.mem_filter.1 ha).2
  simpa using this
theorem del_length {es : List Fe} (h : Uniq es) (s : ByteArray) : (delF es s).length + (if (findF es s).isSome then 1 else 0) = es.length := by
  induction es with
  | nil => simp [delF, findF]
  | cons a es ih =>
    have h1 := List.pairwise_cons.1 h
    have ih' := ih h1.2
    by_cases ha : a.name = s
    · have e1 : delF es s = es := by
        unfold delF
        rw [List.filter_eq_self]
        intro x hx
        have := h1.1 x hx
        simp [← ha, Ne.symm this]
      have e2 : delF (a :: es) s = es := by
        unfold delF at e1 ⊢
        rw [List.filter_cons_of_neg (by simp [ha]), e1]
      rw [e2]
      simp [findF, ha]
    · have e2 : delF (a :: es) s = a :: delF es s := by
        unfold delF
        rw [List.filter_cons_of_pos (by simp [ha])]
      have e3 : findF (a :: es) s = findF es s := by
        unfold findF
        rw [List.find?_cons_of_neg (by simp [ha])]
      rw [e2, e3, List.length_cons, List.length_cons]
      omega
theorem put_length {es : List Fe} (h : Uniq es) (e : Fe) : (putF es e).length = es.length + (if (findF es e.name).isSome then 0 else 1) := by
  have := del_length h e.name
  unfold putF
  rw [List.length_append, List.length_singleton]
  split at this <;> split <;> simp_all
/-- block bm is a map of these files -/
def FsMap (w : World) (P : Program) (K : TypeId) (bm : Nat) (es : List Fe) : Prop :=
  ∃ D, w.ownsMap P K heldR bm es.length D ∧ Maps.size D = es.length ∧ (∀ s : ByteArray, Maps.has D (nameL s) = (findF es s).isSome) ∧ ∀ (s : ByteArray) z, D.atKey (nameL s) z = match findF es s with | some e => .held e.v | none => z
theorem nameL_ne {s t : ByteArray} (h : t ≠ s) : nameL t ≠ nameL s := fun e => by
  unfold nameL at e
  injection e with e
  exact h (by cases s; cases t; simp_all)
section
variable {w w' : World} {P : Program} {K T E bm : Nat} {es : List Fe}
theorem tight {n : Nat} {D : DataW Value} (h : w.ownsMap P K heldR bm n D) : w.ownsMap P K heldR bm (Maps.size D) D := by
  obtain ⟨es, clock, h1, h2, _, h4⟩ := h
  refine ⟨es, clock, h1, h2, ?_, h4⟩
  rw [h4]
  simp [Maps.size, length_sorted]
theorem FsMap.lt (h : FsMap w P K bm es) : bm < w.heap.size := by
  obtain ⟨D, h1, _⟩ := h
  exact h1.lt
theorem FsMap.eq (h : FsMap w P K bm es) (he : w'.heap[bm]? = w.heap[bm]?) : FsMap w' P K bm es := by
  obtain ⟨D, ⟨m, clock, h1, h2⟩, h3⟩ := h
  exact ⟨D, ⟨m, clock, he.trans h1, h2⟩, h3⟩
theorem FsMap.chg {S : Nat → Prop} (h : FsMap w P K bm es) (hc : Chg w w' S) (hS : ¬ S bm) : FsMap w' P K bm es := h.eq (hc.block _ h.lt hS)
theorem FsMap.new (w : World) (P : Program) (K : TypeId) : FsMap (w.alloc (.map #[] 0)) P K w.heap.size [] :=
  ⟨.map [], World.ownsMap_made _ _ _ _, rfl, fun s => rfl, fun s z => rfl⟩
theorem FsMap.look (h : FsMap w P K bm es) (hk : P.underlying K = some .string) (ht : P.underlying T = some (.map K E)) (hz : (zeroValue E).run P w = .ok (.slice none 0 0) w) {s : ByteArray} (hs : s.size ≤ maxLen) :
    (Instr.lookup T (.map (some bm)) (.string s) false).run P w = .ok (valF es s) w := by
  obtain ⟨D, h1, _, _, h4⟩ := h
  obtain ⟨v, ps, hrun, hv⟩ := h1.lookup (string_keyed hk) ht hz rfl (keyOf_string_mk hk hs)
  rw [hrun]
  have e1 := h4 s (.held (.slice none 0 0))
  unfold nameL at e1
  rw [e1] at hv
  simp only [heldR, Option.some.injEq, Prod.mk.injEq] at hv
  unfold valF
  congr 1
  split at hv <;> simp_all
theorem FsMap.look_ok (h : FsMap w P K bm es) (hk : P.underlying K = some .string) (ht : P.underlying T = some (.map K E)) (hz : (zeroValue E).run P w = .ok (.slice none 0 0) w) {s : ByteArray} (hs : s.size ≤ maxLen) :
    (Instr.lookup T (.map (some bm)) (.string s) true).run P w = .ok (.tuple #[valF es s, .bool (findF es s).isSome]) w := by
  obtain ⟨D, h1, _, h3, h4⟩ := h
  obtain ⟨v, ps, hrun, hv⟩ := h1.look_ok (string_keyed hk) ht hz rfl (keyOf_string_mk hk hs)
  rw [hrun]
  have e1 := h4 s (.held (.slice none 0 0))
  have e2 := h3 s
  unfold nameL at e1 e2
  rw [e1] at hv
  rw [e2]
  simp only [heldR, Option.some.injEq, Prod.mk.injEq] at hv
  have e3 : v = valF es s := by
    unfold valF
    split at hv <;> simp_all
  rw [e3]
theorem FsMap.len (h : FsMap w P K bm es) (ht : P.underlying T = some (.map K E)) (ty : TypeId) : (Builtin.len_ #[T] ty #[.map (some bm)]).run P w = .ok (.int .i64 es.length) w := by
  obtain ⟨D, h1, h2, _⟩ := h
  rw [h1.len ht, h2]
theorem FsMap.store (h : FsMap w P K bm es) (hu : Uniq es) (hk : P.underlying K = some .string) (ht : P.underlying T = some (.map K E)) (hn : es.length < maxLen) (e : Fe) (hs : e.name.size ≤ maxLen) :
    ∃ w', (Instr.mapUpdate T (.map (some bm)) (.string e.name) e.v).run P w = .ok () w' ∧ FsMap w' P K bm (putF es e) ∧ Chg w w' (fun b => b = bm) ∧ w'.heap.size = w.heap.size := by
  obtain ⟨D, h1, h2, h3, h4⟩ := h
  obtain ⟨w', hrun, h5, h6⟩ := h1.store (string_keyed hk) ht hn (keyOf_string_mk hk hs) (val := e.v) (d := .held e.v) (ps := []) rfl
  have hsz : Maps.size (D.put (nameL e.name) (.held e.v)) = (putF es e).length := by
    have e1 := Maps.size_put (h1.tidy (string_keyed hk)) (k := nameL e.name) (.held e.v)
    rw [e1, h3, put_length hu, h2]
    split <;> simp
  refine ⟨w', hrun, ⟨D.put (nameL e.name) (.held e.v), ?_, hsz, fun s => ?_, fun s z => ?_⟩, (Chg.grown h6.grown).mono (fun k _ h => by simpa using h), ?_⟩
  · rw [← hsz]; exact tight h5
  · by_cases hse : s = e.name
    · subst hse
      rw [findF_put_same, Maps.has_put_same h1.isMap (by exact trivial)]
      rfl
    · rw [findF_put_other _ _ hse, Maps.has_put_other (nameL_ne hse), h3]
  · by_cases hse : s = e.name
    · subst hse
      rw [findF_put_same, Maps.atKey_put_same h1.isMap (by exact trivial)]
    · rw [findF_put_other _ _ hse, Maps.atKey_put_other (nameL_ne hse), h4]
  · obtain ⟨_, _, _, _, _, rfl⟩ := h6
    simp [ChangeMaps.setBlock]
theorem FsMap.drop (h : FsMap w P K bm es) (hu : Uniq es) (hk : P.underlying K = some .string) (ht : P.underlying T = some (.map K E)) (s : ByteArray) (hs : s.size ≤ maxLen) (ty : TypeId) :
    ∃ w', (Builtin.delete_ #[T, K] ty #[.map (some bm), .string s]).run P w = .ok (.tuple #[]) w' ∧ FsMap w' P K bm (delF es s) ∧ Chg w w' (fun b => b = bm) := by
  obtain ⟨D, h1, h2, h3, h4⟩ := h
  obtain ⟨w', hrun, h5, h6⟩ := h1.drop (string_keyed hk) ht (keyOf_string_mk hk hs) ty
  have hsz : Maps.size (D.del (nameL s)) = (delF es s).length := by
    have e1 := Maps.size_del (h1.tidy (string_keyed hk)) (k := nameL s)
    have e2 := del_length hu s
    rw [h3] at e1
    split at e1 <;> simp_all <;> omega
  refine ⟨w', hrun, ⟨D.del (nameL s), ?_, hsz, fun t => ?_, fun t z => ?_⟩, (Chg.grown h6.grown).mono (fun k _ h => by simpa using h)⟩
  · rw [← hsz]; exact tight h5
  · by_cases hse : t = s
    · subst hse
      rw [findF_del_same, Maps.has_del_same]
      rfl
    · rw [findF_del_other _ hse, Maps.has_del_other (nameL_ne hse), h3]
  · by_cases hse : t = s
    · subst hse
      rw [findF_del_same, Maps.atKey_del_same]
    · rw [findF_del_other _ hse, Maps.atKey_del_other (nameL_ne hse), h4]
end
end Go.Bd
