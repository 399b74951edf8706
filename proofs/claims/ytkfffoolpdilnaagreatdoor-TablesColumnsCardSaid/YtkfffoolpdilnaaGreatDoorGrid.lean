/-
  An argument of type [][]string, opened. No condition.
-/
import Derived.Test.YtkfffoolpdilnaaGreatDoorGA
import Derived.Deep.Slices
import Derived.ChangeArms
import Derived.WideShapes
import Derived.SizedLaws
namespace Go.Proofs.YtkfffoolpdilnaaGreatDoor
open Go.ChangeShapes Go.WideShapes Go.RowKit Go.Bd
theorem strs_cells : Tryz.prog.cellsOf 27 = 1 := by kernel_rfl
theorem str_cells : Tryz.prog.cellsOf 9 = 1 := by kernel_rfl
theorem str_bytes : Tryz.prog.bytesOf 9 = 16 := by kernel_rfl
theorem strs_bytes : Tryz.prog.bytesOf 27 = 24 := by kernel_rfl
theorem weights_all {H : Type} {P : Program} {e : TypeId} {n : Nat} {d : DataW H} : ∀ {ds : List (DataW H)}, d ∈ ds → n ∈ d.weights P e → n ∈ DataW.weightsAll P e ds
  | x :: ds, hd, hn => by
    rw [DataW.weightsAll]
    rcases List.mem_cons.1 hd with rfl | hd
    · exact List.mem_append_left _ hn
    · exact List.mem_append_right _ (weights_all hd hn)
theorem addr_lit {w : World} {a : Addr} {v : Value} (h : w.cell? (a.add 0) = some v) : ∃ b off, a = ⟨b, off, none⟩ ∧ b < w.heap.size := by
  obtain ⟨b, off, spot⟩ := a
  have e : (⟨b, off, spot⟩ : Addr).add 0 = ⟨b, off, spot⟩ := by simp [Addr.add]
  rw [e] at h
  refine ⟨b, off, ?_, World.block_lt_of_cell? w _ h⟩
  cases spot with
  | none => rfl
  | some s =>
    exfalso
    simp only [World.cell?] at h
    split at h <;> simp at h
section
variable {H : Type} {enc : TypeId × Value → H} {w : World} {sp : Nat → Bool} {held : Bool}
/-- a slice's cells, read as one value each -/
theorem rd_of {a : Addr} {len cap : Nat} {V : Nat → Value} (hl : len ≤ cap) (h : ∀ i, i < len → w.cell? (a.add i) = some (V i)) : Rd w w.heap.size (.slice (some a) len cap) ((List.range len).map V) := by
  refine ⟨some a, cap, by simp, by simpa using hl, fun hn => ?_⟩
  have hn' : 0 < len := by simpa using hn
  obtain ⟨b, off, rfl, hb⟩ := addr_lit (h 0 hn')
  refine ⟨b, off, rfl, hb, fun j u hu => ?_⟩
  have hj : j < len := by have := (List.getElem?_eq_some_iff.1 hu).1; simpa using this
  rw [List.getElem?_map, List.getElem?_range hj] at hu
  have := h j hj
  rw [Addr.add_lit] at this
  rw [this]; exact hu
theorem open_texts {fuel : Nat} {cs : List Value} {x : DataW H × List MemPlace} (h : DataW.trod enc Tryz.prog w 0 sp held fuel 27 cs = some x) :
    ∃ v xs, cs = [v] ∧ Texts w w.heap.size v xs ∧ ((∀ n ∈ x.1.weights Tryz.prog 27, n ≤ reachBytes) → xs.length ≤ 140737488355328 ∧ ∀ s ∈ xs, s.size ≤ 140737488355328) := by
  rcases Deep.open_slice1 (e := 9) Tryz.underlying27 str_cells h with ⟨rfl, rfl⟩ | ⟨a, len, cap, m, n, V, D, Pl, rfl, _, hl, _, hmm, rfl, hx⟩
  · exact ⟨_, [], rfl, Rd.nil _ _, fun _ => ⟨by decide, fun _ h => by cases h⟩⟩
  · have hlm : len ≤ m := by rw [hmm]; split <;> omega
    have each : ∀ i, i < len → ∃ s : ByteArray, V i = .string s ∧ D i = .lit (.string s.data.toList) := by
      intro i hi
      obtain ⟨s, h1, h2, _⟩ := DataW.trod_string Tryz.underlying9 (hx i (by omega)).2
      simp only [List.cons.injEq, and_true] at h1
      simp only [Prod.mk.injEq] at h2
      exact ⟨s, h1, h2.1⟩
    obtain ⟨S, hS⟩ := Deep.choose_lt each
    refine ⟨_, (List.range len).map S, rfl, ?_, fun hw => ⟨?_, fun s hs => ?_⟩⟩
    · have hr := rd_of (w := w) (V := fun i => .string (S i)) hl (fun i hi => by rw [(hx i (by omega)).1, (hS i hi).1])
      unfold Texts
      rw [List.map_map]
      exact hr
    · have := hw _ (by simp only [DataW.weights, Tryz.underlying27]; exact List.mem_cons_self ..)
      simp only [List.length_map, List.length_range, str_bytes] at this
      unfold reachBytes at this
      simp only [List.length_map, List.length_range]
      omega
    · obtain ⟨i, hi, rfl⟩ := List.mem_map.1 hs
      have hi' : i < len := by simpa using hi
      have := hw (S i).data.toList.length (by
        simp only [DataW.weights, Tryz.underlying27]
        refine List.mem_cons_of_mem _ (List.mem_append_left _ (weights_all (List.mem_map.2 ⟨i, hi, (hS i hi').2⟩) ?_))
        simp [DataW.weights])
      unfold reachBytes at this
      rw [size_list]; omega
theorem open_grid_cells {fuel : Nat} {cs : List Value} {x : DataW H × List MemPlace} (h : DataW.trod enc Tryz.prog w 0 sp held fuel 22 cs = some x) :
    ∃ v ls, cs = [v] ∧ Grid w w.heap.size v ls ∧ ((∀ n ∈ x.1.weights Tryz.prog 22, n ≤ reachBytes) → ls.length ≤ 140737488355328 ∧ (∀ r ∈ ls, r.length ≤ 140737488355328) ∧ ∀ r ∈ ls, ∀ s ∈ r, s.size ≤ 140737488355328) := by
  rcases Deep.open_slice1 (e := 27) Tryz.underlying22 strs_cells h with ⟨rfl, rfl⟩ | ⟨a, len, cap, m, n, V, D, Pl, rfl, _, hl, _, hmm, rfl, hx⟩
  · exact ⟨_, [], rfl, ⟨[], Rd.nil _ _, rfl, fun _ _ h => by simp at h⟩, fun _ => ⟨by decide, (fun _ h => by cases h), fun _ h => by cases h⟩⟩
  · have hlm : len ≤ m := by rw [hmm]; split <;> omega
    have each : ∀ i, i < len → ∃ r : List ByteArray, Texts w w.heap.size (V i) r ∧ ((∀ n ∈ (D i).weights Tryz.prog 27, n ≤ reachBytes) → r.length ≤ 140737488355328 ∧ ∀ s ∈ r, s.size ≤ 140737488355328) := by
      intro i hi
      obtain ⟨v, r, h1, h2, h3⟩ := open_texts (hx i (by omega)).2
      simp only [List.cons.injEq, and_true] at h1
      subst h1
      exact ⟨r, h2, h3⟩
    obtain ⟨S, hS⟩ := Deep.choose_lt each
    refine ⟨_, (List.range len).map S, rfl, ⟨(List.range len).map V, rd_of hl (fun i hi => (hx i (by omega)).1), by simp, fun j r hj => ?_⟩, fun hw => ?_⟩
    · have hjl : j < len := by have := (List.getElem?_eq_some_iff.1 hj).1; simpa using this
      rw [List.getElem?_map, List.getElem?_range hjl] at hj
      simp only [Option.map_some, Option.some.injEq] at hj
      subst hj
      exact ⟨V j, by rw [List.getElem?_map, List.getElem?_range hjl]; rfl, (hS j hjl).1⟩
    · have key : ∀ r ∈ (List.range len).map S, r.length ≤ 140737488355328 ∧ ∀ s ∈ r, s.size ≤ 140737488355328 := by
        intro r hr
        obtain ⟨i, hi, rfl⟩ := List.mem_map.1 hr
        have hi' : i < len := by simpa using hi
        refine (hS i hi').2 fun n hn => hw n ?_
        simp only [DataW.weights, Tryz.underlying22]
        exact List.mem_cons_of_mem _ (List.mem_append_left _ (weights_all (List.mem_map.2 ⟨i, hi, rfl⟩) hn))
      refine ⟨?_, fun r hr => (key r hr).1, fun r hr => (key r hr).2⟩
      have := hw _ (by simp only [DataW.weights, Tryz.underlying22]; exact List.mem_cons_self ..)
      simp only [List.length_map, List.length_range, strs_bytes] at this
      unfold reachBytes at this
      simp only [List.length_map, List.length_range]
      omega
end
set_option maxRecDepth 100000 in
theorem open_grid {H : Type} {enc : TypeId × Value → H} {W : World} {base : Nat} {sp : Nat → Bool} {hd : Bool} {v : Value} {d : DataW H} {p : List MemPlace}
    (hv : Value.okWide Tryz.prog W .any base 22 v) (h : DataW.Trod enc Tryz.prog W 0 sp hd 22 v d p) :
    ∃ ls, Grid W W.heap.size v ls ∧ ((∀ n ∈ d.weights Tryz.prog 22, n ≤ reachBytes) → ls.length ≤ 140737488355328 ∧ (∀ r ∈ ls, r.length ≤ 140737488355328) ∧ ∀ r ∈ ls, ∀ s ∈ r, s.size ≤ 140737488355328) := by
  obtain ⟨A, l, c, rfl⟩ := okWide_slice Tryz.underlying22 hv
  obtain ⟨fuel, hf⟩ := h
  obtain ⟨v, ls, h1, h2, h3⟩ := open_grid_cells hf
  simp only [Value.cells, List.cons.injEq, and_true] at h1
  subst h1
  exact ⟨ls, h2, h3⟩
end Go.Proofs.YtkfffoolpdilnaaGreatDoor
