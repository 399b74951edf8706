/-
  An argument that is a slice of integers, opened, over any program. No condition.
-/
import Derived.Test.YtggnkpblfmjbcaaVec
import Derived.Deep.Slices
import Derived.ChangeArms
import Derived.WideShapes
import Derived.SizedLaws
namespace Go.Bd
open Go.ChangeShapes Go.WideShapes Go.RowKit
theorem addr_lit' {w : World} {a : Addr} {v : Value} (h : w.cell? (a.add 0) = some v) : ∃ b off, a = ⟨b, off, none⟩ ∧ b < w.heap.size := by
  obtain ⟨b, off, spot⟩ := a
  have e : (⟨b, off, spot⟩ : Addr).add 0 = ⟨b, off, spot⟩ := by simp [Addr.add]
  rw [e] at h
  refine ⟨b, off, ?_, World.block_lt_of_cell? w _ h⟩
  cases spot with
  | none => rfl
  | some s =>
    exfalso
    simp only [World.cell?] at h
    split at h <;> simp at h
theorem rd_of' {w : World} {a : Addr} {len cap : Nat} {V : Nat → Value} (hl : len ≤ cap) (h : ∀ i, i < len → w.cell? (a.add i) = some (V i)) : Rd w w.heap.size (.slice (some a) len cap) ((List.range len).map V) := by
  refine ⟨some a, cap, by simp, by simpa using hl, fun hn => ?_⟩
  have hn' : 0 < len := by simpa using hn
  obtain ⟨b, off, rfl, hb⟩ := addr_lit' (h 0 hn')
  refine ⟨b, off, rfl, hb, fun j u hu => ?_⟩
  have hj : j < len := by have := (List.getElem?_eq_some_iff.1 hu).1; simpa using this
  rw [List.getElem?_map, List.getElem?_range hj] at hu
  have := h j hj
  rw [Addr.add_lit] at this
  rw [this]; exact hu
theorem open_nums {H : Type} {enc : TypeId × Value → H} {P : Program} {W : World} {base : Nat} {sp : Nat → Bool} {hd : Bool} {v : Value} {d : DataW H} {p : List MemPlace} {t e : TypeId} {k : IntKind} {bs : Nat}
    (ht : P.underlying t = some (.slice e)) (he : P.underlying e = some (.int k)) (hc : P.cellsOf e = 1) (hbs : P.bytesOf e = bs) (h1 : 1 ≤ bs)
    (hv : Value.okWide P W .any base t v) (h : DataW.Trod enc P W 0 sp hd t v d p) :
    ∃ xs : List Int, Rd W W.heap.size v (xs.map (Value.int k)) ∧ (∀ x ∈ xs, (Lit.int k x).wf = true) ∧ ((∀ n ∈ d.weights P t, n ≤ reachBytes) → xs.length ≤ 140737488355328) := by
  obtain ⟨A, l, c, rfl⟩ := okWide_slice ht hv
  obtain ⟨fuel, hf⟩ := h
  rcases Deep.open_slice1 (e := e) ht hc hf with ⟨h1', h2⟩ | ⟨a, len, cap, m, n, V, D, Pl, h1', _, hl, _, hmm, h2, hx⟩
  · simp only [Value.cells, List.cons.injEq, and_true] at h1'
    rw [h1']
    exact ⟨[], Rd.nil _ _, (fun _ h => by cases h), (fun _ => Nat.zero_le _)⟩
  · simp only [Value.cells, List.cons.injEq, and_true] at h1'
    rw [h1']
    simp only [Prod.mk.injEq] at h2
    obtain ⟨rfl, _⟩ := h2
    have hlm : len ≤ m := by rw [hmm]; split <;> omega
    have each : ∀ i, i < len → ∃ z : Int, V i = .int k z ∧ (Lit.int k z).wf = true := by
      intro i hi
      obtain ⟨s, h1, _, h3⟩ := DataW.trod_int he (hx i (by omega)).2
      simp only [List.cons.injEq, and_true] at h1
      exact ⟨s, h1, h3⟩
    obtain ⟨S, hS⟩ := Deep.choose_lt each
    refine ⟨(List.range len).map S, ?_, fun x hx => ?_, fun hw => ?_⟩
    · have hr := rd_of' (w := W) (V := fun i => .int k (S i)) hl (fun i hi => by rw [(hx i (by omega)).1, (hS i hi).1])
      rw [List.map_map]
      exact hr
    · obtain ⟨i, hi, rfl⟩ := List.mem_map.1 hx
      exact (hS i (by simpa using hi)).2
    · have := hw _ (by simp only [DataW.weights, ht]; exact List.mem_cons_self ..)
      simp only [List.length_map, List.length_range, hbs] at this
      unfold reachBytes at this
      simp only [List.length_map, List.length_range]
      have h2 : (len + (m - len)) * 1 ≤ (len + (m - len)) * bs := Nat.mul_le_mul_left _ h1
      omega
end Go.Bd
