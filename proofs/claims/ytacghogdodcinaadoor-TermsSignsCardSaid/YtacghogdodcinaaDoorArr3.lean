/-
  An argument of type [3]string, opened.
-/
import Derived.Test.YtacghogdodcinaaDoorTWk
import Derived.Test.YtacghogdodcinaaDoorFrame2
namespace Go.Proofs.YtacghogdodcinaaDoor
open Go.ChangeShapes Go.WideShapes Go.ChangeAt Go.RowKit Go.Bd
theorem arr3_under : Tryd.prog.underlying 32 = some (.array 3 9) := by kernel_rfl
theorem arr3_cells : Tryd.prog.cellsOf 32 = 3 := by kernel_rfl
theorem str_cells : Tryd.prog.cellsOf 9 = 1 := by kernel_rfl
theorem open_arr3 {H : Type} {enc : TypeId × Value → H} {W : World} {base : Nat} {sp : Nat → Bool} {hd : Bool} {v : Value} {d : DataW H} {p : List MemPlace}
    (hv : Value.okWide Tryd.prog W .any base 32 v) (h : DataW.Trod enc Tryd.prog W 0 sp hd 32 v d p) :
    ∃ a b c : ByteArray, v = .agg #[.string a, .string b, .string c] ∧ d = .agg [.lit (.string a.data.toList), .lit (.string b.data.toList), .lit (.string c.data.toList)] ∧ p = [] ∧
      ((∀ n ∈ d.weights Tryd.prog 32, n ≤ reachBytes) → a.size ≤ 140737488355328 ∧ b.size ≤ 140737488355328 ∧ c.size ≤ 140737488355328) := by
  simp only [Value.okWide, arr3_under] at hv
  obtain ⟨cs, rfl, hsz, _⟩ := hv
  rw [arr3_cells] at hsz
  obtain ⟨fuel, hf⟩ := h
  obtain ⟨xs, m, _, hx, _, hl, hi⟩ := DataW.trod_array arr3_under hf
  obtain ⟨l, rfl⟩ : ∃ l : List Value, cs = l.toArray := ⟨cs.toList, by simp⟩
  match l, hsz with
  | [c0, c1, c2], _ =>
    match xs, hl with
    | [x0, x1, x2], _ =>
      have i0 := hi 0 (by decide)
      have i1 := hi 1 (by decide)
      have i2 := hi 2 (by decide)
      rw [str_cells] at i0 i1 i2
      obtain ⟨a, e0, y0, _⟩ := DataW.trod_string Tryd.underlying9 i0
      obtain ⟨b, e1, y1, _⟩ := DataW.trod_string Tryd.underlying9 i1
      obtain ⟨c, e2, y2, _⟩ := DataW.trod_string Tryd.underlying9 i2
      simp [Value.cells] at e0 e1 e2
      subst e0 e1 e2 y0 y1 y2
      simp at hx
      obtain ⟨rfl, rfl⟩ := hx
      refine ⟨a, b, c, rfl, rfl, rfl, fun hw => ?_⟩
      have hw' : ∀ n ∈ [a.data.toList.length, b.data.toList.length, c.data.toList.length], n ≤ reachBytes := by
        intro n hn
        refine hw n ?_
        simp only [DataW.weights, arr3_under, DataW.weightsAll]
        simpa using hn
      unfold reachBytes at hw'
      have h0 := hw' a.data.toList.length (by simp); have h1 := hw' b.data.toList.length (by simp); have h2 := hw' c.data.toList.length (by simp)
      rw [size_list, size_list, size_list]
      exact ⟨by omega, by omega, by omega⟩
end Go.Proofs.YtacghogdodcinaaDoor
