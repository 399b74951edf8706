/-
  An argument that is a slice of structs of one slice each, opened; rows of cells of spans. No condition.
-/
import Derived.Test.YtkfffoolpdilnaaOpenS
import Derived.Test.YtkfffoolpdilnaaTw1
namespace Go.Proofs.Ytkfffoolpdilnaa
open Go.ChangeShapes Go.WideShapes Go.RowKit Go.Bd
theorem bulk_mapX {H : Type} {α β : Type} {s : β → Nat} {S : α → β} {D : α → DataW H} : ∀ {r : List α}, (∀ i ∈ r, 2 + s (S i) ≤ Rows.uptoBulk (D i)) → szX s (r.map S) ≤ Rows.uptoBulkAll (r.map D)
  | [], _ => Nat.le_refl _
  | i :: r, h => by
    have h1 := h i (List.mem_cons_self ..)
    have h2 := bulk_mapX (r := r) fun j hj => h j (List.mem_cons_of_mem _ hj)
    simp only [List.map_cons, szX, Rows.uptoBulkAll]
    omega
section
variable {H : Type} {enc : TypeId × Value → H} {w : World} {sp : Nat → Bool} {held : Bool}
set_option maxRecDepth 100000 in
theorem open_row1 {β : Type} [Inhabited β] {R : Rel β} {s : β → Nat} {t e : TypeId} {f : Field} (ht : Try.prog.underlying t = some (.slice e)) (he : Try.prog.underlying e = some (.struct #[f])) (ho : f.offset = 0) (hce : Try.prog.cellsOf e = 1) (hci : Try.prog.cellsOf f.type = 1)
    (inner : ∀ {fuel : Nat} {cs : List Value} {x : DataW H × List MemPlace}, DataW.trod enc Try.prog w 0 sp held fuel f.type cs = some x → ∃ v l, cs = [v] ∧ R w (· < w.heap.size) v l ∧ s l + 1 ≤ Rows.uptoBulk x.1)
    {fuel : Nat} {cs : List Value} {x : DataW H × List MemPlace} (h : DataW.trod enc Try.prog w 0 sp held fuel t cs = some x) :
    ∃ v l, cs = [v] ∧ RowF R w (· < w.heap.size) v l ∧ szX s l + 1 ≤ Rows.uptoBulk x.1 := by
  rcases Deep.open_slice (e := e) ht h with ⟨rfl, rfl⟩ | ⟨a, len, cap, m, n, D, Pl, rfl, _, hl, _, hmm, rfl, hx⟩
  · exact ⟨_, [], rfl, ⟨none, 0, [], rfl, Nat.le_refl _, rfl, fun h => absurd rfl h, fun _ _ _ h => by simp at h⟩, by simp [szX, Rows.uptoBulk]⟩
  · have hlm : len ≤ m := by rw [hmm]; split <;> omega
    have each : ∀ i, i < len → ∃ q : β × Value, w.cell? (a.add i) = some q.2 ∧ R w (· < w.heap.size) q.2 q.1 ∧ 2 + s q.1 ≤ Rows.uptoBulk (D i) := by
      intro i hi
      obtain ⟨cs', h1, h2⟩ := hx i (by omega)
      obtain ⟨k, V, DD, hag, hf⟩ := open_fields he (by rw [hce]; rfl) (fun i g hg => by
        have hi' : i < 1 := (Array.getElem?_eq_some_iff.1 hg).1
        match i, hi' with
        | 0, _ => obtain rfl := Option.some.inj hg; exact ⟨ho, hci⟩) h1 h2
      obtain ⟨c0, g0⟩ := hf 0 _ rfl
      obtain ⟨v, l, e0, hr, hs⟩ := inner g0
      simp only [List.cons.injEq, and_true] at e0
      have hag' : D i = .agg [(DD 0).1] := hag
      refine ⟨(l, v), ?_, hr, ?_⟩
      · rw [Deep.add_add, hce, Nat.mul_one, Nat.add_zero] at c0
        rw [c0, e0]
      · rw [hag']
        simp only [Rows.uptoBulk, Rows.uptoBulkAll]
        omega
    haveI : Inhabited (β × Value) := ⟨(default, .slice none 0 0)⟩
    obtain ⟨S, hS⟩ := Deep.choose_lt each
    have hlen : ((List.range len).map fun i => (S i).1).length = len := by simp
    refine ⟨_, (List.range len).map fun i => (S i).1, rfl, ⟨some a, cap, (List.range len).map fun i => (S i).2, by rw [hlen], by rw [hlen]; exact hl, by simp, fun hn => ?_, fun j x kv h1 h2 => ?_⟩, ?_⟩
    · have h0 : 0 < len := by
        rcases Nat.eq_zero_or_pos len with h | h
        · subst h; exact absurd rfl hn
        · exact h
      obtain ⟨b, off, rfl, hb⟩ := open_addr (hS 0 h0).1
      refine ⟨b, off, rfl, hb, fun j kv h2 => ?_⟩
      have hj : j < len := by have := (List.getElem?_eq_some_iff.1 h2).1; simpa using this
      rw [List.getElem?_map, List.getElem?_range hj] at h2
      simp only [Option.map_some, Option.some.injEq] at h2
      subst h2
      have hc := (hS j hj).1
      rwa [Addr.add_lit] at hc
    · have hj : j < len := by have := (List.getElem?_eq_some_iff.1 h1).1; simpa using this
      rw [List.getElem?_map, List.getElem?_range hj] at h1 h2
      simp only [Option.map_some, Option.some.injEq] at h1 h2
      subst h1 h2
      exact (hS j hj).2.1
    · have h1 := bulk_mapX (s := s) (S := fun i => (S i).1) (D := D) (r := List.range len) fun i hi => (hS i (List.mem_range.1 hi)).2.2
      simp only [Rows.uptoBulk]
      omega
end
set_option maxRecDepth 100000 in
theorem open_rows {H : Type} {enc : TypeId × Value → H} {W : World} {base : Nat} {sp : Nat → Bool} {hd : Bool} {v : Value} {d : DataW H} {p : List MemPlace}
    (hv : Value.okWide Try.prog W .any base 22 v) (h : DataW.Trod enc Try.prog W 0 sp hd 22 v d p) :
    ∃ l, RowsF W (· < W.heap.size) v l ∧ szX (szX szL) l + 1 ≤ Rows.uptoBulk d := by
  obtain ⟨A, l, c, rfl⟩ := okWide_slice Try.underlying22 hv
  obtain ⟨fuel, hf⟩ := h
  obtain ⟨v, ls, h1, h2, h3⟩ := open_row1 (R := CellsF) (s := szX szL) Try.underlying22 Try.underlying30 rfl (by kernel_rfl) (by kernel_rfl)
    (fun h => open_row1 (R := Forest) (s := szL) Try.underlying28 Try.underlying34 rfl (by kernel_rfl) (by kernel_rfl) (fun h => open_spans_cells _ (Nat.le_refl _) h) h) hf
  simp only [Value.cells, List.cons.injEq, and_true] at h1
  subst h1
  exact ⟨ls, h2, h3⟩
end Go.Proofs.Ytkfffoolpdilnaa
