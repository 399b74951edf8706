/-
  An argument that tells what is done with a disk, opened. No condition.
-/
import Derived.Test.YtggnkpblfmjbcaaOpenB
import Derived.Test.YtggnkpblfmjbcaaLDa
namespace Go.Proofs.Ytggnkpblfmjbcaa
open Go.ChangeShapes Go.WideShapes Go.RowKit Go.Bd
theorem byte_back1 (s : ByteArray) : (⟨s.data.toList.toArray⟩ : ByteArray) = s := by simp
set_option maxRecDepth 100000 in
theorem open_acts {H : Type} {enc : TypeId × Value → H} {w : World} {base : Nat} {sp : Nat → Bool} {held : Bool} {v : Value} {d : DataW H} {p : List MemPlace}
    (hv : Value.okWide Try.prog w .any base 22 v) (h : DataW.Trod enc Try.prog w 0 sp held 22 v d p) :
    ∃ l, ActsAt w w.heap.size v l ∧ weigh l + 1 ≤ Rows.uptoBulk d := by
  obtain ⟨A0, l0, c0, rfl⟩ := okWide_slice Try.underlying22 hv
  obtain ⟨fuel, hf⟩ := h
  suffices hgoal : ∀ {cs : List Value} {x : DataW H × List MemPlace}, DataW.trod enc Try.prog w 0 sp held fuel 22 cs = some x → ∃ v l, cs = [v] ∧ ActsAt w w.heap.size v l ∧ weigh l + 1 ≤ Rows.uptoBulk x.1 by
    obtain ⟨v, ls, h1, h2, h3⟩ := hgoal hf
    simp only [Value.cells, List.cons.injEq, and_true] at h1
    subst h1
    exact ⟨ls, h2, h3⟩
  clear hf
  intro cs x h
  rcases Deep.open_slice (e := 32) Try.underlying22 h with ⟨rfl, rfl⟩ | ⟨a, len, cap, m, n, D, Pl, rfl, _, hl, _, hmm, rfl, hx⟩
  · exact ⟨_, [], rfl, ⟨none, 0, [], rfl, Nat.le_refl _, rfl, fun h => absurd rfl h, fun j x bv h => by simp at h⟩, by simp [weigh, Rows.uptoBulk]⟩
  · have hlm : len ≤ m := by rw [hmm]; split <;> omega
    have hc4 : Try.prog.cellsOf 32 = 4 := by kernel_rfl
    have each : ∀ i, i < len → ∃ q : Ac × Value, (∀ (j : Nat) u, (acCells q.1 q.2)[j]? = some u → w.cell? ((a.add (i * 4)).add j) = some u) ∧ BytesR w w.heap.size q.2 q.1.b ∧ 1 + q.1.b.length + q.1.name.size ≤ Rows.uptoBulk (D i) := by
      intro i hi
      obtain ⟨cs', h1, h2⟩ := hx i (by omega)
      rw [hc4] at h1
      obtain ⟨k, V, DD, hag, hf⟩ := open_fields Try.underlying32 (by rw [hc4]; rfl) (fun i f hif => by
        have hi' : i < 4 := (Array.getElem?_eq_some_iff.1 hif).1
        match i, hi' with
        | 0, _ => obtain rfl := Option.some.inj hif; exact ⟨rfl, by kernel_rfl⟩
        | 1, _ => obtain rfl := Option.some.inj hif; exact ⟨rfl, by kernel_rfl⟩
        | 2, _ => obtain rfl := Option.some.inj hif; exact ⟨rfl, by kernel_rfl⟩
        | 3, _ => obtain rfl := Option.some.inj hif; exact ⟨rfl, by kernel_rfl⟩) (by rw [hc4]; exact h1) h2
      obtain ⟨c0, g0⟩ := hf 0 _ rfl
      obtain ⟨c1, g1⟩ := hf 1 _ rfl
      obtain ⟨c2, g2⟩ := hf 2 _ rfl
      obtain ⟨c3, g3⟩ := hf 3 _ rfl
      obtain ⟨z, e0, d0, w0⟩ := DataW.trod_int Try.underlying5 g0
      obtain ⟨s1, e1, d1, _⟩ := DataW.trod_string Try.underlying9 g1
      obtain ⟨bv, bs, e2, hR, hbz⟩ := open_bytes_cells g2
      obtain ⟨z3, e3, d3, w3⟩ := DataW.trod_int Try.underlying3 g3
      simp only [List.cons.injEq, and_true] at e0 e1 e2 e3
      have hsum : Rows.uptoBulk (D i) = 1 + (Rows.uptoBulk (DD 0).1 + (Rows.uptoBulk (DD 1).1 + (Rows.uptoBulk (DD 2).1 + Rows.uptoBulk (DD 3).1))) := by
        have hag' : D i = .agg [(DD 0).1, (DD 1).1, (DD 2).1, (DD 3).1] := hag
        rw [hag']
        simp only [Rows.uptoBulk, Rows.uptoBulkAll]
        omega
      have hz : 0 ≤ z := by have : 0 ≤ z ∧ z ≤ 255 := by simpa [Lit.wf, IntKind.min, IntKind.max, IntKind.signed, IntKind.bits] using w0
                            exact this.1
      rw [d0, d1, d3] at hsum
      simp only [Rows.uptoBulk] at hsum
      have hns : s1.data.toList.length = s1.size := Array.length_toList
      refine ⟨(⟨z.toNat, s1, bs, z3⟩, bv), fun j u hu => ?_, hR, ?_⟩
      · match j, hu with
        | 0, hu => simp only [acCells, List.getElem?_cons_zero, Option.some.injEq] at hu; rw [← hu, c0, e0, Int.toNat_of_nonneg hz]
        | 1, hu => simp only [acCells, List.getElem?_cons_succ, List.getElem?_cons_zero, Option.some.injEq] at hu; rw [← hu, c1, e1]
        | 2, hu => simp only [acCells, List.getElem?_cons_succ, List.getElem?_cons_zero, Option.some.injEq] at hu; rw [← hu, c2, e2]
        | 3, hu => simp only [acCells, List.getElem?_cons_succ, List.getElem?_cons_zero, Option.some.injEq] at hu; rw [← hu, c3, e3]
        | j + 4, hu => simp [acCells] at hu
      · show 1 + bs.length + s1.size ≤ _
        omega
    haveI : Inhabited (Ac × Value) := ⟨(⟨0, ⟨#[]⟩, [], 0⟩, .slice none 0 0)⟩
    obtain ⟨S, hS⟩ := Deep.choose_lt each
    have hlen : ((List.range len).map fun i => (S i).1).length = len := by simp
    have get : ∀ {j : Nat} {x : Ac} {bv : Value}, ((List.range len).map fun i => (S i).1)[j]? = some x → ((List.range len).map fun i => (S i).2)[j]? = some bv → j < len ∧ x = (S j).1 ∧ bv = (S j).2 := by
      intro j x bv h1 h2
      have hj : j < len := by have := (List.getElem?_eq_some_iff.1 h1).1; simpa using this
      rw [List.getElem?_map, List.getElem?_range hj] at h1 h2
      simp only [Option.map_some, Option.some.injEq] at h1 h2
      exact ⟨hj, h1.symm, h2.symm⟩
    refine ⟨_, (List.range len).map fun i => (S i).1, rfl, ⟨some a, cap, (List.range len).map fun i => (S i).2, by rw [hlen], by rw [hlen]; exact hl, by simp, fun hn => ?_, fun j x bv h1 h2 => ?_⟩, ?_⟩
    · have h0 : 0 < len := by
        rcases Nat.eq_zero_or_pos len with h | h
        · subst h; exact absurd rfl hn
        · exact h
      have := (hS 0 h0).1 0 _ rfl
      rw [Nat.zero_mul, Deep.add_add] at this
      obtain ⟨b, off, rfl, hb⟩ := open_addr this
      refine ⟨b, off, rfl, hb, fun j x bv h1 h2 i u hu => ?_⟩
      obtain ⟨hj, rfl, rfl⟩ := get h1 h2
      have hc := (hS j hj).1 i u hu
      rw [Deep.add_add, Addr.add_lit] at hc
      rw [Nat.add_assoc]; exact hc
    · obtain ⟨hj, rfl, rfl⟩ := get h1 h2
      exact (hS j hj).2.1
    · have h1 := bulk_sum (s := fun i => 1 + (S i).1.b.length + (S i).1.name.size) (D := D) (r := List.range len) fun i hi => (hS i (List.mem_range.1 hi)).2.2
      simp only [Rows.uptoBulk]
      unfold weigh
      rw [List.map_map]
      show (List.map (fun i => 1 + (S i).1.b.length + (S i).1.name.size) (List.range len)).sum + 1 ≤ _
      omega
end Go.Proofs.Ytggnkpblfmjbcaa
