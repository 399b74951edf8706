/-
  An argument of type []api.Span, opened. No condition.
-/
import Derived.Test.YtkfffoolpdilnaaRows
import Derived.Test.YtkfffoolpdilnaaChecked
import Derived.Test.YtkfffoolpdilnaaOpn
import Derived.Test.YtkfffoolpdilnaaSiz
import Derived.Test.YtkfffoolpdilnaaChg
namespace Go.Proofs.Ytkfffoolpdilnaa
open Go.ChangeShapes Go.WideShapes Go.RowKit Go.Bd
theorem bulk_map {H : Type} {α : Type} {S : α → Sp} {D : α → DataW H} : ∀ {r : List α}, (∀ i ∈ r, sz1 (S i) + 1 ≤ Rows.uptoBulk (D i)) → szL (r.map S) ≤ Rows.uptoBulkAll (r.map D)
  | [], _ => Nat.le_refl _
  | i :: r, h => by
    have h1 := h i (List.mem_cons_self ..)
    have h2 := bulk_map (r := r) fun j hj => h j (List.mem_cons_of_mem _ hj)
    simp only [List.map_cons, szL, Rows.uptoBulkAll]
    omega
theorem bulk_at {H : Type} {α : Type} {D : α → DataW H} : ∀ {r : List α} {i : α}, i ∈ r → Rows.uptoBulk (D i) ≤ Rows.uptoBulkAll (r.map D)
  | j :: r, i, h => by
    simp only [List.map_cons, Rows.uptoBulkAll]
    rcases List.mem_cons.1 h with rfl | h
    · omega
    · have := bulk_at (D := D) h; omega
theorem byte_back (s : ByteArray) : (⟨s.data.toList.toArray⟩ : ByteArray) = s := by simp
section
variable {H : Type} {enc : TypeId × Value → H} {w : World} {sp : Nat → Bool} {held : Bool}
set_option maxRecDepth 100000 in
theorem open_spans_cells : ∀ (N : Nat) {fuel : Nat} {cs : List Value} {x : DataW H × List MemPlace}, Rows.uptoBulk x.1 ≤ N → DataW.trod enc Try.prog w 0 sp held fuel 32 cs = some x →
    ∃ v l, cs = [v] ∧ Forest w (· < w.heap.size) v l ∧ szL l + 1 ≤ Rows.uptoBulk x.1 := by
  intro N
  induction N with
  | zero =>
    intro fuel cs x hN _
    exfalso
    have : 1 ≤ Rows.uptoBulk x.1 := by
      cases x.1 with
      | lit l => cases l <;> simp [Rows.uptoBulk]
      | _ => simp [Rows.uptoBulk]
    omega
  | succ N ih =>
    intro fuel cs x hN h
    rcases Deep.open_slice (e := 43) Try.underlying32 h with ⟨rfl, rfl⟩ | ⟨a, len, cap, m, n, D, Pl, rfl, _, hl, _, hmm, rfl, hx⟩
    · exact ⟨_, [], rfl, Forest.nil _ _, by simp [szL, Rows.uptoBulk]⟩
    · have hlm : len ≤ m := by rw [hmm]; split <;> omega
      have hc5 : Try.prog.cellsOf 43 = 5 := by kernel_rfl
      have hN' : Rows.uptoBulkAll ((List.range len).map D) + 1 ≤ N + 1 := by
        simp only [Rows.uptoBulk] at hN; omega
      have each : ∀ i, i < len → ∃ q : Sp × Value, (∀ (j : Nat) u, (spCells q.1 q.2)[j]? = some u → w.cell? ((a.add (i * 5)).add j) = some u) ∧ Forest w (· < w.heap.size) q.2 q.1.kids ∧ sz1 q.1 + 1 ≤ Rows.uptoBulk (D i) := by
        intro i hi
        obtain ⟨cs', h1, h2⟩ := hx i (by omega)
        rw [hc5] at h1
        obtain ⟨k, V, DD, hag, hf⟩ := open_fields Try.underlying43 (by rw [hc5]; rfl) (fun i f hif => by
          have hi' : i < 5 := (Array.getElem?_eq_some_iff.1 hif).1
          match i, hi' with
          | 0, _ => obtain rfl := Option.some.inj hif; exact ⟨rfl, by kernel_rfl⟩
          | 1, _ => obtain rfl := Option.some.inj hif; exact ⟨rfl, by kernel_rfl⟩
          | 2, _ => obtain rfl := Option.some.inj hif; exact ⟨rfl, by kernel_rfl⟩
          | 3, _ => obtain rfl := Option.some.inj hif; exact ⟨rfl, by kernel_rfl⟩
          | 4, _ => obtain rfl := Option.some.inj hif; exact ⟨rfl, by kernel_rfl⟩) (by rw [hc5]; exact h1) h2
        obtain ⟨c0, g0⟩ := hf 0 _ rfl
        obtain ⟨c1, g1⟩ := hf 1 _ rfl
        obtain ⟨c2, g2⟩ := hf 2 _ rfl
        obtain ⟨c3, g3⟩ := hf 3 _ rfl
        obtain ⟨c4, g4⟩ := hf 4 _ rfl
        obtain ⟨z, e0, d0, w0⟩ := DataW.trod_int Try.underlying41 g0
        obtain ⟨s1, e1, d1, _⟩ := DataW.trod_string Try.underlying9 g1
        obtain ⟨s2, e2, d2, _⟩ := DataW.trod_string Try.underlying9 g2
        obtain ⟨s3, e3, d3, _⟩ := DataW.trod_string Try.underlying9 g3
        simp only [List.cons.injEq, and_true] at e0 e1 e2 e3
        have hsum : Rows.uptoBulk (D i) = 1 + (Rows.uptoBulk (DD 0).1 + (Rows.uptoBulk (DD 1).1 + (Rows.uptoBulk (DD 2).1 + (Rows.uptoBulk (DD 3).1 + Rows.uptoBulk (DD 4).1)))) := by
          have hag' : D i = .agg [(DD 0).1, (DD 1).1, (DD 2).1, (DD 3).1, (DD 4).1] := hag
          rw [hag']
          simp only [Rows.uptoBulk, Rows.uptoBulkAll]
          omega
        have hbi := bulk_at (D := D) (r := List.range len) (List.mem_range.2 hi)
        obtain ⟨v, l, e4, hfo, hsz⟩ := ih (x := DD 4) (by omega) g4
        simp only [List.cons.injEq, and_true] at e4
        have hz : 0 ≤ z := by have : 0 ≤ z ∧ z ≤ 255 := by simpa [Lit.wf, IntKind.min, IntKind.max, IntKind.signed, IntKind.bits] using w0
                              exact this.1
        rw [d0, d1, d2, d3] at hsum
        simp only [Rows.uptoBulk] at hsum
        refine ⟨(⟨z.toNat, s1.data.toList, s2.data.toList, s3.data.toList, l⟩, v), fun j u hu => ?_, hfo, ?_⟩
        · match j, hu with
          | 0, hu => simp only [spCells, List.getElem?_cons_zero, Option.some.injEq] at hu; rw [← hu, c0, e0, Int.toNat_of_nonneg hz]
          | 1, hu => simp only [spCells, List.getElem?_cons_succ, List.getElem?_cons_zero, Option.some.injEq] at hu; rw [← hu, c1, e1, strV, byte_back]
          | 2, hu => simp only [spCells, List.getElem?_cons_succ, List.getElem?_cons_zero, Option.some.injEq] at hu; rw [← hu, c2, e2, strV, byte_back]
          | 3, hu => simp only [spCells, List.getElem?_cons_succ, List.getElem?_cons_zero, Option.some.injEq] at hu; rw [← hu, c3, e3, strV, byte_back]
          | 4, hu => simp only [spCells, List.getElem?_cons_succ, List.getElem?_cons_zero, Option.some.injEq] at hu; rw [← hu, c4, e4]
          | j + 5, hu => simp [spCells] at hu
        · simp only [sz1_eq]
          omega
      haveI : Inhabited (Sp × Value) := ⟨(⟨0, [], [], [], []⟩, .slice none 0 0)⟩
      obtain ⟨S, hS⟩ := Deep.choose_lt each
      have hlen : ((List.range len).map fun i => (S i).1).length = len := by simp
      refine ⟨_, (List.range len).map fun i => (S i).1, rfl, ?_, ?_⟩
      · have hF : Forest w (· < w.heap.size) (.slice (some a) ((List.range len).map fun i => (S i).1).length cap) ((List.range len).map fun i => (S i).1) := by
          refine .mk (some a) cap _ ((List.range len).map fun i => (S i).2) (by simp) (by rw [hlen]; exact hl) (fun hn => ?_) (fun j x kv h1 h2 => ?_)
          · have h0 : 0 < len := by
              rcases Nat.eq_zero_or_pos len with h | h
              · subst h; exact absurd rfl hn
              · exact h
            have := (hS 0 h0).1 0 _ rfl
            rw [Nat.zero_mul, Deep.add_add] at this
            obtain ⟨b, off, rfl, hb⟩ := open_addr this
            refine ⟨b, off, rfl, hb, fun j x kv h1 h2 i u hu => ?_⟩
            have hj : j < len := by have := (List.getElem?_eq_some_iff.1 h1).1; simpa using this
            rw [List.getElem?_map, List.getElem?_range hj] at h1 h2
            simp only [Option.map_some, Option.some.injEq] at h1 h2
            subst h1 h2
            have hc := (hS j hj).1 i u hu
            rw [Deep.add_add, Addr.add_lit] at hc
            rw [Nat.add_assoc]; exact hc
          · have hj : j < len := by have := (List.getElem?_eq_some_iff.1 h1).1; simpa using this
            rw [List.getElem?_map, List.getElem?_range hj] at h1 h2
            simp only [Option.map_some, Option.some.injEq] at h1 h2
            subst h1 h2
            exact (hS j hj).2.1
        rw [hlen] at hF
        exact hF
      · have h1 := bulk_map (S := fun i => (S i).1) (D := D) (r := List.range len) fun i hi => (hS i (List.mem_range.1 hi)).2.2
        simp only [Rows.uptoBulk]
        omega
end
set_option maxRecDepth 100000 in
theorem open_spans {H : Type} {enc : TypeId × Value → H} {W : World} {base : Nat} {sp : Nat → Bool} {hd : Bool} {v : Value} {d : DataW H} {p : List MemPlace}
    (hv : Value.okWide Try.prog W .any base 32 v) (h : DataW.Trod enc Try.prog W 0 sp hd 32 v d p) :
    ∃ l, Forest W (· < W.heap.size) v l ∧ szL l + 1 ≤ Rows.uptoBulk d := by
  obtain ⟨A, l, c, rfl⟩ := okWide_slice Try.underlying32 hv
  obtain ⟨fuel, hf⟩ := h
  obtain ⟨v, ls, h1, h2, h3⟩ := open_spans_cells _ (Nat.le_refl _) hf
  simp only [Value.cells, List.cons.injEq, and_true] at h1
  subst h1
  exact ⟨ls, h2, h3⟩
end Go.Proofs.Ytkfffoolpdilnaa
