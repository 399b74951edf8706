/-
  An argument of type []byte, opened. No condition.
-/
import Derived.Test.YtggnkpblfmjbcaaRows
import Derived.Test.YtggnkpblfmjbcaaChecked
import Derived.Test.YtggnkpblfmjbcaaOpn
import Derived.Test.YtggnkpblfmjbcaaDP
namespace Go.Proofs.Ytggnkpblfmjbcaa
open Go.ChangeShapes Go.WideShapes Go.RowKit Go.Bd
theorem bulk_pos {H : Type} (d : DataW H) : 1 ≤ Rows.uptoBulk d := by
  cases d with
  | lit l => cases l <;> simp [Rows.uptoBulk]
  | _ => simp [Rows.uptoBulk]
theorem bulk_sum {H : Type} {α : Type} {s : α → Nat} {D : α → DataW H} : ∀ {r : List α}, (∀ i ∈ r, s i ≤ Rows.uptoBulk (D i)) → (r.map s).sum ≤ Rows.uptoBulkAll (r.map D)
  | [], _ => Nat.le_refl _
  | i :: r, h => by
    have h1 := h i (List.mem_cons_self ..)
    have h2 := bulk_sum (r := r) fun j hj => h j (List.mem_cons_of_mem _ hj)
    simp only [List.map_cons, List.sum_cons, Rows.uptoBulkAll]
    omega
theorem bulk_len {H : Type} {α : Type} (D : α → DataW H) : ∀ r : List α, r.length ≤ Rows.uptoBulkAll (r.map D)
  | [] => Nat.le_refl _
  | i :: r => by
    have h1 := bulk_pos (D i)
    have h2 := bulk_len D r
    simp only [List.map_cons, List.length_cons, Rows.uptoBulkAll]
    omega
section
variable {H : Type} {enc : TypeId × Value → H} {w : World} {sp : Nat → Bool} {held : Bool}
set_option maxRecDepth 100000 in
theorem open_bytes_cells {fuel : Nat} {cs : List Value} {x : DataW H × List MemPlace} (h : DataW.trod enc Try.prog w 0 sp held fuel 30 cs = some x) :
    ∃ v l, cs = [v] ∧ BytesR w w.heap.size v l ∧ l.length + 1 ≤ Rows.uptoBulk x.1 := by
  rcases Deep.open_slice (e := 5) Try.underlying30 h with ⟨rfl, rfl⟩ | ⟨a, len, cap, m, n, D, Pl, rfl, _, hl, _, hmm, rfl, hx⟩
  · exact ⟨_, [], rfl, Rd.nil _ _, by simp [Rows.uptoBulk]⟩
  · have hlm : len ≤ m := by rw [hmm]; split <;> omega
    have hc1 : Try.prog.cellsOf 5 = 1 := by kernel_rfl
    have each : ∀ i, i < len → ∃ q : UInt8, w.cell? (a.add i) = some (.int .u8 (q.toNat : Int)) := by
      intro i hi
      obtain ⟨cs', h1, h2⟩ := hx i (by omega)
      rw [hc1, Nat.mul_one] at h1
      obtain ⟨z, e0, d0, w0⟩ := DataW.trod_int Try.underlying5 h2
      have hz : 0 ≤ z ∧ z ≤ 255 := by simpa [Lit.wf, IntKind.min, IntKind.max, IntKind.signed, IntKind.bits] using w0
      refine ⟨UInt8.ofNat z.toNat, ?_⟩
      subst e0
      have h3 := h1
      simp [World.cells?] at h3
      have e2 : ((UInt8.ofNat z.toNat).toNat : Int) = z := by
        rw [UInt8.toNat_ofNat']
        omega
      rw [e2]
      rw [Deep.add_add, Nat.add_zero] at h3
      cases hc : w.cell? (a.add i) with
      | none => rw [hc] at h3; simp at h3
      | some u => rw [hc] at h3; simpa using h3
    obtain ⟨S, hS⟩ := Deep.choose_lt each
    refine ⟨_, (List.range len).map S, rfl, ⟨some a, cap, by rw [u8L_length]; simp, by rw [u8L_length]; simpa using hl, fun hn => ?_⟩, ?_⟩
    · rw [u8L_length] at hn
      have h0 : 0 < len := by simpa using hn
      obtain ⟨b, off, rfl, hb⟩ := open_addr (hS 0 h0)
      refine ⟨b, off, rfl, hb, fun j u hu => ?_⟩
      have hj : j < len := by have := (List.getElem?_eq_some_iff.1 hu).1; rw [u8L_length] at this; simpa using this
      unfold u8L at hu
      rw [List.map_map, List.getElem?_map, List.getElem?_range hj] at hu
      simp only [Option.map_some, Option.some.injEq, Function.comp] at hu
      subst hu
      have hc := hS j hj
      rwa [Addr.add_lit] at hc
    · have h1 := bulk_len D (List.range len)
      simp only [Rows.uptoBulk]
      rw [List.length_range] at h1
      rw [List.length_map, List.length_range]
      omega
end
set_option maxRecDepth 100000 in
theorem open_bytes {H : Type} {enc : TypeId × Value → H} {W : World} {base : Nat} {sp : Nat → Bool} {hd : Bool} {v : Value} {d : DataW H} {p : List MemPlace}
    (hv : Value.okWide Try.prog W .any base 30 v) (h : DataW.Trod enc Try.prog W 0 sp hd 30 v d p) :
    ∃ l, BytesR W W.heap.size v l ∧ l.length + 1 ≤ Rows.uptoBulk d := by
  obtain ⟨A, l, c, rfl⟩ := okWide_slice Try.underlying30 hv
  obtain ⟨fuel, hf⟩ := h
  obtain ⟨v, ls, h1, h2, h3⟩ := open_bytes_cells hf
  simp only [Value.cells, List.cons.injEq, and_true] at h1
  subst h1
  exact ⟨ls, h2, h3⟩
end Go.Proofs.Ytggnkpblfmjbcaa
