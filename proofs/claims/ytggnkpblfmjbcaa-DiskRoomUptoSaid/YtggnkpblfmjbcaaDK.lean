/-
  Memory: a disk's own blocks are cells, but for its map; how many files and bytes raw writes come to. No condition.
-/
import Derived.Test.YtggnkpblfmjbcaaDz
namespace Go.Bd
open Go.RowKit
/-- how many bytes a raw write has -/
def Raw.bytes : Raw → Nat
  | .empty _ => 0
  | .behind _ b => b.length
  | .gone _ => 0
theorem del_len (fs : Fs) (s : ByteArray) : (delB fs s).length ≤ fs.length := List.length_filter_le _ _
theorem app_len (r : Raw) (fs : Fs) : (r.app fs).length ≤ fs.length + 1 := by
  cases r with
  | empty n => have := del_len fs n; simp only [Raw.app, setB, List.length_append, List.length_singleton]; omega
  | behind n b => have := del_len fs n; simp only [Raw.app, setB, List.length_append, List.length_singleton]; omega
  | gone n => have := del_len fs n; simp only [Raw.app]; omega
theorem app_used (r : Raw) {fs : Fs} (h : UniqB fs) : usedB (r.app fs) ≤ usedB fs + r.bytes := by
  cases r with
  | empty n => have := used_set h n []; simp only [Raw.app, Raw.bytes, List.length_nil] at *; omega
  | behind n b => have := used_set h n ((getB fs n).getD [] ++ b); simp only [Raw.app, Raw.bytes, List.length_append] at *; omega
  | gone n => have := used_del h n; simp only [Raw.app, Raw.bytes] at *; omega
theorem runR_len (h : List Raw) : (runR h).length ≤ h.length := by
  suffices ∀ (h : List Raw) (fs : Fs), (h.foldl (fun fs r => r.app fs) fs).length ≤ fs.length + h.length by have := this h []; unfold runR; simpa using this
  intro h
  induction h with
  | nil => intro fs; simp
  | cons r h ih =>
    intro fs
    have h1 := ih (r.app fs)
    have h2 := app_len r fs
    rw [List.foldl_cons, List.length_cons]
    omega
theorem runR_used (h : List Raw) (hb : ∀ r ∈ h, r.bytes ≤ 512) : usedB (runR h) ≤ 512 * h.length := by
  suffices ∀ (h : List Raw) (fs : Fs), UniqB fs → (∀ r ∈ h, r.bytes ≤ 512) → usedB (h.foldl (fun fs r => r.app fs) fs) ≤ usedB fs + 512 * h.length by have := this h [] List.Pairwise.nil hb; unfold runR; simpa [usedB] using this
  clear hb
  intro h
  induction h with
  | nil => intro fs _ _; simp
  | cons r h ih =>
    intro fs hu hb
    have h1 := ih (r.app fs) (uniq_app r hu) (fun x hx => hb x (List.mem_cons_of_mem _ hx))
    have h2 := app_used r hu
    have h3 := hb r (List.mem_cons_self ..)
    rw [List.foldl_cons, List.length_cons]
    omega
/-- a block of cells -/
def IsC (w : World) (k : Nat) : Prop := ∃ o : Obj, w.heap[k]? = some o ∧ o.isCells = true
theorem isC_holds {w : World} {b : Nat} {t : TypeId} {cs : Array Value} (h : Holds w b t cs) : IsC w b := ⟨_, h, rfl⟩
theorem isC_owns {w : World} {base n sz k : Nat} {e : TypeId} {v : Value} {xs : List Value} (h : w.ownsRow base e sz v n xs) (hk : v.ownBlock = some k) : IsC w k := by
  rcases h.2 with ⟨h1, _⟩ | ⟨g, cap, cur, h1, _, hh, _⟩
  · rw [h1] at hk; cases hk
  · rw [h1] at hk
    injection hk with hk
    subst hk
    exact ⟨_, hh, rfl⟩
theorem isC_cell {w : World} {p : Addr} {v : Value} (h : w.cell? p = some v) : IsC w p.block := cells_of_cell h
theorem IsC.chg {w w' : World} {S : Nat → Prop} {k : Nat} (h : IsC w k) (hc : Chg w w' S) (hS : ¬ S k) : IsC w' k := by
  obtain ⟨o, h1, h2⟩ := h
  exact ⟨o, (hc.block k (Array.getElem?_eq_some_iff.1 h1).1 hS).trans h1, h2⟩
end Go.Bd
namespace Go.Proofs.Ytggnkpblfmjbcaa
open Go.RowKit Go.Bd
theorem RawAt.cells {w : World} {Ro : Nat → Prop} {f : Value} {r : Raw} (h : RawAt w Ro f r) : RawAt w (fun k => Ro k ∧ IsC w k) f r := by
  cases r with
  | empty n =>
    obtain ⟨b, h1, h2, h3, h4⟩ := h
    exact ⟨b, ⟨h1, isC_holds h3⟩, h2, h3, h4⟩
  | gone n =>
    obtain ⟨b, h1, h2, h3, h4⟩ := h
    exact ⟨b, ⟨h1, isC_holds h3⟩, h2, h3, h4⟩
  | behind n c =>
    obtain ⟨bb, bn, blk, off, cap, h1, h2, h3, h4, h5, h6, h7, h8, h9⟩ := h
    have hb : IsC w blk := by
      obtain ⟨u, hu⟩ : ∃ u, (u8L c)[0]? = some u := ⟨_, List.getElem?_eq_getElem (by rw [u8L_length]; exact h8.1)⟩
      exact isC_cell (p := ⟨blk, off + 0, none⟩) (h9 0 u hu)
    exact ⟨bb, bn, blk, off, cap, ⟨h1, isC_holds h5⟩, ⟨h2, isC_holds h6⟩, ⟨h3, hb⟩, h4, h5, h6, h7, h8, h9⟩
theorem RawAt.le {w : World} {Ro : Nat → Prop} {f : Value} {r : Raw} (h : RawAt w Ro f r) : r.bytes ≤ 512 := by
  cases r with
  | empty n => exact Nat.zero_le _
  | gone n => exact Nat.zero_le _
  | behind n c =>
    obtain ⟨bb, bn, blk, off, cap, _, _, _, _, _, _, _, h8, _⟩ := h
    exact h8.2
theorem RawsAt.le {w : World} {Ro : Nat → Prop} {fs : List Value} {rs : List Raw} (h : RawsAt w Ro fs rs) : ∀ r ∈ rs, r.bytes ≤ 512 := by
  intro r hr
  obtain ⟨j, hj, rfl⟩ := List.mem_iff_getElem.1 hr
  exact (h.2 j _ _ (List.getElem?_eq_getElem (by rw [h.1]; exact hj)) (List.getElem?_eq_getElem hj)).le
section
variable {w w' : World} {F F' Ro Ro' : Nat → Prop} {db size bm : Nat} {es : List Fe} {hist rs : List Raw} {hv : Value} {fs : List Value}
/-- what is the disk's own: cells, and its map -/
theorem DiskAt.min (h : DiskAt w F Ro db size es hist bm hv fs rs) : DiskAt w (fun k => F k ∧ (k = bm ∨ IsC w k)) (fun k => Ro k ∧ IsC w k) db size es hist bm hv fs rs :=
  { h with
    raws := ⟨h.raws.1, fun j f r h1 h2 => (h.raws.2 j f r h1 h2).cells⟩
    inDb := ⟨h.inDb, .inr (isC_holds h.hold)⟩
    inBm := ⟨h.inBm, .inl rfl⟩
    inHv := fun k hk => ⟨h.inHv k hk, .inr (isC_owns h.row hk)⟩
    inEs := fun e he k hk => ⟨h.inEs e he k hk, .inr (isC_owns (h.rows e he) hk)⟩
    ltF := fun k hk => h.ltF k hk.1
    ltR := fun k hk => h.ltR k hk.1
    off := fun k hk h2 => h.off k hk.1 h2.1 }
/-- more is only read -/
theorem DiskAt.ro (h : DiskAt w F Ro db size es hist bm hv fs rs) (hR : ∀ k, Ro k → Ro' k) (hl : ∀ k, Ro' k → k < w.heap.size) (ho : ∀ k, Ro' k → ¬ F k) : DiskAt w F Ro' db size es hist bm hv fs rs :=
  { h with
    raws := h.raws.chg (Chg.refl w (fun _ => False)) hR (fun _ _ h => h)
    ltR := hl
    off := ho }
theorem DiskAt.len_le (h : DiskAt w F Ro db size es hist bm hv fs hist) : es.length ≤ hist.length := by
  have := runR_len hist
  rw [← h.says] at this
  simpa [fsOf] using this
theorem DiskAt.used_le (h : DiskAt w F Ro db size es hist bm hv fs hist) : usedB (fsOf es) ≤ 512 * hist.length := by
  rw [h.says]
  exact runR_used hist h.raws.le
end
end Go.Proofs.Ytggnkpblfmjbcaa
