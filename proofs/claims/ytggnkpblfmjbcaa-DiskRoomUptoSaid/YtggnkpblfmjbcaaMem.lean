/-
  Memory: a block known whole; what keeps it; rows of bytes. No condition.
-/
import Derived.Test.YtggnkpblfmjbcaaBytes
import Derived.Laws.MakeOwn
import Derived.Laws.NewBlocks
import Derived.Laws.Rows
import Derived.Laws.IdiomStrings
namespace Go.Bd
open Go.RowKit
/-- block g holds just cs, none of them frozen -/
def Holds (w : World) (g : Nat) (t : TypeId) (cs : Array Value) : Prop := w.heap[g]? = some (.cells cs t (0, 0))
section
variable {w w' : World} {g : Nat} {t : TypeId} {cs : Array Value}
theorem Holds.lt (h : Holds w g t cs) : g < w.heap.size := (Array.getElem?_eq_some_iff.1 h).1
theorem Holds.cell (h : Holds w g t cs) (i : Nat) : w.cell? ⟨g, i, none⟩ = cs[i]? := cell_of_row w g i cs t (0, 0) h
theorem Holds.free (h : Holds w g t cs) (i : Nat) : w.frozen? ⟨g, i, none⟩ = false := frozen_of_row w g i cs t h
theorem Holds.new (w : World) (t : TypeId) (cs : Array Value) : Holds (w.alloc (.cells cs t)) w.heap.size t cs := heap_alloc_new w _
theorem Holds.drew (h : Holds w g t cs) : Holds w.drew g t cs := h
theorem Holds.alloc (h : Holds w g t cs) (o : Obj) : Holds (w.alloc o) g t cs := (Below.heap_alloc w o g h.lt).trans h
theorem Holds.set (h : Holds w g t cs) (i : Nat) (u : Value) : Holds (w.setCell ⟨g, i, none⟩ u) g t (cs.setIfInBounds i u) := by
  unfold Holds at h ⊢
  simp [World.setCell, Array.getElem?_modify, h]
theorem Holds.far (h : Holds w g t cs) {p : Addr} (hp : g ≠ p.block) (u : Value) : Holds (w.setCell p u) g t cs := (Below.heap_setCell w p u g hp).trans h
theorem Holds.below {B : Nat} (h : Holds w g t cs) (hb : Below B w w') (hg : g < B) : Holds w' g t cs := (hb.block g hg).trans h
end
/-- a byte as a cell -/
def byteV (b : UInt8) : Value := .int .u8 (b.toNat : Int)
/-- block g is a row of n bytes, of which the first k are those of l; none of its cells is frozen -/
def Bytes (w : World) (g : Nat) (t : TypeId) (n k : Nat) (l : Bs) : Prop :=
  ∃ (cs : Array Value) (fz : Nat × Nat), w.heap[g]? = some (.cells cs t fz) ∧ (fz.2 = 0 ∨ cs.size ≤ fz.1) ∧ n ≤ cs.size ∧ k ≤ n ∧ ∀ j, j < k → cs[j]? = some (byteV (l.getD j 0))
section
variable {w w' : World} {g n k : Nat} {t : TypeId} {l : Bs}
theorem Bytes.new (w : World) (t : TypeId) (cs : Array Value) (l : Bs) {n : Nat} (hn : n ≤ cs.size) : Bytes (w.alloc (.cells cs t)) w.heap.size t n 0 l :=
  ⟨cs, _, heap_alloc_new w _, .inl rfl, hn, Nat.zero_le _, fun _ h => absurd h (by omega)⟩
theorem Bytes.room (h : Bytes w g t n k l) {i : Nat} (hk : i < n) : ∃ u, w.cell? ⟨g, i, none⟩ = some u := by
  obtain ⟨cs, fz, h, _, hn, _⟩ := h
  exact ⟨cs[i], by rw [cell_of_row w g i cs t fz h, Array.getElem?_eq_getElem (by omega)]⟩
theorem Bytes.free (h : Bytes w g t n k l) {i : Nat} (hi : i < n) : w.frozen? ⟨g, i, none⟩ = false := by
  obtain ⟨cs, ⟨lo, hi'⟩, h, hf, hn, _⟩ := h
  simp only [World.frozen?, h]
  rcases hf with hf | hf
  · simp only at hf; subst hf; simp
  · simp only at hf; simp; omega
theorem Bytes.cell (h : Bytes w g t n k l) {j : Nat} (hj : j < k) : w.cell? ⟨g, j, none⟩ = some (byteV (l.getD j 0)) := by
  obtain ⟨cs, fz, h, _, _, _, hc⟩ := h
  rw [cell_of_row w g j cs t fz h, hc j hj]
theorem Bytes.put (h : Bytes w g t n k l) (hk : k < n) {u : Value} (hu : u = byteV (l.getD k 0)) : Bytes (w.setCell ⟨g, k, none⟩ u) g t n (k + 1) l := by
  obtain ⟨cs, fz, h, hf, hn, hkn, hc⟩ := h
  refine ⟨cs.setIfInBounds k u, fz, by simp [World.setCell, Array.getElem?_modify, h], by simpa using hf, by simpa using hn, hk, fun j hj => ?_⟩
  rw [Array.getElem?_setIfInBounds]
  by_cases e : k = j
  · subst e; rw [if_pos rfl, if_pos (by omega), hu]
  · rw [if_neg e]; exact hc j (by omega)
/-- one byte of a full row is written anew -/
theorem Bytes.turn (h : Bytes w g t n n l) {i : Nat} (hi : i < n) {b : UInt8} {u : Value} (hu : u = byteV b) (hl : l.length = n) : Bytes (w.setCell ⟨g, i, none⟩ u) g t n n (l.set i b) := by
  obtain ⟨cs, fz, h, hf, hn, hkn, hc⟩ := h
  refine ⟨cs.setIfInBounds i u, fz, by simp [World.setCell, Array.getElem?_modify, h], by simpa using hf, by simpa using hn, Nat.le_refl _, fun j hj => ?_⟩
  rw [Array.getElem?_setIfInBounds, List.getD_eq_getElem?_getD, List.getElem?_set]
  by_cases e : i = j
  · subst e; rw [if_pos rfl, if_pos (by omega), if_pos rfl, if_pos (by omega), hu]; rfl
  · rw [if_neg e, if_neg e, hc j hj, List.getD_eq_getElem?_getD]
theorem Bytes.lt (h : Bytes w g t n k l) : g < w.heap.size := by
  obtain ⟨cs, fz, h, _⟩ := h
  exact (Array.getElem?_eq_some_iff.1 h).1
theorem Bytes.below {B : Nat} (h : Bytes w g t n k l) (hb : Below B w w') (hg : g < B) : Bytes w' g t n k l := by
  obtain ⟨cs, fz, h, r⟩ := h
  exact ⟨cs, fz, (hb.block g hg).trans h, r⟩
end
theorem addr_add (g j : Nat) : (⟨g, 0, none⟩ : Addr).add j = ⟨g, j, none⟩ := by unfold Addr.add; split <;> simp_all
/-- string(b) of such a row, when it is full -/
theorem run_bytes_back {P : Program} {w : World} {g : Nat} {t : TypeId} {l : Bs} {src dst : TypeId} {cap : Nat} (hs : P.underlying src = some (.slice t)) (he : P.underlying t = some (.int .u8)) (hd : P.underlying dst = some .string)
    {n : Nat} (h : Bytes w g t n n l) (hl : l.length = n) : (convert src dst (.slice (some ⟨g, 0, none⟩) n cap)).run P w = .ok (.string ⟨l.toArray⟩) w := by
  subst hl
  refine run_convert_bytes_back w src dst t ⟨g, 0, none⟩ cap l hs he hd fun j hj => ?_
  rw [addr_add, h.cell hj, List.getD_eq_getElem?_getD, List.getElem?_eq_getElem hj]; rfl
/-- []byte(s): a row of its own -/
theorem run_bytes_make {P : Program} (w : World) {src dst t : TypeId} (s : ByteArray) (hs : P.underlying src = some .string) (hd : P.underlying dst = some (.slice t)) (he : P.underlying t = some (.int .u8)) :
    ∃ cap w', (convert src dst (.string s)).run P w = .ok (.slice (some ⟨w.heap.size, 0, none⟩) s.size cap) w' ∧ s.size ≤ cap ∧ Below w.heap.size w w' ∧ Bytes w' w.heap.size t s.size s.size s.data.toList := by
  refine ⟨_, _, run_bytes_of_string w src dst t s hs hd he, grownCap_ge w s.size 0 t, ((Below.refl _ _).drew).alloc (Nat.le_refl _) _, _, _, heap_alloc_new w.drew _, .inr (Nat.le_refl _), ?_, Nat.le_refl _, fun j hj => ?_⟩
  · have := grownCap_ge w s.size 0 t
    simp [bytesRow]
  · rw [bytesRow_at s _ j (by simpa using hj), List.getD_eq_getElem?_getD, List.getElem?_eq_getElem (by simpa using hj)]
    rfl
end Go.Bd
