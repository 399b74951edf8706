/-
  Memory: a disk between two pieces of a write. No condition.
-/
import Derived.Test.YtggnkpblfmjbcaaDK
namespace Go.Proofs.Ytggnkpblfmjbcaa
open Go.RowKit Go.Bd Go.Shelf
/-- a piece of bytes -/
def pieceAt (q : Bs) (x : Nat) : Bs := (q.drop (x * 512)).take 512
theorem pieceAt_length (q : Bs) (x : Nat) : (pieceAt q x).length = min 512 (q.length - x * 512) := by unfold pieceAt; simp
theorem piece_cells {w : World} {g x : Nat} {q : Bs} (h : ∀ (j : Nat) u, (u8L q)[j]? = some u → w.cell? ⟨g, 0 + j, none⟩ = some u) : ∀ (j : Nat) u, (u8L (pieceAt q x))[j]? = some u → w.cell? ⟨g, x * 512 + j, none⟩ = some u := by
  intro j u hj
  have h2 := h (x * 512 + j) u ?_
  · rwa [Nat.zero_add] at h2
  · unfold u8L pieceAt at *
    rw [List.map_take, List.map_drop, List.getElem?_take] at hj
    split at hj
    · rwa [List.getElem?_drop] at hj
    · cases hj
/-- the raw writes that are done behind these pieces -/
def histP (hist : List Raw) (s : ByteArray) (q : Bs) (pre : List (Pc q.length)) : List Raw := hist ++ [.empty s] ++ pre.map (fun x => .behind s (pieceAt q x.1))
theorem histP_nil (hist : List Raw) (s : ByteArray) (q : Bs) : histP hist s q [] = hist ++ [.empty s] := by unfold histP; simp
theorem histP_snoc (hist : List Raw) (s : ByteArray) (q : Bs) (pre : List (Pc q.length)) (x : Pc q.length) : histP hist s q (pre ++ [x]) = histP hist s q pre ++ [.behind s (pieceAt q x.1)] := by unfold histP; simp
theorem histP_length (hist : List Raw) (s : ByteArray) (q : Bs) (pre : List (Pc q.length)) : (histP hist s q pre).length = hist.length + 1 + pre.length := by unfold histP; simp; omega
/-- a disk of blocks that are cells or lay ahead of the loop -/
structure WrD (F Ro : Nat → Prop) (B b3 : Nat) (X : Nat → Prop) (db size bm g : Nat) (q : Bs) (hist : List Raw) (W : World) (F1 Ro1 : Nat → Prop) (es1 : List Fe) (hv1 : Value) (fs1 : List Value) : Prop where
  disk : DiskAt W F1 Ro1 db size es1 hist bm hv1 fs1 hist
  inF : ∀ k, F1 k → F k ∨ b3 ≤ k
  inR : ∀ k, Ro1 k → Ro k ∨ b3 ≤ k
  isF : ∀ k, F1 k → k < B ∨ IsC W k
  isR : ∀ k, Ro1 k → k < B ∨ IsC W k
  off : ∀ k, X k → ¬ F1 k
  inG : q.length ≠ 0 → Ro1 g
/-- what holds between two pieces -/
structure WrI (w : World) (F Ro : Nat → Prop) (B b3 : Nat) (X : Nat → Prop) (db size bm g : Nat) (s : ByteArray) (q : Bs) (hist : List Raw) (pre : List (Pc q.length)) (W : World) : Prop where
  ex : ∃ F1 Ro1 es1 hv1 fs1, WrD F Ro B b3 X db size bm g q (histP hist s q pre) W F1 Ro1 es1 hv1 fs1
  c3 : W.cell? ⟨b3, 0, none⟩ = some (.pointer (some ⟨db, 0, none⟩))
  c4 : W.cell? ⟨b3 + 1, 0, none⟩ = some (.string s)
  cg : ∀ (j : Nat) u, (u8L q)[j]? = some u → W.cell? ⟨g, 0 + j, none⟩ = some u
  chg : Chg w W F
  size : B ≤ W.heap.size
theorem WrI.own {w : World} {F Ro : Nat → Prop} {B b3 : Nat} {X : Nat → Prop} {db size bm g : Nat} {s : ByteArray} {q : Bs} {hist : List Raw} (hB : w.heap.size ≤ B) : OwnFrom B (WrI w F Ro B b3 X db size bm g s q hist) := by
  intro pre W W' row h hg hr
  obtain ⟨F1, Ro1, es1, hv1, fs1, hd⟩ := h.ex
  have hc : Chg W W' (fun k => some k = row) := Chg.grown hg
  have hn : ∀ k, (k < B ∨ IsC W k) → ¬ some k = row := fun k hk e => by
    obtain ⟨h1, o, h2, h3⟩ := hr k e.symm
    rcases hk with hk | ⟨o', h4, h5⟩
    · omega
    · rw [h2] at h4
      injection h4 with h4
      subst h4
      rw [h3] at h5
      cases h5
  have hs := hg.size
  refine ⟨⟨F1, Ro1, es1, hv1, fs1, ?_⟩, cell_kept h.c3 hg (fun r e => (hr r e).2), cell_kept h.c4 hg (fun r e => (hr r e).2), fun j u hu => cell_kept (h.cg j u hu) hg (fun r e => (hr r e).2), h.chg.trans hc (fun k hk e => ?_), Nat.le_trans h.size hs⟩
  · exact ⟨hd.disk.chg (F' := F1) (Ro' := Ro1) hc (fun k hk => hn k (hd.isF k hk)) (fun k hk => hn k (hd.isR k hk)), hd.inF, hd.inR, fun k hk => (hd.isF k hk).imp_right (fun h => h.chg hc (hn k (hd.isF k hk))), fun k hk => (hd.isR k hk).imp_right (fun h => h.chg hc (hn k (hd.isR k hk))), hd.off, hd.inG⟩
  · have := (hr k e.symm).1
    omega
/-- a disk of the kind, out of any -/
theorem WrD.of {W : World} {F Ro F1 Ro1 : Nat → Prop} {B b3 : Nat} {X : Nat → Prop} {db size bm g : Nat} {q : Bs} {hist : List Raw} {es1 : List Fe} {hv1 : Value} {fs1 : List Value} (h : DiskAt W F1 Ro1 db size es1 hist bm hv1 fs1 hist) (hbm : bm < B) (h1 : ∀ k, F1 k → F k ∨ b3 ≤ k) (h2 : ∀ k, Ro1 k → Ro k ∨ b3 ≤ k) (h3 : ∀ k, X k → ¬ F1 k) (h4 : q.length ≠ 0 → Ro1 g) (hg : ∀ (j : Nat) u, (u8L q)[j]? = some u → W.cell? ⟨g, 0 + j, none⟩ = some u) :
    WrD F Ro B b3 X db size bm g q hist W (fun k => F1 k ∧ (k = bm ∨ IsC W k)) (fun k => Ro1 k ∧ IsC W k) es1 hv1 fs1 where
  disk := h.min
  inF := fun k hk => h1 k hk.1
  inR := fun k hk => h2 k hk.1
  isF := fun k hk => by
    rcases hk.2 with rfl | h
    · exact .inl hbm
    · exact .inr h
  isR := fun k hk => .inr hk.2
  off := fun k hk hf => h3 k hk hf.1
  inG := fun hq => ⟨h4 hq, by
    obtain ⟨u, hu⟩ : ∃ u, (u8L q)[0]? = some u := ⟨_, List.getElem?_eq_getElem (by rw [u8L_length]; omega)⟩
    exact isC_cell (p := ⟨g, 0 + 0, none⟩) (hg 0 u hu)⟩
/-- a step that turns the disk's own blocks alone keeps whatever is no cells from B on -/
theorem WrD.keeps {W W' : World} {F Ro F1 Ro1 : Nat → Prop} {B b3 : Nat} {X : Nat → Prop} {db size bm g : Nat} {q : Bs} {hist : List Raw} {es1 : List Fe} {hv1 : Value} {fs1 : List Value} (h : WrD F Ro B b3 X db size bm g q hist W F1 Ro1 es1 hv1 fs1) (hc : Chg W W' F1) : KeepsFrom B W W' :=
  ⟨hc.size, fun k o hB hk ho => (hc.block k (Array.getElem?_eq_some_iff.1 hk).1 (fun hf => by
    rcases h.isF k hf with h1 | ⟨o', h1, h2⟩
    · omega
    · rw [hk] at h1
      injection h1 with h1
      subst h1
      rw [ho] at h2
      cases h2)).trans hk⟩
/-- the raw write of one piece -/
theorem wr_raw {W W2 : World} {F Ro F1 Ro1 : Nat → Prop} {B b3 : Nat} {X : Nat → Prop} {db size bm g : Nat} {q : Bs} {hist : List Raw} {es1 : List Fe} {hv1 : Value} {fs1 : List Value} {f : Value} {r : Raw} (h : WrD F Ro B b3 X db size bm g q hist W F1 Ro1 es1 hv1 fs1)
    (hra : RawAt W2 (fun k => Ro1 k ∨ (W.drew.heap.size ≤ k ∧ k < W2.heap.size)) f r) (hbl : Below W.drew.heap.size W.drew W2) (hh : hist.length ≤ 900000) :
    Calls Try.prog 19 #[.pointer (some ⟨db, 0, none⟩), f] W2 fun e w' => (∃ v, e = .returned v) ∧ ∃ es' hv', DiskAt w' (fun k => F1 k ∨ (W2.heap.size ≤ k ∧ k < w'.heap.size)) (fun k => Ro1 k ∨ (W.drew.heap.size ≤ k ∧ k < W2.heap.size)) db size es' (hist ++ [r]) bm hv' (fs1 ++ [f]) (hist ++ [r]) ∧ Chg W2 w' F1 := by
  have hc2 : Chg W W2 (fun _ => False) := ((Chg.refl W (fun _ => False)).drew).trans (Chg.below hbl (fun _ => False)) (fun _ _ h => h)
  have hD2 := h.disk.chg (F' := F1) (Ro' := Ro1) hc2 (fun _ _ h => h) (fun _ _ h => h)
  have hsz := hc2.size
  have hD3 := hD2.ro (Ro' := fun k => Ro1 k ∨ (W.drew.heap.size ≤ k ∧ k < W2.heap.size)) (fun _ h => .inl h) (fun k hk => by
    rcases hk with hk | hk
    · exact hD2.ltR k hk
    · exact hk.2) (fun k hk hf => by
    rcases hk with hk | hk
    · exact hD2.off k hk hf
    · have h1 := h.disk.ltF k hf
      have h2 : W.heap.size ≤ k := hk.1
      omega)
  have hel := h.disk.len_le
  have hus := h.disk.used_le
  exact raw_any hD3 hra (by omega) (by omega) (by omega)
/-- .. and what holds behind it -/
theorem wr_next {w W W2 W3 : World} {F Ro F1 Ro1 : Nat → Prop} {B b3 : Nat} {X : Nat → Prop} {db size bm g : Nat} {s : ByteArray} {q : Bs} {hist : List Raw} {pre : List (Pc q.length)} {x : Pc q.length} {es1 es3 : List Fe} {hv1 hv3 : Value} {fs1 fs3 : List Value}
    (hI : WrI w F Ro B b3 X db size bm g s q hist pre W) (h : WrD F Ro B b3 X db size bm g q (histP hist s q pre) W F1 Ro1 es1 hv1 fs1) (hc2 : Chg W W2 (fun _ => False)) (hc3 : Chg W2 W3 F1) (hX3 : ¬ F1 b3) (hX4 : ¬ F1 (b3 + 1)) (hbm : bm < B) (hwB : b3 ≤ B) (hXB : ∀ k, X k → k < B) (hbw : w.heap.size = b3)
    (hD : DiskAt W3 (fun k => F1 k ∨ (W2.heap.size ≤ k ∧ k < W3.heap.size)) (fun k => Ro1 k ∨ (W.drew.heap.size ≤ k ∧ k < W2.heap.size)) db size es3 (histP hist s q pre ++ [.behind s (pieceAt q x.1)]) bm hv3 fs3 (histP hist s q pre ++ [.behind s (pieceAt q x.1)])) :
    KeepsFrom B W W3 ∧ (∀ k, X k → W3.heap[k]? = W.heap[k]?) ∧ WrI w F Ro B b3 X db size bm g s q hist (pre ++ [x]) W3 := by
  have hc : Chg W W3 F1 := (hc2.mono (T := F1) (fun _ _ h => h.elim)).trans hc3 (fun _ _ h => h)
  have hs1 := hI.size
  have hs2 := hc2.size
  have hg : ∀ (j : Nat) u, (u8L q)[j]? = some u → W3.cell? ⟨g, 0 + j, none⟩ = some u := fun j u hu => by
    refine hc.cell (p := ⟨g, 0 + j, none⟩) ?_ (hI.cg j u hu)
    have hq : q.length ≠ 0 := fun e => by
      rw [List.eq_nil_of_length_eq_zero e] at hu
      simp [u8L] at hu
    exact h.disk.off g (h.inG hq)
  refine ⟨h.keeps hc, fun k hk => hc.block k (by have := hXB k hk; omega) (h.off k hk), ⟨_, _, _, _, _, WrD.of (histP_snoc hist s q pre x ▸ hD) hbm (fun k hk => ?_) (fun k hk => ?_) (fun k hk hf => ?_) (fun hq => .inl (h.inG hq)) hg⟩, hc.cell (p := ⟨b3, 0, none⟩) hX3 hI.c3, hc.cell (p := ⟨b3 + 1, 0, none⟩) hX4 hI.c4, hg, hI.chg.trans hc (fun k hk hf => ?_), Nat.le_trans hI.size hc.size⟩
  · rcases hk with hk | hk
    · exact h.inF k hk
    · exact .inr (by omega)
  · rcases hk with hk | hk
    · exact h.inR k hk
    · have h2 : W.heap.size ≤ k := hk.1
      exact .inr (by omega)
  · rcases hf with hf | hf
    · exact h.off k hk hf
    · have := hXB k hk; omega
  · rcases h.inF k hf with h1 | h1
    · exact h1
    · omega
end Go.Proofs.Ytggnkpblfmjbcaa
