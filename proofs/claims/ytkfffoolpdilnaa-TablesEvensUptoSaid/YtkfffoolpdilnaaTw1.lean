/-
  Memory: rows of one cell each, whatever a cell's value reads as; such rows in memory of their own with a mark behind. No condition.
-/
import Derived.Test.YtkfffoolpdilnaaTwn
import Derived.Test.YtkfffoolpdilnaaSiz
namespace Go.Bd
open Go.RowKit
section
variable {α : Type}
/-- what a value may read as, in blocks of F -/
abbrev Rel (α : Type) := World → (Nat → Prop) → Value → α → Prop
/-- it stays where its blocks do -/
def Rel.Stays (R : Rel α) : Prop := ∀ (w w' : World) (F G S : Nat → Prop) (v : Value) (x : α), R w F v x → Chg w w' S → (∀ b, F b → G b) → (∀ b, F b → ¬ S b) → R w' G v x
theorem Rel.Stays.go {R : Rel α} (hR : R.Stays) {w w' : World} {F G S : Nat → Prop} {v : Value} {x : α} (h : R w F v x) (hc : Chg w w' S) (hk : ∀ b, F b → G b) (hS : ∀ b, F b → ¬ S b) : R w' G v x := hR w w' F G S v x h hc hk hS
theorem Rel.Stays.under {R : Rel α} (hR : R.Stays) {w w' : World} {F : Nat → Prop} {B : Nat} {v : Value} {x : α} (h : R w F v x) (hb : Below B w w') (hF : ∀ b, F b → b < B) : R w' F v x :=
  hR.go h (S := fun k => B ≤ k) ⟨hb.os, hb.tape, hb.output, hb.size, fun k _ hs => hb.block k (Nat.lt_of_not_le hs)⟩ (fun _ h => h) (fun b h hs => by have := hF b h; omega)
/-- the slice v reads as a list, one cell each -/
def RowF (R : Rel α) (w : World) (F : Nat → Prop) (v : Value) (l : List α) : Prop :=
  ∃ (A : Option Addr) (c : Nat) (kvs : List Value), v = .slice A l.length c ∧ l.length ≤ c ∧ kvs.length = l.length ∧ (l ≠ [] → ∃ b off, A = some ⟨b, off, none⟩ ∧ F b ∧ ∀ (j : Nat) kv, kvs[j]? = some kv → w.cell? ⟨b, off + j, none⟩ = some kv) ∧
    ∀ (j : Nat) x kv, l[j]? = some x → kvs[j]? = some kv → R w F kv x
/-- .. in a row of its own, with a mark behind -/
def RowM (M : Rel α) (Q : World → (Nat → Prop) → Value → Prop) (w : World) (F : Nat → Prop) (v : Value) (l : List α) : Prop :=
  ∃ (g c : Nat) (kvs : List Value) (mk : Value), v = .slice (some ⟨g, 0, none⟩) l.length c ∧ l.length < c ∧ F g ∧ kvs.length = l.length ∧ (∀ (j : Nat) kv, kvs[j]? = some kv → w.cell? ⟨g, j, none⟩ = some kv) ∧ w.cell? ⟨g, l.length, none⟩ = some mk ∧ Q w F mk ∧
    ∀ (j : Nat) x kv, l[j]? = some x → kvs[j]? = some kv → M w F kv x
theorem RowF.stays {R : Rel α} (hR : R.Stays) : Rel.Stays (RowF R) := by
  rintro w w' F G S v l ⟨A, c, kvs, e, hc, hl, hA, hk⟩ hch hFG hFS
  refine ⟨A, c, kvs, e, hc, hl, fun hn => ?_, fun j x kv e1 e2 => hR.go (hk j x kv e1 e2) hch hFG hFS⟩
  obtain ⟨b, off, h1, h2, h3⟩ := hA hn
  exact ⟨b, off, h1, hFG b h2, fun j kv e => hch.cell (hFS b h2) (h3 j kv e)⟩
theorem RowM.stays {M : Rel α} {Q : World → (Nat → Prop) → Value → Prop} (hM : M.Stays) (hQ : ∀ {w w' : World} {F G S : Nat → Prop} {v : Value}, Q w F v → Chg w w' S → (∀ b, F b → G b) → (∀ b, F b → ¬ S b) → Q w' G v) : Rel.Stays (RowM M Q) := by
  rintro w w' F G S v l ⟨g, c, kvs, mk, e, hc, hF, hl, hA, hm, hq, hk⟩ hch hFG hFS
  exact ⟨g, c, kvs, mk, e, hc, hFG g hF, hl, fun j kv e => hch.cell (hFS g hF) (hA j kv e), hch.cell (hFS g hF) hm, hQ hq hch hFG hFS, fun j x kv e1 e2 => hM.go (hk j x kv e1 e2) hch hFG hFS⟩
theorem RowF.len {R : Rel α} {w : World} {F : Nat → Prop} {v : Value} {l : List α} (h : RowF R w F v l) : ∃ A c, v = .slice A l.length c ∧ l.length ≤ c := by
  obtain ⟨A, c, kvs, e, hc, _⟩ := h
  exact ⟨A, c, e, hc⟩
theorem RowF.at {R : Rel α} {w : World} {F : Nat → Prop} {A : Option Addr} {n c : Nat} {l : List α} (h : RowF R w F (.slice A n c) l) {j : Nat} {x : α} (hx : l[j]? = some x) : ∃ b off kv, A = some ⟨b, off, none⟩ ∧ F b ∧ R w F kv x ∧ w.cell? ⟨b, off + j, none⟩ = some kv := by
  obtain ⟨A', c', kvs, e, hc, hl, hA, hk⟩ := h
  injection e with e1 e2 e3
  subst e1
  have hj : j < l.length := (List.getElem?_eq_some_iff.1 hx).1
  obtain ⟨b, off, h1, h2, h3⟩ := hA (by intro h; rw [h] at hj; simp at hj)
  obtain ⟨kv, hkv⟩ : ∃ kv, kvs[j]? = some kv := ⟨_, List.getElem?_eq_getElem (by omega)⟩
  exact ⟨b, off, kv, h1, h2, hk j x kv hx hkv, h3 j kv hkv⟩
theorem RowM.form {M : Rel α} {Q : World → (Nat → Prop) → Value → Prop} {w : World} {F : Nat → Prop} {v : Value} {l : List α} (h : RowM M Q w F v l) : ∃ g c mk, v = .slice (some ⟨g, 0, none⟩) l.length c ∧ l.length < c ∧ F g ∧ w.cell? ⟨g, l.length, none⟩ = some mk ∧ Q w F mk ∧
    ∀ (j : Nat) x, l[j]? = some x → ∃ kv, M w F kv x ∧ w.cell? ⟨g, j, none⟩ = some kv := by
  obtain ⟨g, c, kvs, mk, e, hc, hF, hl, hA, hm, hq, hk⟩ := h
  refine ⟨g, c, mk, e, hc, hF, hm, hq, fun j x hx => ?_⟩
  have hj : j < l.length := (List.getElem?_eq_some_iff.1 hx).1
  obtain ⟨kv, hkv⟩ : ∃ kv, kvs[j]? = some kv := ⟨_, List.getElem?_eq_getElem (by omega)⟩
  exact ⟨kv, hk j x kv hx hkv, hA j kv hkv⟩
/-- a copy so far -/
structure Tw1 (M : Rel α) (t : TypeId) (w wr : World) (g cap k : Nat) (kvs : List Value) (l : List α) : Prop where
  hl : kvs.length = k
  ho : wr.ownsRow w.heap.size t 1 (.slice (some ⟨g, 0, none⟩) k cap) k kvs
  hk : ∀ (j : Nat) x kv, l[j]? = some x → kvs[j]? = some kv → M wr (fun b => w.heap.size ≤ b ∧ b < wr.heap.size ∧ b ≠ g) kv x
  hg : w.heap.size ≤ g ∧ g < wr.heap.size
  hb : Below w.heap.size w wr
theorem tw1_next {M : Rel α} (hM : M.Stays) {t : TypeId} {w wr w2 w3 : World} {g cap k g1 cap1 : Nat} {kvs : List Value} {l : List α} {x : α} {kv : Value} {o : Obj} (h : Tw1 M t w wr g cap k kvs l) (hx : l[k]? = some x) (hb2 : Below wr.heap.size wr w2)
    (ht2 : M w2 (fun b => wr.heap.size ≤ b ∧ b < w2.heap.size) kv x) (hown3 : w3.ownsRow w.heap.size t 1 (.slice (some ⟨g1, 0, none⟩) (k + 1) cap1) (k + 1) (kvs ++ [kv]))
    (hgrow : (w2.alloc o).grownBy w3 (some g)) (hat : (some g : Option Nat) = some g1 ∨ g1 = w2.heap.size + 1) (hlt3 : g1 < w3.heap.size) : Tw1 M t w w3 g1 cap1 (k + 1) (kvs ++ [kv]) l := by
  have hc : Chg w2 w3 (fun b => some b = some g) := ((Chg.refl w2 (fun b => some b = some g)).alloc o).trans (Chg.grown hgrow) (fun _ _ h => h)
  have hs2 := hb2.size
  have hs3 := hc.size
  obtain ⟨hg1, hg2⟩ := h.hg
  have hgg : g1 = g ∨ g1 = w2.heap.size + 1 := hat.imp (fun e => (Option.some.inj e).symm) id
  have hbb := h.hb.size
  refine ⟨by rw [List.length_append, h.hl]; rfl, hown3, fun j y ku e1 e2 => ?_, ⟨by omega, hlt3⟩, ?_⟩
  · by_cases hj : j < k
    · rw [List.getElem?_append_left (by rw [h.hl]; exact hj)] at e2
      exact hM.go (hM.under (h.hk j y ku e1 e2) hb2 (fun b hb => hb.2.1)) hc (fun b hb => ⟨hb.1, by omega, by omega⟩) (fun b hb e => hb.2.2 (Option.some.inj e))
    · have hjk : j = k := by
        have := (List.getElem?_eq_some_iff.1 e2).1
        rw [List.length_append, h.hl] at this
        simp at this; omega
      subst hjk
      rw [List.getElem?_append_right (by rw [h.hl]; exact Nat.le_refl _), h.hl, Nat.sub_self] at e2
      rw [hx] at e1
      simp only [List.getElem?_cons_zero, Option.some.injEq] at e1 e2
      subst e1 e2
      exact hM.go ht2 hc (fun b hb => ⟨by omega, by omega, by omega⟩) (fun b hb e => by have := Option.some.inj e; omega)
  · exact (h.hb.trans (hb2.mono hbb)).trans (hc.toBelow (by omega) (fun b e => by have := Option.some.inj e; omega))
/-- .. with the mark: the blocks of the mark's value lie behind those of the world in which it was made -/
theorem tw1_last {M : Rel α} (hM : M.Stays) {Q : World → (Nat → Prop) → Value → Prop} {t : TypeId} {w wr w2 w3 : World} {g cap k g1 cap1 : Nat} {kvs : List Value} {l : List α} {mk : Value} (h : Tw1 M t w wr g cap k kvs l) (hkl : l.length = k)
    (hc2 : Chg wr w2 (fun _ => False)) (hown3 : w3.ownsRow w.heap.size t 1 (.slice (some ⟨g1, 0, none⟩) (k + 1) cap1) (k + 1) (kvs ++ [mk]))
    (hgrow : w2.grownBy w3 (some g)) (hat : (some g : Option Nat) = some g1 ∨ g1 = w2.heap.size) (hlt3 : g1 < w3.heap.size)
    (hq : Q w3 (fun b => w.heap.size ≤ b ∧ b < w3.heap.size) mk) :
    RowM M Q w3 (fun b => w.heap.size ≤ b ∧ b < w3.heap.size) (.slice (some ⟨g1, 0, none⟩) l.length cap1) l ∧ Below w.heap.size w w3 := by
  have hc : Chg wr w3 (fun b => some b = some g) := (hc2.mono (fun _ _ h => h.elim)).trans (Chg.grown hgrow) (fun _ _ h => h)
  have hs3 := hc.size
  have hs2 := hc2.size
  obtain ⟨hg1, hg2⟩ := h.hg
  have hgg : g1 = g ∨ g1 = w2.heap.size := hat.imp (fun e => (Option.some.inj e).symm) id
  have hbb := h.hb.size
  subst hkl
  have hcap : l.length < cap1 := by
    rcases hown3.2 with ⟨h, _⟩ | ⟨g', cap', cur, hv, _, _, hc, _⟩
    · cases h
    · injection hv with e1 e2 e3; omega
  have hcell : ∀ (j : Nat) u, (kvs ++ [mk])[j]? = some u → w3.cell? ⟨g1, j, none⟩ = some u := fun j u hu => by
    have := hown3.cells (g := g1) rfl j u hu
    rwa [addr_add] at this
  refine ⟨⟨g1, cap1, kvs, mk, rfl, hcap, ⟨by omega, hlt3⟩, h.hl, fun j kv e => hcell j kv (by rw [List.getElem?_append_left (List.getElem?_eq_some_iff.1 e).1]; exact e), hcell _ _ (by rw [List.getElem?_append_right (by rw [h.hl]; exact Nat.le_refl _), h.hl, Nat.sub_self]; rfl), hq,
    fun j x kv e1 e2 => hM.go (h.hk j x kv e1 e2) hc (fun b hb => ⟨hb.1, by omega⟩) (fun b hb e => hb.2.2 (Option.some.inj e))⟩, h.hb.trans (hc.toBelow (by omega) (fun b e => by have := Option.some.inj e; omega))⟩
/-- how much such a list has -/
def szX (s : α → Nat) : List α → Nat
  | [] => 0
  | x :: l => 2 + s x + szX s l
theorem szX_app (s : α → Nat) : ∀ a b : List α, szX s (a ++ b) = szX s a + szX s b
  | [], b => by simp [szX]
  | x :: a, b => by rw [List.cons_append, szX, szX, szX_app s a b]; omega
theorem szX_take {s : α → Nat} {l : List α} {k : Nat} {x : α} (h : l[k]? = some x) : szX s (l.take (k + 1)) = szX s (l.take k) + (2 + s x) := by
  rw [List.take_add_one, h, szX_app]; simp [szX]
theorem szX_len (s : α → Nat) : ∀ l : List α, 2 * l.length ≤ szX s l
  | [] => Nat.zero_le _
  | x :: l => by have := szX_len s l; simp only [szX, List.length_cons]; omega
theorem szX_get {s : α → Nat} {l : List α} {k : Nat} {x : α} (h : l[k]? = some x) : szX s (l.take k) + 2 + s x + 2 * (l.length - (k + 1)) ≤ szX s l := by
  have h1 := szX_take (s := s) h
  have h2 := szX_app s (l.take (k + 1)) (l.drop (k + 1))
  rw [List.take_append_drop] at h2
  have h3 := szX_len s (l.drop (k + 1))
  rw [List.length_drop] at h3
  omega
end
theorem Marked.stays : Rel.Stays (α := List Sp) Marked := fun _ _ _ _ _ _ _ h hc hk hS => h.chg hc hk hS
theorem Forest.stays : Rel.Stays (α := List Sp) Forest := fun _ _ _ _ _ _ _ h hc hk hS => h.chg hc hk hS
/-- cells: each a row of spans -/
def CellsF : Rel (List (List Sp)) := RowF Forest
def RowsF : Rel (List (List (List Sp))) := RowF CellsF
def markC (w : World) (F : Nat → Prop) (v : Value) : Prop := Forest w F v [txt spareB]
def markR (_ : World) (_ : Nat → Prop) (v : Value) : Prop := ∃ A c, v = .slice A 9 c
def CellsM : Rel (List (List Sp)) := RowM Marked markC
def RowsM : Rel (List (List (List Sp))) := RowM CellsM markR
theorem CellsF.stays : Rel.Stays CellsF := RowF.stays (R := Forest) Forest.stays
theorem RowsF.stays : Rel.Stays RowsF := RowF.stays (R := CellsF) CellsF.stays
theorem CellsM.stays : Rel.Stays CellsM := RowM.stays (M := Marked) Marked.stays (fun {_ _ _ _ _ _} h hc hk hS => Forest.chg h hc hk hS)
theorem RowsM.stays : Rel.Stays RowsM := RowM.stays (M := CellsM) CellsM.stays (fun {_ _ _ _ _ _} h _ _ _ => h)
end Go.Bd
