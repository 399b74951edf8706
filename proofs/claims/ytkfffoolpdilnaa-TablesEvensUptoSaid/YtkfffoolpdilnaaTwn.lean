/-
  Memory: spans in memory of their own with a mark behind each list. No condition.
-/
import Derived.Test.YtkfffoolpdilnaaChg
namespace Go.Bd
open Go.RowKit
def spareB : Bs := [115, 112, 97, 114, 101]
/-- the cells of the mark -/
def markCells : List Value := [.int .u8 0, strV spareB, strV [], strV [], .slice none 0 0]
/-- the slice v reads as these spans, in blocks of F, with a mark behind each list -/
inductive Marked (w : World) (F : Nat → Prop) : Value → List Sp → Prop
  | mk (g c : Nat) (l : List Sp) (kvs : List Value) (hlen : kvs.length = l.length) (hc : l.length < c) (hF : F g)
      (hA : ∀ (j : Nat) x kv, l[j]? = some x → kvs[j]? = some kv → ∀ (i : Nat) u, (spCells x kv)[i]? = some u → w.cell? ⟨g, j * 5 + i, none⟩ = some u)
      (hS : ∀ (i : Nat) u, markCells[i]? = some u → w.cell? ⟨g, l.length * 5 + i, none⟩ = some u)
      (hk : ∀ (j : Nat) x kv, l[j]? = some x → kvs[j]? = some kv → Marked w F kv x.kids) : Marked w F (.slice (some ⟨g, 0, none⟩) l.length c) l
section
variable {w w' : World} {F G : Nat → Prop} {v : Value} {l : List Sp}
theorem Marked.keep (h : Marked w F v l) (hk : ∀ b, F b → G b) (hc : ∀ (p : Addr) u, F p.block → w.cell? p = some u → w'.cell? p = some u) : Marked w' G v l := by
  induction h with
  | mk g c l kvs hlen hcap hF hA hS _ ih =>
    exact .mk g c l kvs hlen hcap (hk g hF) (fun j x kv e1 e2 i u e3 => hc ⟨g, j * 5 + i, none⟩ u hF (hA j x kv e1 e2 i u e3)) (fun i u e => hc ⟨g, l.length * 5 + i, none⟩ u hF (hS i u e)) (fun j x kv e1 e2 => ih j x kv e1 e2)
theorem Marked.chg {S : Nat → Prop} (h : Marked w F v l) (hc : Chg w w' S) (hk : ∀ b, F b → G b) (hS : ∀ b, F b → ¬ S b) : Marked w' G v l :=
  h.keep hk fun _ _ hF hu => hc.cell (hS _ hF) hu
theorem Marked.under {B : Nat} (h : Marked w F v l) (hb : Below B w w') (hF : ∀ b, F b → b < B) : Marked w' F v l :=
  h.keep (fun _ h => h) fun p u hp hu => (hb.cell (hF _ hp)).trans hu
theorem Marked.forest (h : Marked w F v l) : Forest w F v l := by
  induction h with
  | mk g c l kvs hlen hcap hF hA hS _ ih =>
    exact .mk (some ⟨g, 0, none⟩) c l kvs hlen (Nat.le_of_lt hcap) (fun _ => ⟨g, 0, rfl, hF, fun j x kv e1 e2 i u e3 => by rw [Nat.zero_add]; exact hA j x kv e1 e2 i u e3⟩) (fun j x kv e1 e2 => ih j x kv e1 e2)
/-- as the walk wants it -/
theorem Marked.form (h : Marked w F v l) : ∃ g c, v = .slice (some ⟨g, 0, none⟩) l.length c ∧ l.length < c ∧ F g ∧
    (∀ (i : Nat) u, markCells[i]? = some u → w.cell? ⟨g, l.length * 5 + i, none⟩ = some u) ∧
    ∀ (j : Nat) x, l[j]? = some x → ∃ kv, Marked w F kv x.kids ∧
      w.cell? ⟨g, j * 5, none⟩ = some (.int .u8 (x.kind : Int)) ∧ w.cell? ⟨g, j * 5 + 1, none⟩ = some (strV x.text) ∧ w.cell? ⟨g, j * 5 + 2, none⟩ = some (strV x.sub) ∧ w.cell? ⟨g, j * 5 + 3, none⟩ = some (strV x.see) ∧ w.cell? ⟨g, j * 5 + 4, none⟩ = some kv := by
  cases h with
  | mk g c l kvs hlen hcap hF hA hS hk =>
    refine ⟨g, c, rfl, hcap, hF, hS, fun j x hx => ?_⟩
    have hj : j < l.length := (List.getElem?_eq_some_iff.1 hx).1
    obtain ⟨kv, hkv⟩ : ∃ kv, kvs[j]? = some kv := ⟨_, List.getElem?_eq_getElem (by omega)⟩
    exact ⟨kv, hk j x kv hx hkv, hA j x kv hx hkv 0 _ rfl, hA j x kv hx hkv 1 _ rfl, hA j x kv hx hkv 2 _ rfl, hA j x kv hx hkv 3 _ rfl, hA j x kv hx hkv 4 _ rfl⟩
/-- a row of its own, with a mark behind, is such a list -/
theorem twin_of_row {B : Nat} {t : TypeId} {g cap : Nat} {kvs : List Value} (hkl : kvs.length = l.length) (hro : w.ownsRow B t 5 (.slice (some ⟨g, 0, none⟩) (l.length + 1) cap) (l.length + 1) (rowCells l kvs ++ markCells)) (hF : F g)
    (hk : ∀ (j : Nat) x kv, l[j]? = some x → kvs[j]? = some kv → Marked w F kv x.kids) : Marked w F (.slice (some ⟨g, 0, none⟩) l.length cap) l := by
  have hrl : (rowCells l kvs).length = l.length * 5 := rowCells_length hkl
  have hcap : l.length < cap := by
    rcases hro.2 with ⟨h, _⟩ | ⟨g', cap', cur, hv, _, _, hc, _⟩
    · cases h
    · injection hv with e1 e2 e3; omega
  refine .mk g cap l kvs hkl hcap hF (fun j x kv e1 e2 i u e3 => ?_) (fun i u e => ?_) hk
  · have h1 := rowCells_get e1 e2 e3
    have hlt : j * 5 + i < (rowCells l kvs).length := (List.getElem?_eq_some_iff.1 h1).1
    have := hro.cells (g := g) rfl (j * 5 + i) u (by rw [List.getElem?_append_left hlt]; exact h1)
    rw [addr_add] at this
    exact this
  · have := hro.cells (g := g) rfl (l.length * 5 + i) u (by rw [List.getElem?_append_right (by omega), hrl, Nat.add_sub_cancel_left]; exact e)
    rw [addr_add] at this
    exact this
end
end Go.Bd
