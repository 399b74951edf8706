/-
  What the copies' walks lean on, where the spans' own functions are not in the dump. No condition.
-/
import Derived.Test.YtkfffoolpdilnaaChg
import Derived.Test.YtkfffoolpdilnaaSW
import Derived.Test.YtkfffoolpdilnaaRows
import Derived.Test.YtkfffoolpdilnaaVec3
import Derived.Test.YtkfffoolpdilnaaChecked
import Derived.IntWalk
import Derived.Deep.Light
import Derived.Handy
import Derived.Lib.Hide
import Derived.BigQuiet
import Derived.Deep.LoopGhost
import Derived.Below
import Derived.WalkKit
import Derived.WalkSpells
import Derived.Deep.RegionHeld3
import Derived.Deep.AppendLies
import Derived.Deep.DrawnRows
import Derived.Outline
namespace Go.Bd
open Go.RowKit
/-- a span's place and what its cells hold, as the walk wants it -/
theorem Forest.at {w : World} {F : Nat → Prop} {A : Option Addr} {c n : Nat} {l : List Sp} (h : Forest w F (.slice A n c) l) {j : Nat} {x : Sp} (hx : l[j]? = some x) : ∃ b off kA kc, A = some ⟨b, off, none⟩ ∧ F b ∧ Forest w F (.slice kA x.kids.length kc) x.kids ∧
    w.cell? ⟨b, off + j * 5, none⟩ = some (.int .u8 (x.kind : Int)) ∧ w.cell? ⟨b, off + j * 5 + 1, none⟩ = some (.string ⟨x.text.toArray⟩) ∧ w.cell? ⟨b, off + j * 5 + 2, none⟩ = some (.string ⟨x.sub.toArray⟩) ∧ w.cell? ⟨b, off + j * 5 + 3, none⟩ = some (.string ⟨x.see.toArray⟩) ∧ w.cell? ⟨b, off + j * 5 + 4, none⟩ = some (.slice kA x.kids.length kc) := by
  obtain ⟨A', c', e, _, hh⟩ := h.form
  injection e with e1 e2 e3
  subst e1
  obtain ⟨b, off, kv, h1, h2, h3, h4⟩ := hh j x hx
  obtain ⟨kA, kc, rfl, _⟩ := h3.form
  exact ⟨b, off, kA, kc, h1, h2, h3, h4⟩
theorem Forest.len {w : World} {F : Nat → Prop} {v : Value} {l : List Sp} (h : Forest w F v l) : ∃ A c, v = .slice A l.length c ∧ l.length ≤ c := by
  obtain ⟨A, c, e, hc, _⟩ := h.form
  exact ⟨A, c, e, hc⟩
theorem many_get : ∀ {l : List Sp} {j : Nat} {x : Sp}, l[j]? = some x → 1 + manyL x.kids ≤ manyL l
  | [], _, _, h => by simp at h
  | y :: l, 0, x, h => by
    simp at h
    subst h
    obtain ⟨k, t, u, v, ks⟩ := y
    simp only [manyL, many1]; omega
  | y :: l, j + 1, x, h => by
    have := many_get (l := l) (j := j) (by simpa using h)
    simp only [manyL]; omega
theorem many_len : ∀ l : List Sp, l.length ≤ manyL l
  | [] => Nat.zero_le _
  | ⟨k, t, u, v, ks⟩ :: l => by
    have := many_len l
    simp only [manyL, many1, List.length_cons]; omega
theorem rowCells_at : ∀ {l : List Sp} {kvs : List Value} {j : Nat} {x : Sp} {kv : Value} (i : Nat), i < 5 → l[j]? = some x → kvs[j]? = some kv → (rowCells l kvs)[j * 5 + i]? = (spCells x kv)[i]?
  | [], _, _, _, _, _, _, h, _ => by simp at h
  | _ :: _, [], _, _, _, _, _, _, h => by simp at h
  | y :: l, kw :: kvs, 0, x, kv, i, hi, h1, h2 => by
    simp only [List.getElem?_cons_zero, Option.some.injEq] at h1 h2
    subst h1; subst h2
    rw [rowCells, Nat.zero_mul, Nat.zero_add, List.getElem?_append_left (by simpa [spCells] using hi)]
  | y :: l, kw :: kvs, j + 1, x, kv, i, hi, h1, h2 => by
    rw [rowCells, List.getElem?_append_right (by simp [spCells]; omega)]
    rw [show (j + 1) * 5 + i - (spCells y kw).length = j * 5 + i by simp [spCells]; omega]
    exact rowCells_at i hi (by simpa using h1) (by simpa using h2)
theorem forest_lit {w : World} {F : Nat → Prop} {g : Nat} {t : TypeId} {l : List Sp} {kvs : List Value} (h : Holds w g t (rowCells l kvs).toArray) (hkl : kvs.length = l.length) (hg : F g) (hk : ∀ (j : Nat) x kv, l[j]? = some x → kvs[j]? = some kv → Forest w F kv x.kids) :
    Forest w F (.slice (some ⟨g, 0, none⟩) l.length l.length) l := by
  refine .mk _ _ l kvs hkl (Nat.le_refl _) (fun _ => ⟨g, 0, rfl, hg, fun j x kv h1 h2 i u hu => ?_⟩) hk
  have hi : i < 5 := by have := (List.getElem?_eq_some_iff.1 hu).1; simpa [spCells] using this
  rw [Nat.zero_add, h.cell]
  rw [List.getElem?_toArray, rowCells_at i hi h1 h2]
  exact hu
theorem forest_one {w : World} {F : Nat → Prop} {g : Nat} {t : TypeId} {x : Sp} {kv : Value} (h : Holds w g t (spCells x kv).toArray) (hg : F g) (hk : Forest w F kv x.kids) : Forest w F (.slice (some ⟨g, 0, none⟩) 1 1) [x] :=
  forest_lit (l := [x]) (kvs := [kv]) (by simpa [rowCells] using h) rfl hg (fun j y kw h1 h2 => by
    match j with
    | 0 => simp at h1 h2; subst h1; subst h2; exact hk
    | j + 1 => simp at h1)
theorem forest_txt {w : World} {F : Nat → Prop} {g : Nat} {t : TypeId} {s : Bs} (h : Holds w g t #[.int .u8 0, .string ⟨s.toArray⟩, .string ⟨#[]⟩, .string ⟨#[]⟩, .slice none 0 0]) (hg : F g) : Forest w F (.slice (some ⟨g, 0, none⟩) 1 1) [txt s] :=
  forest_one (x := txt s) (kv := .slice none 0 0) h hg (Forest.nil _ _)
end Go.Bd
namespace Go.Proofs.Ytkfffoolpdilnaa
open Go.RowKit Go.Bd
theorem span_info : (Try.prog.info? 43).map (fun i => (i.zero, i.size, i.bytes)) = some (some (.agg #[.int .u8 0, .string ⟨#[]⟩, .string ⟨#[]⟩, .string ⟨#[]⟩, .slice none 0 0]), 5, 80) := by kernel_rfl
theorem span_size : (Try.prog.info? 43).map (·.size) = some 5 := by kernel_rfl
theorem cells5 {w : World} {x : Nat} {t : TypeId} {a b c d e : Value} (h : Holds w x t #[a, b, c, d, e]) : w.cell? ⟨x, 0, none⟩ = some a ∧ w.cell? ⟨x, 1, none⟩ = some b ∧ w.cell? ⟨x, 2, none⟩ = some c ∧ w.cell? ⟨x, 3, none⟩ = some d ∧ w.cell? ⟨x, 4, none⟩ = some e :=
  ⟨h.cell 0, h.cell 1, h.cell 2, h.cell 3, h.cell 4⟩
theorem cellAlloc {w : World} {a : Addr} {v : Value} (o : Obj) (h : w.cell? a = some v) : (w.alloc o).cell? a = some v :=
  (World.cell?_of_block (Below.heap_alloc w o a.block (World.block_lt_of_cell? w _ h))).trans h
theorem holdsUnder {w w' : World} {g : Nat} {t : TypeId} {cs : Array Value} (h : Holds w g t cs) (hb : Below w.heap.size w w') : Holds w' g t cs := (hb.block g h.lt).trans h
theorem madeCells_size (z : Array Value) (n : Nat) : (madeCells z n).size = n := by simp [madeCells]
theorem results_cell1 {fn : Func} {p : Tmp} {ty : TypeId} (h : fn.results = #[.cell p ty]) (tmps : Array Value) (P : Program) (w : World) :
    (results fn tmps).run P w = ((asAddr (tmps.getD p undef)).run P w).andThen fun a w₁ => (loadVar ty a).run P w₁ := by
  simp only [results, h]
  simp [Sem.run_bind, Result.andThen]
theorem results_row {P : Program} {fn : Func} {p : Tmp} {ty : TypeId} (h : fn.results = #[.cell p ty]) (tmps : Array Value) (w : World) (g : Nat) (t : TypeId) (cs : Array Value) (fr : Nat × Nat) (d : TypeDesc)
    (hp : tmps.getD p undef = .pointer (some ⟨g, 0, none⟩)) (hg : w.heap[g]? = some (.cells cs t fr))
    (hu : P.underlying ty = some d) (hd : (match d with | .struct _ | .array _ _ => true | _ => false) = true) (hi : (P.info? ty).map (·.size) = some cs.size) :
    (results fn tmps).run P w = .ok (.agg cs) w := by
  rw [results_cell1 h, hp]
  simp [asAddr, run_loadVar_row w g t ty cs fr d hg hu hd hi, Result.andThen]
end Go.Proofs.Ytkfffoolpdilnaa
