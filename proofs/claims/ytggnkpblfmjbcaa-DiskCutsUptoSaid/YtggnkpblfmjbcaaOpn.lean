/-
  A struct's cells, opened field by field, over any program. No condition.
-/
import Derived.Deep.Slices
import Derived.ChangeArms
import Derived.WideShapes
namespace Go.Bd
open Go.ChangeShapes Go.WideShapes
section
variable {H : Type} {enc : TypeId × Value → H} {P : Program} {w : World} {base : Nat} {sp : Nat → Bool} {held : Bool}
theorem take_drop_one {cs : List Value} {i : Nat} (h : i < cs.length) : (cs.drop i).take 1 = [cs[i]] := by
  rw [List.drop_eq_getElem_cons h]; rfl
/-- the cells of one struct of fields of one cell -/
theorem open_fields {e : TypeId} {fs : Array Field} {a : Addr} {cs : List Value} {fuel : Nat} {x : DataW H × List MemPlace} (he : P.underlying e = some (.struct fs)) (hc : P.cellsOf e = fs.size)
    (ho : ∀ (i : Nat) f, fs[i]? = some f → f.offset = i ∧ P.cellsOf f.type = 1) (h1 : w.cells? base a (P.cellsOf e) = some cs) (h2 : DataW.trod enc P w base sp held fuel e cs = some x) :
    ∃ (m : Nat) (V : Nat → Value) (D : Nat → DataW H × List MemPlace), x.1 = .agg ((List.range fs.size).map fun i => (D i).1) ∧ ∀ (i : Nat) f, fs[i]? = some f → w.cell? (a.add i) = some (V i) ∧ DataW.trod enc P w base sp held m f.type [V i] = some (D i) := by
  obtain ⟨_, hlen, hcell⟩ := World.cells?_some h1
  obtain ⟨xs, k, hk, hxy, hcl, hxl, hf⟩ := DataW.trod_struct he h2
  refine ⟨k, fun i => cs.getD i (.int .i64 0), fun i => xs.getD i (.nil, []), ?_, fun i f hif => ?_⟩
  · rw [hxy]
    show DataW.agg _ = _
    congr 1
    rw [Deep.map_by_index xs (.nil, []) (·.1), hxl]
  · obtain ⟨o, c⟩ := ho i f hif
    have hi : i < fs.size := (Array.getElem?_eq_some_iff.1 hif).1
    have hic : i < cs.length := by omega
    have hix : i < xs.length := by omega
    have g := hf i f hif
    rw [o, c, take_drop_one hic, List.getElem?_eq_getElem hix] at g
    have hce := hcell i (by omega)
    refine ⟨?_, ?_⟩
    · rw [hce]
      simp [List.getD, List.getElem?_eq_getElem hic]
    · simp only [List.getD, List.getElem?_eq_getElem hic, List.getElem?_eq_getElem hix, Option.getD_some]
      exact g
theorem open_addr {w : World} {a : Addr} {v : Value} (h : w.cell? (a.add 0) = some v) : ∃ b off, a = ⟨b, off, none⟩ ∧ b < w.heap.size := by
  obtain ⟨b, off, spot⟩ := a
  have e : (⟨b, off, spot⟩ : Addr).add 0 = ⟨b, off, spot⟩ := by simp [Addr.add]
  rw [e] at h
  refine ⟨b, off, ?_, World.block_lt_of_cell? w _ h⟩
  cases spot with
  | none => rfl
  | some s =>
    exfalso
    simp only [World.cell?] at h
    split at h <;> simp at h
end
end Go.Bd
