/-
  Steps of regions that draw their order. No condition.
-/
import Derived.OrdersHeld
import Derived.Deep.RegionHeld
import Derived.RegionTactic
import Derived.Maps.RangeWalk
import Derived.Lib.Hide
namespace Go
section
variable {P : Program} {ops : Array Oper} {Q : Exit → Act → World → Prop} {md : Region.Mode} {S : World → Prop}
theorem tkHo (i : Nat) {oi : Oper} {v : Value} {fuel : Nat} {listed listed' : Array Bool} {a a' : Act} {w : World} (h : wpAnyH P md ops Q S fuel listed' a' w) (hi : ops[i]? = some oi := by rfl)
    (hs : Region.noSelect ops = true := by kernel_rfl) (hf : Region.free md ops listed i = true := by kernel_rfl) (hr : (Region.ready md ops listed).contains i = true := by kernel_rfl)
    (hw : Region.wanted oi (yielded ops a.tmps) = true := by kernel_rfl) (hy : ∀ w, S w → (execOp a.eval oi).run P w = .ok (.value v) w := by intro w hSw; (try dsimp only at hSw); go_simp; (first | done | with_reducible rfl))
    (hQ : ∀ c a w, Q (.panic c) (a.put oi.dst v) w → Q (.panic c) a w := by exact fun _ _ _ h => h) (hS : S w := by assumption)
    (ha : a.put oi.dst v = a' := by first | (simp only [Act.put, List.setIfInBounds_toArray, List.set_cons_zero, List.set_cons_succ]; rfl) | rfl)
    (hl : listed.setIfInBounds i true = listed' := by first | (simp only [List.setIfInBounds_toArray, List.set_cons_zero, List.set_cons_succ]; rfl) | rfl) : wpAnyH P md ops Q S (fuel + 1) listed a w := by
  subst ha hl
  exact wpAnyH_take hi hs hf hr hQ (Or.inl ⟨hw, hy⟩) hS h
theorem tkH (i d : Nat) {o2 : Op} {o3 : TypeId} {o4 : String} {o5 : Array Edge} {o6 : Option (Nat × Bool)} {v : Value} {fuel : Nat} {listed listed' : Array Bool} {a a' : Act} {w : World} (h : wpAnyH P md ops Q S fuel listed' a' w) (hi : ops[i]? = some ⟨some d, o2, o3, o4, o5, o6⟩ := by rfl)
    (hs : Region.noSelect ops = true := by kernel_rfl) (hf : Region.free md ops listed i = true := by kernel_rfl) (hr : (Region.ready md ops listed).contains i = true := by kernel_rfl)
    (hw : Region.wanted ⟨some d, o2, o3, o4, o5, o6⟩ (yielded ops a.tmps) = true := by kernel_rfl) (hy : ∀ w, S w → (execOp a.eval ⟨some d, o2, o3, o4, o5, o6⟩).run P w = .ok (.value v) w := by intro w hSw; (try dsimp only at hSw); go_simp; (first | done | with_reducible rfl))
    (hQ : ∀ c a w, Q (.panic c) (a.put (some d) v) w → Q (.panic c) a w := by exact fun _ _ _ h => h) (hS : S w := by assumption)
    (ha : a.put (some d) v = a' := by first | (simp only [Act.put, List.setIfInBounds_toArray, List.set_cons_zero, List.set_cons_succ]; rfl) | rfl)
    (hl : listed.setIfInBounds i true = listed' := by first | (simp only [List.setIfInBounds_toArray, List.set_cons_zero, List.set_cons_succ]; rfl) | rfl) : wpAnyH P md ops Q S (fuel + 1) listed a w := by
  subst ha hl
  exact wpAnyH_take hi hs hf hr hQ (Or.inl ⟨hw, hy⟩) hS h
theorem rdyH (rs : List Nat) {fuel : Nat} {listed : Array Bool} {a : Act} {w : World} (h : AllReadyH P md ops Q S fuel listed a w rs) (hr : Region.ready md ops listed = rs := by kernel_rfl) (hne : rs ≠ [] := by simp) : wpAnyH P md ops Q S (fuel + 1) listed a w :=
  wpAnyH_ready hr hne h
end
theorem hidH2 {p0 p1 : Prop} (x0 : p0) (x1 : p1) : RowKit.Hid (p0 ∧ p1) := Lib.hid ⟨x0, x1⟩
theorem hidH3 {p0 p1 p2 : Prop} (x0 : p0) (x1 : p1) (x2 : p2) : RowKit.Hid (p0 ∧ p1 ∧ p2) := Lib.hid ⟨x0, x1, x2⟩
theorem hidH4 {p0 p1 p2 p3 : Prop} (x0 : p0) (x1 : p1) (x2 : p2) (x3 : p3) : RowKit.Hid (p0 ∧ p1 ∧ p2 ∧ p3) := Lib.hid ⟨x0, x1, x2, x3⟩
theorem hidH5 {p0 p1 p2 p3 p4 : Prop} (x0 : p0) (x1 : p1) (x2 : p2) (x3 : p3) (x4 : p4) : RowKit.Hid (p0 ∧ p1 ∧ p2 ∧ p3 ∧ p4) := Lib.hid ⟨x0, x1, x2, x3, x4⟩
theorem hidH6 {p0 p1 p2 p3 p4 p5 : Prop} (x0 : p0) (x1 : p1) (x2 : p2) (x3 : p3) (x4 : p4) (x5 : p5) : RowKit.Hid (p0 ∧ p1 ∧ p2 ∧ p3 ∧ p4 ∧ p5) := Lib.hid ⟨x0, x1, x2, x3, x4, x5⟩
theorem hidH7 {p0 p1 p2 p3 p4 p5 p6 : Prop} (x0 : p0) (x1 : p1) (x2 : p2) (x3 : p3) (x4 : p4) (x5 : p5) (x6 : p6) : RowKit.Hid (p0 ∧ p1 ∧ p2 ∧ p3 ∧ p4 ∧ p5 ∧ p6) := Lib.hid ⟨x0, x1, x2, x3, x4, x5, x6⟩
theorem hidH8 {p0 p1 p2 p3 p4 p5 p6 p7 : Prop} (x0 : p0) (x1 : p1) (x2 : p2) (x3 : p3) (x4 : p4) (x5 : p5) (x6 : p6) (x7 : p7) : RowKit.Hid (p0 ∧ p1 ∧ p2 ∧ p3 ∧ p4 ∧ p5 ∧ p6 ∧ p7) := Lib.hid ⟨x0, x1, x2, x3, x4, x5, x6, x7⟩
theorem hidH9 {p0 p1 p2 p3 p4 p5 p6 p7 p8 : Prop} (x0 : p0) (x1 : p1) (x2 : p2) (x3 : p3) (x4 : p4) (x5 : p5) (x6 : p6) (x7 : p7) (x8 : p8) : RowKit.Hid (p0 ∧ p1 ∧ p2 ∧ p3 ∧ p4 ∧ p5 ∧ p6 ∧ p7 ∧ p8) := Lib.hid ⟨x0, x1, x2, x3, x4, x5, x6, x7, x8⟩
theorem hidH10 {p0 p1 p2 p3 p4 p5 p6 p7 p8 p9 : Prop} (x0 : p0) (x1 : p1) (x2 : p2) (x3 : p3) (x4 : p4) (x5 : p5) (x6 : p6) (x7 : p7) (x8 : p8) (x9 : p9) : RowKit.Hid (p0 ∧ p1 ∧ p2 ∧ p3 ∧ p4 ∧ p5 ∧ p6 ∧ p7 ∧ p8 ∧ p9) := Lib.hid ⟨x0, x1, x2, x3, x4, x5, x6, x7, x8, x9⟩
theorem hidH11 {p0 p1 p2 p3 p4 p5 p6 p7 p8 p9 p10 : Prop} (x0 : p0) (x1 : p1) (x2 : p2) (x3 : p3) (x4 : p4) (x5 : p5) (x6 : p6) (x7 : p7) (x8 : p8) (x9 : p9) (x10 : p10) : RowKit.Hid (p0 ∧ p1 ∧ p2 ∧ p3 ∧ p4 ∧ p5 ∧ p6 ∧ p7 ∧ p8 ∧ p9 ∧ p10) := Lib.hid ⟨x0, x1, x2, x3, x4, x5, x6, x7, x8, x9, x10⟩
theorem hidH12 {p0 p1 p2 p3 p4 p5 p6 p7 p8 p9 p10 p11 : Prop} (x0 : p0) (x1 : p1) (x2 : p2) (x3 : p3) (x4 : p4) (x5 : p5) (x6 : p6) (x7 : p7) (x8 : p8) (x9 : p9) (x10 : p10) (x11 : p11) : RowKit.Hid (p0 ∧ p1 ∧ p2 ∧ p3 ∧ p4 ∧ p5 ∧ p6 ∧ p7 ∧ p8 ∧ p9 ∧ p10 ∧ p11) := Lib.hid ⟨x0, x1, x2, x3, x4, x5, x6, x7, x8, x9, x10, x11⟩
end Go
