/-
  What the chapter's laws share, part 5: plain facts, memory, and walks of functions. Its conditions: those that each theorem names.
-/
import Derived.Laws.AppendOwnNone
import Derived.Deep.AppendLies
import Derived.Test.YtcjmfjccjhdgjaaGreatDoorK4
set_option linter.unusedSimpArgs false
set_option linter.unusedVariables false
namespace Go.Bd
open Go.RowKit
def tCl : TypeId := 121
def tRo : TypeId := 119
/-- values in a row of its own, each reading asf told, in blocks of F -/
def BuiltF {α : Type} (R : Rel α) (t : TypeId) (w : World) (B : Nat) (F : Nat → Prop) (v : Value) (l : List α) : Prop :=
  ∃ kvs : List Value, kvs.length = l.length ∧ w.ownsRow B t 1 v l.length kvs ∧ ∀ (j : Nat) x kv, l[j]? = some x → kvs[j]? = some kv → R w F kv x
section
variable {α : Type} {R : Rel α} {t : TypeId} {w w' : World} {B : Nat} {F G S : Nat → Prop} {v : Value} {l : List α}
theorem BuiltF.nil (R : Rel α) (t : TypeId) (w : World) (B : Nat) (F : Nat → Prop) : BuiltF R t w B F (.slice none 0 0) [] := ⟨[], rfl, World.ownsRow_nil _ _ _ _, fun _ _ _ h => by simp at h⟩
theorem BuiltF.chg (hR : R.Stays) (h : BuiltF R t w B F v l) (hc : Chg w w' S) (hk : ∀ b, F b → G b) (hS : ∀ b, F b → ¬ S b) (hv : ∀ b, v.ownBlock = some b → ¬ S b) : BuiltF R t w' B G v l := by
  obtain ⟨kvs, h1, h2, h3⟩ := h
  exact ⟨kvs, h1, hc.owns h2 hv, fun j x kv e1 e2 => hR.go (h3 j x kv e1 e2) hc hk hS⟩
theorem BuiltF.snoc (hR : R.Stays) {kvs : List Value} (h1 : kvs.length = l.length) (h3 : ∀ (j : Nat) x kv, l[j]? = some x → kvs[j]? = some kv → R w F kv x) {kv v' : Value} {x : α} (hx : R w' G kv x) (hc : Chg w w' S) (hk : ∀ b, F b → G b) (hS : ∀ b, F b → ¬ S b) (ho : w'.ownsRow B t 1 v' (l.length + 1) (kvs ++ [kv])) : BuiltF R t w' B G v' (l ++ [x]) := by
  refine ⟨kvs ++ [kv], by simp [h1], by rw [List.length_append]; exact ho, fun j y ku e1 e2 => ?_⟩
  by_cases hj : j < l.length
  · rw [List.getElem?_append_left hj] at e1
    rw [List.getElem?_append_left (by omega)] at e2
    exact hR.go (h3 j y ku e1 e2) hc hk hS
  · have hjl : j = l.length := by have := (List.getElem?_eq_some_iff.1 e1).1; simp at this; omega
    subst hjl
    rw [List.getElem?_append_right (Nat.le_refl _), Nat.sub_self] at e1
    rw [List.getElem?_append_right (by omega), h1, Nat.sub_self] at e2
    cases e1; cases e2
    exact hx
theorem BuiltF.form (h : BuiltF R t w B F v l) : ∃ A c, v = .slice A l.length c ∧ l.length ≤ c ∧ ∀ k, v.ownBlock = some k → B ≤ k ∧ k < w.heap.size := by
  obtain ⟨kvs, _, h2, _⟩ := h
  rcases h2.2 with ⟨h3, h4⟩ | ⟨g, cap, cur, h3, h4, h5, h6, _⟩
  · exact ⟨none, 0, by rw [h3, h4], by omega, by rw [h3]; intro k hk; cases hk⟩
  · refine ⟨_, _, h3, h6, ?_⟩
    rw [h3]
    intro k hk
    have e : g = k := by simpa [Value.ownBlock] using hk
    exact e ▸ ⟨h4, (Array.getElem?_eq_some_iff.1 h5).1⟩
theorem BuiltF.rowF (hR : R.Stays) (h : BuiltF R t w B F v l) (hk : ∀ b, F b → G b) (hv : ∀ b, v.ownBlock = some b → G b) : RowF R w G v l := by
  obtain ⟨A, c, rfl, hc, _⟩ := h.form
  obtain ⟨kvs, h1, h2, h3⟩ := h
  refine ⟨A, c, kvs, rfl, hc, h1, fun hn => ?_, fun j x kv e1 e2 => hR.go (h3 j x kv e1 e2) (Chg.refl w (fun _ => False)) hk (fun _ _ h => h)⟩
  have hl : 0 < l.length := List.length_pos_iff.2 hn
  obtain ⟨g, cap, e, _⟩ := own_some h2 hl
  injection e with e1 e2 e3
  subst e1 e3
  exact ⟨g, 0, rfl, hv g rfl, fun j kv e => by rw [Nat.zero_add]; exact own_cell h2 e⟩
end
section
variable {w w' : World} {O F O' F' S : Nat → Prop} {rb : Nat} {lv : Value} {pos : Nat} {bv : Value} {bs : List Bl} {dv : Value} {ds : List Dg}
/-- more diagnostics -/
theorem Rdr.toldL (h : Rdr w O F rb lv pos bv bs dv ds) {dv' : Value} {l : List Dg} (hc : Chg w w' (fun k => k = rb ∨ dv.ownBlock = some k)) (hh : Holds w' rb tR #[lv, .int .i64 (pos : Int), bv, dv']) (ho : w'.ownsRow 0 tDg 4 dv' (ds.length + l.length) (rowD ds ++ rowD l))
    (hn : ∀ k, dv'.ownBlock = some k → (dv.ownBlock = some k ∨ w.heap.size ≤ k) ∧ k < w'.heap.size) : Rdr w' (fun k => O k ∨ dv'.ownBlock = some k) F rb lv pos bv bs dv' (ds ++ l) ∧ Turn w w' O F (fun k => O k ∨ dv'.ownBlock = some k) F := by
  obtain ⟨kvs, h1, h2, h3⟩ := h.bl
  have hS : ∀ k, (k = rb ∨ dv.ownBlock = some k) → O k := fun k hk => by
    rcases hk with rfl | hk
    · exact h.oR
    · exact (h.oD k hk).1
  have hF : ∀ k, F k → ¬ (k = rb ∨ dv.ownBlock = some k) := fun k hk hs => h.off k hk (hS k hs)
  refine ⟨⟨hh, ⟨kvs, h1, hc.owns h2 (fun k hk hs => ?_), fun j x kv hx hk => ⟨(h3 j x kv hx hk).1.chg hc (fun _ h => h) hF, RowsF.stays.go (h3 j x kv hx hk).2 hc (fun _ h => h) hF⟩⟩, ?_, .inl h.oR, fun k hk => ⟨.inl (h.oB k hk).1, (h.oB k hk).2⟩, fun k hk => ⟨.inr hk, ?_, ?_⟩, fun k hk hs => ?_, fun k hk => ?_, fun k hk => Nat.lt_of_lt_of_le (h.ltF k hk) hc.size⟩,
    ⟨hc.mono (fun k _ hk => hS k hk), fun k hk => ?_, fun k hk => .inl hk, fun k hk => hk⟩⟩
  · rcases hs with hs | hs
    · exact (h.oB k hk).2 hs
    · exact (h.oD k hs).2.2 hk
  · rw [List.length_append, rowD_append]
    exact ho
  · rcases (hn k hk).1 with h4 | h4
    · exact (h.oD k h4).2.1
    · intro e; have := h.ltO rb h.oR; omega
  · rcases (hn k hk).1 with h4 | h4
    · exact (h.oD k h4).2.2
    · intro e; have := h.ltO k (h.oB k e).1; omega
  · rcases hs with hs | hs
    · exact h.off k hk hs
    · rcases (hn k hs).1 with h4 | h4
      · exact h.off k hk (h.oD k h4).1
      · have := h.ltF k hk; omega
  · rcases hk with hk | hk
    · exact Nat.lt_of_lt_of_le (h.ltO k hk) hc.size
    · exact (hn k hk).2
  · rcases hk with hk | hk
    · exact .inl hk
    · rcases (hn k hk).1 with h4 | h4
      · exact .inl (h.oD k h4).1
      · exact .inr h4
end
theorem rowD_one : ∀ {l : List Dg} {u : Value}, u ∈ rowD l → u.oneCell' = true
  | [], u, h => by cases h
  | d :: l, u, h => by
    rw [rowD, List.mem_append] at h
    rcases h with h | h
    · simp only [dgCells, List.mem_cons, List.not_mem_nil, or_false] at h
      rcases h with rfl | rfl | rfl | rfl <;> rfl
    · exact rowD_one h
theorem le_sum_mem : ∀ {l : List Nat} {x : Nat}, x ∈ l → x ≤ l.sum
  | [], x, h => by cases h
  | y :: l, x, h => by
    rw [List.sum_cons]
    rcases List.mem_cons.1 h with rfl | h
    · omega
    · have := le_sum_mem h; omega
theorem splitB_sum : ∀ (k : Nat) (s : ByteArray), ((Lib.splitB bar 0 k s).map (·.size)).sum ≤ s.size
  | 0, s => by simp [Lib.splitB]
  | k + 1, s => by
    rw [Lib.splitB]
    split
    · simp
    · have h := splitB_sum k (s.extract ((Lib.indexB s bar).toNat + bar.size) s.size)
      rw [List.map_cons, List.sum_cons]
      simp only [ByteArray.size_extract] at h ⊢
      have hb : bar.size = 1 := rfl
      omega
theorem sum_take_le (l : List Nat) (k : Nat) : (l.take k).sum ≤ l.sum := by
  have := congrArg List.sum (List.take_append_drop k l)
  rw [List.sum_append] at this
  omega
theorem sum_tr_le : ∀ l : List ByteArray, ((l.map tr).map (·.size)).sum ≤ (l.map (·.size)).sum
  | [] => Nat.le_refl _
  | x :: l => by
    have h1 := sum_tr_le l
    have h2 := tr_le x
    simp only [List.map_cons, List.sum_cons]
    omega
theorem rowOf_sum (s : ByteArray) : ((rowOf s).map (·.size)).sum ≤ s.size := by
  have h1 := splitB_sum (Lib.countB ⟨(Lib.trimPrefix (trim s.data.toList) [124]).toArray⟩ bar) ⟨(Lib.trimPrefix (trim s.data.toList) [124]).toArray⟩
  have h2 : (⟨(Lib.trimPrefix (trim s.data.toList) [124]).toArray⟩ : ByteArray).size ≤ s.size := by
    rw [size_mk]
    have h3 := trim_le s.data.toList
    rw [← size_list] at h3
    have h4 : (Lib.trimPrefix (trim s.data.toList) [124]).length ≤ (trim s.data.toList).length := by unfold Lib.trimPrefix; split <;> simp
    omega
  have h3 := sum_tr_le (pieces ⟨(Lib.trimPrefix (trim s.data.toList) [124]).toArray⟩)
  have h4 : (pieces ⟨(Lib.trimPrefix (trim s.data.toList) [124]).toArray⟩) = Lib.splitB bar 0 (Lib.countB ⟨(Lib.trimPrefix (trim s.data.toList) [124]).toArray⟩ bar) ⟨(Lib.trimPrefix (trim s.data.toList) [124]).toArray⟩ := rfl
  rw [← h4] at h1
  unfold rowOf dropEnd
  split
  · rw [List.map_take]
    have := sum_take_le (((pieces ⟨(Lib.trimPrefix (trim s.data.toList) [124]).toArray⟩).map tr).map (·.size)) (((pieces ⟨(Lib.trimPrefix (trim s.data.toList) [124]).toArray⟩).map tr).length - 1)
    omega
  · omega
theorem flat_faults (f : ByteArray → List Dg) (hf : ∀ t, (f t).length ≤ t.size) : ∀ l : List ByteArray, (l.flatMap f).length ≤ (l.map (·.size)).sum
  | [] => Nat.le_refl _
  | x :: l => by
    have h1 := flat_faults f hf l
    have h2 := hf x
    simp only [List.flatMap_cons, List.length_append, List.map_cons, List.sum_cons]
    omega
/-- append of nothing, asf one step of a region that draws -/
theorem step_append_none {P : Program} {ops : Array Oper} {o : Oper} {a : Act} {w : World} {K : Act → World → Prop} {Q : Exit → Act → World → Prop} {E : Prop} (hgd : o.guard = none) (s x : Operand) (t : TypeId)
    (ho : o.op = .call { callee := .builtin .append, args := #[s, x], argTypes := #[t, t] })
    (base : Nat) (e : TypeId) (i : TypeInfo) (size : Nat) (ht : P.underlying t = some (.slice e)) (hi : P.info? e = some i)
    (v : Value) (n : Nat) (xs : List Value) (hs : a.eval s = v) (hown : w.ownsRow base e size v n xs) (hx : a.eval x = .slice none 0 0)
    (h : K (a.put o.dst v) w) : if Region.wanted o (yielded ops a.tmps) = true then Oper.wp P o a w K Q else E := by
  have hw : Region.wanted o (yielded ops a.tmps) = true := by simp [Region.wanted, hgd]
  rw [if_pos hw]
  have hrun := run_append_owned_none (P := P) (w := w) base t o.type e i size ht hi v n xs hown
  unfold Oper.wp
  simp [execOp, ho, resolve, invoke, builtin, hs, hx, hrun, Result.andThen]
  exact h
def tabBlk (rv : Value) : Array Value := #[.int .u8 6, .int .i64 0, .bool false, .string ⟨#[]⟩, .string ⟨#[]⟩, .slice none 0 0, rv, .string ⟨#[]⟩, .int .i64 0]
/-- a table so far -/
structure TabS (w : World) (B0 : Nat) (Ow Fw : Nat → Prop) (wi : Nat) (dvw : Value) (dsw : List Dg) (nb : Nat) (rv : Value) (rows : List (List (List Sp))) : Prop where
  rd : Rdr w Ow Fw wi (.slice none 0 0) 0 (.slice none 0 0) [] dvw dsw
  blk : Holds w nb tBl (tabBlk rv)
  rows : BuiltF CellsF tRo w B0 Fw rv rows
  geO : ∀ k, Ow k → B0 ≤ k
  geF : ∀ k, Fw k → B0 ≤ k
  geN : B0 ≤ nb
  nbO : ¬ Ow nb
  nbF : ¬ Fw nb
  rvO : ∀ k, rv.ownBlock = some k → ¬ Ow k ∧ ¬ Fw k ∧ k ≠ nb
/-- the row at hand -/
structure CelS (w : World) (B0 : Nat) (Ow Fw : Nat → Prop) (nb : Nat) (rv : Value) (gb : Nat) (cv : Value) (xs : List (List Sp)) : Prop where
  box : Holds w gb tRo #[cv]
  cells : BuiltF Forest tCl w B0 Fw cv xs
  geG : B0 ≤ gb
  gbO : ¬ Ow gb ∧ ¬ Fw gb ∧ gb ≠ nb ∧ rv.ownBlock ≠ some gb
  cvO : ∀ k, cv.ownBlock = some k → ¬ Ow k ∧ ¬ Fw k ∧ k ≠ nb ∧ rv.ownBlock ≠ some k ∧ k ≠ gb
section
variable {w w' : World} {B0 : Nat} {Ow Fw O' F' S : Nat → Prop} {wi : Nat} {dvw dvw' : Value} {dsw dsw' : List Dg} {nb gb : Nat} {rv cv : Value} {rows : List (List (List Sp))} {xs : List (List Sp)}
theorem TabS.chg (h : TabS w B0 Ow Fw wi dvw dsw nb rv rows) (hc : Chg w w' S) (hO : ∀ k, Ow k → ¬ S k) (hF : ∀ k, Fw k → ¬ S k) (hN : ¬ S nb) (hR : ∀ k, rv.ownBlock = some k → ¬ S k) : TabS w' B0 Ow Fw wi dvw dsw nb rv rows :=
  ⟨h.rd.chg hc hO hF, hc.holds hN h.blk, h.rows.chg CellsF.stays hc (fun _ h => h) hF hR, h.geO, h.geF, h.geN, h.nbO, h.nbF, h.rvO⟩
theorem TabS.below (h : TabS w B0 Ow Fw wi dvw dsw nb rv rows) (hb : Below w.heap.size w w') : TabS w' B0 Ow Fw wi dvw dsw nb rv rows := h.chg (Chg.below hb (fun _ => False)) (fun _ _ h => h) (fun _ _ h => h) (fun h => h) (fun _ _ h => h)
theorem TabS.turn (h : TabS w B0 Ow Fw wi dvw dsw nb rv rows) (hr : Rdr w' O' F' wi (.slice none 0 0) 0 (.slice none 0 0) [] dvw' dsw') (ht : Turn w w' Ow Fw O' F') : TabS w' B0 O' F' wi dvw' dsw' nb rv rows := by
  have hn := h.blk.lt
  have hB : B0 ≤ w.heap.size := by have := h.geN; omega
  have hrv := h.rows.form
  obtain ⟨_, _, _, _, hrk⟩ := hrv
  exact ⟨hr, ht.chg.holds h.nbO h.blk, h.rows.chg CellsF.stays ht.chg ht.moF h.rd.off (fun k hk => (h.rvO k hk).1), fun k hk => (ht.inO k hk).elim (h.geO k) (fun e => by omega), fun k hk => (ht.inF k hk).elim (h.geF k) (fun e => by omega), h.geN,
    ht.offO hn h.nbO, ht.offF hn h.nbF, fun k hk => ⟨ht.offO (hrk k hk).2 (h.rvO k hk).1, ht.offF (hrk k hk).2 (h.rvO k hk).2.1, (h.rvO k hk).2.2⟩⟩
theorem CelS.chg (h : CelS w B0 Ow Fw nb rv gb cv xs) (hc : Chg w w' S) (hF : ∀ k, Fw k → ¬ S k) (hN : ¬ S gb) (hR : ∀ k, cv.ownBlock = some k → ¬ S k) : CelS w' B0 Ow Fw nb rv gb cv xs :=
  ⟨hc.holds hN h.box, h.cells.chg Forest.stays hc (fun _ h => h) hF hR, h.geG, h.gbO, h.cvO⟩
theorem CelS.below (h : CelS w B0 Ow Fw nb rv gb cv xs) (hb : Below w.heap.size w w') : CelS w' B0 Ow Fw nb rv gb cv xs := h.chg (Chg.below hb (fun _ => False)) (fun _ _ h => h) (fun h => h) (fun _ _ h => h)
theorem CelS.turn (h : CelS w B0 Ow Fw nb rv gb cv xs) (hoff : ∀ k, Fw k → ¬ Ow k) (ht : Turn w w' Ow Fw O' F') : CelS w' B0 O' F' nb rv gb cv xs := by
  have hg := h.box.lt
  obtain ⟨_, _, _, _, hck⟩ := h.cells.form
  exact ⟨ht.chg.holds h.gbO.1 h.box, h.cells.chg Forest.stays ht.chg ht.moF hoff (fun k hk => (h.cvO k hk).1), h.geG, ⟨ht.offO hg h.gbO.1, ht.offF hg h.gbO.2.1, h.gbO.2.2⟩,
    fun k hk => ⟨ht.offO (hck k hk).2 (h.cvO k hk).1, ht.offF (hck k hk).2 (h.cvO k hk).2.1, (h.cvO k hk).2.2⟩⟩
theorem TabS.start (W : World) : TabS ((W.alloc (.cells #[.slice none 0 0, .int .i64 0, .slice none 0 0, .slice none 0 0] tR)).alloc (.cells (tabBlk (.slice none 0 0)) tBl)) W.heap.size (fun k => k = W.heap.size) (fun _ => False) W.heap.size (.slice none 0 0) [] (W.heap.size + 1) (.slice none 0 0) [] := by
  have h1 := (Holds.new W tR #[.slice none 0 0, .int .i64 0, .slice none 0 0, .slice none 0 0]).alloc (.cells (tabBlk (.slice none 0 0)) tBl)
  have h2 := Holds.new (W.alloc (.cells #[.slice none 0 0, .int .i64 0, .slice none 0 0, .slice none 0 0] tR)) tBl (tabBlk (.slice none 0 0))
  rw [World.size_alloc] at h2
  exact ⟨⟨h1, ⟨[], rfl, World.ownsRow_nil _ _ _ _, (fun _ _ _ h => by simp at h)⟩, World.ownsRow_nil _ _ _ _, rfl, (fun k hk => by cases hk), (fun k hk => by cases hk), (fun _ h => h.elim), (fun k hk => by have := h1.lt; omega), (fun _ h => h.elim)⟩,
    h2, BuiltF.nil _ _ _ _ _, (fun k hk => by omega), (fun _ h => h.elim), by omega, by omega, (fun h => h), (fun k hk => by cases hk)⟩
/-- the rows asf they are read -/
theorem TabS.told (h : TabS w B0 Ow Fw wi dvw dsw nb rv rows) : ∃ F2, RowsF w F2 rv rows ∧ (∀ k, F2 k → Fw k ∨ rv.ownBlock = some k) ∧ ∀ k, F2 k → B0 ≤ k ∧ k < w.heap.size := by
  obtain ⟨_, _, _, _, hrk⟩ := h.rows.form
  exact ⟨fun k => Fw k ∨ rv.ownBlock = some k, h.rows.rowF CellsF.stays (fun k hk => .inl hk) (fun k hk => .inr hk), fun k hk => hk, fun k hk => hk.elim (fun e => ⟨h.geF k e, h.rd.ltF k e⟩) (hrk k)⟩
/-- a new row -/
theorem CelS.start (h : TabS w B0 Ow Fw wi dvw dsw nb rv rows) : CelS (w.alloc (.cells #[.slice none 0 0] tRo)) B0 Ow Fw nb rv w.heap.size (.slice none 0 0) [] := by
  have hn := h.blk.lt
  obtain ⟨_, _, _, _, hrk⟩ := h.rows.form
  exact ⟨Holds.new _ _ _, BuiltF.nil _ _ _ _ _, by have := h.geN; omega, ⟨fun e => by have := h.rd.ltO _ e; omega, fun e => by have := h.rd.ltF _ e; omega, by omega, fun e => by have := (hrk _ e).2; omega⟩, fun k hk => by cases hk⟩
/-- one more cell: w1: behind the spans; the row is appended to, and stored -/
theorem CelS.add {w1 w2 : World} {sv v' : Value} {x : List Sp} {g c : Nat} (hT : TabS w1 B0 Ow Fw wi dvw dsw nb rv rows) (h : CelS w1 B0 Ow Fw nb rv gb cv xs) (hf : Forest w1 Fw sv x) (hv : v' = .slice (some ⟨g, 0, none⟩) (xs.length + 1) c)
    (hc2 : Chg w1 w2 (fun b => cv.ownBlock = some b)) {kvs : List Value} (hk1 : kvs.length = xs.length) (hk3 : ∀ (j : Nat) x kv, xs[j]? = some x → kvs[j]? = some kv → Forest w1 Fw kv x) (ho : w2.ownsRow B0 tCl 1 v' (xs.length + 1) (kvs ++ [sv])) (hg : cv.ownBlock = some g ∨ w1.heap.size ≤ g) (hg2 : g < w2.heap.size) :
    CelS (w2.setCell ⟨gb, 0, none⟩ v') B0 Ow Fw nb rv gb v' (xs ++ [x]) ∧ TabS (w2.setCell ⟨gb, 0, none⟩ v') B0 Ow Fw wi dvw dsw nb rv rows ∧ Chg w1 (w2.setCell ⟨gb, 0, none⟩ v') (fun b => b = gb ∨ cv.ownBlock = some b) := by
  have hgb := h.box.lt
  have hnb := hT.blk.lt
  obtain ⟨_, _, _, _, hrk⟩ := hT.rows.form
  have hc3 : Chg w2 (w2.setCell ⟨gb, 0, none⟩ v') (fun k => k = gb) := Chg.set w2 ⟨gb, 0, none⟩ v'
  have hF1 : ∀ k, Fw k → ¬ cv.ownBlock = some k := fun k hk e => (h.cvO k e).2.1 hk
  have hF2 : ∀ k, Fw k → ¬ k = gb := fun k hk e => h.gbO.2.1 (e ▸ hk)
  have hgne : g ≠ gb := by
    rcases hg with e | e
    · exact (h.cvO g e).2.2.2.2
    · omega
  have hgall : ¬ Ow g ∧ ¬ Fw g ∧ g ≠ nb ∧ rv.ownBlock ≠ some g := by
    rcases hg with e | e
    · exact ⟨(h.cvO g e).1, (h.cvO g e).2.1, (h.cvO g e).2.2.1, (h.cvO g e).2.2.2.1⟩
    · exact ⟨fun e2 => by have := hT.rd.ltO _ e2; omega, fun e2 => by have := hT.rd.ltF _ e2; omega, by omega, fun e2 => by have := (hrk _ e2).2; omega⟩
  have hall : Chg w1 (w2.setCell ⟨gb, 0, none⟩ v') (fun b => b = gb ∨ cv.ownBlock = some b) := (hc2.mono (T := fun b => b = gb ∨ cv.ownBlock = some b) (fun k _ h => .inr h)).trans hc3 (fun k _ h => .inl h)
  have hbx := (hc2.holds (fun e => (h.cvO gb e).2.2.2.2 rfl) h.box).set 0 v'
  refine ⟨⟨by simpa using hbx, ?_, h.geG, h.gbO, fun k hk => ?_⟩, hT.chg hall (fun k hk e => ?_) (fun k hk e => e.elim (hF2 k hk) (hF1 k hk)) (fun e => e.elim (fun e => h.gbO.2.2.1 e.symm) (fun e => (h.cvO nb e).2.2.1 rfl)) (fun k hk e => ?_), hall⟩
  · refine BuiltF.snoc Forest.stays hk1 hk3 (kv := sv) (hf.chg hall (fun _ h => h) (fun k hk e => e.elim (hF2 k hk) (hF1 k hk))) hall (fun _ h => h) (fun k hk e => e.elim (hF2 k hk) (hF1 k hk)) ?_
    refine hc3.owns ho (fun k hk e => ?_)
    rw [hv] at hk
    have e2 : g = k := by simpa [Value.ownBlock] using hk
    exact hgne (e2.trans e)
  · rw [hv] at hk
    have e2 : g = k := by simpa [Value.ownBlock] using hk
    exact e2 ▸ ⟨hgall.1, hgall.2.1, hgall.2.2.1, hgall.2.2.2, hgne⟩
  · rcases e with e | e
    · exact h.gbO.1 (e ▸ hk)
    · exact (h.cvO k e).1 hk
  · rcases e with e | e
    · exact h.gbO.2.2.2 (e ▸ hk)
    · exact (h.cvO k e).2.2.2.1 hk
/-- the row is told -/
theorem TabS.row {w1 w2 : World} {v' : Value} {g c : Nat} (hT : TabS w1 B0 Ow Fw wi dvw dsw nb rv rows) (h : CelS w1 B0 Ow Fw nb rv gb cv xs) (hv : v' = .slice (some ⟨g, 0, none⟩) (rows.length + 1) c)
    (hc2 : Chg w1 w2 (fun b => rv.ownBlock = some b)) {kvs : List Value} (hk1 : kvs.length = rows.length) (hk3 : ∀ (j : Nat) x kv, rows[j]? = some x → kvs[j]? = some kv → CellsF w1 Fw kv x) (ho : w2.ownsRow B0 tRo 1 v' (rows.length + 1) (kvs ++ [cv])) (hg : rv.ownBlock = some g ∨ w1.heap.size ≤ g) (hg2 : g < w2.heap.size) :
    ∃ F2, TabS (w2.setCell ⟨nb, 6, none⟩ v') B0 Ow F2 wi dvw dsw nb v' (rows ++ [xs]) ∧ Chg w1 (w2.setCell ⟨nb, 6, none⟩ v') (fun b => b = nb ∨ rv.ownBlock = some b) ∧ (∀ k, Fw k → F2 k) ∧ (∀ k, F2 k → Fw k ∨ cv.ownBlock = some k) := by
  have hnb := hT.blk.lt
  have hB : B0 ≤ w1.heap.size := by have := hT.geN; omega
  obtain ⟨_, _, _, _, hck⟩ := h.cells.form
  have hc3 : Chg w2 (w2.setCell ⟨nb, 6, none⟩ v') (fun k => k = nb) := Chg.set w2 ⟨nb, 6, none⟩ v'
  have hall : Chg w1 (w2.setCell ⟨nb, 6, none⟩ v') (fun b => b = nb ∨ rv.ownBlock = some b) := (hc2.mono (T := fun b => b = nb ∨ rv.ownBlock = some b) (fun k _ h => .inr h)).trans hc3 (fun k _ h => .inl h)
  have hgne : g ≠ nb := by
    rcases hg with e | e
    · exact (hT.rvO g e).2.2
    · omega
  have hO : ∀ k, Ow k → ¬ (k = nb ∨ rv.ownBlock = some k) := fun k hk e => e.elim (fun e => hT.nbO (e ▸ hk)) (fun e => (hT.rvO k e).1 hk)
  have hF2 : ∀ k, (Fw k ∨ cv.ownBlock = some k) → ¬ (k = nb ∨ rv.ownBlock = some k) := fun k hk e => by
    rcases hk with hk | hk
    · exact e.elim (fun e => hT.nbF (e ▸ hk)) (fun e => (hT.rvO k e).2.1 hk)
    · exact e.elim (h.cvO k hk).2.2.1 (h.cvO k hk).2.2.2.1
  have hrd := (hT.rd.more (F' := fun k => Fw k ∨ cv.ownBlock = some k) (fun k hk => .inl hk) (fun k hk => hk.elim (hT.rd.off k) (fun e => (h.cvO k e).1)) (fun k hk => hk.elim (hT.rd.ltF k) (fun e => (hck k e).2))).chg hall hO hF2
  have hrow : CellsF w1 (fun k => Fw k ∨ cv.ownBlock = some k) cv xs := h.cells.rowF Forest.stays (fun k hk => .inl hk) (fun k hk => .inr hk)
  have hbx := (hc2.holds (fun e => (hT.rvO nb e).2.2 rfl) hT.blk).set 6 v'
  refine ⟨fun k => Fw k ∨ cv.ownBlock = some k, ⟨hrd, by simpa [tabBlk] using hbx, ?_, hT.geO, fun k hk => hk.elim (hT.geF k) (fun e => (hck k e).1), hT.geN, hT.nbO, fun e => e.elim hT.nbF (fun e => (h.cvO nb e).2.2.1 rfl), fun k hk => ?_⟩, hall, fun k hk => .inl hk, fun k hk => hk⟩
  · refine BuiltF.snoc CellsF.stays hk1 hk3 (kv := cv) (CellsF.stays.go hrow hall (fun _ h => h) hF2) hall (fun k hk => .inl hk) (fun k hk => hF2 k (.inl hk)) ?_
    refine hc3.owns ho (fun k hk e => ?_)
    rw [hv] at hk
    have e2 : g = k := by simpa [Value.ownBlock] using hk
    exact hgne (e2.trans e)
  · rw [hv] at hk
    have e2 : g = k := by simpa [Value.ownBlock] using hk
    subst e2
    rcases hg with e | e
    · exact ⟨(hT.rvO g e).1, fun e3 => e3.elim (hT.rvO g e).2.1 (fun e3 => (h.cvO g e3).2.2.2.1 e), hgne⟩
    · exact ⟨fun e2 => by have := hT.rd.ltO _ e2; omega, fun e3 => e3.elim (fun e3 => by have := hT.rd.ltF _ e3; omega) (fun e3 => by have := (hck g e3).2; omega), hgne⟩
end
end Go.Bd
namespace Go.Proofs.YtcjmfjccjhdgjaaGreatDoor
open Go.RowKit Go.Bd
theorem rowF_le (x : Ln) : (rowF x).length ≤ x.text.size + 1 := by
  unfold rowF
  split
  · simp
  · split
    · simp
    · have h1 := flat_faults (fun t => (faultsOf t.data.toList).map (dgOf x.file x.no t)) (fun t => by have := faults_le t.data.toList; rw [← size_list] at this; simpa using this) (rowOf (tr x.text))
      have h2 := rowOf_sum (tr x.text)
      have h3 := tr_le x.text
      omega
theorem rowFs_le : ∀ l : List Ln, (l.flatMap rowF).length ≤ wtX l
  | [] => Nat.le_refl _
  | x :: l => by
    have h1 := rowFs_le l
    have h2 := rowF_le x
    simp only [List.flatMap_cons, List.length_append, wtX]
    omega
theorem rowT_le (x : Ln) : (rowT x).length ≤ 1 := by unfold rowT; split <;> simp
theorem rowTs_le : ∀ l : List Ln, (l.flatMap rowT).length ≤ l.length
  | [] => Nat.le_refl _
  | x :: l => by
    have h1 := rowTs_le l
    have h2 := rowT_le x
    simp only [List.flatMap_cons, List.length_append, List.length_cons]
    omega
end Go.Proofs.YtcjmfjccjhdgjaaGreatDoor
