/-
  What the chapter's laws share, part 8: plain facts, memory, and walks of functions. Its conditions: those that each theorem names.
-/
import Derived.Test.YtmldpehkacemfaaGreatDoorRows
import Derived.Test.YtmldpehkacemfaaGreatDoorChecked
import Derived.WalkKit
import Derived.Below
import Derived.ChangeSame
import Derived.ProofKit
import Derived.OpenShut
import Derived.JoinedCond
import Derived.Test.YtmldpehkacemfaaGreatDoorCards
import Derived.Test.YtmldpehkacemfaaGreatDoorTie
import Derived.Test.YtmldpehkacemfaaGreatDoorShelf
import Derived.SizedLaws
import Derived.Deep.DeepHandedRow
import Derived.Lib.LaidTab
import Derived.Lib.TrailingZeros
import Derived.Lib.ItoaNum
import Derived.Deep.Slices
import Derived.ChangeArms
import Derived.WideShapes
import Derived.Test.YtmldpehkacemfaaGreatDoorK7
set_option linter.unusedSimpArgs false
set_option linter.unusedVariables false
namespace Go.Proofs.YtmldpehkacemfaaGreatDoor
open Go.RowKit Go.WideShapes Go.ChangeShapes
section
variable {H : Type} {enc : TypeId × Value → H} {P : Program}
theorem post_kept {f : Func} {s : ChangeSpec} {apart fresh handsOn again : Bool} {W W' : World} {args : Array Value} {v : Value} {ds gs : List (DataW H)} {before pa pv : List MemPlace}
    (hW : DataW.Whole enc P f.params.toList s.vars apart W args.toList ds gs before) (hb : Below W.heap.size W W')
    (hres : ∀ (b : Nat) (sp : Nat → Bool) (hd : Bool), DataW.TrodAll enc P W' b sp hd f.resultTypes.toList (v.resultList f.resultTypes.size) (s.fn H (ds ++ gs)).results [])
    (hargs : ∀ sp : Nat → Bool, (∀ p ∈ before, sp p.block = true) → DataW.TrodAll enc P W' 0 sp true f.params.toList args.toList (s.fn H (ds ++ gs)).args pa)
    (hvars : ∀ sp : Nat → Bool, (∀ p ∈ before, sp p.block = true) → DataW.TrodVars enc P W' sp s.vars (s.fn H (ds ++ gs)).vars pv)
    (hps : before = pa ++ pv)
    (hok : ∀ (j : Nat) (t : TypeId) (r : Value), f.resultTypes[j]? = some t → (v.resultList f.resultTypes.size)[j]? = some r → Value.okWide P W' .any 0 t r) :
    s.post enc P f apart fresh handsOn again W args v W' := by
  have old : ∀ p ∈ before, p.block < W.heap.size := fun p hp => hW.lt p hp
  have here : ∀ p ∈ before, (fun b => decide (b < W.heap.size)) p.block = true := fun p hp => by simpa using old p hp
  refine ⟨ds, gs, before, [], pa, pv, hW, hres _ _ _, hargs _ here, hvars _ here, World.keptBut_mono (fun p hp => ⟨hp, ?_⟩) (hb.frame (· ∈ before)), fun _ => ?_⟩
  · rw [hps, List.mem_append] at hp
    exact Or.inr hp
  · obtain ⟨_, _, _, _, _, hz, hn⟩ := hW
    refine ⟨hok, _, _, ([] ++ pa) ++ pv, ⟨[] ++ pa, pv, trodAll_append (hargs _ (fun _ _ => rfl)) (hres _ _ _), hvars _ (fun _ _ => rfl), rfl, fun b off hp => ?_, fun ha => ?_⟩, fun p hp _ => ?_⟩
    · have hin : MemPlace.cell b off ∈ before := by rw [hps]; simpa using hp
      rw [hb.frozen (old _ hin)]
      exact hz b off hin
    · have := hn ha
      rw [hps] at this
      simpa using this
    · rw [hps]
      simpa using hp
end
section
variable {H : Type} {enc : TypeId × Value → H} {P : Program}
theorem trodAll_later (hl : laidOutB P = true) {W W' : World} {sp : Nat → Bool} (hb : Below W.heap.size W W') : ∀ {ts : List TypeId} {vs : List Value} {ds : List (DataW H)} {p : List MemPlace},
    (∀ t ∈ ts, P.readableRec t = true ∧ t < P.types.size) → DataW.TrodAll enc P W 0 (fun _ => true) true ts vs ds p → (∀ x ∈ p, x.block < W.heap.size) → (∀ x ∈ p, sp x.block = true) →
    DataW.TrodAll enc P W' 0 sp true ts vs ds p := by
  intro ts
  induction ts with
  | nil =>
    intro vs ds p _ h _ _
    obtain ⟨rfl, rfl, rfl⟩ := trodAll_nil h
    exact trodAll_mk0
  | cons t ts ih =>
    intro vs ds p hr h hlt hs
    obtain ⟨v, vs', d, ds', q, q', rfl, rfl, rfl, h0, r⟩ := trodAll_cons h
    have ht := hr t (List.mem_cons_self ..)
    exact trodAll_cons_mk (WideElems.Trod_stays hl ht.1 ht.2 h0 (fun x hx => hb.same (hlt x (List.mem_append_left _ hx))) (fun x hx => hs x (List.mem_append_left _ hx)))
      (ih (fun u hu => hr u (List.mem_cons_of_mem _ hu)) r (fun x hx => hlt x (List.mem_append_right _ hx)) (fun x hx => hs x (List.mem_append_right _ hx)))
theorem law_post {f : Func} {s : ChangeSpec} {apart fresh handsOn again : Bool} {W W' : World} {args : Array Value} {ds gs : List (DataW H)} {before : List MemPlace} {b : TypeId}
    (hW : DataW.Whole enc P f.params.toList s.vars apart W args.toList ds gs before) (hb : Below W.heap.size W W') (hl : laidOutB P = true)
    (hr : ∀ t ∈ f.params.toList, P.readableRec t = true ∧ t < P.types.size) (hv : s.vars = [])
    (hfn : s.fn H (ds ++ []) = { results := [.lit (.bool true)], args := ds }) (hres : f.resultTypes = #[b]) (hbool : P.underlying b = some .bool) :
    ∃ v, Ending.returned (.bool true) = .returned v ∧ s.post enc P f apart fresh handsOn again W args v W' := by
  have hW' := hW
  obtain ⟨p, q, hA, hV, hpq, _, _⟩ := hW
  rw [hv] at hV
  obtain ⟨rfl, rfl⟩ := trodVars_none hV
  rw [List.append_nil] at hpq
  subst hpq
  have hlt : ∀ x ∈ before, x.block < W.heap.size := fun x hx => hW'.lt x hx
  refine ⟨_, rfl, post_kept (pa := before) (pv := []) hW' hb (fun _ _ _ => ?_) (fun sp hs => ?_) (fun _ _ => ?_) (by simp) (ok_one hres rfl (okWide_bool_mk hbool _))⟩
  · rw [hfn, hres]
    exact trodAll_cons_mk (shut_bool hbool _) trodAll_mk0
  · rw [hfn]
    exact trodAll_later hl hb hr hA hlt hs
  · rw [hfn, hv]
    rfl
end
theorem laidOut : laidOutB Tryz.prog = true := by kernel_rfl
theorem own : ownKnob Tryz.prog.godebug = none := by kernel_rfl
end Go.Proofs.YtmldpehkacemfaaGreatDoor
namespace Go.Proofs.YtmldpehkacemfaaGreatDoor
open Go.RowKit Go.WideShapes Go.ChangeShapes
def putCells (h : Array Obj) (g : Nat) (cs : Array Value) : Array Obj := h.modify g fun
  | .cells _ t frozen => .cells cs t frozen
  | o => o
noncomputable def laidWorldJ0 (os : Os) : World :=
  { World.holding Tryz.prog os ⟨#[], #[], []⟩ with heap := putCells (putCells (putCells (World.holding Tryz.prog os ⟨#[], #[], []⟩).heap 0 (Lib.pow10Tab.map fun z => Value.int .u64 z).toArray) 3 (Lib.deBruijn32tab.map fun (n : Nat) => Value.int .u8 (n : Int)).toArray) 4 (Lib.deBruijn64tab.map fun (n : Nat) => Value.int .u8 (n : Int)).toArray }
noncomputable def laidWorldJ (os : Os) : World :=
  { laidWorldJ0 os with heap := putCells (putCells (((laidWorldJ0 os).heap.push (.cells #[.string ⟨#[118, 97, 108, 117, 101, 32, 111, 117, 116, 32, 111, 102, 32, 114, 97, 110, 103, 101]⟩] 169)).push (.cells #[.string ⟨#[105, 110, 118, 97, 108, 105, 100, 32, 115, 121, 110, 116, 97, 120]⟩] 169)) 2 #[.iface 167 (.pointer (some ⟨(laidWorldJ0 os).heap.size, 0, none⟩))]) 1 #[.iface 167 (.pointer (some ⟨(laidWorldJ0 os).heap.size + 1, 0, none⟩))] }
end Go.Proofs.YtmldpehkacemfaaGreatDoor
namespace Go.Bd
open Go.ChangeShapes Go.WideShapes
section
variable {H : Type} {enc : TypeId × Value → H} {P : Program} {w : World} {base : Nat} {sp : Nat → Bool} {held : Bool}
theorem take_drop_one {cs : List Value} {i : Nat} (h : i < cs.length) : (cs.drop i).take 1 = [cs[i]] := by
  rw [List.drop_eq_getElem_cons h]; rfl
theorem open_fields {e : TypeId} {fs : Array Field} {a : Addr} {cs : List Value} {fuel : Nat} {x : DataW H × List MemPlace} (he : P.underlying e = some (.struct fs)) (hc : P.cellsOf e = fs.size)
    (ho : ∀ (i : Nat) f, fs[i]? = some f → f.offset = i ∧ P.cellsOf f.type = 1) (h1 : w.cells? base a (P.cellsOf e) = some cs) (h2 : DataW.trod enc P w base sp held fuel e cs = some x) :
    ∃ (m : Nat) (V : Nat → Value) (D : Nat → DataW H × List MemPlace), x.1 = .agg ((List.range fs.size).map fun i => (D i).1) ∧ ∀ (i : Nat) f, fs[i]? = some f → w.cell? (a.add i) = some (V i) ∧ DataW.trod enc P w base sp held m f.type [V i] = some (D i) := by
  obtain ⟨_, hlen, hcell⟩ := World.cells?_some h1
  obtain ⟨xs, k, hk, hxy, hcl, hxl, hf⟩ := DataW.trod_struct he h2
  refine ⟨k, fun i => cs.getD i (.int .i64 0), fun i => xs.getD i (.nil, []), ?_, fun i f hif => ?_⟩
  · rw [hxy]
    show DataW.agg _ = _
    congr 1
    rw [Deep.map_by_index xs (.nil, []) (·.1), hxl]
  · obtain ⟨o, c⟩ := ho i f hif
    have hi : i < fs.size := (Array.getElem?_eq_some_iff.1 hif).1
    have hic : i < cs.length := by omega
    have hix : i < xs.length := by omega
    have g := hf i f hif
    rw [o, c, take_drop_one hic, List.getElem?_eq_getElem hix] at g
    have hce := hcell i (by omega)
    refine ⟨?_, ?_⟩
    · rw [hce]
      simp [List.getD, List.getElem?_eq_getElem hic]
    · simp only [List.getD, List.getElem?_eq_getElem hic, List.getElem?_eq_getElem hix, Option.getD_some]
      exact g
theorem open_addr {w : World} {a : Addr} {v : Value} (h : w.cell? (a.add 0) = some v) : ∃ b off, a = ⟨b, off, none⟩ ∧ b < w.heap.size := by
  obtain ⟨b, off, spot⟩ := a
  have e : (⟨b, off, spot⟩ : Addr).add 0 = ⟨b, off, spot⟩ := by simp [Addr.add]
  rw [e] at h
  refine ⟨b, off, ?_, World.block_lt_of_cell? w _ h⟩
  cases spot with
  | none => rfl
  | some s =>
    exfalso
    simp only [World.cell?] at h
    split at h <;> simp at h
end
end Go.Bd
namespace Go.Proofs.YtmldpehkacemfaaGreatDoor
open Go.ChangeShapes Go.WideShapes Go.RowKit Go.Bd
theorem bulk_sum {H : Type} {α : Type} {s : α → Nat} {D : α → DataW H} : ∀ {r : List α}, (∀ i ∈ r, s i ≤ Rows.uptoBulk (D i)) → (r.map s).sum ≤ Rows.uptoBulkAll (r.map D)
  | [], _ => Nat.le_refl _
  | i :: r, h => by
    have h1 := h i (List.mem_cons_self ..)
    have h2 := bulk_sum (r := r) fun j hj => h j (List.mem_cons_of_mem _ hj)
    simp only [List.map_cons, List.sum_cons, Rows.uptoBulkAll]
    omega
theorem sum_len {α : Type} (f : α → Nat) : ∀ l : List α, (l.map fun x => 1 + f x).sum = l.length + (l.map f).sum
  | [] => rfl
  | a :: l => by
    have := sum_len f l
    simp only [List.map_cons, List.sum_cons, List.length_cons]
    omega
section
variable {H : Type} {enc : TypeId × Value → H} {w : World} {sp : Nat → Bool} {held : Bool}
set_option maxRecDepth 100000 in
theorem open_texts_cells {fuel : Nat} {cs : List Value} {x : DataW H × List MemPlace} (h : DataW.trod enc Tryz.prog w 0 sp held fuel 40 cs = some x) :
    ∃ v l, cs = [v] ∧ TextsS w (fun k => k < w.heap.size) v l ∧ textsZ l + 1 ≤ Rows.uptoBulk x.1 := by
  rcases Deep.open_slice (e := 9) Tryz.underlying40 h with ⟨rfl, rfl⟩ | ⟨a, len, cap, m, n, D, Pl, rfl, _, hl, _, hmm, rfl, hx⟩
  · exact ⟨_, [], rfl, TextsS.none _ _, by simp [textsZ, Rows.uptoBulk]⟩
  · have hlm : len ≤ m := by rw [hmm]; split <;> omega
    have hc1 : Tryz.prog.cellsOf 9 = 1 := by kernel_rfl
    have each : ∀ i, i < len → ∃ s : ByteArray, w.cell? (a.add i) = some (.string s) ∧ 1 + s.size ≤ Rows.uptoBulk (D i) := by
      intro i hi
      obtain ⟨cs', h1, h2⟩ := hx i (by omega)
      rw [hc1, Nat.mul_one] at h1
      obtain ⟨s, e0, d0, _⟩ := DataW.trod_string Tryz.underlying9 h2
      subst e0
      have h3 := h1
      simp [World.cells?] at h3
      have hns : s.data.toList.length = s.size := Array.length_toList
      refine ⟨s, ?_, by rw [show D i = _ from congrArg Prod.fst d0]; simp only [Rows.uptoBulk]; omega⟩
      rw [Deep.add_add, Nat.add_zero] at h3
      cases hc : w.cell? (a.add i) with
      | none => rw [hc] at h3; simp at h3
      | some u => rw [hc] at h3; simpa using h3
    haveI : Inhabited ByteArray := ⟨⟨#[]⟩⟩
    obtain ⟨S, hS⟩ := Deep.choose_lt each
    refine ⟨_, (List.range len).map S, rfl, ⟨some a, cap, by simp, by simpa using hl, fun j s hj => ?_⟩, ?_⟩
    · have hjl : j < len := by have := (List.getElem?_eq_some_iff.1 hj).1; simpa using this
      rw [List.getElem?_map, List.getElem?_range hjl] at hj
      simp only [Option.map_some, Option.some.injEq] at hj
      subst hj
      obtain ⟨b, off, rfl, hb⟩ := open_addr (v := .string (S 0)) (by have := (hS 0 (by omega)).1; exact this)
      have hc := (hS j hjl).1
      rw [Addr.add_lit] at hc
      exact ⟨b, off, rfl, hb, hc⟩
    · have h1 := bulk_sum (s := fun i => 1 + (S i).size) (D := D) (r := List.range len) fun i hi => (hS i (List.mem_range.1 hi)).2
      simp only [Rows.uptoBulk]
      rw [sum_len] at h1
      unfold textsZ
      rw [List.map_map, List.length_map]
      show _ + (List.map (fun i => (S i).size) (List.range len)).sum + 1 ≤ _
      omega
set_option maxRecDepth 100000 in
theorem open_files_cells {fuel : Nat} {cs : List Value} {x : DataW H × List MemPlace} (h : DataW.trod enc Tryz.prog w 0 sp held fuel 39 cs = some x) :
    ∃ v l, cs = [v] ∧ FilesS w (fun k => k < w.heap.size) v l ∧ filesZ l + 1 ≤ Rows.uptoBulk x.1 := by
  rcases Deep.open_slice (e := 50) Tryz.underlying39 h with ⟨rfl, rfl⟩ | ⟨a, len, cap, m, n, D, Pl, rfl, _, hl, _, hmm, rfl, hx⟩
  · exact ⟨_, [], rfl, FilesS.none _ _, by simp [filesZ, Rows.uptoBulk]⟩
  · have hlm : len ≤ m := by rw [hmm]; split <;> omega
    have hc2 : Tryz.prog.cellsOf 50 = 2 := by kernel_rfl
    have each : ∀ i, i < len → ∃ q : ByteArray × Bs, w.cell? (a.add (i * 2)) = some (.string q.1) ∧ w.cell? (a.add (i * 2 + 1)) = some (.string ⟨q.2.toArray⟩) ∧ 1 + (q.1.size + q.2.length) ≤ Rows.uptoBulk (D i) := by
      intro i hi
      obtain ⟨cs', h1, h2⟩ := hx i (by omega)
      rw [hc2] at h1
      obtain ⟨k, V, DD, hag, hf⟩ := open_fields Tryz.underlying50 (by rw [hc2]; rfl) (fun i f hif => by
        have hi' : i < 2 := (Array.getElem?_eq_some_iff.1 hif).1
        match i, hi' with
        | 0, _ => obtain rfl := Option.some.inj hif; exact ⟨rfl, by kernel_rfl⟩
        | 1, _ => obtain rfl := Option.some.inj hif; exact ⟨rfl, by kernel_rfl⟩) (by rw [hc2]; exact h1) h2
      obtain ⟨c0, g0⟩ := hf 0 _ rfl
      obtain ⟨c1, g1⟩ := hf 1 _ rfl
      obtain ⟨s0, e0, d0, _⟩ := DataW.trod_string Tryz.underlying9 g0
      obtain ⟨s1, e1, d1, _⟩ := DataW.trod_string Tryz.underlying9 g1
      simp only [List.cons.injEq, and_true] at e0 e1
      have hsum : Rows.uptoBulk (D i) = 1 + (Rows.uptoBulk (DD 0).1 + Rows.uptoBulk (DD 1).1) := by
        have hag' : D i = .agg [(DD 0).1, (DD 1).1] := hag
        rw [hag']
        simp only [Rows.uptoBulk, Rows.uptoBulkAll]
        omega
      rw [d0, d1] at hsum
      simp only [Rows.uptoBulk] at hsum
      have hn0 : s0.data.toList.length = s0.size := Array.length_toList
      refine ⟨(s0, s1.data.toList), ?_, ?_, by simp only; omega⟩
      · rw [e0, Deep.add_add, Nat.add_zero] at c0; exact c0
      · rw [e1, Deep.add_add] at c1; simpa using c1
    haveI : Inhabited (ByteArray × Bs) := ⟨(⟨#[]⟩, [])⟩
    obtain ⟨S, hS⟩ := Deep.choose_lt each
    refine ⟨_, (List.range len).map S, rfl, ⟨some a, cap, by simp, by simpa using hl, fun j s hj => ?_⟩, ?_⟩
    · have hjl : j < len := by have := (List.getElem?_eq_some_iff.1 hj).1; simpa using this
      rw [List.getElem?_map, List.getElem?_range hjl] at hj
      simp only [Option.map_some, Option.some.injEq] at hj
      subst hj
      obtain ⟨b, off, rfl, hb⟩ := open_addr (v := .string (S 0).1) (by have := (hS 0 (by omega)).1; rwa [Nat.zero_mul] at this)
      have hc := (hS j hjl).1
      have hd := (hS j hjl).2.1
      rw [Addr.add_lit] at hc hd
      exact ⟨b, off, rfl, hb, hc, hd⟩
    · have h1 := bulk_sum (s := fun i => 1 + ((S i).1.size + (S i).2.length)) (D := D) (r := List.range len) fun i hi => (hS i (List.mem_range.1 hi)).2.2
      simp only [Rows.uptoBulk]
      rw [sum_len] at h1
      unfold filesZ
      rw [List.map_map, List.length_map]
      show _ + (List.map (fun i => (S i).1.size + (S i).2.length) (List.range len)).sum + 1 ≤ _
      omega
set_option maxRecDepth 100000 in
theorem open_acts_cells {fuel : Nat} {cs : List Value} {x : DataW H × List MemPlace} (h : DataW.trod enc Tryz.prog w 0 sp held fuel 22 cs = some x) :
    ∃ v l, cs = [v] ∧ ActsS w (fun k => k < w.heap.size) v l ∧ 2 * l.length + actsZ l + 1 ≤ Rows.uptoBulk x.1 := by
  rcases Deep.open_slice (e := 42) Tryz.underlying22 h with ⟨rfl, rfl⟩ | ⟨a, len, cap, m, n, D, Pl, rfl, _, hl, _, hmm, rfl, hx⟩
  · exact ⟨_, [], rfl, ⟨_, 0, rfl, Nat.le_refl _, fun j s h => by simp at h⟩, by simp [actsZ, Rows.uptoBulk]⟩
  · have hlm : len ≤ m := by rw [hmm]; split <;> omega
    have hc2 : Tryz.prog.cellsOf 42 = 2 := by kernel_rfl
    have each : ∀ i, i < len → ∃ q : ActJ × Value × Value, w.cell? (a.add (i * 2)) = some q.2.1 ∧ w.cell? (a.add (i * 2 + 1)) = some q.2.2 ∧ FilesS w (fun k => k < w.heap.size) q.2.1 q.1.wr ∧ TextsS w (fun k => k < w.heap.size) q.2.2 q.1.rm ∧ 2 + (1 + filesZ q.1.wr + textsZ q.1.rm) ≤ Rows.uptoBulk (D i) := by
      intro i hi
      obtain ⟨cs', h1, h2⟩ := hx i (by omega)
      rw [hc2] at h1
      obtain ⟨k, V, DD, hag, hf⟩ := open_fields Tryz.underlying42 (by rw [hc2]; rfl) (fun i f hif => by
        have hi' : i < 2 := (Array.getElem?_eq_some_iff.1 hif).1
        match i, hi' with
        | 0, _ => obtain rfl := Option.some.inj hif; exact ⟨rfl, by kernel_rfl⟩
        | 1, _ => obtain rfl := Option.some.inj hif; exact ⟨rfl, by kernel_rfl⟩) (by rw [hc2]; exact h1) h2
      obtain ⟨c0, g0⟩ := hf 0 _ rfl
      obtain ⟨c1, g1⟩ := hf 1 _ rfl
      obtain ⟨v0, l0, e0, f0, b0⟩ := open_files_cells g0
      obtain ⟨v1, l1, e1, f1, b1⟩ := open_texts_cells g1
      simp only [List.cons.injEq, and_true] at e0 e1
      have hsum : Rows.uptoBulk (D i) = 1 + (Rows.uptoBulk (DD 0).1 + Rows.uptoBulk (DD 1).1) := by
        have hag' : D i = .agg [(DD 0).1, (DD 1).1] := hag
        rw [hag']
        simp only [Rows.uptoBulk, Rows.uptoBulkAll]
        omega
      refine ⟨(⟨l0, l1⟩, v0, v1), ?_, ?_, f0, f1, by simp only; omega⟩
      · rw [e0, Deep.add_add, Nat.add_zero] at c0; exact c0
      · rw [e1, Deep.add_add] at c1; exact c1
    haveI : Inhabited (ActJ × Value × Value) := ⟨(⟨[], []⟩, .slice none 0 0, .slice none 0 0)⟩
    obtain ⟨S, hS⟩ := Deep.choose_lt each
    refine ⟨_, (List.range len).map (fun i => (S i).1), rfl, ⟨some a, cap, by simp, by simpa using hl, fun j s hj => ?_⟩, ?_⟩
    · have hjl : j < len := by have := (List.getElem?_eq_some_iff.1 hj).1; simpa using this
      rw [List.getElem?_map, List.getElem?_range hjl] at hj
      simp only [Option.map_some, Option.some.injEq] at hj
      subst hj
      obtain ⟨b, off, rfl, hb⟩ := open_addr (v := (S 0).2.1) (by have := (hS 0 (by omega)).1; rwa [Nat.zero_mul] at this)
      obtain ⟨hc, hd, hF, hT, _⟩ := hS j hjl
      rw [Addr.add_lit] at hc hd
      exact ⟨b, off, _, _, rfl, hb, hc, hd, hF, hT⟩
    · have h1 := bulk_sum (s := fun i => 2 + (1 + filesZ (S i).1.wr + textsZ (S i).1.rm)) (D := D) (r := List.range len) fun i hi => (hS i (List.mem_range.1 hi)).2.2.2.2
      have h2 : ∀ r : List Nat, (r.map fun i => 2 + (1 + filesZ (S i).1.wr + textsZ (S i).1.rm)).sum = 2 * r.length + (r.map fun i => 1 + filesZ (S i).1.wr + textsZ (S i).1.rm).sum := fun r => by
        induction r with
        | nil => rfl
        | cons a r ih => simp only [List.map_cons, List.sum_cons, List.length_cons]; omega
      simp only [Rows.uptoBulk]
      rw [h2] at h1
      unfold actsZ
      rw [List.map_map, List.length_map]
      show _ + (List.map (fun i => 1 + filesZ (S i).1.wr + textsZ (S i).1.rm) (List.range len)).sum + 1 ≤ _
      omega
end
set_option maxRecDepth 100000 in
theorem open_life {H : Type} {enc : TypeId × Value → H} {W : World} {base : Nat} {sp : Nat → Bool} {hd : Bool} {v : Value} {d : DataW H} {p : List MemPlace}
    (hv : Value.okWide Tryz.prog W .any base 25 v) (h : DataW.Trod enc Tryz.prog W 0 sp hd 25 v d p) :
    ∃ av l, ∃ a b : Nat, v = .agg #[av, .int .u16 (a : Int), .int .u16 (b : Int)] ∧ ActsS W (fun k => k < W.heap.size) av l ∧ a < 65536 ∧ b < 65536 ∧ 2 * l.length + actsZ l + 1 ≤ Rows.uptoBulk d := by
  obtain ⟨cs, rfl, hsz⟩ := okWide_struct Tryz.underlying25 hv
  have hc3 : Tryz.prog.cellsOf 25 = 3 := by kernel_rfl
  have hcA : Tryz.prog.cellsOf 22 = 1 := by kernel_rfl
  have hcU : Tryz.prog.cellsOf 23 = 1 := by kernel_rfl
  rw [hc3] at hsz
  obtain ⟨fuel, hf⟩ := h
  obtain ⟨xs, k, _, hxy, _, hxl, hi⟩ := DataW.trod_struct Tryz.underlying25 hf
  obtain ⟨l, rfl⟩ : ∃ l : List Value, cs = l.toArray := ⟨cs.toList, by simp⟩
  match l, hsz with
  | [c0, c1, c2], _ =>
    match xs, hxl with
    | [x0, x1, x2], _ =>
      have i0 : DataW.trod enc Tryz.prog W 0 sp hd k 22 (([c0, c1, c2].drop 0).take (Tryz.prog.cellsOf 22)) = some x0 := hi 0 _ rfl
      have i1 : DataW.trod enc Tryz.prog W 0 sp hd k 23 (([c0, c1, c2].drop 1).take (Tryz.prog.cellsOf 23)) = some x1 := hi 1 _ rfl
      have i2 : DataW.trod enc Tryz.prog W 0 sp hd k 23 (([c0, c1, c2].drop 2).take (Tryz.prog.cellsOf 23)) = some x2 := hi 2 _ rfl
      rw [hcA] at i0
      rw [hcU] at i1 i2
      obtain ⟨av, l, e0, hA, hb⟩ := open_acts_cells i0
      obtain ⟨z1, e1, y1, w1⟩ := DataW.trod_int Tryz.underlying23 i1
      obtain ⟨z2, e2, y2, w2⟩ := DataW.trod_int Tryz.underlying23 i2
      have q1 : 0 ≤ z1 ∧ z1 ≤ 65535 := by simpa [Lit.wf, IntKind.min, IntKind.max, IntKind.signed, IntKind.bits] using w1
      have q2 : 0 ≤ z2 ∧ z2 ≤ 65535 := by simpa [Lit.wf, IntKind.min, IntKind.max, IntKind.signed, IntKind.bits] using w2
      simp [Value.cells] at e0 e1 e2
      subst e0 e1 e2
      obtain ⟨n1, rfl⟩ : ∃ n : Nat, z1 = n := ⟨z1.toNat, by omega⟩
      obtain ⟨n2, rfl⟩ : ∃ n : Nat, z2 = n := ⟨z2.toNat, by omega⟩
      refine ⟨c0, l, n1, n2, rfl, hA, by omega, by omega, ?_⟩
      have hd' : d = .agg [x0.1, x1.1, x2.1] := congrArg Prod.fst hxy
      rw [hd']
      simp only [Rows.uptoBulk, Rows.uptoBulkAll]
      omega
end Go.Proofs.YtmldpehkacemfaaGreatDoor
