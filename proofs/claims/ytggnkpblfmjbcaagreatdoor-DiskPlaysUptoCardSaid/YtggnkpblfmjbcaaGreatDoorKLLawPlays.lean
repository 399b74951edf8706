/-
  The law DiskPlays: for every input it answers true, and the input reads as it did: the row, and its card. Its conditions: those of the given row alone.
-/
import Derived.Deep.Slices
import Derived.ChangeArms
import Derived.WideShapes
import Derived.Test.YtggnkpblfmjbcaaGreatDoorRows
import Derived.Test.YtggnkpblfmjbcaaGreatDoorChecked
import Derived.Test.YtggnkpblfmjbcaaGreatDoorK9
set_option linter.unusedSimpArgs false
set_option linter.unusedVariables false
namespace Go.Bd
open Go.ChangeShapes Go.WideShapes
section
variable {H : Type} {enc : TypeId × Value → H} {P : Program} {w : World} {base : Nat} {sp : Nat → Bool} {held : Bool}
theorem take_drop_one {cs : List Value} {i : Nat} (h : i < cs.length) : (cs.drop i).take 1 = [cs[i]] := by
  rw [List.drop_eq_getElem_cons h]; rfl
theorem open_fields {e : TypeId} {fs : Array Field} {a : Addr} {cs : List Value} {fuel : Nat} {x : DataW H × List MemPlace} (he : P.underlying e = some (.struct fs)) (hc : P.cellsOf e = fs.size)
    (ho : ∀ (i : Nat) f, fs[i]? = some f → f.offset = i ∧ P.cellsOf f.type = 1) (h1 : w.cells? base a (P.cellsOf e) = some cs) (h2 : DataW.trod enc P w base sp held fuel e cs = some x) :
    ∃ (m : Nat) (V : Nat → Value) (D : Nat → DataW H × List MemPlace), x.1 = .agg ((List.range fs.size).map fun i => (D i).1) ∧ ∀ (i : Nat) f, fs[i]? = some f → w.cell? (a.add i) = some (V i) ∧ DataW.trod enc P w base sp held m f.type [V i] = some (D i) := by
  obtain ⟨_, hlen, hcell⟩ := World.cells?_some h1
  obtain ⟨xs, k, hk, hxy, hcl, hxl, hf⟩ := DataW.trod_struct he h2
  refine ⟨k, fun i => cs.getD i (.int .i64 0), fun i => xs.getD i (.nil, []), ?_, fun i f hif => ?_⟩
  · rw [hxy]
    show DataW.agg _ = _
    congr 1
    rw [Deep.map_by_index xs (.nil, []) (·.1), hxl]
  · obtain ⟨o, c⟩ := ho i f hif
    have hi : i < fs.size := (Array.getElem?_eq_some_iff.1 hif).1
    have hic : i < cs.length := by omega
    have hix : i < xs.length := by omega
    have g := hf i f hif
    rw [o, c, take_drop_one hic, List.getElem?_eq_getElem hix] at g
    have hce := hcell i (by omega)
    refine ⟨?_, ?_⟩
    · rw [hce]
      simp [List.getD, List.getElem?_eq_getElem hic]
    · simp only [List.getD, List.getElem?_eq_getElem hic, List.getElem?_eq_getElem hix, Option.getD_some]
      exact g
theorem open_addr {w : World} {a : Addr} {v : Value} (h : w.cell? (a.add 0) = some v) : ∃ b off, a = ⟨b, off, none⟩ ∧ b < w.heap.size := by
  obtain ⟨b, off, spot⟩ := a
  have e : (⟨b, off, spot⟩ : Addr).add 0 = ⟨b, off, spot⟩ := by simp [Addr.add]
  rw [e] at h
  refine ⟨b, off, ?_, World.block_lt_of_cell? w _ h⟩
  cases spot with
  | none => rfl
  | some s =>
    exfalso
    simp only [World.cell?] at h
    split at h <;> simp at h
end
end Go.Bd
namespace Go.Proofs.YtggnkpblfmjbcaaGreatDoor
open Go.ChangeShapes Go.WideShapes Go.RowKit Go.Bd
theorem bulk_pos {H : Type} (d : DataW H) : 1 ≤ Rows.uptoBulk d := by
  cases d with
  | lit l => cases l <;> simp [Rows.uptoBulk]
  | _ => simp [Rows.uptoBulk]
theorem bulk_sum {H : Type} {α : Type} {s : α → Nat} {D : α → DataW H} : ∀ {r : List α}, (∀ i ∈ r, s i ≤ Rows.uptoBulk (D i)) → (r.map s).sum ≤ Rows.uptoBulkAll (r.map D)
  | [], _ => Nat.le_refl _
  | i :: r, h => by
    have h1 := h i (List.mem_cons_self ..)
    have h2 := bulk_sum (r := r) fun j hj => h j (List.mem_cons_of_mem _ hj)
    simp only [List.map_cons, List.sum_cons, Rows.uptoBulkAll]
    omega
theorem bulk_len {H : Type} {α : Type} (D : α → DataW H) : ∀ r : List α, r.length ≤ Rows.uptoBulkAll (r.map D)
  | [] => Nat.le_refl _
  | i :: r => by
    have h1 := bulk_pos (D i)
    have h2 := bulk_len D r
    simp only [List.map_cons, List.length_cons, Rows.uptoBulkAll]
    omega
section
variable {H : Type} {enc : TypeId × Value → H} {w : World} {sp : Nat → Bool} {held : Bool}
set_option maxRecDepth 100000 in
theorem open_bytes_cells {fuel : Nat} {cs : List Value} {x : DataW H × List MemPlace} (h : DataW.trod enc Tryz.prog w 0 sp held fuel 55 cs = some x) :
    ∃ v l, cs = [v] ∧ BytesR w w.heap.size v l ∧ l.length + 1 ≤ Rows.uptoBulk x.1 := by
  rcases Deep.open_slice (e := 5) Tryz.underlying55 h with ⟨rfl, rfl⟩ | ⟨a, len, cap, m, n, D, Pl, rfl, _, hl, _, hmm, rfl, hx⟩
  · exact ⟨_, [], rfl, Rd.nil _ _, by simp [Rows.uptoBulk]⟩
  · have hlm : len ≤ m := by rw [hmm]; split <;> omega
    have hc1 : Tryz.prog.cellsOf 5 = 1 := by kernel_rfl
    have each : ∀ i, i < len → ∃ q : UInt8, w.cell? (a.add i) = some (.int .u8 (q.toNat : Int)) := by
      intro i hi
      obtain ⟨cs', h1, h2⟩ := hx i (by omega)
      rw [hc1, Nat.mul_one] at h1
      obtain ⟨z, e0, d0, w0⟩ := DataW.trod_int Tryz.underlying5 h2
      have hz : 0 ≤ z ∧ z ≤ 255 := by simpa [Lit.wf, IntKind.min, IntKind.max, IntKind.signed, IntKind.bits] using w0
      refine ⟨UInt8.ofNat z.toNat, ?_⟩
      subst e0
      have h3 := h1
      simp [World.cells?] at h3
      have e2 : ((UInt8.ofNat z.toNat).toNat : Int) = z := by
        rw [UInt8.toNat_ofNat']
        omega
      rw [e2]
      rw [Deep.add_add, Nat.add_zero] at h3
      cases hc : w.cell? (a.add i) with
      | none => rw [hc] at h3; simp at h3
      | some u => rw [hc] at h3; simpa using h3
    obtain ⟨S, hS⟩ := Deep.choose_lt each
    refine ⟨_, (List.range len).map S, rfl, ⟨some a, cap, by rw [u8L_length]; simp, by rw [u8L_length]; simpa using hl, fun hn => ?_⟩, ?_⟩
    · rw [u8L_length] at hn
      have h0 : 0 < len := by simpa using hn
      obtain ⟨b, off, rfl, hb⟩ := open_addr (hS 0 h0)
      refine ⟨b, off, rfl, hb, fun j u hu => ?_⟩
      have hj : j < len := by have := (List.getElem?_eq_some_iff.1 hu).1; rw [u8L_length] at this; simpa using this
      unfold u8L at hu
      rw [List.map_map, List.getElem?_map, List.getElem?_range hj] at hu
      simp only [Option.map_some, Option.some.injEq, Function.comp] at hu
      subst hu
      have hc := hS j hj
      rwa [Addr.add_lit] at hc
    · have h1 := bulk_len D (List.range len)
      simp only [Rows.uptoBulk]
      rw [List.length_range] at h1
      rw [List.length_map, List.length_range]
      omega
end
end Go.Proofs.YtggnkpblfmjbcaaGreatDoor
namespace Go.Proofs.YtggnkpblfmjbcaaGreatDoor
open Go.ChangeShapes Go.WideShapes Go.RowKit Go.Bd
set_option maxRecDepth 100000 in
theorem open_acts {H : Type} {enc : TypeId × Value → H} {w : World} {base : Nat} {sp : Nat → Bool} {held : Bool} {v : Value} {d : DataW H} {p : List MemPlace}
    (hv : Value.okWide Tryz.prog w .any base 22 v) (h : DataW.Trod enc Tryz.prog w 0 sp held 22 v d p) :
    ∃ l, ActsAt w w.heap.size v l ∧ weigh l + 1 ≤ Rows.uptoBulk d := by
  obtain ⟨A0, l0, c0, rfl⟩ := okWide_slice Tryz.underlying22 hv
  obtain ⟨fuel, hf⟩ := h
  suffices hgoal : ∀ {cs : List Value} {x : DataW H × List MemPlace}, DataW.trod enc Tryz.prog w 0 sp held fuel 22 cs = some x → ∃ v l, cs = [v] ∧ ActsAt w w.heap.size v l ∧ weigh l + 1 ≤ Rows.uptoBulk x.1 by
    obtain ⟨v, ls, h1, h2, h3⟩ := hgoal hf
    simp only [Value.cells, List.cons.injEq, and_true] at h1
    subst h1
    exact ⟨ls, h2, h3⟩
  clear hf
  intro cs x h
  rcases Deep.open_slice (e := 57) Tryz.underlying22 h with ⟨rfl, rfl⟩ | ⟨a, len, cap, m, n, D, Pl, rfl, _, hl, _, hmm, rfl, hx⟩
  · exact ⟨_, [], rfl, ⟨none, 0, [], rfl, Nat.le_refl _, rfl, fun h => absurd rfl h, fun j x bv h => by simp at h⟩, by simp [weigh, Rows.uptoBulk]⟩
  · have hlm : len ≤ m := by rw [hmm]; split <;> omega
    have hc4 : Tryz.prog.cellsOf 57 = 4 := by kernel_rfl
    have each : ∀ i, i < len → ∃ q : Ac × Value, (∀ (j : Nat) u, (acCells q.1 q.2)[j]? = some u → w.cell? ((a.add (i * 4)).add j) = some u) ∧ BytesR w w.heap.size q.2 q.1.b ∧ 1 + q.1.b.length + q.1.name.size ≤ Rows.uptoBulk (D i) := by
      intro i hi
      obtain ⟨cs', h1, h2⟩ := hx i (by omega)
      rw [hc4] at h1
      obtain ⟨k, V, DD, hag, hf⟩ := open_fields Tryz.underlying57 (by rw [hc4]; rfl) (fun i f hif => by
        have hi' : i < 4 := (Array.getElem?_eq_some_iff.1 hif).1
        match i, hi' with
        | 0, _ => obtain rfl := Option.some.inj hif; exact ⟨rfl, by kernel_rfl⟩
        | 1, _ => obtain rfl := Option.some.inj hif; exact ⟨rfl, by kernel_rfl⟩
        | 2, _ => obtain rfl := Option.some.inj hif; exact ⟨rfl, by kernel_rfl⟩
        | 3, _ => obtain rfl := Option.some.inj hif; exact ⟨rfl, by kernel_rfl⟩) (by rw [hc4]; exact h1) h2
      obtain ⟨c0, g0⟩ := hf 0 _ rfl
      obtain ⟨c1, g1⟩ := hf 1 _ rfl
      obtain ⟨c2, g2⟩ := hf 2 _ rfl
      obtain ⟨c3, g3⟩ := hf 3 _ rfl
      obtain ⟨z, e0, d0, w0⟩ := DataW.trod_int Tryz.underlying5 g0
      obtain ⟨s1, e1, d1, _⟩ := DataW.trod_string Tryz.underlying9 g1
      obtain ⟨bv, bs, e2, hR, hbz⟩ := open_bytes_cells g2
      obtain ⟨z3, e3, d3, w3⟩ := DataW.trod_int Tryz.underlying3 g3
      simp only [List.cons.injEq, and_true] at e0 e1 e2 e3
      have hsum : Rows.uptoBulk (D i) = 1 + (Rows.uptoBulk (DD 0).1 + (Rows.uptoBulk (DD 1).1 + (Rows.uptoBulk (DD 2).1 + Rows.uptoBulk (DD 3).1))) := by
        have hag' : D i = .agg [(DD 0).1, (DD 1).1, (DD 2).1, (DD 3).1] := hag
        rw [hag']
        simp only [Rows.uptoBulk, Rows.uptoBulkAll]
        omega
      have hz : 0 ≤ z := by have : 0 ≤ z ∧ z ≤ 255 := by simpa [Lit.wf, IntKind.min, IntKind.max, IntKind.signed, IntKind.bits] using w0
                            exact this.1
      rw [d0, d1, d3] at hsum
      simp only [Rows.uptoBulk] at hsum
      have hns : s1.data.toList.length = s1.size := Array.length_toList
      refine ⟨(⟨z.toNat, s1, bs, z3⟩, bv), fun j u hu => ?_, hR, ?_⟩
      · match j, hu with
        | 0, hu => simp only [acCells, List.getElem?_cons_zero, Option.some.injEq] at hu; rw [← hu, c0, e0, Int.toNat_of_nonneg hz]
        | 1, hu => simp only [acCells, List.getElem?_cons_succ, List.getElem?_cons_zero, Option.some.injEq] at hu; rw [← hu, c1, e1]
        | 2, hu => simp only [acCells, List.getElem?_cons_succ, List.getElem?_cons_zero, Option.some.injEq] at hu; rw [← hu, c2, e2]
        | 3, hu => simp only [acCells, List.getElem?_cons_succ, List.getElem?_cons_zero, Option.some.injEq] at hu; rw [← hu, c3, e3]
        | j + 4, hu => simp [acCells] at hu
      · show 1 + bs.length + s1.size ≤ _
        omega
    haveI : Inhabited (Ac × Value) := ⟨(⟨0, ⟨#[]⟩, [], 0⟩, .slice none 0 0)⟩
    obtain ⟨S, hS⟩ := Deep.choose_lt each
    have hlen : ((List.range len).map fun i => (S i).1).length = len := by simp
    have get : ∀ {j : Nat} {x : Ac} {bv : Value}, ((List.range len).map fun i => (S i).1)[j]? = some x → ((List.range len).map fun i => (S i).2)[j]? = some bv → j < len ∧ x = (S j).1 ∧ bv = (S j).2 := by
      intro j x bv h1 h2
      have hj : j < len := by have := (List.getElem?_eq_some_iff.1 h1).1; simpa using this
      rw [List.getElem?_map, List.getElem?_range hj] at h1 h2
      simp only [Option.map_some, Option.some.injEq] at h1 h2
      exact ⟨hj, h1.symm, h2.symm⟩
    refine ⟨_, (List.range len).map fun i => (S i).1, rfl, ⟨some a, cap, (List.range len).map fun i => (S i).2, by rw [hlen], by rw [hlen]; exact hl, by simp, fun hn => ?_, fun j x bv h1 h2 => ?_⟩, ?_⟩
    · have h0 : 0 < len := by
        rcases Nat.eq_zero_or_pos len with h | h
        · subst h; exact absurd rfl hn
        · exact h
      have := (hS 0 h0).1 0 _ rfl
      rw [Nat.zero_mul, Deep.add_add] at this
      obtain ⟨b, off, rfl, hb⟩ := open_addr this
      refine ⟨b, off, rfl, hb, fun j x bv h1 h2 i u hu => ?_⟩
      obtain ⟨hj, rfl, rfl⟩ := get h1 h2
      have hc := (hS j hj).1 i u hu
      rw [Deep.add_add, Addr.add_lit] at hc
      rw [Nat.add_assoc]; exact hc
    · obtain ⟨hj, rfl, rfl⟩ := get h1 h2
      exact (hS j hj).2.1
    · have h1 := bulk_sum (s := fun i => 1 + (S i).1.b.length + (S i).1.name.size) (D := D) (r := List.range len) fun i hi => (hS i (List.mem_range.1 hi)).2.2
      simp only [Rows.uptoBulk]
      unfold weigh
      rw [List.map_map]
      show (List.map (fun i => 1 + (S i).1.b.length + (S i).1.name.size) (List.range len)).sum + 1 ≤ _
      omega
end Go.Proofs.YtggnkpblfmjbcaaGreatDoor
namespace Go.Proofs.YtggnkpblfmjbcaaGreatDoor.diskPlays
open Go.ChangeShapes Go.WideShapes Go.ChangeAt Go.RowKit Go.Bd Go.WideMaps Go.WideElems
open Go.ChangeMaps (open_string shut_string)
set_option maxRecDepth 100000 in
theorem contract (H : Type) (enc : TypeId × Value → H) (W : World) (base : Nat) (args : Array Value) (ds gs : List (DataW H)) (before : List MemPlace)
    (hval : ∀ (j : Nat) t v, Tryz.f3.params[j]? = some t → args[j]? = some v → Value.okWide Tryz.prog W .any base t v)
    (hW : DataW.Whole enc Tryz.prog Tryz.f3.params.toList Rows.diskPlaysSpec.vars false W args.toList ds gs before) (hsh : W.ShapedOpen Tryz.prog)
    (hsz : (DataW.weightsEach Tryz.prog (Tryz.f3.params.toList ++ (OpenSpec.ofChange Rows.diskPlaysSpec).bare.plain.varTypes Tryz.prog) (ds ++ gs)).all (· ≤ reachBytes) = true) (hk : Rows.uptoSmall H (ds ++ gs) = true) (ht : Tab W) :
    Calls Tryz.prog 3 args W fun e W' => ∃ v, e = .returned v ∧ Rows.diskPlaysSpec.post enc Tryz.prog Tryz.f3 false true false false W args v W' := by
  have hW' := hW
  obtain ⟨p, q, hA0, hV, rfl, hfz, hnd⟩ := hW
  have hA : DataW.TrodAll enc Tryz.prog W 0 (fun _ => true) true Tryz.f3.params.toList args.toList ds p := hA0
  rw [Tryz.params3] at hA hval hsz
  obtain ⟨v0, vs0, d0, ds0, p0, q0, hargs, rfl, rfl, h0, r0⟩ := trodAll_cons hA
  obtain ⟨v1, vs1, d1, ds1, p1, q1, rfl, rfl, rfl, h1, r1⟩ := trodAll_cons r0
  obtain ⟨rfl, rfl, rfl⟩ := trodAll_nil r1
  obtain rfl : args = #[v0, v1] := by cases args; simp_all
  obtain ⟨rfl, rfl⟩ := trodVars_none hV
  have hk' := of_decide_eq_true hk
  simp only [List.append_nil, Rows.uptoBulkAll] at hk'
  obtain ⟨x0, rfl, rfl, rfl, wx0⟩ := open_int Tryz.underlying3 (hval 0 3 v0 rfl rfl) h0
  obtain ⟨l1, hF1, zz1⟩ := open_acts (hval 1 22 v1 rfl rfl) h1
  refine (diskPlays_core x0 v1 l1 W ht wx0 hF1 (by omega)).mono fun e W' ⟨he, hg⟩ => ?_
  subst he
  exact law_post hW' hg laidOut (by rw [Tryz.params3]; intro t ht; simp at ht; rcases ht with rfl | rfl <;> exact ⟨by kernel_rfl, of_decide_eq_true (by kernel_rfl)⟩) rfl rfl (by kernel_rfl) Tryz.underlying4
theorem laid_met (os : Os) : laidMet Tryz.prog Rows.diskPlaysUptoRow.laid ((laidWorldT os).forCall (fun _ _ => 0) ⟨#[], #[.int .i64 0, .slice none 0 0], []⟩).memory :=
  laidMet_of_run' 8 (by kernel_rfl) (by kernel_rfl)
theorem reads (os : Os) {H : Type} (enc : TypeId × Value → H) : ∃ places, DataW.whole enc Tryz.prog ((laidWorldT os).forCall (fun _ _ => 0) ⟨#[], #[.int .i64 0, .slice none 0 0], []⟩).memory Tryz.f3.params.toList Rows.diskPlaysSpec.vars false (#[.int .i64 0, .slice none 0 0] : Array Value).toList 8 = some ([.lit (.int .i64 0), .nil], [], places) :=
  ⟨[], by kernel_rfl⟩
set_option maxRecDepth 100000 in
theorem lifted (os : Os) (started : os.Started) (H : Type) (enc : TypeId × Value → H) (F : Stop.Interp) :
    ReturnsInHanded {} Tryz.checked os 3 .any ((Rows.OpenSpec.upto Rows.diskPlaysSpec).preRow enc Tryz.prog Tryz.f3 Rows.diskPlaysUptoRow.domain false Rows.diskPlaysUptoRow.laid) (((Rows.OpenSpec.upto Rows.diskPlaysSpec).at F).post enc Tryz.prog Tryz.f3 false true false false) := by
  obtain ⟨places, hx⟩ := reads os enc
  refine returnsInHanded_of_row (C := Tryz.checked) (s := Rows.OpenSpec.upto Rows.diskPlaysSpec) own started (by kernel_rfl) Tryz.func3
    (witness_row_at (enc := enc) (C := Tryz.checked) false (laidWorldT os) #[.int .i64 0, .slice none 0 0] rfl (by kernel_rfl) (by kernel_rfl) (by kernel_rfl)
      (OpenSpec.preRow_of_cond 8 hx (by kernel_rfl) (fun k hk => by cases hk; kernel_rfl) (by kernel_rfl) (laid_met os))) ?_
  intro W base args ds gs before hval hW _ hcond hsz hL hsh _
  have hL' : laidMet Tryz.prog Rows.diskPlaysUptoRow.laid W := hL
  exact contract H enc W base args ds gs before hval hW hsh hsz (hcond _ rfl) (tab_third hL')
theorem said : Rows.DiskPlaysUptoSaid :=
  OpenClaim.holds_of_cond 3 Tryz.f3 rfl rfl rfl rfl rfl rfl rfl ⟨rfl, rfl, rfl, rfl, rfl⟩ rfl rfl rfl rfl rfl (by kernel_rfl) Tryz.func3 (by kernel_rfl)
    (of_decide_eq_true (by kernel_rfl)) (by unfold Func.isWrapper; first | (rw [if_pos (by decide +kernel)]; kernel_rfl) | (rw [if_neg (by decide +kernel)]; exact ⟨rfl, rfl⟩))
    (fun os started H enc _ F => by rw [OpenClaim.pre_eq_preRow]; exact lifted os started H enc F)
theorem plain (f : FuncId) (fn : Func) (hf : Tryz.pinned.checked.prog.funcNamed Tryz.f3.name = some f) (hfn : Tryz.pinned.checked.prog.funcs[f]? = some fn) :
    false = Tryz.pinned.checked.prog.looks [] ∧ ∀ (j : Nat) t, fn.params[j]? = some t → Tryz.pinned.checked.prog.wantsStandIn t = false := by
  obtain rfl : f = 3 := Option.some.inj ((show Tryz.prog.funcNamed Tryz.f3.name = some 3 by kernel_rfl).symm.trans hf) |>.symm
  obtain rfl : fn = Tryz.f3 := (Option.some.inj (Tryz.func3.symm.trans hfn)).symm
  refine ⟨by kernel_rfl, fun j t ht => ?_⟩
  rw [Tryz.params3] at ht
  have hmem := Array.mem_of_getElem? ht
  simp at hmem
  rcases hmem with rfl | rfl
  · exact (show Tryz.prog.wantsStandIn 3 = false by kernel_rfl)
  · exact (show Tryz.prog.wantsStandIn 22 = false by kernel_rfl)
theorem card : Rows.DiskPlaysUptoCardSaid :=
  Claim7.holds_tied_plain_at .later [] _ _ _ _ said (fun _ h => by cases h) (by kernel_rfl) (fun _ h => by cases h) diskPlaysUpto_row_tie rfl ⟨rfl, rfl⟩ (by kernel_rfl) rfl plain (by kernel_rfl)
end Go.Proofs.YtggnkpblfmjbcaaGreatDoor.diskPlays
